/- Calls within the run of known, run by the kernel: part 2. -/
import Derived.Test.YtpmojikobjkllaaGreatDoorSxW
import Derived.KernelRfl
namespace Go.Sx.Tab
open Go Go.Sx

theorem c0 : e0.check Tab.run 3000 = true := by kernel_rfl

theorem c2 : e2.check (Tab.run.with [e1]) 3000 = true := by kernel_rfl

theorem c4 : e4.check (Tab.run.with [e3]) 3000 = true := by kernel_rfl

theorem cr : er.check (Tab.run.with [e0, e2, e4]) 3000 = true := by kernel_rfl

end Go.Sx.Tab
