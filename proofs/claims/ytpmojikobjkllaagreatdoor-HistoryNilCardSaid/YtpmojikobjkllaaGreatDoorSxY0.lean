/- Calls within the run of known, run by the kernel: part 0. -/
import Derived.Test.YtpmojikobjkllaaGreatDoorSxW
import Derived.KernelRfl
namespace Go.Sx.Tab
open Go Go.Sx

theorem c1 : e1.check Tab.run 3000 = true := by kernel_rfl

end Go.Sx.Tab
