/- Calls within the run of known, run by the kernel: part 1. -/
import Derived.Test.YtpmojikobjkllaaGreatDoorSxW
import Derived.KernelRfl
namespace Go.Sx.Tab
open Go Go.Sx

theorem c3 : e3.check Tab.run 3000 = true := by kernel_rfl

end Go.Sx.Tab
