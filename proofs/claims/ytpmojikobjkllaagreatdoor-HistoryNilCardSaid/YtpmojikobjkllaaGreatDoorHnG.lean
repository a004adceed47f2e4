/- The closed facts of HistoryNil's card, each by itself. -/
import Derived.Test.YtpmojikobjkllaaGreatDoorRows
import Derived.JoinedOf
import Derived.SevenTiedAt
namespace Go.Proofs.YtpmojikobjkllaaGreatDoor
open Go

theorem k0 : Rows.historyNilRow.wfByText (OpenSpec.ofChange Rows.historyNilSpec) = true := by kernel_rfl
theorem k1 : Tryz.pinned.checked.prog.mainIs = some (true, "1e3f8c555a6b12452fdd76f3727121e29c59fba5f85961f0d800cd80f87eedaa".toList) := by kernel_rfl
theorem k2 : true = Tryz.prog.looks [] := by kernel_rfl
theorem k3 : ([26, 3].all fun u => !Tryz.prog.wantsStandIn u) = true := by kernel_rfl
theorem k4 : false = Rows.historyNilRow.goesBy Tryz.pinned.checked.prog := by kernel_rfl
theorem k5 : Tryz.prog.funcNamed Rows.historyNilRow.func = some 3 := by kernel_rfl
theorem k6 : Tryz.checked.prog.inits.idxOf? 3 = none := by kernel_rfl
theorem k7 : Tryz.f3.isInstance Tryz.pinned.checked.prog Rows.historyNilRow.origin Rows.historyNilRow.targs := of_decide_eq_true (by kernel_rfl)
theorem k8 : Tryz.f3.isWrapper Tryz.pinned.checked.prog Rows.historyNilRow.wrapper Rows.historyNilRow.mainSum := by
  unfold Func.isWrapper; first | (rw [if_pos (by decide +kernel)]; kernel_rfl) | (rw [if_neg (by decide +kernel)]; exact ⟨rfl, rfl⟩)

end Go.Proofs.YtpmojikobjkllaaGreatDoor
