/- The closed facts of HistoryNil's row, each by itself (together they outgrow the kernel's memory). -/
import Derived.Test.YtpmojikobjkllaaGreatDoorRows
import Derived.JoinedOf
import Derived.SevenTiedAt
namespace Go.Proofs.YtpmojikobjkllaaGreatDoor
open Go

theorem own : ownKnob Tryz.prog.godebug = none := by kernel_rfl
theorem laidOut : laidOutB Tryz.prog = true := by kernel_rfl
theorem j2 : mapsRowed Tryz.prog = true := by kernel_rfl
theorem j9 : (Rows.historyNilRow.inPlace == Tryz.prog.inPlace 3) = true := by kernel_rfl
theorem j10 : (Rows.historyNilRow.unfollowed == Tryz.prog.unfollowed 3) = true := by kernel_rfl
theorem j11 : (Rows.historyNilRow.recurses == Tryz.prog.recurses 3) = true := by kernel_rfl
theorem j12 : (Rows.historyNilRow.named == Tryz.prog.varsNamed 3) = true := by kernel_rfl
theorem j22 : (Rows.historyNilRow.plainKeys == Tryz.prog.plainKeys) = true := by kernel_rfl
theorem j24 : Tryz.prog.stopsHeard = true := by kernel_rfl
theorem j25 : Tryz.prog.mayEnter = true := by kernel_rfl
theorem j26 : (Rows.historyNilRow.lifted == Tryz.prog.liftsFinal) = true := by kernel_rfl
theorem j27 : (Tryz.prog.make == some Rows.historyNilRow.make) = true := by kernel_rfl

theorem andI {a b : Bool} (h : a = true) (k : b = true) : (a && b) = true := by rw [h, k]; rfl

theorem closed : joinedFacts Tryz.prog 3 Tryz.f3 Rows.historyNilSpec Rows.historyNilRow = true := by
  unfold joinedFacts
  refine andI (andI (andI (andI (andI (andI (andI (andI (andI (andI (andI (andI (andI (andI (andI (andI (andI (andI (andI (andI (andI (andI (andI (andI (andI (andI (andI (andI (andI (andI (andI ?_ laidOut) j2) ?_) ?_) ?_) ?_) ?_) ?_) j9) j10) j11) j12) ?_) ?_) ?_) ?_) ?_) ?_) ?_) ?_) ?_) j22) ?_) j24) j25) j26) j27) ?_) ?_) ?_) ?_
  all_goals (as_aux_lemma => kernel_rfl)

end Go.Proofs.YtpmojikobjkllaaGreatDoor
