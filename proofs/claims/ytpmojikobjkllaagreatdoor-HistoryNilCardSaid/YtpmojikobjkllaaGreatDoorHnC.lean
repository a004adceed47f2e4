/- The law's own walk. -/
import Derived.Test.YtpmojikobjkllaaGreatDoorHnB
namespace Go.Proofs.YtpmojikobjkllaaGreatDoor
open Go.RowKit Go.Sx Go.Sx.Tab

set_option maxHeartbeats 1000000 in
theorem law_long (k a b c n v : Int) (d : Bool) (p : Option Addr) (l q : Nat) (w : World) (hL : Laid w) (hl : (l : Int) > 100) :
    Calls Tryz.prog 3 #[.agg #[.int .u8 k, .slice p l q, .int .i64 a, .int .i64 b, .int .i64 c, .bool d, .int .i64 n], .int .i64 v] w
    fun e w' => e = .returned (.bool true) ∧ Below w.heap.size w w' := by
  go_enter Tryz.func3, Tryz.ntmps3
  go_wp2_with (go_at_call 4; refine (new_nil _).mono ?_; rintro e w' ⟨rfl, rfl⟩)
  refine (known_l (hL.below ((Below.refl _ _).alloc (Nat.le_refl _) _))).mono ?_
  rintro e w1 ⟨rfl, hb⟩
  go_wp2
  go_ret
  exact ⟨rfl, ((Below.refl _ _).alloc (Nat.le_refl _) _).trans (hb.mono (by simp))⟩

set_option maxHeartbeats 1000000 in
theorem law_short (k a b c n v : Int) (d : Bool) (p : Option Addr) (l q : Nat) (w : World) (hL : Laid w) (hl : ¬ (l : Int) > 100) :
    Calls Tryz.prog 3 #[.agg #[.int .u8 k, .slice p l q, .int .i64 a, .int .i64 b, .int .i64 c, .bool d, .int .i64 n], .int .i64 v] w
    fun e w' => e = .returned (.bool true) ∧ Below w.heap.size w w' := by
  go_enter Tryz.func3, Tryz.ntmps3
  go_wp2_with (go_at_call 4; refine (new_nil _).mono ?_; rintro e w' ⟨rfl, rfl⟩)
  refine (act_nil _ _ _ _ _ _ _ _ _ _).mono ?_
  rintro e w1 ⟨rfl, hb1⟩
  have hB1 : Below w.heap.size w w1 := ((Below.refl _ _).alloc (Nat.le_refl _) _).trans (hb1.mono (by simp))
  go_wp2_with (first | (go_at_call 7; refine (at_nil _ _).mono ?_; rintro e w' ⟨rfl, rfl⟩) | fail)
  refine (change_nil _ _).mono ?_
  rintro e w2 ⟨rfl, hb2⟩
  have hB2 : Below w.heap.size w w2 := hB1.trans (hb2.mono hB1.size)
  go_wp2_with (first | (go_at_call 9; refine (path_nil _ _ _).mono ?_; rintro e w' ⟨rfl, rfl⟩) | fail)
  refine (known_l (hL.below (hB2.alloc hB2.size _))).mono ?_
  rintro e w3 ⟨rfl, hb3⟩
  have hB3 : Below w.heap.size w w3 := (hB2.alloc hB2.size _).trans (hb3.mono (by have := hB2.size; simp; omega))
  have hc : w3.cell? ⟨w2.heap.size, 0, none⟩ = some (.slice none 0 0) := by
    rw [hb3.cell (by simp)]
    simp
  clear hb1 hb2 hb3 hB1 hB2
  go_wp2_with (first | (go_at_call 10; refine (current_nil _).mono ?_; rintro e w' ⟨rfl, rfl⟩) | (go_at_call 11; refine (parent_nil _ _).mono ?_; rintro e w' ⟨rfl, rfl⟩) | (go_at_call 12; refine (len_nil _).mono ?_; rintro e w' ⟨rfl, rfl⟩) | (go_at_call 13; refine (children_nil _ _).mono ?_; rintro e w' ⟨rfl, rfl⟩) | (go_at_call 14; refine (clone_nil _).mono ?_; rintro e w' ⟨rfl, rfl⟩))
  go_ret
  exact ⟨rfl, hB3⟩

theorem law_any (k a b c n v : Int) (d : Bool) (p : Option Addr) (l q : Nat) (w : World) (hL : Laid w) :
    Calls Tryz.prog 3 #[.agg #[.int .u8 k, .slice p l q, .int .i64 a, .int .i64 b, .int .i64 c, .bool d, .int .i64 n], .int .i64 v] w
    fun e w' => e = .returned (.bool true) ∧ Below w.heap.size w w' := by
  by_cases hl : (l : Int) > 100
  · exact law_long k a b c n v d p l q w hL hl
  · exact law_short k a b c n v d p l q w hL hl

#print axioms law_any
end Go.Proofs.YtpmojikobjkllaaGreatDoor
