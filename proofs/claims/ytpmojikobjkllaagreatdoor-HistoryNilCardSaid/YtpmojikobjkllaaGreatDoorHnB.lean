/- The walk of a whole: an operation on a nil history, and the law. -/
import Derived.Test.YtpmojikobjkllaaGreatDoorHnA
import Derived.Test.YtpmojikobjkllaaGreatDoorSxN1
namespace Go.Proofs.YtpmojikobjkllaaGreatDoor
open Go.RowKit Go.Sx Go.Sx.Tab

/-- The two listed variables lie in their blocks. -/
def Laid (w : World) : Prop := ∃ c0 c1 : Array Value, w.heap[0]? = some (.cells c0 239 (0, 0)) ∧ w.heap[1]? = some (.cells c1 303 (0, 0)) ∧ ofV1s c0.toList = some (cellsA glob0) ∧ ofV1s c1.toList = some (cellsA glob1)

theorem Laid.below {w w' : World} (h : Laid w) (hb : Below w.heap.size w w') : Laid w' := by
  obtain ⟨c0, c1, h0, h1, e0, e1⟩ := h
  refine ⟨c0, c1, (hb.block 0 ?_).trans h0, (hb.block 1 ?_).trans h1, e0, e1⟩
  · rcases Nat.lt_or_ge 0 w.heap.size with g | g
    · exact g
    · rw [Array.getElem?_eq_none g] at h0; cases h0
  · rcases Nat.lt_or_ge 1 w.heap.size with g | g
    · exact g
    · rw [Array.getElem?_eq_none g] at h1; cases h1

theorem known_l {w : World} (h : Laid w) : Calls Tryz.prog 5 #[] w fun e w' => e = .returned (.bool true) ∧ Below w.heap.size w w' := by
  obtain ⟨c0, c1, h0, h1, e0, e1⟩ := h
  exact known_any h0 h1 e0 e1

set_option maxHeartbeats 400000 in
theorem change_nil (v : Int) (w : World) : Calls Tryz.prog 8 #[.pointer none, .int .i64 v] w fun e w' => e = .returned (.tuple #[.agg #[.slice none 0 0, .slice none 0 0, .slice none 0 0], .bool false]) ∧ Below w.heap.size w w' := by
  go_enter Tryz.func8, Tryz.ntmps8
  go_wp2_with (go_at_call 26; refine (is_nil _ _).mono ?_; rintro e w' ⟨rfl, rfl⟩)
  exact bodyPost_ret (v := .tuple #[.agg #[.slice none 0 0, .slice none 0 0, .slice none 0 0], .bool false]) (by simp [results, Tryz.results8, go_sem]) rfl ⟨rfl, (Below.refl _ _).alloc (Nat.le_refl _) _⟩

set_option maxHeartbeats 400000 in
theorem apply_nil (p : Option Addr) (l c : Nat) (w : World) : Calls Tryz.prog 20 #[.pointer none, .slice p l c] w fun e w' => e = .returned (.tuple #[.int .i64 0, .int .i64 1]) ∧ Below w.heap.size w w' := by
  go_enter Tryz.func20, Tryz.ntmps20
  go_wp2_with fail
  refine (create_nil _ _ _ _ _).mono ?_
  rintro e w1 ⟨rfl, hb⟩
  go_wp2
  go_ret2
  exact ⟨rfl, ((Below.refl _ _).alloc (Nat.le_refl _) _).trans (hb.mono (by simp))⟩

set_option maxHeartbeats 400000 in
theorem pin_nil (a b c : Int) (d : Bool) (w : World) : Calls Tryz.prog 24 #[.pointer none, .agg #[.int .i64 a, .int .i64 b, .int .i64 c, .bool d]] w fun e w' => e = .returned (.tuple #[.int .i64 0, .int .i64 1]) ∧ Below w.heap.size w w' := by
  go_enter Tryz.func24, Tryz.ntmps24
  go_wp2_with fail
  refine (create_nil _ _ _ _ _).mono ?_
  rintro e w1 ⟨rfl, hb⟩
  go_wp2
  go_ret2
  exact ⟨rfl, (((Below.refl _ _).alloc (Nat.le_refl _) _).alloc (by simp) _).trans (hb.mono (by simp; omega))⟩

set_option maxHeartbeats 400000 in
theorem unpin_nil (a b c : Int) (w : World) : Calls Tryz.prog 25 #[.pointer none, .int .i64 a, .int .i64 b, .int .i64 c] w fun e w' => e = .returned (.tuple #[.int .i64 0, .int .i64 1]) ∧ Below w.heap.size w w' := by
  go_enter Tryz.func25, Tryz.ntmps25
  go_wp2_with fail
  refine (create_nil _ _ _ _ _).mono ?_
  rintro e w1 ⟨rfl, hb⟩
  go_wp2
  go_ret2
  exact ⟨rfl, (((((Below.refl _ _).alloc (Nat.le_refl _) _).alloc (by simp) _).alloc (by simp; omega) _).alloc (by simp; omega) _).trans (hb.mono (by simp; omega))⟩

set_option maxHeartbeats 400000 in
theorem act_0 (a b c n : Int) (d : Bool) (p : Option Addr) (l q : Nat) (w : World) : Calls Tryz.prog 6 #[.pointer none, .agg #[.int .u8 0, .slice p l q, .int .i64 a, .int .i64 b, .int .i64 c, .bool d, .int .i64 n]] w
    fun e w' => e = .returned (.tuple #[.int .i64 0, .int .i64 1]) ∧ Below w.heap.size w w' := by
  go_enter Tryz.func6, Tryz.ntmps6
  go_wp2_with fail
  refine (apply_nil _ _ _ _).mono ?_
  rintro e w1 ⟨rfl, hb⟩
  go_wp2
  go_ret2
  exact ⟨rfl, ((Below.refl _ _).alloc (Nat.le_refl _) _).trans (hb.mono (by simp))⟩

set_option maxHeartbeats 400000 in
theorem act_1 (a b c n : Int) (d : Bool) (p : Option Addr) (l q : Nat) (w : World) : Calls Tryz.prog 6 #[.pointer none, .agg #[.int .u8 1, .slice p l q, .int .i64 a, .int .i64 b, .int .i64 c, .bool d, .int .i64 n]] w
    fun e w' => e = .returned (.tuple #[.int .i64 0, .int .i64 1]) ∧ Below w.heap.size w w' := by
  go_enter Tryz.func6, Tryz.ntmps6
  go_wp2_with fail
  refine (pin_nil _ _ _ _ _).mono ?_
  rintro e w1 ⟨rfl, hb⟩
  go_wp2
  go_ret2
  exact ⟨rfl, ((Below.refl _ _).alloc (Nat.le_refl _) _).trans (hb.mono (by simp))⟩

set_option maxHeartbeats 400000 in
theorem act_3 (a b c n : Int) (d : Bool) (p : Option Addr) (l q : Nat) (w : World) : Calls Tryz.prog 6 #[.pointer none, .agg #[.int .u8 3, .slice p l q, .int .i64 a, .int .i64 b, .int .i64 c, .bool d, .int .i64 n]] w
    fun e w' => e = .returned (.tuple #[.int .i64 0, .int .i64 1]) ∧ Below w.heap.size w w' := by
  go_enter Tryz.func6, Tryz.ntmps6
  go_wp2_with (go_at_call 21; refine (undo_nil _).mono ?_; rintro e w' ⟨rfl, rfl⟩)
  go_ret2
  exact ⟨rfl, (Below.refl _ _).alloc (Nat.le_refl _) _⟩

set_option maxHeartbeats 400000 in
theorem act_4 (a b c n : Int) (d : Bool) (p : Option Addr) (l q : Nat) (w : World) : Calls Tryz.prog 6 #[.pointer none, .agg #[.int .u8 4, .slice p l q, .int .i64 a, .int .i64 b, .int .i64 c, .bool d, .int .i64 n]] w
    fun e w' => e = .returned (.tuple #[.int .i64 0, .int .i64 1]) ∧ Below w.heap.size w w' := by
  go_enter Tryz.func6, Tryz.ntmps6
  go_wp2_with (go_at_call 22; refine (redo_nil _).mono ?_; rintro e w' ⟨rfl, rfl⟩)
  go_ret2
  exact ⟨rfl, (Below.refl _ _).alloc (Nat.le_refl _) _⟩

set_option maxHeartbeats 400000 in
theorem act_5 (a b c n : Int) (d : Bool) (p : Option Addr) (l q : Nat) (w : World) : Calls Tryz.prog 6 #[.pointer none, .agg #[.int .u8 5, .slice p l q, .int .i64 a, .int .i64 b, .int .i64 c, .bool d, .int .i64 n]] w
    fun e w' => e = .returned (.tuple #[.int .i64 0, .int .i64 1]) ∧ Below w.heap.size w w' := by
  go_enter Tryz.func6, Tryz.ntmps6
  go_wp2_with (go_at_call 23; refine (checkout_nil _ _).mono ?_; rintro e w' ⟨rfl, rfl⟩)
  go_ret2
  exact ⟨rfl, (Below.refl _ _).alloc (Nat.le_refl _) _⟩

set_option maxHeartbeats 400000 in
theorem act_2 (k a b c n : Int) (d : Bool) (p : Option Addr) (l q : Nat) (w : World) (h0 : (k == 0) = false) (h1 : (k == 1) = false) (h3 : (k == 3) = false) (h4 : (k == 4) = false) (h5 : (k == 5) = false) :
    Calls Tryz.prog 6 #[.pointer none, .agg #[.int .u8 k, .slice p l q, .int .i64 a, .int .i64 b, .int .i64 c, .bool d, .int .i64 n]] w
    fun e w' => e = .returned (.tuple #[.int .i64 0, .int .i64 1]) ∧ Below w.heap.size w w' := by
  go_enter Tryz.func6, Tryz.ntmps6
  go_wp2_with fail
  refine (unpin_nil _ _ _ _).mono ?_
  rintro e w1 ⟨rfl, hb⟩
  go_wp2
  go_ret2
  exact ⟨rfl, ((Below.refl _ _).alloc (Nat.le_refl _) _).trans (hb.mono (by simp))⟩

theorem act_nil (k a b c n : Int) (d : Bool) (p : Option Addr) (l q : Nat) (w : World) : Calls Tryz.prog 6 #[.pointer none, .agg #[.int .u8 k, .slice p l q, .int .i64 a, .int .i64 b, .int .i64 c, .bool d, .int .i64 n]] w
    fun e w' => e = .returned (.tuple #[.int .i64 0, .int .i64 1]) ∧ Below w.heap.size w w' := by
  by_cases h0 : k = 0
  · subst h0; exact act_0 a b c n d p l q w
  by_cases h1 : k = 1
  · subst h1; exact act_1 a b c n d p l q w
  by_cases h3 : k = 3
  · subst h3; exact act_3 a b c n d p l q w
  by_cases h4 : k = 4
  · subst h4; exact act_4 a b c n d p l q w
  by_cases h5 : k = 5
  · subst h5; exact act_5 a b c n d p l q w
  exact act_2 k a b c n d p l q w (by simpa using h0) (by simpa using h1) (by simpa using h3) (by simpa using h4) (by simpa using h5)

end Go.Proofs.YtpmojikobjkllaaGreatDoor
