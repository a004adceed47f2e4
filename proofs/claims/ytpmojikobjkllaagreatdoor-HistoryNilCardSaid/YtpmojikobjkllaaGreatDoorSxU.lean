/- Part U: what is asked of the runner's tables, decided over the tables. -/
import Derived.Test.YtpmojikobjkllaaGreatDoorSxT
namespace Go.Sx
open Go
noncomputable section

/-- All cells of a tree with their numbers (a cell k of this tree bears the number a k + b). -/
def allT {α : Type} (p : Nat → α → Bool) : T α → Nat → Nat → Bool
  | .leaf, _, _ => true
  | .node l v r, a, b => (match v with | some x => p b x | none => true) && allT p l (2 * a) (a + b) && allT p r (2 * a) (2 * a + b)

theorem allT_get {α : Type} {p : Nat → α → Bool} : ∀ {t : T α} {a b : Nat}, allT p t a b = true → ∀ k x, t.get k = some x → p (a * k + b) x = true
  | .leaf, _, _, _, k, x, h => by simp [T.get_leaf] at h
  | .node l v r, a, b, ha, k, x, h => by
    simp only [allT, Bool.and_eq_true] at ha
    obtain ⟨⟨h1, h2⟩, h3⟩ := ha
    cases k with
    | zero =>
      rw [T.get_zero] at h
      subst h
      simpa using h1
    | succ m =>
      rw [T.get_succ] at h
      split at h
      · rename_i hm
        have := allT_get h2 _ x h
        have e : 2 * a * (m / 2) + (a + b) = a * (m + 1) + b := by
          have h2m : 2 * (m / 2) = m := by omega
          have e1 : 2 * a * (m / 2) = a * m := by rw [Nat.mul_comm 2 a, Nat.mul_assoc, h2m]
          rw [e1, Nat.mul_add, Nat.mul_one]; omega
        rw [← e]; exact this
      · rename_i hm
        have := allT_get h3 _ x h
        have e : 2 * a * (m / 2) + (2 * a + b) = a * (m + 1) + b := by
          have h2m : 2 * (m / 2) + 2 = m + 1 := by omega
          have e1 : 2 * a * (m / 2) + 2 * a = a * (m + 1) := by rw [Nat.mul_comm 2 a, Nat.mul_assoc, ← Nat.mul_add, h2m]
          omega
        rw [← e]; exact this

/-- The same for a property that is not decided. -/
inductive AllT {α : Type} (p : Nat → α → Prop) : T α → Nat → Nat → Prop
  | leaf {a b : Nat} : AllT p .leaf a b
  | none {l r : T α} {a b : Nat} (h1 : AllT p l (2 * a) (a + b)) (h2 : AllT p r (2 * a) (2 * a + b)) : AllT p (.node l none r) a b
  | some {l r : T α} {a b : Nat} {x : α} (h : p b x) (h1 : AllT p l (2 * a) (a + b)) (h2 : AllT p r (2 * a) (2 * a + b)) : AllT p (.node l (some x) r) a b

theorem AllT.get {α : Type} {p : Nat → α → Prop} : ∀ {t : T α} {a b : Nat}, AllT p t a b → ∀ k x, t.get k = Option.some x → p (a * k + b) x
  | .leaf, _, _, _, k, x, h => by simp [T.get_leaf] at h
  | .node l v r, a, b, ha, k, x, h => by
    have hs : AllT p l (2 * a) (a + b) ∧ AllT p r (2 * a) (2 * a + b) ∧ ∀ y, v = Option.some y → p b y := by
      cases ha with
      | none h1 h2 => exact ⟨h1, h2, fun y h => by cases h⟩
      | some h h1 h2 => exact ⟨h1, h2, fun y e => by cases e; exact h⟩
    obtain ⟨h2, h3, h1⟩ := hs
    cases k with
    | zero =>
      rw [T.get_zero] at h
      have := h1 x h
      simpa using this
    | succ m =>
      rw [T.get_succ] at h
      split at h
      · rename_i hm
        have := AllT.get h2 _ x h
        have e : 2 * a * (m / 2) + (a + b) = a * (m + 1) + b := by
          have h2m : 2 * (m / 2) = m := by omega
          have e1 : 2 * a * (m / 2) = a * m := by rw [Nat.mul_comm 2 a, Nat.mul_assoc, h2m]
          rw [e1, Nat.mul_add, Nat.mul_one]; omega
        rw [← e]; exact this
      · rename_i hm
        have := AllT.get h3 _ x h
        have e : 2 * a * (m / 2) + (2 * a + b) = a * (m + 1) + b := by
          have h2m : 2 * (m / 2) + 2 = m + 1 := by omega
          have e1 : 2 * a * (m / 2) + 2 * a = a * (m + 1) := by rw [Nat.mul_comm 2 a, Nat.mul_assoc, ← Nat.mul_add, h2m]
          omega
        rw [← e]; exact this

theorem tys_ok {P : Program} {t : T Ty} (h : allT (tyB P) t 1 0 = true) : ∀ k y, t.get k = some y → TyOK P k y := fun k y hk => by
  have := allT_get h k y hk
  rw [Nat.one_mul, Nat.add_zero] at this
  exact tyOK_of this

/-! ### Methods -/
def isPtr : TypeDesc → Bool
  | .pointer _ => true
  | _ => false

/-- The methods of a type that are called with the value itself. -/
def methsOf (P : Program) (t : TypeId) : List (String × FuncId) :=
  match P.info? t, P.underlying t with
  | some i, some d => i.methods.toList.filterMap fun m => match m.func with
    | some (f, p) => if m.path.toList.isEmpty && (p == isPtr d) then some (m.name, f) else none
    | none => none
  | _, _ => []

def methB (P : Program) (t : TypeId) (l : List (String × FuncId)) : Bool :=
  match P.info? t, P.underlying t with
  | some i, some d => l.all fun (n, f) => match i.methods.find? (·.name == n) with
    | some m => match m.func with
      | some (g, p) => m.path.toList.isEmpty && p == isPtr d && g == f
      | none => false
    | none => false
  | _, _ => false

theorem findMeth_mem : ∀ {l : List (String × FuncId)} {m : String} {f : FuncId}, findMeth l m = some f → (m, f) ∈ l
  | [], _, _, h => by cases h
  | (n, g) :: l, m, f, h => by
    simp only [findMeth] at h
    split at h
    · rename_i e
      cases h
      rw [← e]; exact List.mem_cons_self
    · exact List.mem_cons_of_mem _ (findMeth_mem h)

theorem meth_ok {P : Program} {t : TypeId} {l : List (String × FuncId)} (h : methB P t l = true) {m : String} {f : FuncId} (hf : findMeth l m = some f) (n : Nat) (v : Value) (w : World) :
    (Go.method (n + 1) t v m).run P w = .ok (f, v) w := by
  unfold methB at h
  split at h
  · rename_i i d hi hd
    have hx := List.all_eq_true.1 h _ (findMeth_mem hf)
    simp only at hx
    split at hx
    · rename_i mm hm
      split at hx
      · rename_i g p hg
        simp only [Bool.and_eq_true, beq_iff_eq] at hx
        obtain ⟨⟨h1, h2⟩, h3⟩ := hx
        have hp : mm.path.toList = [] := List.isEmpty_iff.1 h1
        have hinfo : (typeInfo t).run P w = .ok i w := by
          simp only [typeInfo, Sem.run_bind, run_program, Result.andThen_ok, hi, Sem.run_pure]
        have hund : (underlying t).run P w = .ok d w := by
          simp only [underlying, Sem.run_bind, run_program, Result.andThen_ok, hd, Sem.run_pure]
        subst h3
        have hrec : ∀ wr, (receiverAt t (.val v) p wr).run P w = .ok v w := fun wr => by
          simp only [receiverAt, Sem.run_bind, hund, Result.andThen_ok]
          subst h2
          cases d <;> rfl
        unfold Go.method
        simp only [Sem.run_bind, hinfo, Result.andThen_ok, hm, hp, follow, Sem.run_pure, hg, hrec]
      · cases hx
    · cases hx
  · cases h

end
end Go.Sx
