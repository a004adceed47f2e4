/- Part C: equality of abstract values; the table of types and what it is held against. -/
import Derived.Test.YtpmojikobjkllaaGreatDoorSxB
namespace Go.Sx
open Go
noncomputable section

mutual
def aeq : AVal → AVal → Bool
  | .bool a, .bool b => a == b
  | .int j a, .int k b => decide (j = k) && decide (a = b)
  | .str a, .str b => decide (a = b)
  | .nilptr, .nilptr => true
  | .ptr a b, .ptr c d => a == c && b == d
  | .nilslice, .nilslice => true
  | .slice a b c d x, .slice e f g h y => a == e && b == f && c == g && d == h && x == y
  | .nilmap, .nilmap => true
  | .map a, .map b => a == b
  | .func f a b, .func g c d => f == g && aeqs a c && aeqs b d
  | .yield a, .yield b => a == b
  | .nilfunc, .nilfunc => true
  | .iface t a, .iface u b => t == u && aeq a b
  | .niliface, .niliface => true
  | .agg a, .agg b => aeqs a b
  | .tuple a, .tuple b => aeqs a b
  | _, _ => false
def aeqs : List AVal → List AVal → Bool
  | [], [] => true
  | a :: l, b :: m => aeq a b && aeqs l m
  | _, _ => false
end

mutual
theorem aeq_eq : ∀ (a b : AVal), aeq a b = true → a = b
  | .bool a, b, h => by cases b <;> simp [aeq] at h ⊢; exact h
  | .int j a, b, h => by cases b <;> simp [aeq] at h ⊢; exact h
  | .str a, b, h => by cases b <;> simp [aeq] at h ⊢; exact h
  | .nilptr, b, h => by cases b <;> simp [aeq] at h ⊢
  | .ptr _ _, b, h => by cases b <;> simp [aeq] at h ⊢; exact h
  | .nilslice, b, h => by cases b <;> simp [aeq] at h ⊢
  | .slice _ _ _ _ _, b, h => by cases b <;> simp [aeq] at h ⊢; exact ⟨h.1.1.1.1, h.1.1.1.2, h.1.1.2, h.1.2, h.2⟩
  | .nilmap, b, h => by cases b <;> simp [aeq] at h ⊢
  | .map _, b, h => by cases b <;> simp [aeq] at h ⊢; exact h
  | .func f x y, b, h => by
    cases b <;> simp [aeq] at h ⊢
    exact ⟨h.1.1, aeqs_eq _ _ h.1.2, aeqs_eq _ _ h.2⟩
  | .yield _, b, h => by cases b <;> simp [aeq] at h ⊢; exact h
  | .nilfunc, b, h => by cases b <;> simp [aeq] at h ⊢
  | .iface t a, b, h => by
    cases b <;> simp [aeq] at h ⊢
    exact ⟨h.1, aeq_eq _ _ h.2⟩
  | .niliface, b, h => by cases b <;> simp [aeq] at h ⊢
  | .agg x, b, h => by
    cases b <;> simp [aeq] at h ⊢
    exact aeqs_eq _ _ h
  | .tuple x, b, h => by
    cases b <;> simp [aeq] at h ⊢
    exact aeqs_eq _ _ h
theorem aeqs_eq : ∀ (a b : List AVal), aeqs a b = true → a = b
  | [], b, h => by cases b <;> simp [aeqs] at h ⊢
  | a :: l, b, h => by
    cases b <;> simp [aeqs] at h ⊢
    exact ⟨aeq_eq _ _ h.1, aeqs_eq _ _ h.2⟩
end

/-! ### Types -/
structure Fld where
  off : Nat
  typ : TypeId

inductive Knd where
  | other
  | bool
  | int (k : IntKind)
  | str
  | ptr (e : TypeId)
  | slice (e : TypeId)
  | map (k e : TypeId)
  | strct (fs : List Fld)
  | arr (n : Nat) (e : TypeId)
  | iface
  | func

structure Ty where
  size : Nat
  bytes : Nat
  agg : Bool
  zero : List AVal
  kind : Knd

def fldsB : List Field → List Fld → Bool
  | [], [] => true
  | f :: l, g :: m => f.offset == g.off && f.type == g.typ && fldsB l m
  | _, _ => false

def kndB : TypeDesc → Knd → Bool
  | _, .other => true
  | .bool, .bool => true
  | .int j, .int k => decide (j = k)
  | .string, .str => true
  | .pointer e, .ptr e' => e == e'
  | .slice e, .slice e' => e == e'
  | .map k e, .map k' e' => k == k' && e == e'
  | .struct fs, .strct fs' => fldsB fs.toList fs'
  | .array n e, .arr n' e' => n == n' && e == e'
  | .interface _, .iface => true
  | .func .., .func => true
  | _, _ => false

def aggOf : TypeDesc → Bool
  | .struct _ | .array _ _ => true
  | _ => false

def zeroB : Value → Ty → Bool
  | .agg cs, y => y.agg && (match ofV1s cs.toList with | some l => aeqs l y.zero | none => false)
  | v, y => !y.agg && (match ofV1 v, y.zero with | some a, [b] => aeq a b | _, _ => false)

def tyB (P : Program) (t : TypeId) (y : Ty) : Bool :=
  match P.info? t, P.underlying t with
  | some i, some d => y.zero.length == y.size && i.size == y.size && i.bytes == y.bytes && aggOf d == y.agg && kndB d y.kind && (match i.zero with | some z => zeroB z y | none => false)
  | _, _ => false

/-- What is known of a type. -/
structure TyOK (P : Program) (t : TypeId) (y : Ty) : Prop where
  zlen : y.zero.length = y.size
  size : ∀ w, (sizeOf t).run P w = .ok y.size w
  info : ∃ i : TypeInfo, i.bytes = y.bytes ∧ ∀ w, (typeInfo t).run P w = .ok i w
  agg : ∀ w, (isAgg t).run P w = .ok y.agg w
  und : ∃ d, kndB d y.kind = true ∧ aggOf d = y.agg ∧ ∀ w, (underlying t).run P w = .ok d w
  zero : ∃ z, zeroB z y = true ∧ ∀ w, (zeroValue t).run P w = .ok z w

theorem tyOK_of {P : Program} {t : TypeId} {y : Ty} (h : tyB P t y = true) : TyOK P t y := by
  unfold tyB at h
  split at h
  · rename_i i d hi hd
    simp only [Bool.and_eq_true, beq_iff_eq] at h
    obtain ⟨⟨⟨⟨⟨h0, h1⟩, h2⟩, h3⟩, h4⟩, h5⟩ := h
    have hinfo : ∀ w, (typeInfo t).run P w = .ok i w := fun w => by
      simp only [typeInfo, Sem.run_bind, run_program, Result.andThen_ok, hi, Sem.run_pure]
    have hund : ∀ w, (underlying t).run P w = .ok d w := fun w => by
      simp only [underlying, Sem.run_bind, run_program, Result.andThen_ok, hd, Sem.run_pure]
    refine ⟨h0, fun w => ?_, ⟨i, h2, hinfo⟩, fun w => ?_, ⟨d, h4, h3, hund⟩, ?_⟩
    · simp only [sizeOf, Sem.run_bind, hinfo, Result.andThen_ok, Sem.run_pure, h1]
    · simp only [isAgg, Sem.run_bind, hund, Result.andThen_ok]
      rw [← h3]
      cases d <;> rfl
    · cases hz : i.zero with
      | none => rw [hz] at h5; cases h5
      | some z =>
        rw [hz] at h5
        exact ⟨z, h5, fun w => by simp only [zeroValue, Sem.run_bind, hinfo, Result.andThen_ok, hz, Sem.run_pure]⟩
  · cases h

theorem zeroB_cells {z : Value} {y : Ty} (h : zeroB z y = true) (r : BMap) : VRs r y.zero z.cells.toList := by
  unfold zeroB at h
  split at h
  · rename_i cs y
    simp only [Bool.and_eq_true] at h
    obtain ⟨_, h⟩ := h
    split at h
    · rename_i l e
      rw [← aeqs_eq _ _ h]
      exact ofV1s_VRs e
    · cases h
  · rename_i v y hne
    simp only [Bool.and_eq_true] at h
    obtain ⟨_, h⟩ := h
    split at h
    · rename_i a b e1 e2
      rw [e2, ← aeq_eq _ _ h]
      have hc : z.cells = #[z] := by
        cases z <;> first | rfl | exact (hne _ rfl).elim
      rw [hc]
      exact .cons (ofV1_VR e1) .nil
    · cases h

/-- A type's zero, as an abstract value. -/
def Ty.zeroA (y : Ty) : Option AVal := if y.agg then some (.agg y.zero) else match y.zero with | [a] => some a | _ => none

theorem zeroB_value {z : Value} {y : Ty} (h : zeroB z y = true) {a : AVal} (ha : y.zeroA = some a) (r : BMap) : VR r a z := by
  have hc := zeroB_cells h r
  unfold Ty.zeroA at ha
  unfold zeroB at h
  split at h
  · rename_i cs y
    simp only [Bool.and_eq_true] at h
    simp [h.1] at ha
    subst ha
    exact .agg hc
  · rename_i v y hne
    simp only [Bool.and_eq_true, Bool.not_eq_true'] at h
    simp only [h.1, Bool.false_eq_true, if_false] at ha
    split at ha
    · rename_i b e
      cases ha
      have hcv : z.cells = #[z] := by
        cases z <;> first | rfl | exact (hne _ rfl).elim
      rw [hcv, e] at hc
      cases hc with
      | cons h1 _ => exact h1
    · cases ha

/-- The tables that the runner reads. -/
structure Cfg where
  ty : T Ty
  fn : T Func

structure CfgOK (P : Program) (C : Cfg) : Prop where
  ty : ∀ t y, C.ty.get t = some y → TyOK P t y
  fn : ∀ f fn, C.fn.get f = some fn → P.funcs[f]? = some fn ∧ ∀ args w, (callFunc f args).run P w = .ok (.enter f args) w
  mixed : P.follows .mixedOrders = true

end
end Go.Sx
