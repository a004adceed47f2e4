/- Part T: a table of calls with known outcomes: it is held against runs of the runner, and the runner may use it. -/
import Derived.Test.YtpmojikobjkllaaGreatDoorSxR
namespace Go.Sx
open Go
noncomputable section

/-! ### Equality of objects, for the kernel -/
def veq1 : Value → Value → Bool
  | .bool a, .bool b => a == b
  | .int j a, .int k b => decide (j = k) && decide (a = b)
  | .string a, .string b => decide (a = b)
  | _, _ => false

def veq1s : List Value → List Value → Bool
  | [], [] => true
  | a :: l, b :: m => veq1 a b && veq1s l m
  | _, _ => false

def veq : Value → Value → Bool
  | .agg a, .agg b => veq1s a.toList b.toList
  | .iface t a, .iface u b => t == u && veq1 a b
  | a, b => veq1 a b

theorem veq1_eq : ∀ (a b : Value), veq1 a b = true → a = b
  | .bool a, b, h => by cases b <;> simp [veq1] at h ⊢; exact h
  | .int j a, b, h => by cases b <;> simp [veq1] at h ⊢; exact h
  | .string a, b, h => by cases b <;> simp [veq1] at h ⊢; exact h
  | .float .., b, h => by simp [veq1] at h
  | .complex .., b, h => by simp [veq1] at h
  | .pointer _, b, h => by simp [veq1] at h
  | .slice .., b, h => by simp [veq1] at h
  | .map _, b, h => by simp [veq1] at h
  | .func .., b, h => by simp [veq1] at h
  | .nilFunc, b, h => by simp [veq1] at h
  | .iface .., b, h => by simp [veq1] at h
  | .nilIface, b, h => by simp [veq1] at h
  | .agg _, b, h => by simp [veq1] at h
  | .tuple _, b, h => by simp [veq1] at h

theorem veq1s_eq : ∀ (a b : List Value), veq1s a b = true → a = b
  | [], b, h => by cases b <;> simp [veq1s] at h ⊢
  | a :: l, b, h => by
    cases b <;> simp [veq1s] at h ⊢
    exact ⟨veq1_eq _ _ h.1, veq1s_eq _ _ h.2⟩

theorem veq_eq {a b : Value} (h : veq a b = true) : a = b := by
  unfold veq at h
  split at h
  · rw [Array.toList_inj.1 (veq1s_eq _ _ h)]
  · simp only [Bool.and_eq_true, beq_iff_eq] at h
    rw [h.1, veq1_eq _ _ h.2]
  · exact veq1_eq _ _ h

def enteqs : List AEnt → List AEnt → Bool
  | [], [] => true
  | a :: l, b :: m => veq a.key b.key && aeq a.val b.val && Nat.beq a.born b.born && enteqs l m
  | _, _ => false

theorem enteqs_eq : ∀ (a b : List AEnt), enteqs a b = true → a = b
  | [], b, h => by cases b <;> simp [enteqs] at h ⊢
  | ⟨k, v, n⟩ :: l, b, h => by
    cases b with
    | nil => simp [enteqs] at h
    | cons e m =>
      obtain ⟨k', v', n'⟩ := e
      simp only [enteqs, Bool.and_eq_true] at h
      rw [veq_eq h.1.1.1, aeq_eq _ _ h.1.1.2, Nat.eq_of_beq_eq_true h.1.2, enteqs_eq _ _ h.2]

def oeq : AObj → AObj → Bool
  | .cells ro es c t, .cells ro' es' c' t' => ro == ro' && Nat.beq es es' && aeqs c c' && Nat.beq t t'
  | .map ro a n, .map ro' b m => ro == ro' && enteqs a b && Nat.beq n m
  | .iter m a b c, .iter m' a' b' c' => decide (m = m') && Nat.beq a a' && decide (b = b') && Nat.beq c c'
  | .deferred, .deferred => true
  | _, _ => false

theorem oeq_eq {a b : AObj} (h : oeq a b = true) : a = b := by
  unfold oeq at h
  split at h
  · simp only [Bool.and_eq_true, beq_iff_eq] at h
    obtain ⟨⟨⟨rfl, h2⟩, h3⟩, h4⟩ := h
    rw [Nat.eq_of_beq_eq_true h2, aeqs_eq _ _ h3, Nat.eq_of_beq_eq_true h4]
  · simp only [Bool.and_eq_true, beq_iff_eq] at h
    obtain ⟨⟨rfl, h2⟩, h3⟩ := h
    rw [enteqs_eq _ _ h2, Nat.eq_of_beq_eq_true h3]
  · simp only [Bool.and_eq_true, decide_eq_true_eq] at h
    obtain ⟨⟨⟨rfl, h2⟩, rfl⟩, h4⟩ := h
    rw [Nat.eq_of_beq_eq_true h2, Nat.eq_of_beq_eq_true h4]
  · rfl
  · cases h

/-! ### Heaps written down -/
def mkHeap : List (Nat × AObj) → T AObj
  | [] => .leaf
  | (i, o) :: l => (mkHeap l).set i o

theorem mkHeap_mem : ∀ (l : List (Nat × AObj)) (i : Nat) (o : AObj), (mkHeap l).get i = some o → (i, o) ∈ l
  | [], i, o, h => by simp [mkHeap, T.get_leaf] at h
  | (j, p) :: l, i, o, h => by
    simp only [mkHeap, T.get_set] at h
    split at h
    · rename_i e
      cases h
      rw [e]; exact List.mem_cons_self
    · exact List.mem_cons_of_mem _ (mkHeap_mem l i o h)

/-- All that is written down lies so in the heap. -/
def within (h : T AObj) : List (Nat × AObj) → Bool
  | [] => true
  | (i, o) :: l => match h.get i with
    | some o' => match oeq o o' with
      | true => within h l
      | false => false
    | none => false

theorem within_mem {h : T AObj} : ∀ {l : List (Nat × AObj)}, within h l = true → ∀ i o, (i, o) ∈ l → h.get i = some o
  | [], _, i, o, hm => by cases hm
  | (j, p) :: l, hw, i, o, hm => by
    simp only [within] at hw
    split at hw
    · rename_i o' e1
      split at hw
      · rename_i e2
        rcases List.mem_cons.1 hm with e | e
        · cases e; rw [e1, oeq_eq e2]
        · exact within_mem hw i o e
      · cases hw
    · cases hw

theorem within_get {h : T AObj} {l : List (Nat × AObj)} (hw : within h l = true) : ∀ i o, (mkHeap l).get i = some o → h.get i = some o :=
  fun i o hi => within_mem hw i o (mkHeap_mem l i o hi)

structure Entry where
  f : FuncId
  args : List AVal
  objs : List (Nat × AObj)
  nx : Nat
  outs : List (AVal × List (Nat × AObj) × Nat)

def Entry.res (e : Entry) : Outs := e.outs.map fun (a, l, n) => (a, mkHeap l, n)

/-- What the runner found holds all that is written down. -/
def covers : Outs → List (AVal × List (Nat × AObj) × Nat) → Bool
  | [], [] => true
  | (a, h, n) :: l, (b, objs, m) :: l' => aeq a b && Nat.beq n m && within h objs && covers l l'
  | _, _ => false

theorem covers_mem : ∀ {l : Outs} {l' : List (AVal × List (Nat × AObj) × Nat)}, covers l l' = true → ∀ a h n, (a, h, n) ∈ l → ∃ objs, (a, objs, n) ∈ l' ∧ within h objs = true
  | [], _, _, _, _, _, hm => by cases hm
  | (a, h, n) :: l, [], hc, _, _, _, _ => by simp [covers] at hc
  | (a, h, n) :: l, (b, objs, m) :: l', hc, a', h', n', hm => by
    simp only [covers, Bool.and_eq_true] at hc
    obtain ⟨⟨⟨h1, h2⟩, h3⟩, h4⟩ := hc
    rcases List.mem_cons.1 hm with e | e
    · cases e
      rw [aeq_eq _ _ h1, Nat.eq_of_beq_eq_true h2]
      exact ⟨objs, List.mem_cons_self, h3⟩
    · obtain ⟨objs', k1, k2⟩ := covers_mem h4 _ _ _ e
      exact ⟨objs', List.mem_cons_of_mem _ k1, k2⟩

/-- An entry that the runner bears out (fuel n). -/
def Entry.check (R : Run) (n : Nat) (e : Entry) : Bool :=
  match acall R n e.f e.args (mkHeap e.objs) e.nx with
  | some outs => covers outs e.outs
  | none => false

def lookup (l : List Entry) : CallF := fun f args h nx =>
  match l with
  | [] => none
  | e :: l => match Nat.beq e.nx nx && Nat.beq e.f f && aeqs e.args args && within h e.objs with
    | true => some e.res
    | false => lookup l f args h nx

/-- What an entry says. -/
def Entry.OK (R : Run) (e : Entry) : Prop :=
  (∀ args' w, (callFunc e.f args').run R.P w = .ok (.enter e.f args') w) ∧
    ∀ (B : Base), B.ng = R.ng → ∀ r w args', WR B r (mkHeap e.objs) e.nx w → VRs r e.args args'.toList → CallsIn Fence.wide 0 R.P e.f args' w (retOf (OutOK B r e.nx e.res))

theorem Entry.ok_of_check {R : Run} (hR : RunOK R) {n : Nat} {e : Entry} (h : e.check R n = true) : e.OK R := by
  unfold Entry.check at h
  split at h
  · rename_i outs e1
    obtain ⟨h1, h2⟩ := acall_ok hR n _ _ _ _ _ e1
    refine ⟨h1, fun B hB r w args' H hv => CallsIn.mono (h2 B hB r w args' H hv) fun en w' he => ?_⟩
    cases en with
    | returned v =>
      obtain ⟨a, h', nx', r', m1, m2, m3, m4, m5⟩ := he
      obtain ⟨objs, k1, k2⟩ := covers_mem h _ _ _ m1
      exact ⟨a, mkHeap objs, nx', r', List.mem_map.2 ⟨(a, objs, nx'), k1, rfl⟩, m2, m3, m4.weak (within_get k2) (Nat.le_refl _), m5⟩
    | panicked c => exact he.elim
    | outgrown => exact he.elim
  · cases h

theorem lookup_ok {R : Run} : ∀ {l : List Entry}, (∀ e ∈ l, e.OK R) → CallOK R (lookup l)
  | [], _ => fun f args h nx outs hs => by cases hs
  | e :: l, hl => fun f args h nx outs hs => by
    unfold lookup at hs
    split at hs
    · rename_i he
      cases hs
      simp only [Bool.and_eq_true] at he
      obtain ⟨⟨⟨h1, h2⟩, h3⟩, h4⟩ := he
      have h1 := Nat.eq_of_beq_eq_true h1
      have h2 := Nat.eq_of_beq_eq_true h2
      have h3 := aeqs_eq _ _ h3
      subst h1 h2 h3
      obtain ⟨g1, g2⟩ := hl e List.mem_cons_self
      exact ⟨g1, fun B hB r w args' H hv => g2 B hB r w args' (H.weak (within_get h4) (Nat.le_refl _)) hv⟩
    · exact lookup_ok (fun e' h' => hl e' (List.mem_cons_of_mem _ h')) _ _ _ _ _ hs

/-- The same run with a table. -/
def Run.with (R : Run) (l : List Entry) : Run := { R with tbl := lookup l }

theorem RunOK.with {R : Run} (hR : RunOK R) {l : List Entry} (hl : ∀ e ∈ l, e.OK R) : RunOK (R.with l) :=
  ⟨hR.cfg, hR.meth, hR.clone, lookup_ok (R := R.with l) hl⟩

theorem Entry.ok_next {R : Run} (hR : RunOK R) {l : List Entry} (hl : ∀ e ∈ l, e.OK R) {n : Nat} {e : Entry} (h : e.check (R.with l) n = true) : e.OK R :=
  Entry.ok_of_check (hR.with hl) h

end
end Go.Sx
