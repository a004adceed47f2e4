/- Part B: abstract objects and how an abstract heap stands to a world; the table of types. -/
import Derived.Test.YtpmojikobjkllaaGreatDoorSxA
namespace Go.Sx
open Go
noncomputable section

structure AEnt where
  key : Value
  val : AVal
  born : Nat

inductive AObj where
  | cells (ro : Bool) (es : Nat) (c : List AVal) (t : TypeId)
  | map (ro : Bool) (es : List AEnt) (clock : Nat)
  | iter (m : Option Nat) (since : Nat) (seen : List Nat) (stepped : Nat)
  | loop (st : LoopState) (pend : Option Code) (tv : T AVal) (sz : Nat) (params : List Tmp) (asg body : Code) (dfr : Nat)
  | deferred

def AObj.rw : AObj → Bool
  | .cells ro _ _ _ => !ro
  | .map ro _ _ => !ro
  | _ => true

abbrev noVal : AVal := .tuple []

/-- The temporaries of an activation. -/
def TR (r : BMap) (tv : T AVal) (sz : Nat) (tmps : Array Value) : Prop :=
  tmps.size = sz ∧ ∀ t, VR r ((tv.get t).getD noVal) (tmps.getD t undef)

theorem TR.mono {r r' : BMap} (hl : Le r r') {tv : T AVal} {sz : Nat} {tmps : Array Value} (h : TR r tv sz tmps) : TR r' tv sz tmps :=
  ⟨h.1, fun t => (h.2 t).mono hl⟩

inductive ERs (r : BMap) : List AEnt → List MapEntry → Prop
  | nil : ERs r [] []
  | cons {a : AEnt} {e : MapEntry} {l : List AEnt} {l' : List MapEntry} (hk : e.key = a.key) (hb : e.born = a.born) (hv : VR r a.val e.val) (hs : ERs r l l') : ERs r (a :: l) (e :: l')

theorem ERs.mono {r r' : BMap} (hl : Le r r') : ∀ {l : List AEnt} {l' : List MapEntry}, ERs r l l' → ERs r' l l'
  | _, _, .nil => .nil
  | _, _, .cons hk hb hv hs => .cons hk hb (hv.mono hl) (ERs.mono hl hs)

inductive OptR (r : BMap) : Option Nat → Option Nat → Prop
  | none : OptR r none none
  | some {i j k : Nat} (h : r i = some (j, k)) : OptR r (some i) (some j)

theorem OptR.mono {r r' : BMap} (hl : Le r r') : ∀ {a b : Option Nat}, OptR r a b → OptR r' a b
  | _, _, .none => .none
  | _, _, .some h => .some (hl _ _ h)

inductive OR (r : BMap) (k : Nat) : AObj → Obj → Prop
  | cells {ro : Bool} {es : Nat} {c : List AVal} {t : TypeId} {c' : Array Value} (hs : c'.size = c.length + k * es) (he : es = 0 → k = 0)
      (hv : VRs r c (c'.toList.take c.length)) : OR r k (.cells ro es c t) (.cells c' t (0, 0))
  | map {ro : Bool} {es : List AEnt} {clock : Nat} {es' : Array MapEntry} (h : ERs r es es'.toList) : OR r k (.map ro es clock) (.map es' clock)
  | iter {m m' : Option Nat} {since stepped : Nat} {seen : List Nat} {seen' : Array Nat} (hm : OptR r m m') (hs : seen'.toList = seen) :
      OR r k (.iter m since seen stepped) (.mapIter m' since seen' stepped)
  | loop {st : LoopState} {pend : Option Code} {tv : T AVal} {sz : Nat} {params : List Tmp} {asg body : Code} {dfr : Nat} {fn : FuncId} {tmps : Array Value} {params' : Array Tmp} {j l : Nat}
      (ht : TR r tv sz tmps) (hp : params'.toList = params) (hd : r dfr = some (j, l)) :
      OR r k (.loop st pend tv sz params asg body dfr) (.loop { state := st, pending := pend, fn, tmps, params := params', assign := asg, body, defers := j })
  | deferred : OR r k .deferred (.deferred (some []))

theorem OR.mono {r r' : BMap} (hl : Le r r') {k : Nat} : ∀ {o : AObj} {o' : Obj}, OR r k o o' → OR r' k o o'
  | _, _, .cells hs he hv => .cells hs he (hv.mono hl)
  | _, _, .map h => .map (h.mono hl)
  | _, _, .iter hm hs => .iter (hm.mono hl) hs
  | _, _, .loop ht hp hd => .loop (ht.mono hl) hp (hl _ _ hd)
  | _, _, .deferred => .deferred

/-- The world in which the whole run began, and how many of its first blocks bear their own numbers (the package-level variables). -/
structure Base where
  w0 : World
  ng : Nat

/-- How an abstract heap stands to a world: what lay in the first world lies as it lay. -/
structure WR (B : Base) (r : BMap) (h : T AObj) (nx : Nat) (w : World) : Prop where
  os : w.os = B.w0.os
  tape : w.tape = B.w0.tape
  output : w.output = B.w0.output
  size : B.w0.heap.size ≤ w.heap.size
  old : ∀ k, k < B.w0.heap.size → w.heap[k]? = B.w0.heap[k]?
  obj : ∀ i o j k, h.get i = some o → r i = some (j, k) → ∃ o', w.heap[j]? = some o' ∧ OR r k o o'
  own : ∀ i o j k, h.get i = some o → r i = some (j, k) → o.rw = true → B.w0.heap.size ≤ j
  inj : ∀ i i' o o' j k k', h.get i = some o → h.get i' = some o' → r i = some (j, k) → r i' = some (j, k') → o.rw = true → i = i'
  fresh : ∀ i, nx ≤ i → r i = none
  glob : ∀ g, g < B.ng → r g = some (g, 0)

def Ext (n : Nat) (r r' : BMap) : Prop := ∀ i, i < n → r' i = r i

theorem Ext.refl (n : Nat) (r : BMap) : Ext n r r := fun _ _ => rfl
theorem Ext.trans {n m : Nat} {a b c : BMap} (h : Ext n a b) (k : Ext m b c) (hn : n ≤ m) : Ext n a c := fun i hi => (k i (by omega)).trans (h i hi)
theorem Ext.mono {n m : Nat} {a b : BMap} (h : Ext m a b) (hn : n ≤ m) : Ext n a b := fun i hi => h i (by omega)

section
variable {B : Base} {r r' : BMap} {h : T AObj} {nx : Nat} {w : World}

theorem WR.lt (H : WR B r h nx w) {i : Nat} {p : Nat × Nat} (hi : r i = some p) : i < nx := by
  rcases Nat.lt_or_ge i nx with g | g
  · exact g
  · rw [H.fresh i g] at hi; cases hi

theorem WR.le (H : WR B r h nx w) (he : Ext nx r r') : Le r r' := fun i j hi => by rw [he i (H.lt hi)]; exact hi

/-- A draw turns nothing. -/
theorem WR.drew (H : WR B r h nx w) (k : Nat) : WR B r h nx { w with drawn := k } :=
  ⟨H.os, H.tape, H.output, H.size, H.old, H.obj, H.own, H.inj, H.fresh, H.glob⟩

/-- Forgetting blocks. -/
theorem WR.weak (H : WR B r h nx w) {h' : T AObj} {nx' : Nat} (hh : ∀ i o, h'.get i = some o → h.get i = some o) (hn : nx ≤ nx') : WR B r h' nx' w :=
  ⟨H.os, H.tape, H.output, H.size, H.old, fun i o j k a b => H.obj i o j k (hh i o a) b, fun i o j k a b => H.own i o j k (hh i o a) b,
   fun i i' o o' j k k' a a' => H.inj i i' o o' j k k' (hh i o a) (hh i' o' a'), fun i hi => H.fresh i (by omega), H.glob⟩

def bind1 (r : BMap) (i j l : Nat) : BMap := fun k => if k = i then some (j, l) else r k

theorem bind1_self (r : BMap) (i j l : Nat) : bind1 r i j l i = some (j, l) := by simp [bind1]
theorem bind1_other (r : BMap) (i j l k : Nat) (hk : k ≠ i) : bind1 r i j l k = r k := by simp [bind1, hk]
theorem bind1_le (r : BMap) (i j l : Nat) (hi : r i = none) : Le r (bind1 r i j l) := fun k p hk => by
  have : k ≠ i := fun e => by subst e; rw [hi] at hk; cases hk
  rw [bind1_other _ _ _ _ _ this]; exact hk
theorem bind1_ext (r : BMap) (i j l n : Nat) (hn : n ≤ i) : Ext n r (bind1 r i j l) := fun k hk => bind1_other _ _ _ _ _ (by omega)

/-- A block that the abstract heap holds and that had no fellow in the world gets one: a new one. -/
theorem WR.bindNew (H : WR B r h nx w) {i l : Nat} {o : AObj} {o' : Obj} (hi : h.get i = some o) (hn : r i = none) (hlt : i < nx)
    (ho : OR (bind1 r i w.heap.size l) l o o') : WR B (bind1 r i w.heap.size l) h nx { w with heap := w.heap.push o' } := by
  have hle := bind1_le r i w.heap.size l hn
  have hlj : ∀ {q y k}, h.get q = some y → r q = some (w.heap.size, k) → False := fun {q y k} hq hr => by
    obtain ⟨x', h1, _⟩ := H.obj q y _ _ hq hr
    have := (Array.getElem?_eq_some_iff.1 h1).1
    omega
  refine ⟨H.os, H.tape, H.output, by have := H.size; simp only [Array.size_push]; omega, fun k hk => ?_, fun k x j m hk hj => ?_, fun k x j m hk hj hx => ?_, fun k k' x x' j m m' hk hk' hj hj' hx => ?_, fun k hk => ?_, fun g hg => hle _ _ (H.glob g hg)⟩
  · have := H.size
    rw [Array.getElem?_push, if_neg (by omega)]
    exact H.old k hk
  · by_cases e : k = i
    · subst e
      rw [bind1_self] at hj; cases hj
      rw [hi] at hk; cases hk
      exact ⟨o', by simp, ho⟩
    · rw [bind1_other _ _ _ _ _ e] at hj
      obtain ⟨x', h1, h2⟩ := H.obj k x j m hk hj
      have hl : j < w.heap.size := (Array.getElem?_eq_some_iff.1 h1).1
      exact ⟨x', by rw [Array.getElem?_push, if_neg (by omega)]; exact h1, h2.mono hle⟩
  · by_cases e : k = i
    · subst e
      rw [bind1_self] at hj; cases hj
      exact H.size
    · rw [bind1_other _ _ _ _ _ e] at hj
      exact H.own k x j m hk hj hx
  · by_cases e : k = i <;> by_cases e' : k' = i
    · rw [e, e']
    · subst e
      rw [bind1_self] at hj; cases hj
      rw [bind1_other _ _ _ _ _ e'] at hj'
      exact (hlj hk' hj').elim
    · subst e'
      rw [bind1_self] at hj'; cases hj'
      rw [bind1_other _ _ _ _ _ e] at hj
      exact (hlj hk hj).elim
    · rw [bind1_other _ _ _ _ _ e] at hj
      rw [bind1_other _ _ _ _ _ e'] at hj'
      exact H.inj k k' x x' j m m' hk hk' hj hj' hx
  · rw [bind1_other _ _ _ _ _ (by omega)]; exact H.fresh k hk

/-- An abstract block for which the world has no fellow yet. -/
theorem WR.reserve (H : WR B r h nx w) (o : AObj) : WR B r (h.set nx o) (nx + 1) w := by
  have hn : r nx = none := H.fresh nx (Nat.le_refl _)
  refine ⟨H.os, H.tape, H.output, H.size, H.old, fun i x j k hi hj => ?_, fun i x j k hi hj hx => ?_, fun i i' x x' j k k' hi hi' hj hj' hx => ?_, fun i hi => H.fresh i (by omega), H.glob⟩
  · rw [T.get_set] at hi
    by_cases e : i = nx
    · subst e; rw [hn] at hj; cases hj
    · rw [if_neg e] at hi; exact H.obj i x j k hi hj
  · rw [T.get_set] at hi
    by_cases e : i = nx
    · subst e; rw [hn] at hj; cases hj
    · rw [if_neg e] at hi; exact H.own i x j k hi hj hx
  · rw [T.get_set] at hi hi'
    by_cases e : i = nx
    · subst e; rw [hn] at hj; cases hj
    · by_cases e' : i' = nx
      · subst e'; rw [hn] at hj'; cases hj'
      · rw [if_neg e] at hi; rw [if_neg e'] at hi'
        exact H.inj i i' x x' j k k' hi hi' hj hj' hx

/-- A new block on both sides. -/
theorem WR.alloc (H : WR B r h nx w) {l : Nat} {o : AObj} {o' : Obj} (ho : OR r l o o') :
    WR B (bind1 r nx w.heap.size l) (h.set nx o) (nx + 1) { w with heap := w.heap.push o' } :=
  (H.reserve o).bindNew (i := nx) (o := o) (by rw [T.get_set]; simp) (H.fresh nx (Nat.le_refl _)) (by omega) (ho.mono (bind1_le r nx _ _ (H.fresh nx (Nat.le_refl _))))

/-- A writable block is turned on both sides. -/
theorem WR.put (H : WR B r h nx w) {i j m : Nat} {o p : AObj} {p' : Obj} (hi : h.get i = some o) (hj : r i = some (j, m)) (hrw : o.rw = true) (hp : OR r m p p') {w' : World}
    (hos : w'.os = w.os) (htape : w'.tape = w.tape) (hout : w'.output = w.output) (hsz : w'.heap.size = w.heap.size)
    (hat : w'.heap[j]? = some p') (hot : ∀ k, k ≠ j → w'.heap[k]? = w.heap[k]?) : WR B r (h.set i p) nx w' := by
  have hw := H.own i o j m hi hj hrw
  refine ⟨hos.trans H.os, htape.trans H.tape, hout.trans H.output, by rw [hsz]; exact H.size, fun k hk => ?_, fun k x l n hk hl => ?_, fun k x l n hk hl hx => ?_, fun k k' x x' l n n' hk hk' hl hl' hx => ?_, H.fresh, H.glob⟩
  · rw [hot k (by omega)]; exact H.old k hk
  · rw [T.get_set] at hk
    by_cases e : k = i
    · subst e
      simp at hk; subst hk
      rw [hj] at hl; cases hl
      exact ⟨p', hat, hp⟩
    · rw [if_neg e] at hk
      have hne : l ≠ j := fun e' => by subst e'; exact e (H.inj i k o x l m n hi hk hj hl hrw).symm
      obtain ⟨x', h1, h2⟩ := H.obj k x l n hk hl
      exact ⟨x', by rw [hot l hne]; exact h1, h2⟩
  · rw [T.get_set] at hk
    by_cases e : k = i
    · subst e; rw [hj] at hl; cases hl; exact hw
    · rw [if_neg e] at hk; exact H.own k x l n hk hl hx
  · rw [T.get_set] at hk hk'
    by_cases e : k = i <;> by_cases e' : k' = i
    · rw [e, e']
    · subst e
      rw [if_neg e'] at hk'
      rw [hj] at hl; cases hl
      exact H.inj k k' o x' j m n' hi hk' hj hl' hrw
    · subst e'
      rw [if_neg e] at hk
      rw [hj] at hl'; cases hl'
      exact (H.inj k' k o x j m n hi hk hj hl hrw).symm
    · rw [if_neg e] at hk; rw [if_neg e'] at hk'
      exact H.inj k k' x x' l n n' hk hk' hl hl' hx

end
end
end Go.Sx
