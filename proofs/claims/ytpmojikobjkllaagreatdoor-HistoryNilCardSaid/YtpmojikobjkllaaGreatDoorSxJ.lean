/- Part J: append and copy. -/
import Derived.Test.YtpmojikobjkllaaGreatDoorSxI
namespace Go.Sx
open Go
noncomputable section

def strCells : List UInt8 → List AVal
  | [] => []
  | b :: l => .int .u8 b.toNat :: strCells l

theorem strCells_VRs {r : BMap} : ∀ l : List UInt8, VRs r (strCells l) (l.map fun b => .int .u8 b.toNat)
  | [] => .nil
  | _ :: l => .cons (.int _ _) (strCells_VRs l)

/-- How many elements a slice or a string has. -/
def alenOf : AVal → Option Nat
  | .nilslice => some 0
  | .slice _ _ n _ _ => some n
  | .str s => some s.size
  | _ => none

/-- The cells of its first n elements. -/
def afirst (h : T AObj) (size n : Nat) : AVal → Option (List AVal)
  | .nilslice => some []
  | .slice b off _ _ _ => if n * size = 0 then some [] else match h.get b with
    | some (.cells _ _ c _) => seg c off (n * size)
    | _ => none
  | .str s => some (strCells (s.extract 0 n).data.toList)
  | _ => none

theorem alenOf_run {P : Program} {r : BMap} {a : AVal} {v : Value} {n : Nat} (h : alenOf a = some n) (hv : VR r a v) (w : World) : (Builtin.lenOf v).run P w = .ok n w := by
  unfold alenOf at h
  split at h <;> cases h
  · rw [hv.nilslice_inv]; rfl
  · obtain ⟨j, k, _, rfl⟩ := hv.slice_inv; rfl
  · rw [hv.str_inv]; rfl

theorem afirst_run {P : Program} {B : Base} {r : BMap} {h : T AObj} {nx size n : Nat} {a : AVal} {v : Value} {cs : List AVal} (ha : afirst h size n a = some cs) (hv : VR r a v) {w : World} (H : WR B r h nx w) :
    ∃ cs' : Array Value, (Builtin.firstCells size n v).run P w = .ok cs' w ∧ VRs r cs cs'.toList := by
  unfold afirst at ha
  split at ha
  · cases ha
    rw [hv.nilslice_inv]
    exact ⟨#[], rfl, .nil⟩
  · rename_i b off len cap tight
    obtain ⟨j, k, hj, rfl⟩ := hv.slice_inv
    split at ha
    · rename_i hz
      cases ha
      refine ⟨#[], ?_, .nil⟩
      simp [Builtin.firstCells, hz, loadCells, loadCellsFrom]
    · split at ha
      · rename_i ro es c t hb
        obtain ⟨c', h1, h2, _, h4⟩ := H.cells hb hj
        have hsl := seg_len ha
        refine ⟨((c'.toList.drop off).take (n * size)).toArray, ?_, by simpa using seg_VRs ha h4⟩
        have := loadCellsFrom_of (P := P) h1 (off := off) (n * size) 0 #[] (by rcases hsl.2 with e | e <;> omega)
        simp only [Builtin.firstCells, loadCells, this]
        simp
      · cases ha
  · rename_i s
    cases ha
    rw [hv.str_inv]
    refine ⟨(s.extract 0 n).data.map fun b => .int .u8 b.toNat, rfl, ?_⟩
    rw [Array.toList_map]
    exact strCells_VRs _
  · cases ha

theorem growBy_le (n : Nat) : ∀ (k c : Nat), c ≤ 2 * n + 192 → Builtin.growBy n k c ≤ 2 * n + 192
  | 0, c, h => h
  | k + 1, c, h => by
    unfold Builtin.growBy
    split
    · exact h
    · exact growBy_le n k _ (by omega)

theorem nextslicecap_le (n c : Nat) (h : c < n) : Builtin.nextslicecap n c ≤ 2 * n + 192 := by
  unfold Builtin.nextslicecap
  split
  · omega
  · split
    · omega
    · exact growBy_le n 4 c (by omega)

/-- The block behind a slice that has no spare room on either side, or on the world's side alone; none: what the runner does not take. -/
def agrow (h : T AObj) (e : TypeId) (size : Nat) : AVal → Option (T AObj)
  | .nilslice => some h
  | .slice _ _ _ _ true => some h
  | .slice b off _ cap false => match h.get b with
    | some (.cells false es c t) => if es = 0 then some h
      else if es = size ∧ t = e ∧ off = 0 ∧ cap * size = c.length then some (h.del b) else none
    | _ => none
  | _ => none

def acapOf : AVal → Nat
  | .slice _ _ _ cap _ => cap
  | _ => 0

def aappend (C : Cfg) (h : T AObj) (nx : Nat) (t tx : TypeId) (s x : AVal) : Option (AVal × T AObj × Nat) :=
  match C.ty.get t, C.ty.get tx with
  | some y, some yx => match y.kind with
    | .slice e => match C.ty.get e, (match yx.kind with | .slice _ => true | .str => true | _ => false), alenOf s, alenOf x with
      | some ye, true, some len, some n => match afirst h ye.size n x with
        | some new =>
          if len + n ≤ acapOf s then
            match s with
            | .slice b off _ cap tight => match awrite h b (off + len * ye.size) new with
              | some h' => some (.slice b off (len + n) cap tight, h', nx)
              | none => none
            | .nilslice => some (.nilslice, h, nx)
            | _ => none
          else match afirst h ye.size len s, agrow h e ye.size s with
            | some old, some h' =>
              if ye.size ≠ 0 ∧ len + n < 2 ^ 40 ∧ (2 * (len + n) + 192) * ye.bytes ≤ 2 ^ 48 ∧ old.length = len * ye.size ∧ new.length = n * ye.size ∧ oneAs new = true ∧ len ≤ acapOf s then
                some (.slice nx 0 (len + n) (len + n) false, h'.set nx (.cells false ye.size (old ++ new) e), nx + 1)
              else none
            | _, _ => none
        | none => none
      | _, _, _, _ => none
    | _ => none
  | _, _ => none

/-- A new abstract block takes the place of an old one in the world. -/
theorem WR.move {B : Base} {r : BMap} {h : T AObj} {nx : Nat} {w : World} (H : WR B r h nx w) {b j k k' : Nat} {o p : AObj} {p' : Obj} (hb : h.get b = some o) (hj : r b = some (j, k)) (hrw : o.rw = true)
    (hp : OR (bind1 r nx j k') k' p p') {w' : World} (hput : Put w w' j p') : WR B (bind1 r nx j k') ((h.del b).set nx p) (nx + 1) w' := by
  have hn : r nx = none := H.fresh nx (Nat.le_refl _)
  have hle := bind1_le r nx j k' hn
  have hw := H.own b o j k hb hj hrw
  have hdel : ∀ {i x}, (h.del b).get i = some x → i ≠ b ∧ h.get i = some x := fun {i x} hi => by
    rw [T.get_del] at hi
    split at hi
    · cases hi
    · rename_i hne; exact ⟨hne, hi⟩
  refine ⟨hput.os.trans H.os, hput.tape.trans H.tape, hput.output.trans H.output, by rw [hput.size]; exact H.size, fun i hi => ?_, fun i x l m hi hl => ?_, fun i x l m hi hl hx => ?_, fun i i' x x' l m m' hi hi' hl hl' hx => ?_, fun i hi => ?_, fun g hg => hle _ _ (H.glob g hg)⟩
  · rw [hput.other i (by omega)]; exact H.old i hi
  · rw [T.get_set] at hi
    by_cases e : i = nx
    · subst e
      rw [if_pos rfl] at hi; cases hi
      rw [bind1_self] at hl; cases hl
      exact ⟨p', hput.at_, hp⟩
    · rw [if_neg e] at hi
      obtain ⟨hne, hi⟩ := hdel hi
      rw [bind1_other _ _ _ _ _ e] at hl
      have hlj : l ≠ j := fun e' => by subst e'; exact hne (H.inj b i o x l k m hb hi hj hl hrw).symm
      obtain ⟨x', h1, h2⟩ := H.obj i x l m hi hl
      exact ⟨x', by rw [hput.other l hlj]; exact h1, h2.mono hle⟩
  · rw [T.get_set] at hi
    by_cases e : i = nx
    · subst e
      rw [bind1_self] at hl; cases hl
      exact hw
    · rw [if_neg e] at hi
      rw [bind1_other _ _ _ _ _ e] at hl
      exact H.own i x l m (hdel hi).2 hl hx
  · rw [T.get_set] at hi hi'
    by_cases e : i = nx <;> by_cases e' : i' = nx
    · rw [e, e']
    · subst e
      rw [if_neg e'] at hi'
      rw [bind1_self] at hl; cases hl
      rw [bind1_other _ _ _ _ _ e'] at hl'
      obtain ⟨hne, hi'⟩ := hdel hi'
      exact (hne (H.inj b i' o x' j k m' hb hi' hj hl' hrw).symm).elim
    · subst e'
      rw [if_neg e] at hi
      rw [bind1_self] at hl'; cases hl'
      rw [bind1_other _ _ _ _ _ e] at hl
      obtain ⟨hne, hi⟩ := hdel hi
      exact (hne (H.inj b i o x j k m hb hi hj hl hrw).symm).elim
    · rw [if_neg e] at hi; rw [if_neg e'] at hi'
      rw [bind1_other _ _ _ _ _ e] at hl
      rw [bind1_other _ _ _ _ _ e'] at hl'
      exact H.inj i i' x x' l m m' (hdel hi).2 (hdel hi').2 hl hl' hx
  · rw [bind1_other _ _ _ _ _ (by omega)]; exact H.fresh i (by omega)

theorem zeroCells_size (z : Array Value) (n : Nat) : (Builtin.zeroCells z n).size = n * z.size := by simp [Builtin.zeroCells]

theorem agrow_weak {h h' : T AObj} {e : TypeId} {size : Nat} {s : AVal} (hg : agrow h e size s = some h') : ∀ i o, h'.get i = some o → h.get i = some o := by
  have key : h' = h ∨ ∃ b, h' = h.del b := by
    unfold agrow at hg
    split at hg
    · cases hg; exact .inl rfl
    · cases hg; exact .inl rfl
    · split at hg
      · split at hg
        · cases hg; exact .inl rfl
        · split at hg
          · cases hg; exact .inr ⟨_, rfl⟩
          · cases hg
      · cases hg
    · cases hg
  intro i o hi
  rcases key with rfl | ⟨b, rfl⟩
  · exact hi
  · rw [T.get_del] at hi
    split at hi
    · cases hi
    · exact hi

/-- The second argument is a slice or a string: no make. -/
def plainSrc (d : TypeDesc) : Prop := (∃ e, d = .slice e) ∨ d = .string

section
variable {P : Program} {C : Cfg} {t tx u e : TypeId} {ye : Ty} {ts : Array TypeId} {dx : TypeDesc} {w : World}

theorem append_room (ht0 : ts[0]? = some t) (ht1 : ts[1]? = some tx) (hdr : ∀ w, (underlying t).run P w = .ok (.slice e) w) (hdxr : ∀ w, (underlying tx).run P w = .ok dx w) (hdx : plainSrc dx)
    (Te : TyOK P e ye) {base : Option Addr} {len cap n : Nat} {xv : Value} {new' : Array Value} (hln : (Builtin.lenOf xv).run P w = .ok n w) (hroom : len + n ≤ cap)
    (hnr : (Builtin.firstCells ye.size n xv).run P w = .ok new' w) {w' : World}
    (hw : match base with | some a => (storeCells (a.add (len * ye.size)) new'.toList).run P w = .ok () w' | none => w' = w) :
    (Builtin.append_ ts u #[.slice base len cap, xv]).run P w = .ok (.slice base (len + n) cap) w' := by
  rcases hdx with ⟨e', rfl⟩ | rfl
  · simp only [Builtin.append_, ht0, ht1, List.getElem?_toArray, List.getElem?_cons_zero, List.getElem?_cons_succ, Sem.run_bind, hdr, hdxr, Result.andThen_ok, Te.size, Sem.run_pure, Bool.false_eq_true, if_false, hln, hroom, if_true, Bool.not_false, hnr]
    cases base with
    | none => simp only at hw; subst hw; rfl
    | some a => simp only at hw; simp only [Sem.run_bind, hw, Result.andThen_ok, Sem.run_pure]
  · simp only [Builtin.append_, ht0, ht1, List.getElem?_toArray, List.getElem?_cons_zero, List.getElem?_cons_succ, Sem.run_bind, hdr, hdxr, Result.andThen_ok, Te.size, Sem.run_pure, Bool.false_eq_true, if_false, hln, hroom, if_true, Bool.not_false, hnr]
    cases base with
    | none => simp only at hw; subst hw; rfl
    | some a => simp only at hw; simp only [Sem.run_bind, hw, Result.andThen_ok, Sem.run_pure]

theorem append_grows (ht0 : ts[0]? = some t) (ht1 : ts[1]? = some tx) (hdr : ∀ w, (underlying t).run P w = .ok (.slice e) w) (hdxr : ∀ w, (underlying tx).run P w = .ok dx w) (hdx : plainSrc dx)
    (Te : TyOK P e ye) {base : Option Addr} {len cap n : Nat} {xv : Value} {new' old' : Array Value} (hln : (Builtin.lenOf xv).run P w = .ok n w) (hroom : ¬ len + n ≤ cap)
    (hb : len + n < 2 ^ 40) (hby : (2 * (len + n) + 192) * ye.bytes ≤ 2 ^ 48)
    (hor : ∀ m, (Builtin.firstCells ye.size len (.slice base len cap)).run P { w with drawn := m } = .ok old' { w with drawn := m })
    (hnr : ∀ m, (Builtin.firstCells ye.size n xv).run P { w with drawn := m } = .ok new' { w with drawn := m }) :
    ∃ (k m : Nat) (rest : Array Value), rest.size = k * ye.size ∧
      (Builtin.append_ ts u #[.slice base len cap, xv]).run P w =
        .ok (.slice (some ⟨w.heap.size, 0, none⟩) (len + n) (len + n + k)) { w with heap := w.heap.push (.cells (old' ++ new' ++ rest) e), drawn := m } := by
  obtain ⟨i, hib, hir⟩ := Te.info
  obtain ⟨z, hz, hzr⟩ := Te.zero
  have hcap : Builtin.nextslicecap (len + n) cap * ye.bytes ≤ 2 ^ 48 := by
    have h1 := nextslicecap_le (len + n) cap (by omega)
    exact Nat.le_trans (Nat.mul_le_mul_right _ h1) hby
  have hcap' : ¬ Builtin.nextslicecap (len + n) cap * ye.bytes > 2 ^ 48 := by omega
  have hmax : ¬ (((len + n : Nat) : Int) > IntKind.i64.max ∧ (False ∨ ye.bytes = 0)) := by
    intro ⟨h1, _⟩
    simp [IntKind.max, IntKind.signed, IntKind.bits] at h1
    omega
  have hmax' : ¬ (((len + n : Nat) : Int) > IntKind.i64.max ∧ (false = true ∨ ye.bytes = 0)) := fun ⟨h1, h2⟩ => hmax ⟨h1, h2.elim (fun h => by cases h) .inr⟩
  have hzs : z.cells.size = ye.size := by
    have := (zeroB_cells hz (fun _ => none)).length
    rw [Te.zlen] at this
    simpa using this.symm
  obtain ⟨k, hk⟩ : ∃ k, (Question.appendCap (len + n) cap e).cut (w.tape w.drawn (.appendCap (len + n) cap e)) = len + n + k := ⟨_, rfl⟩
  refine ⟨k, w.drawn + 1, Builtin.zeroCells z.cells k, by rw [zeroCells_size, hzs], ?_⟩
  have hsub : len + n + k - (len + n) = k := by omega
  rcases hdx with ⟨e', rfl⟩ | rfl
  · simp only [Builtin.append_, ht0, ht1, List.getElem?_toArray, List.getElem?_cons_zero, List.getElem?_cons_succ, Sem.run_bind, hdr, hdxr, Result.andThen_ok, Te.size, Sem.run_pure, Bool.false_eq_true, if_false, hln, hroom,
      Bool.not_false, if_true, hir, hib, Sem.run_ite, run_choose, Question.forced, hk, run_askRoom, hor, hnr, hzr, hsub]
    rw [if_neg (by simpa using hmax')]
    rw [if_neg hcap']
    simp only [Result.andThen_ok, run_newRow]
  · simp only [Builtin.append_, ht0, ht1, List.getElem?_toArray, List.getElem?_cons_zero, List.getElem?_cons_succ, Sem.run_bind, hdr, hdxr, Result.andThen_ok, Te.size, Sem.run_pure, Bool.false_eq_true, if_false, hln, hroom,
      Bool.not_false, if_true, hir, hib, Sem.run_ite, run_choose, Question.forced, hk, run_askRoom, hor, hnr, hzr, hsub]
    rw [if_neg (by simpa using hmax')]
    rw [if_neg hcap']
    simp only [Result.andThen_ok, run_newRow]

end

theorem firstCells_drawn {P : Program} {size n : Nat} {v : Value} {cs : Array Value} {w : World} (h : (Builtin.firstCells size n v).run P w = .ok cs w) (m : Nat) :
    (Builtin.firstCells size n v).run P { w with drawn := m } = .ok cs { w with drawn := m } := by
  have key : ∀ (a : Addr) (k i : Nat) (acc out : Array Value), (loadCellsFrom a i k acc).run P w = .ok out w → (loadCellsFrom a i k acc).run P { w with drawn := m } = .ok out { w with drawn := m } := by
    intro a k
    induction k with
    | zero => intro i acc out hh; simp [loadCellsFrom] at hh ⊢; exact hh
    | succ k ih =>
      intro i acc out hh
      simp only [loadCellsFrom, Sem.run_bind, run_load] at hh ⊢
      have e1 : ({ w with drawn := m } : World).cell? (a.add i) = w.cell? (a.add i) := rfl
      rw [e1]
      cases hc : w.cell? (a.add i) with
      | some v =>
        rw [hc] at hh
        simp only [Result.andThen_ok] at hh ⊢
        exact ih _ _ _ hh
      | none =>
        rw [hc] at hh
        have e2 : ({ w with drawn := m } : World).farLoad P (a.add i) (Mode.plain == Mode.atomic) = w.farLoad P (a.add i) (Mode.plain == Mode.atomic) := rfl
        rw [e2]
        cases hf : w.farLoad P (a.add i) (Mode.plain == Mode.atomic) with
        | ok p =>
          rw [hf] at hh
          simp only [Result.andThen_ok] at hh ⊢
          exact ih _ _ _ hh
        | error e => rw [hf] at hh; cases hh
  unfold Builtin.firstCells at h ⊢
  split at h
  · exact key _ _ _ _ _ h
  · cases h; rfl
  · cases h; rfl
  · cases h

theorem setAll_take {α : Type} : ∀ (l vs : List α) (off : Nat), off + vs.length ≤ l.length → (setAll l off vs).take (off + vs.length) = l.take off ++ vs
  | l, [], off, h => by simp [setAll]
  | l, v :: vs, off, h => by
    simp only [List.length_cons] at h
    have := setAll_take (l.set off v) vs (off + 1) (by rw [List.length_set]; omega)
    rw [setAll]
    have e : off + (v :: vs).length = off + 1 + vs.length := by simp; omega
    rw [e, this]
    have hlt : off < l.length := by omega
    have : (l.set off v).take (off + 1) = l.take off ++ [v] := by
      rw [List.take_succ_eq_append_getElem (by rw [List.length_set]; exact hlt)]
      simp only [List.getElem_set_self]
      congr 1
      apply List.ext_getElem?
      intro i
      rw [List.getElem?_take, List.getElem?_take, List.getElem?_set]
      by_cases hi : i < off
      · simp [hi, show off ≠ i by omega]
      · simp [hi]
    rw [this]
    simp

theorem OR_app {r : BMap} {k es : Nat} {old new : List AVal} {old' new' rest : Array Value} {e : TypeId} (ho : VRs r old old'.toList) (hn : VRs r new new'.toList) (hr : rest.size = k * es) (he : es ≠ 0) :
    OR r k (.cells false es (old ++ new) e) (.cells (old' ++ new' ++ rest) e (0, 0)) := by
  have l1 : old.length = old'.size := by rw [ho.length]; simp
  have l2 : new.length = new'.size := by rw [hn.length]; simp
  refine .cells (by simp [hr, l1, l2]; omega) (fun h => (he h).elim) ?_
  have h1 := ho.append hn
  have e1 : (old' ++ new' ++ rest).toList.take (old ++ new).length = old'.toList ++ new'.toList := by
    simp only [Array.toList_append]
    rw [List.take_append_of_le_length (by simp [l1, l2]), List.take_of_length_le (by simp [l1, l2])]
  rw [e1]
  exact h1

theorem plain_of {yx : Ty} {dx : TypeDesc} (hxk : (match yx.kind with | .slice _ => true | .str => true | _ => false) = true) (hdx : kndB dx yx.kind = true) : plainSrc dx := by
  revert hxk hdx
  cases yx.kind <;> intro hxk hdx <;> simp at hxk
  · exact .inr (kndB_str hdx)
  · exact .inl ⟨_, kndB_slice hdx⟩

theorem aappend_run {P : Program} {C : Cfg} (hC : CfgOK P C) {B : Base} {r : BMap} {h h' : T AObj} {nx nx' : Nat} {t tx u : TypeId} {s x a : AVal} {sv xv : Value} {ts : Array TypeId}
    (ht0 : ts[0]? = some t) (ht1 : ts[1]? = some tx) (ha : aappend C h nx t tx s x = some (a, h', nx')) (hs : VR r s sv) (hx : VR r x xv) {w : World} (H : WR B r h nx w) :
    ∃ r' w' v, (Builtin.append_ ts u #[sv, xv]).run P w = .ok v w' ∧ Ext nx r r' ∧ nx ≤ nx' ∧ WR B r' h' nx' w' ∧ VR r' a v := by
  unfold aappend at ha
  split at ha
  · rename_i y yx hy hyx
    obtain ⟨d, hd, _, hdr⟩ := (hC.ty t y hy).und
    obtain ⟨dx, hdx, _, hdxr⟩ := (hC.ty tx yx hyx).und
    split at ha
    · rename_i e hk
      rw [hk] at hd
      obtain rfl := kndB_slice hd
      split at ha
      · rename_i ye len n hye hxk hlen hn
        have Te := hC.ty e ye hye
        have hplain := plain_of hxk hdx
        split at ha
        · rename_i new hnew
          have hln := alenOf_run (P := P) hn hx w
          split at ha
          · rename_i hroom
            obtain ⟨new', hnr, hnv⟩ := afirst_run (P := P) hnew hx H
            split at ha
            · rename_i b off len0 cap tight
              have : len0 = len := by simpa [alenOf] using hlen
              subst this
              obtain ⟨j, k, hj, rfl⟩ := hs.slice_inv
              split at ha
              · rename_i h2 hwr
                cases ha
                obtain ⟨w', g1, g2⟩ := awrite_run (P := P) hwr hnv hj H
                have hroom' : len0 + n ≤ (if tight = true then cap else cap + k) := by
                  simp only [acapOf] at hroom
                  split <;> omega
                exact ⟨r, w', _, append_room ht0 ht1 hdr hdxr hplain Te hln hroom' hnr (base := some ⟨j, off, none⟩) (by simp only [addr_add]; exact g1), Ext.refl _ _, Nat.le_refl _, g2, .slice hj rfl⟩
              · cases ha
            · cases ha
              have hz : n = 0 := by simp only [acapOf] at hroom; omega
              have hl0 : len = 0 := by simpa [alenOf] using hlen.symm
              subst hz hl0
              rw [hs.nilslice_inv]
              exact ⟨r, w, _, append_room ht0 ht1 hdr hdxr hplain Te hln (Nat.le_refl 0) hnr (base := none) rfl, Ext.refl _ _, Nat.le_refl _, H, .nilslice⟩
            · cases ha
          · rename_i hroom
            split at ha
            · rename_i old h2 hold hg
              split at ha
              · rename_i hc
                obtain ⟨c1, c2, c3, c4, c5, c6, c7⟩ := hc
                cases ha
                -- growing on both sides
                have grow : ∀ (base : Option Addr) (cap' : Nat), sv = .slice base len cap' → ¬ len + n ≤ cap' →
                    ∃ r' w' v, (Builtin.append_ ts u #[sv, xv]).run P w = .ok v w' ∧ Ext nx r r' ∧ nx ≤ nx + 1 ∧ WR B r' (h2.set nx (.cells false ye.size (old ++ new) e)) (nx + 1) w' ∧ VR r' (.slice nx 0 (len + n) (len + n) false) v := by
                  intro base cap' hsv hno
                  subst hsv
                  obtain ⟨new', hnr, hnv⟩ := afirst_run (P := P) hnew hx H
                  obtain ⟨old', hor, hov⟩ := afirst_run (P := P) hold hs H
                  have hor' : ∀ m, (Builtin.firstCells ye.size len (.slice base len cap')).run P { w with drawn := m } = .ok old' { w with drawn := m } := fun m => by
                    obtain ⟨o2, q1, q2⟩ := afirst_run (P := P) hold hs (H.drew m)
                    rw [q1]
                    congr 1
                    have e1 : (Builtin.firstCells ye.size len (.slice base len cap')).run P { w with drawn := m } = .ok old' { w with drawn := m } := firstCells_drawn hor m
                    rw [q1] at e1
                    cases e1
                    rfl
                  have hnr' : ∀ m, (Builtin.firstCells ye.size n xv).run P { w with drawn := m } = .ok new' { w with drawn := m } := fun m => firstCells_drawn hnr m
                  obtain ⟨k, m, rest, z1, z2⟩ := append_grows (u := u) ht0 ht1 hdr hdxr hplain Te hln hno c2 c3 hor' hnr'
                  have H2 : WR B r h2 nx { w with drawn := m } := (H.weak (agrow_weak hg) (Nat.le_refl _)).drew m
                  have ho : OR r k (.cells false ye.size (old ++ new) e) (.cells (old' ++ new' ++ rest) e (0, 0)) := OR_app hov hnv z1 c1
                  exact ⟨_, _, _, z2, bind1_ext _ _ _ _ _ (Nat.le_refl _), Nat.le_succ _, H2.alloc ho, .slice (bind1_self _ _ _ _) rfl⟩
                unfold agrow at hg
                split at hg
                · exact grow none 0 (by rw [hs.nilslice_inv]; simp [alenOf] at hlen; rw [← hlen]) (by simp only [acapOf] at hroom; exact hroom)
                · rename_i b off len0 cap
                  obtain ⟨j, k, hj, hsv⟩ := hs.slice_inv
                  have : len0 = len := by simpa [alenOf] using hlen
                  subst this
                  exact grow _ _ hsv (by simp only [acapOf] at hroom; simpa using hroom)
                · rename_i b off len0 cap
                  obtain ⟨j, k, hj, hsv⟩ := hs.slice_inv
                  have : len0 = len := by simpa [alenOf] using hlen
                  subst this
                  simp only [acapOf] at hroom c7
                  simp only [Bool.false_eq_true, if_false] at hsv
                  split at hg
                  · rename_i es c tt hb
                    obtain ⟨c', h1, hsz, hes, hrow⟩ := H.cells hb hj
                    by_cases hroom2 : len0 + n ≤ cap + k
                    · -- the world's slice has room: it is written in place
                      split at hg
                      · rename_i h0
                        exfalso
                        have := hes h0
                        omega
                      · split at hg
                        · rename_i hes0 hcc
                          obtain ⟨q1, q2, q3, q4⟩ := hcc
                          cases hg
                          subst q1 q2 q3
                          obtain ⟨new', hnr, hnv⟩ := afirst_run (P := P) hnew hx H
                          have hnl : new'.size = n * ye.size := by rw [← c5, hnv.length]; simp
                          have hfit : 0 + len0 * ye.size + 0 + new'.toList.length ≤ c'.size := by
                            have e1 : (len0 + n) * ye.size ≤ (cap + k) * ye.size := Nat.mul_le_mul_right _ hroom2
                            have e2 : (len0 + n) * ye.size = len0 * ye.size + n * ye.size := Nat.add_mul ..
                            have e3 : (cap + k) * ye.size = cap * ye.size + k * ye.size := Nat.add_mul ..
                            have e4 : new'.toList.length = n * ye.size := by simpa using hnl
                            omega
                          obtain ⟨w', c'', g1, g2, g3⟩ := storeCells_run (P := P) (j := j) (off := 0 + len0 * ye.size) new'.toList 0 w c' h1 (oneAs_VRs c6 hnv) hfit
                          rw [hsv]
                          refine ⟨bind1 r nx j (cap + k - (len0 + n)), w', _, append_room ht0 ht1 hdr hdxr hplain Te hln hroom2 hnr (base := some ⟨j, 0, none⟩) (by simp only [addr_add]; exact g1), bind1_ext _ _ _ _ _ (Nat.le_refl _), Nat.le_succ _,
                            H.move hb hj rfl ?_ g3, .slice (bind1_self _ _ _ _) (by simp; omega)⟩
                          have hl2 : c''.size = c'.size := by
                            have := congrArg List.length g2
                            rw [setAll_length] at this
                            simpa using this
                          have hsum : (cap + k) * ye.size = (len0 + n) * ye.size + (cap + k - (len0 + n)) * ye.size := by
                            rw [← Nat.add_mul]; congr 1; omega
                          have hnm : (len0 + n) * ye.size = len0 * ye.size + n * ye.size := Nat.add_mul ..
                          have hck : (cap + k) * ye.size = cap * ye.size + k * ye.size := Nat.add_mul ..
                          refine .cells (by rw [hl2, hsz, List.length_append, c4, c5]; omega) (fun h => (c1 h).elim) ?_
                          -- the cells
                          have hov : VRs r old (c'.toList.take (len0 * ye.size)) := by
                            have hlc : len0 * ye.size ≤ c.length := by
                              have : len0 * ye.size ≤ cap * ye.size := Nat.mul_le_mul_right _ c7
                              omega
                            unfold afirst at hold
                            simp only at hold
                            split at hold
                            · rename_i hz
                              cases hold
                              rw [hz]; exact .nil
                            · rw [hb] at hold
                              simp only at hold
                              have := seg_VRs hold hrow
                              simpa using this
                          have e1 : c''.toList.take (old ++ new).length = c'.toList.take (len0 * ye.size) ++ new'.toList := by
                            rw [g2, List.length_append, c4, c5]
                            have hlen' : new'.toList.length = n * ye.size := by simpa using hnl
                            have := setAll_take c'.toList new'.toList (len0 * ye.size) (by simp; omega)
                            rw [← hlen', Nat.add_zero, Nat.zero_add]
                            exact this
                          rw [e1]
                          exact (hov.append hnv).mono (bind1_le r nx _ _ (H.fresh nx (Nat.le_refl _)))
                        · cases hg
                    · exact grow _ _ hsv hroom2
                  · cases hg
                · cases hg
              · cases ha
            · cases ha
        · cases ha
      · cases ha
    · cases ha
  · cases ha

def acopy (C : Cfg) (h : T AObj) (t : TypeId) (d x : AVal) : Option (AVal × T AObj) :=
  match C.ty.get t, alenOf x with
  | some y, some m => match y.kind, d with
    | .slice e, .nilslice => match C.ty.get e with
      | some ye => match afirst h ye.size (Nat.min m 0) x with
        | some _ => some (.int .i64 (Nat.min m 0), h)
        | none => none
      | none => none
    | .slice e, .slice b off dl _ _ => match C.ty.get e with
      | some ye => match afirst h ye.size (Nat.min m dl) x with
        | some cs => match awrite h b off cs with
          | some h' => some (.int .i64 (Nat.min m dl), h')
          | none => none
        | none => none
      | none => none
    | _, _ => none
  | _, _ => none

theorem acopy_run {P : Program} {C : Cfg} (hC : CfgOK P C) {B : Base} {r : BMap} {h h' : T AObj} {nx : Nat} {t u : TypeId} {d x a : AVal} {dv xv : Value} {ts : Array TypeId} (ht0 : ts[0]? = some t)
    (ha : acopy C h t d x = some (a, h')) (hd : VR r d dv) (hx : VR r x xv) {w : World} (H : WR B r h nx w) :
    ∃ w' v, (Builtin.copy_ ts u #[dv, xv]).run P w = .ok v w' ∧ WR B r h' nx w' ∧ VR r a v := by
  unfold acopy at ha
  split at ha
  · rename_i y m hy hm
    obtain ⟨dd, hdd, _, hdr⟩ := (hC.ty t y hy).und
    have hln := alenOf_run (P := P) hm hx w
    split at ha
    · rename_i e hk
      rw [hk] at hdd
      obtain rfl := kndB_slice hdd
      obtain rfl := hd.nilslice_inv
      split at ha
      · rename_i ye hye
        have Te := hC.ty e ye hye
        split at ha
        · rename_i cs hcs
          cases ha
          obtain ⟨cs', g1, g2⟩ := afirst_run (P := P) hcs hx H
          refine ⟨w, .int .i64 (Nat.min m 0), ?_, H, .int _ _⟩
          simp only [Builtin.copy_, ht0, List.getElem?_toArray, List.getElem?_cons_zero, List.getElem?_cons_succ, Sem.run_bind, hdr, Result.andThen_ok, hln, Te.size, g1, Sem.run_pure]
          rfl
        · cases ha
      · cases ha
    · rename_i e b off dl cap tight hk
      rw [hk] at hdd
      obtain rfl := kndB_slice hdd
      obtain ⟨j, k, hj, rfl⟩ := hd.slice_inv
      split at ha
      · rename_i ye hye
        have Te := hC.ty e ye hye
        split at ha
        · rename_i cs hcs
          split at ha
          · rename_i h2 hwr
            cases ha
            obtain ⟨cs', g1, g2⟩ := afirst_run (P := P) hcs hx H
            obtain ⟨w', f1, f2⟩ := awrite_run (P := P) hwr g2 hj H
            refine ⟨w', .int .i64 (Nat.min m dl), ?_, f2, .int _ _⟩
            simp only [Builtin.copy_, ht0, List.getElem?_toArray, List.getElem?_cons_zero, List.getElem?_cons_succ, Sem.run_bind, hdr, Result.andThen_ok, hln, Te.size, g1, f1, Sem.run_pure]
            rfl
          · cases ha
        · cases ha
      · cases ha
    · cases ha
  · cases ha

end
end Go.Sx
