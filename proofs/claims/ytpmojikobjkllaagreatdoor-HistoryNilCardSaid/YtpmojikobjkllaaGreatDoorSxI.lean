/- Part I: operations that write: a variable's store, a map's entry; a range over a map. -/
import Derived.Test.YtpmojikobjkllaaGreatDoorSxH
namespace Go.Sx
open Go
noncomputable section

/-- The outcomes of an operation: what it hands back, and the heap behind it. -/
abbrev Outs := List (AVal × T AObj × Nat)

/-- What an operation does is one of the outcomes. -/
def EffOK (P : Program) (B : Base) (r : BMap) (nx : Nat) (w : World) (s : Sem Next) (outs : Outs) : Prop :=
  ∃ a h' nx' r' w' v, (a, h', nx') ∈ outs ∧ (s.run P w = .ok (.value v) w' ∨ (s.run P w = .ok .skip w' ∧ v = undef)) ∧ Ext nx r r' ∧ nx ≤ nx' ∧ WR B r' h' nx' w' ∧ VR r' a v

def oneA : AVal → Bool
  | .agg _ | .tuple _ => false
  | _ => true

def oneAs : List AVal → Bool
  | [] => true
  | a :: l => oneA a && oneAs l

theorem oneA_VR {r : BMap} {a : AVal} {v : Value} (h : oneA a = true) (hv : VR r a v) : v.oneCell' = true := by
  cases hv <;> first | rfl | cases h

theorem setAll_length {α : Type} : ∀ (vs : List α) (cs : List α) (off : Nat), (setAll cs off vs).length = cs.length
  | [], _, _ => rfl
  | v :: vs, cs, off => by rw [setAll, setAll_length vs, List.length_set]

theorem setAll_append {α : Type} : ∀ (vs p s : List α) (off : Nat), off + vs.length ≤ p.length → setAll (p ++ s) off vs = setAll p off vs ++ s
  | [], _, _, _, _ => rfl
  | v :: vs, p, s, off, h => by
    simp only [List.length_cons] at h
    rw [setAll, setAll, List.set_append_left _ _ (by omega)]
    exact setAll_append vs (p.set off v) s (off + 1) (by rw [List.length_set]; omega)

theorem VRs.setAll {r : BMap} : ∀ {vs : List AVal} {vs' : List Value}, VRs r vs vs' → ∀ {cs : List AVal} {cs' : List Value} (off : Nat), VRs r cs cs' → VRs r (setAll cs off vs) (setAll cs' off vs')
  | _, _, .nil, _, _, _, h => h
  | _, _, .cons hv hs, _, _, off, h => VRs.setAll hs (off + 1) (h.set off hv)

/-- Writing within what the abstract block shows. -/
theorem row_setAll {r : BMap} {c vs : List AVal} {l vs' : List Value} {off : Nat} (h : VRs r c (l.take c.length)) (hv : VRs r vs vs') (ho : off + vs.length ≤ c.length) (hl : c.length ≤ l.length) :
    VRs r (setAll c off vs) ((setAll l off vs').take (setAll c off vs).length) := by
  rw [setAll_length]
  have e : l = l.take c.length ++ l.drop c.length := (List.take_append_drop _ _).symm
  have hlen : (l.take c.length).length = c.length := by rw [List.length_take]; omega
  have : setAll l off vs' = setAll (l.take c.length) off vs' ++ l.drop c.length := by
    conv => lhs; rw [e]
    exact setAll_append vs' _ _ off (by rw [hlen, ← hv.length]; exact ho)
  rw [this, List.take_append_of_le_length (by rw [setAll_length, hlen]; exact Nat.le_refl _), List.take_of_length_le (by rw [setAll_length, hlen]; exact Nat.le_refl _)]
  exact hv.setAll off h

/-- The world in which the cells of block j are cs, and all else as it was. -/
structure Put (w w' : World) (j : Nat) (o : Obj) : Prop where
  os : w'.os = w.os
  tape : w'.tape = w.tape
  output : w'.output = w.output
  size : w'.heap.size = w.heap.size
  at_ : w'.heap[j]? = some o
  other : ∀ k, k ≠ j → w'.heap[k]? = w.heap[k]?

theorem setCell_put {w : World} {j off : Nat} {c : Array Value} {t : TypeId} {v : Value} (hj : w.heap[j]? = some (.cells c t (0, 0))) :
    Put w (w.setCell ⟨j, off, none⟩ v) j (.cells (c.setIfInBounds off v) t (0, 0)) := by
  have hlt : j < w.heap.size := (Array.getElem?_eq_some_iff.1 hj).1
  have hg : w.heap[j] = .cells c t (0, 0) := (Array.getElem?_eq_some_iff.1 hj).2
  refine ⟨rfl, rfl, rfl, by simp [World.setCell], ?_, fun k hk => ?_⟩
  · simp [World.setCell, Array.getElem?_modify, hj]
  · simp only [World.setCell, Array.getElem?_modify]
    rw [if_neg (fun e => hk e.symm)]

theorem storeCells_run {P : Program} {j off : Nat} {t : TypeId} : ∀ (vs : List Value) (i : Nat) (w : World) (c : Array Value), w.heap[j]? = some (.cells c t (0, 0)) → (∀ v ∈ vs, v.oneCell' = true) →
    off + i + vs.length ≤ c.size → ∃ w' c', (storeCells ⟨j, off, none⟩ vs i).run P w = .ok () w' ∧ c'.toList = setAll c.toList (off + i) vs ∧ Put w w' j (.cells c' t (0, 0))
  | [], i, w, c, hj, _, _ => ⟨w, c, rfl, rfl, ⟨rfl, rfl, rfl, rfl, hj, fun _ _ => rfl⟩⟩
  | v :: vs, i, w, c, hj, hone, hle => by
    simp only [List.length_cons] at hle
    have hlt : off + i < c.size := by omega
    have hcell : w.cell? ⟨j, off + i, none⟩ = some c[off + i] := by rw [cell_of hj, Array.getElem?_eq_getElem hlt]
    have hp := setCell_put (off := off + i) (v := v) hj
    obtain ⟨w', c', h1, h2, h3⟩ := storeCells_run (P := P) (j := j) (off := off) (t := t) vs (i + 1) (w.setCell ⟨j, off + i, none⟩ v) (c.setIfInBounds (off + i) v) hp.at_ (fun u hu => hone u (List.mem_cons_of_mem _ hu)) (by simp; omega)
    refine ⟨w', c', ?_, ?_, ⟨h3.os.trans hp.os, h3.tape.trans hp.tape, h3.output.trans hp.output, h3.size.trans hp.size, h3.at_, fun k hk => (h3.other k hk).trans (hp.other k hk)⟩⟩
    · simp only [storeCells, Sem.run_bind, addr_add, run_store _ _ _ _ _ (hone v (List.mem_cons_self ..)), hcell, frozen_of hj, Bool.false_eq_true, if_false, Result.andThen_ok]
      exact h1
    · rw [h2, setAll, Array.toList_setIfInBounds]
      simp [Nat.add_assoc]

theorem oneAs_VRs {r : BMap} : ∀ {l : List AVal} {l' : List Value}, oneAs l = true → VRs r l l' → ∀ v ∈ l', v.oneCell' = true
  | _, _, _, .nil, v, hv => by cases hv
  | _, _, h, .cons ha hs, v, hv => by
    simp only [oneAs, Bool.and_eq_true] at h
    cases hv with
    | head => exact oneA_VR h.1 ha
    | tail _ hm => exact oneAs_VRs h.2 hs v hm

/-- Writing cells into a block. -/
def awrite (h : T AObj) (b off : Nat) (vs : List AVal) : Option (T AObj) :=
  if vs.isEmpty then some h
  else match h.get b with
    | some (.cells false es c t) => if off + vs.length ≤ c.length ∧ oneAs vs = true then some (h.set b (.cells false es (setAll c off vs) t)) else none
    | _ => none

theorem awrite_run {P : Program} {B : Base} {r : BMap} {h h' : T AObj} {nx b off j k : Nat} {vs : List AVal} {vs' : List Value} (ha : awrite h b off vs = some h') (hv : VRs r vs vs') (hj : r b = some (j, k))
    {w : World} (H : WR B r h nx w) : ∃ w', (storeCells ⟨j, off, none⟩ vs').run P w = .ok () w' ∧ WR B r h' nx w' := by
  unfold awrite at ha
  split at ha
  · rename_i he
    cases ha
    have : vs = [] := List.isEmpty_iff.1 he
    subst this
    cases hv
    exact ⟨w, rfl, H⟩
  · split at ha
    · rename_i es c t hb
      split at ha
      · rename_i hc
        cases ha
        obtain ⟨c', h1, h2, h3, h4⟩ := H.cells hb hj
        obtain ⟨w', c'', e1, e2, e3⟩ := storeCells_run (P := P) (off := off) vs' 0 w c' h1 (oneAs_VRs hc.2 hv) (by rw [← hv.length]; omega)
        refine ⟨w', e1, H.put (p' := .cells c'' t (0, 0)) hb hj rfl ?_ e3.os e3.tape e3.output e3.size e3.at_ e3.other⟩
        have hl2 : c''.size = c'.size := by
          have := congrArg List.length e2
          rw [setAll_length] at this
          simpa using this
        refine .cells (by rw [hl2, setAll_length]; exact h2) h3 ?_
        rw [e2]
        exact row_setAll h4 hv hc.1 (by simp; omega)
      · cases ha
    · cases ha

def astore (C : Cfg) (h : T AObj) (t : TypeId) (a v : AVal) : Option (T AObj) :=
  match a, C.ty.get t with
  | .ptr b off, some y => if (cellsOf v).length = y.size then awrite h b off (cellsOf v) else none
  | _, _ => none

theorem astore_run {P : Program} {C : Cfg} (hC : CfgOK P C) {B : Base} {r : BMap} {h h' : T AObj} {nx : Nat} {t : TypeId} {a v : AVal} {a' v' : Value} (hs : astore C h t a v = some h')
    (ha : VR r a a') (hv : VR r v v') {w : World} (H : WR B r h nx w) : ∃ w', (Instr.storeAt t a' v').run P w = .ok () w' ∧ WR B r h' nx w' := by
  unfold astore at hs
  split at hs
  · rename_i b off y hy
    have T := hC.ty t y hy
    obtain ⟨j, k, hj, rfl⟩ := ha.ptr_inv
    split at hs
    · rename_i hl
      obtain ⟨w', h1, h2⟩ := awrite_run (P := P) hs hv.cells hj H
      refine ⟨w', ?_, h2⟩
      have hsz : v'.cells.size = y.size := by rw [← hl, hv.cells.length]; simp
      simp only [Instr.storeAt, Instr.sureAddr, storeVar, Sem.run_bind, Sem.run_pure, Result.andThen_ok, T.size, hsz, ne_eq, not_true_eq_false, if_false, h1]
    · cases hs
  · cases hs

/-- A map's entries, one of them turned or a new one behind them. -/
def aput (P : Program) (kt : TypeId) (es : List AEnt) (clock : Nat) (kv : Value) (x : AVal) : Option (List AEnt × Nat) :=
  match srun P (Instr.checkKey false 10000 kt kv), afind P kt kv es with
  | some _, some (some i) => match es[i]? with
    | some e => if Instr.sameBits 10000 e.key kv = true then some (es.set i { key := kv, val := x, born := e.born }, clock) else none
    | none => none
  | some _, some none => some (es ++ [{ key := kv, val := x, born := clock }], clock + 1)
  | _, _ => none

theorem ERs.set {r : BMap} : ∀ {es : List AEnt} {es' : List MapEntry}, ERs r es es' → ∀ (i : Nat) {a : AEnt} {e : MapEntry}, e.key = a.key → e.born = a.born → VR r a.val e.val → ERs r (es.set i a) (es'.set i e)
  | _, _, .nil, _, _, _, _, _, _ => .nil
  | _, _, .cons _ _ _ hs, 0, _, _, hk, hb, hv => .cons hk hb hv hs
  | _, _, .cons hk' hb' hv' hs, i + 1, _, _, hk, hb, hv => .cons hk' hb' hv' (ERs.set hs i hk hb hv)

theorem ERs.snoc {r : BMap} : ∀ {es : List AEnt} {es' : List MapEntry}, ERs r es es' → ∀ {a : AEnt} {e : MapEntry}, e.key = a.key → e.born = a.born → VR r a.val e.val → ERs r (es ++ [a]) (es' ++ [e])
  | _, _, .nil, _, _, hk, hb, hv => .cons hk hb hv .nil
  | _, _, .cons hk' hb' hv' hs, _, _, hk, hb, hv => .cons hk' hb' hv' (ERs.snoc hs hk hb hv)

def amapUpdate (P : Program) (C : Cfg) (h : T AObj) (t : TypeId) (m k x : AVal) : Option (T AObj) :=
  match C.ty.get t, m, toV k with
  | some y, .map b, some kv => match y.kind, h.get b with
    | .map kt _, some (.map false es clock) => match aput P kt es clock kv x with
      | some (es', clock') => some (h.set b (.map false es' clock'))
      | none => none
    | _, _ => none
  | _, _, _ => none

theorem setObj_put {w : World} {j : Nat} {o o' : Obj} (hj : w.heap[j]? = some o) : Put w { w with heap := w.heap.setIfInBounds j o' } j o' := by
  have hlt : j < w.heap.size := (Array.getElem?_eq_some_iff.1 hj).1
  exact ⟨rfl, rfl, rfl, by simp, by simp [hlt], fun k hk => by simp [Array.getElem?_setIfInBounds_ne (Ne.symm hk)]⟩

theorem amapUpdate_run {P : Program} {C : Cfg} (hC : CfgOK P C) {B : Base} {r : BMap} {h h' : T AObj} {nx : Nat} {t : TypeId} {m k x : AVal} {mv kv xv : Value} (hs : amapUpdate P C h t m k x = some h')
    (hm : VR r m mv) (hk : VR r k kv) (hx : VR r x xv) {w : World} (H : WR B r h nx w) : ∃ w', (Instr.mapUpdate t mv kv xv).run P w = .ok () w' ∧ WR B r h' nx w' := by
  unfold amapUpdate at hs
  split at hs
  · rename_i y b kv' hy hkv
    have hkk := toV_VR _ _ _ hkv hk
    subst hkk
    obtain ⟨d, hd, _, hdr⟩ := (hC.ty t y hy).und
    obtain ⟨j, kk, hj, rfl⟩ := hm.map_inv
    split at hs
    · rename_i kt et es clock hkind hb
      rw [hkind] at hd
      obtain rfl := kndB_map hd
      obtain ⟨o', e1, e2⟩ := H.obj b _ j kk hb hj
      cases e2 with
      | map he =>
        rename_i es'
        split at hs
        · rename_i es2 clock2 hput
          cases hs
          have fin : ∀ (es2' : Array MapEntry), ERs r es2 es2'.toList → ∃ w', w' = { w with heap := w.heap.setIfInBounds j (.map es2' clock2) } ∧ WR B r (h.set b (.map false es2 clock2)) nx w' := fun es2' hE => by
            have hp := setObj_put (o' := .map es2' clock2) e1
            exact ⟨_, rfl, H.put hb hj rfl (.map hE) hp.os hp.tape hp.output hp.size hp.at_ hp.other⟩
          unfold aput at hput
          split at hput
          · rename_i u i hck hf
            obtain ⟨a, e, q1, q2, q3, q4, q5, q6⟩ := afind_run he hf
            rw [q1] at hput
            simp only at hput
            split at hput
            · rename_i hsb
              cases hput
              obtain ⟨w', hw, hwr⟩ := fin (es'.modify i fun e => { e with key := kv, val := xv }) (by
                have hlt : i < es'.toList.length := by
                  rcases Nat.lt_or_ge i es'.toList.length with g | g
                  · exact g
                  · rw [List.getElem?_eq_none g] at q2; cases q2
                have hmod : (es'.modify i fun e => { e with key := kv, val := xv }).toList = es'.toList.set i { e with key := kv, val := xv } := by
                  apply List.ext_getElem?
                  intro n
                  rw [Array.getElem?_toList, Array.getElem?_modify, List.getElem?_set]
                  by_cases hn : i = n
                  · subst hn
                    have q2' : es'[i]? = some e := by simpa using q2
                    simp at hlt
                    simp [hlt]
                    exact congrArg MapEntry.born (Array.getElem?_eq_some_iff.1 q2').2
                  · simp [hn]
                rw [hmod]
                exact he.set i rfl q5 hx)
              refine ⟨w', ?_, hwr⟩
              have hck' := srun_run hck w
              have hkey : ((es'[i]?).map (·.key)).getD kv = a.key := by
                have q2' : es'[i]? = some e := by simpa using q2
                simp [q2', q4]
              simp only [Instr.mapUpdate, Sem.run_bind, hdr, Result.andThen_ok, getObj, Sem.run, e1, hck', q6, hkey, Instr.keyThatStays, hsb, if_true, Sem.run_pure, setObj]
              rw [hw]
            · cases hput
          · rename_i u hck hf
            cases hput
            have q6 := afind_run he hf
            obtain ⟨w', hw, hwr⟩ := fin (es'.push { key := kv, val := xv, born := clock }) (by
              rw [Array.toList_push]
              exact he.snoc rfl rfl hx)
            refine ⟨w', ?_, hwr⟩
            have hck' := srun_run hck w
            simp only [Instr.mapUpdate, Sem.run_bind, hdr, Result.andThen_ok, getObj, Sem.run, e1, hck', q6, setObj]
            rw [hw]
          · cases hput
        · cases hs
    · cases hs
  · cases hs

/-! ### Ranging over a map -/
def arange (C : Cfg) (h : T AObj) (nx : Nat) (t : TypeId) (x : AVal) : Option (AVal × T AObj × Nat) :=
  match C.ty.get t with
  | some y => match y.kind, x with
    | .map _ _, .nilmap => some (.ptr nx 0, h.set nx (.iter none 0 [] 0), nx + 1)
    | .map _ _, .map b => match h.get b with
      | some (.map _ _ clock) => some (.ptr nx 0, h.set nx (.iter (some b) clock [] clock), nx + 1)
      | _ => none
    | _, _ => none
  | none => none

theorem arange_run {P : Program} {C : Cfg} (hC : CfgOK P C) {B : Base} {r : BMap} {h h' : T AObj} {nx nx' : Nat} {t : TypeId} {x a : AVal} {xv : Value} (hs : arange C h nx t x = some (a, h', nx'))
    (hx : VR r x xv) {w : World} (H : WR B r h nx w) : ∃ r' w' v, (Instr.range t xv).run P w = .ok v w' ∧ Ext nx r r' ∧ nx ≤ nx' ∧ WR B r' h' nx' w' ∧ VR r' a v := by
  unfold arange at hs
  split at hs
  · rename_i y hy
    obtain ⟨d, hd, _, hdr⟩ := (hC.ty t y hy).und
    split at hs
    · rename_i kt et hkind
      rw [hkind] at hd
      obtain rfl := kndB_map hd
      obtain rfl := hx.nilmap_inv
      cases hs
      have ho : OR r 0 (.iter none 0 [] 0) (.mapIter none 0 #[] 0) := .iter .none rfl
      refine ⟨_, _, .pointer (some ⟨w.heap.size, 0, none⟩), ?_, bind1_ext _ _ _ _ _ (Nat.le_refl _), Nat.le_succ _, H.alloc ho, .ptr (bind1_self _ _ _ _)⟩
      simp [Instr.range, hdr]
    · rename_i kt et b hkind
      rw [hkind] at hd
      obtain rfl := kndB_map hd
      obtain ⟨j, k, hj, rfl⟩ := hx.map_inv
      split at hs
      · rename_i ro es clock hb
        cases hs
        obtain ⟨o', e1, e2⟩ := H.obj b _ j k hb hj
        cases e2 with
        | map he =>
          have ho : OR r 0 (.iter (some b) clock [] clock) (.mapIter (some j) clock #[] clock) := .iter (.some hj) rfl
          refine ⟨_, _, .pointer (some ⟨w.heap.size, 0, none⟩), ?_, bind1_ext _ _ _ _ _ (Nat.le_refl _), Nat.le_succ _, H.alloc ho, .ptr (bind1_self _ _ _ _)⟩
          simp only [Instr.range, Sem.run_bind, hdr, Result.andThen_ok, getObj, Sem.run, e1, Sem.run_pure, run_newObj]
      · cases hs
    · cases hs
  · cases hs

/-- Which entries the next step of a range over a map may come to. -/
def acand (es : List AEnt) (since : Nat) (seen : List Nat) : List (Option AEnt) :=
  let left := es.filter fun e => !seen.contains e.born
  let old := left.filter fun e => decide (e.born < since)
  let new := left.filter fun e => decide (e.born ≥ since)
  (if old.isEmpty then [none] else []) ++ (old ++ new).map some

def candOut (h : T AObj) (nx b m since : Nat) (seen : List Nat) (clock : Nat) : Option AEnt → Option (AVal × T AObj × Nat)
  | none => some (.tuple [.bool false], h, nx)
  | some e => match ofV e.key with
    | some k => some (.tuple [.bool true, k, e.val], h.set b (.iter (some m) since (seen ++ [e.born]) clock), nx)
    | none => none

def candOuts (h : T AObj) (nx b m since : Nat) (seen : List Nat) (clock : Nat) : List (Option AEnt) → Option Outs
  | [] => some []
  | c :: l => match candOut h nx b m since seen clock c, candOuts h nx b m since seen clock l with
    | some o, some os => some (o :: os)
    | _, _ => none

def anext (h : T AObj) (nx : Nat) (x : AVal) : Option Outs :=
  match x with
  | .ptr b 0 => match h.get b with
    | some (.iter none _ _ _) => some [(.tuple [.bool false], h, nx)]
    | some (.iter (some m) since seen last) => match h.get m with
      | some (.map _ es clock) => if (!seen.isEmpty && !es.isEmpty && es.all fun e => decide (e.born ≥ last)) = true then none
        else candOuts h nx b m since seen clock (acand es since seen)
      | _ => none
    | _ => none
  | _ => none

theorem candOuts_get {h : T AObj} {nx b m since clock : Nat} {seen : List Nat} : ∀ {l : List (Option AEnt)} {os : Outs}, candOuts h nx b m since seen clock l = some os → ∀ {i : Nat} {c : Option AEnt}, l[i]? = some c →
    ∃ o, candOut h nx b m since seen clock c = some o ∧ o ∈ os
  | [], _, _, i, c, hc => by simp at hc
  | d :: l, os, hos, 0, c, hc => by
    simp at hc; subst hc
    simp only [candOuts] at hos
    split at hos
    · rename_i o os' e1 e2
      cases hos
      exact ⟨o, e1, List.mem_cons_self ..⟩
    · cases hos
  | d :: l, os, hos, i + 1, c, hc => by
    simp at hc
    simp only [candOuts] at hos
    split at hos
    · rename_i o os' e1 e2
      cases hos
      obtain ⟨o', f1, f2⟩ := candOuts_get e2 hc
      exact ⟨o', f1, List.mem_cons_of_mem _ f2⟩
    · cases hos

/-- Entries beside their fellows. -/
inductive CRs (r : BMap) : List (Option AEnt) → List (Option MapEntry) → Prop
  | nil : CRs r [] []
  | no {l : List (Option AEnt)} {l' : List (Option MapEntry)} (hs : CRs r l l') : CRs r (none :: l) (none :: l')
  | yes {a : AEnt} {e : MapEntry} {l : List (Option AEnt)} {l' : List (Option MapEntry)} (hk : e.key = a.key) (hb : e.born = a.born) (hv : VR r a.val e.val) (hs : CRs r l l') : CRs r (some a :: l) (some e :: l')

theorem CRs.length {r : BMap} : ∀ {l : List (Option AEnt)} {l' : List (Option MapEntry)}, CRs r l l' → l.length = l'.length
  | _, _, .nil => rfl
  | _, _, .no hs => congrArg (· + 1) hs.length
  | _, _, .yes _ _ _ hs => congrArg (· + 1) hs.length

theorem CRs.get {r : BMap} : ∀ {l : List (Option AEnt)} {l' : List (Option MapEntry)}, CRs r l l' → ∀ {i : Nat} {c' : Option MapEntry}, l'[i]? = some c' →
    (c' = none ∧ l[i]? = some none) ∨ ∃ a e, c' = some e ∧ l[i]? = some (some a) ∧ e.key = a.key ∧ e.born = a.born ∧ VR r a.val e.val
  | _, _, .nil, i, _, h => by simp at h
  | _, _, .no hs, 0, _, h => by simp at h; exact .inl ⟨h.symm, by simp⟩
  | _, _, .no hs, i + 1, _, h => by simp at h; simpa using CRs.get hs h
  | _, _, .yes (a := a) (e := e) hk hb hv hs, 0, _, h => by simp at h; exact .inr ⟨a, e, h.symm, by simp, hk, hb, hv⟩
  | _, _, .yes _ _ _ hs, i + 1, _, h => by simp at h; simpa using CRs.get hs h

theorem ERs.filter {r : BMap} {p : Nat → Bool} : ∀ {es : List AEnt} {es' : List MapEntry}, ERs r es es' → ERs r (es.filter fun e => p e.born) (es'.filter fun e => p e.born)
  | _, _, .nil => .nil
  | _, _, .cons hk hb hv hs => by
    simp only [List.filter_cons, hb]
    split
    · exact .cons hk hb hv (ERs.filter hs)
    · exact ERs.filter hs

theorem ERs.append {r : BMap} : ∀ {es fs : List AEnt} {es' fs' : List MapEntry}, ERs r es es' → ERs r fs fs' → ERs r (es ++ fs) (es' ++ fs')
  | _, _, _, _, .nil, h => h
  | _, _, _, _, .cons hk hb hv hs, h => .cons hk hb hv (ERs.append hs h)

theorem ERs.somes {r : BMap} : ∀ {es : List AEnt} {es' : List MapEntry}, ERs r es es' → CRs r (es.map some) (es'.map some)
  | _, _, .nil => .nil
  | _, _, .cons hk hb hv hs => .yes hk hb hv (ERs.somes hs)

theorem ERs.all {r : BMap} {p : Nat → Bool} : ∀ {es : List AEnt} {es' : List MapEntry}, ERs r es es' → (es'.all fun e => p e.born) = (es.all fun e => p e.born)
  | _, _, .nil => rfl
  | _, _, .cons _ hb _ hs => by simp only [List.all_cons, hb, ERs.all hs]

theorem ERs.empty {r : BMap} {es : List AEnt} {es' : List MapEntry} (h : ERs r es es') : es'.isEmpty = es.isEmpty := by cases h <;> rfl

theorem anext_run {P : Program} {B : Base} {r : BMap} {h : T AObj} {nx : Nat} {x : AVal} {xv : Value} {outs : Outs} {ty : TypeId} (hs : anext h nx x = some outs) (hx : VR r x xv) {w : World} (H : WR B r h nx w) :
    ∃ a h' v w', (a, h', nx) ∈ outs ∧ (Instr.next xv false ty).run P w = .ok v w' ∧ WR B r h' nx w' ∧ VR r a v := by
  unfold anext at hs
  split at hs
  · rename_i b
    obtain ⟨j, k, hj, rfl⟩ := hx.ptr_inv
    split at hs
    · rename_i since seen last hb
      cases hs
      obtain ⟨o', e1, e2⟩ := H.obj b _ j k hb hj
      cases e2 with
      | iter hm hse =>
        cases hm
        refine ⟨_, h, .tuple #[.bool false], w, List.mem_cons_self .., ?_, H, .tuple (.cons (.bool false) .nil)⟩
        simp [Instr.next, getObj, Sem.run, e1, bind, Sem.bind, pure]
    · rename_i m since seen last hb
      obtain ⟨o', e1, e2⟩ := H.obj b _ j k hb hj
      cases e2 with
      | iter hm hse =>
        cases hm with
        | some hm =>
          rename_i seen' jm km
          split at hs
          · rename_i ro es clock hmm
            obtain ⟨om, f1, f2⟩ := H.obj m _ jm km hmm hm
            cases f2 with
            | map he =>
              rename_i es'
              split at hs
              · cases hs
              · rename_i hcond
                -- the candidates on the other side
                let left' := es'.filter fun e => !seen'.contains e.born
                let old' := left'.filter fun e => decide (e.born < since)
                let new' := left'.filter fun e => decide (e.born ≥ since)
                let cand' : Array (Option MapEntry) := (if old'.isEmpty then #[none] else #[]) ++ (old' ++ new').map some
                have hcon : ∀ n, seen'.contains n = seen.contains n := fun n => by rw [← hse, Array.contains_toList]
                have hleft : ERs r (es.filter fun e => !seen.contains e.born) left'.toList := by
                  have h1 := ERs.filter (p := fun n => !seen.contains n) he
                  have h2 : left'.toList = es'.toList.filter fun e => !seen.contains e.born := by
                    show (es'.filter fun e => !seen'.contains e.born).toList = _
                    rw [Array.toList_filter]
                    simp only [hcon]
                  rw [h2]
                  exact h1
                have hold : ERs r ((es.filter fun e => !seen.contains e.born).filter fun e => decide (e.born < since)) old'.toList := by
                  have := ERs.filter (p := fun n => decide (n < since)) hleft
                  simpa [old'] using this
                have hnew : ERs r ((es.filter fun e => !seen.contains e.born).filter fun e => decide (e.born ≥ since)) new'.toList := by
                  have := ERs.filter (p := fun n => decide (n ≥ since)) hleft
                  simpa [new'] using this
                have hemp : old'.isEmpty = ((es.filter fun e => !seen.contains e.born).filter fun e => decide (e.born < since)).isEmpty := ERs.isEmpty hold
                have hcand : CRs r (acand es since seen) cand'.toList := by
                  have h1 := ERs.somes (hold.append hnew)
                  simp only [acand]
                  rw [← hemp]
                  have e : cand'.toList = (if old'.isEmpty = true then [none] else []) ++ (old'.toList ++ new'.toList).map some := by
                    show ((if old'.isEmpty = true then #[none] else #[]) ++ (old' ++ new').map some).toList = _
                    split <;> simp
                  rw [e]
                  split
                  · exact .no h1
                  · exact h1
                have hall : (es'.all fun e => decide (e.born ≥ last)) = (es.all fun e => decide (e.born ≥ last)) := by
                  rw [← Array.all_toList]; exact ERs.all (p := fun n => decide (n ≥ last)) he
                have hse0 : seen'.isEmpty = seen.isEmpty := by rw [← hse, Array.isEmpty_toList]
                have hcond' : ¬ ((!seen'.isEmpty && !es'.isEmpty && es'.all fun e => decide (e.born ≥ last)) = true) := by
                  rw [hse0, he.isEmpty, hall]; exact hcond
                -- the one that is drawn
                obtain ⟨i, w1, hi, hw1, hdraw⟩ : ∃ i w1, (cand'.size = 0 ∨ i < cand'.size) ∧ (∃ n, w1 = { w with drawn := n }) ∧ (choose (.mapNext cand'.size)).run P w = .ok i w1 := by
                  by_cases h1 : cand'.size ≤ 1
                  · refine ⟨0, w, by omega, ⟨w.drawn, rfl⟩, ?_⟩
                    simp [Question.forced, h1]
                  · refine ⟨(Question.mapNext cand'.size).cut (w.tape w.drawn (.mapNext cand'.size)), { w with drawn := w.drawn + 1 }, .inr ?_, ⟨w.drawn + 1, rfl⟩, ?_⟩
                    · simp only [Question.cut]
                      exact Nat.mod_lt _ (by omega)
                    · rw [run_choose]
                      simp only [Question.forced, h1, decide_false, Bool.false_eq_true, if_false]
                obtain ⟨n, rfl⟩ := hw1
                have hlen := hcand.length
                have hne : cand'.size ≠ 0 := by
                  intro h0
                  have : (acand es since seen).length = 0 := by rw [hlen]; simpa using h0
                  simp only [acand] at this
                  rw [List.length_append, List.length_map, List.length_append] at this
                  split at this
                  · simp at this
                  · rename_i hh
                    simp at this
                    exact hh (by simp; exact this.1)
                have hi' : i < cand'.size := by rcases hi with h0 | h0; exact (hne h0).elim; exact h0
                have hci : cand'.toList[i]? = some cand'[i] := by simp [hi']
                rcases hcand.get hci with ⟨c1, c2⟩ | ⟨a, e, c1, c2, c3, c4, c5⟩
                · obtain ⟨o, g1, g2⟩ := candOuts_get hs c2
                  simp [candOut] at g1
                  subst g1
                  refine ⟨_, _, .tuple #[.bool false], { w with drawn := n }, g2, ?_, H.drew n, .tuple (.cons (.bool false) .nil)⟩
                  have hget : cand'[i]? = some none := by rw [Array.getElem?_eq_getElem hi', c1]
                  simp only [Instr.next, Sem.run_bind, getObj, Sem.run, e1, Result.andThen_ok, f1, hcond', if_false, Bool.false_eq_true]
                  show ((choose (.mapNext cand'.size)).run P w).andThen _ = _
                  rw [hdraw]
                  show Sem.run P (match cand'[i]? with | some (some e) => _ | some none => _ | none => _) _ = _
                  rw [hget]
                  rfl
                · obtain ⟨o, g1, g2⟩ := candOuts_get hs c2
                  simp only [candOut] at g1
                  split at g1
                  · rename_i kk hkk
                    cases g1
                    have hp := setObj_put (w := { w with drawn := n }) (o' := .mapIter (some jm) since (seen'.push e.born) clock) e1
                    refine ⟨_, _, .tuple #[.bool true, e.key, e.val], _, g2, ?_, (H.drew n).put (p' := .mapIter (some jm) since (seen'.push e.born) clock) hb hj rfl (.iter (.some hm) (by simp [hse, c4])) hp.os hp.tape hp.output hp.size hp.at_ hp.other,
                      .tuple (.cons (.bool true) (.cons (by rw [c3]; exact ofV_VR hkk) (.cons c5 .nil)))⟩
                    have hget : cand'[i]? = some (some e) := by rw [Array.getElem?_eq_getElem hi', c1]
                    simp only [Instr.next, Sem.run_bind, getObj, Sem.run, e1, Result.andThen_ok, f1, hcond', if_false, Bool.false_eq_true]
                    show ((choose (.mapNext cand'.size)).run P w).andThen _ = _
                    rw [hdraw]
                    show Sem.run P (match cand'[i]? with | some (some e) => _ | some none => _ | none => _) _ = _
                    rw [hget]
                    simp only [Sem.run_bind, setObj, Sem.run, e1, Result.andThen_ok, Sem.run_pure]
                  · cases g1
          · cases hs
    · cases hs
  · cases hs

end
end Go.Sx
