/- Part G: operations that read memory, and operations that make a block. -/
import Derived.Test.YtpmojikobjkllaaGreatDoorSxF
namespace Go.Sx
open Go
noncomputable section

section
variable {B : Base} {r : BMap} {h : T AObj} {nx : Nat} {w : World}

theorem WR.cells (H : WR B r h nx w) {b j k : Nat} {ro : Bool} {es : Nat} {c : List AVal} {t : TypeId} (hb : h.get b = some (.cells ro es c t)) (hj : r b = some (j, k)) :
    ∃ c' : Array Value, w.heap[j]? = some (.cells c' t (0, 0)) ∧ c'.size = c.length + k * es ∧ (es = 0 → k = 0) ∧ VRs r c (c'.toList.take c.length) := by
  obtain ⟨o', h1, h2⟩ := H.obj b _ j k hb hj
  cases h2 with
  | cells hs he hv => exact ⟨_, h1, hs, he, hv⟩

theorem cell_of {j off : Nat} {c' : Array Value} {t : TypeId} (hj : w.heap[j]? = some (.cells c' t (0, 0))) : w.cell? ⟨j, off, none⟩ = c'[off]? := by
  simp [World.cell?, hj]

theorem frozen_of {j off : Nat} {c' : Array Value} {t : TypeId} (hj : w.heap[j]? = some (.cells c' t (0, 0))) : w.frozen? ⟨j, off, none⟩ = false := by
  simp [World.frozen?, hj]

theorem load_of {P : Program} {j off : Nat} {c' : Array Value} {t : TypeId} {v : Value} (hj : w.heap[j]? = some (.cells c' t (0, 0))) (hv : c'[off]? = some v) :
    (load ⟨j, off, none⟩).run P w = .ok v w := by
  rw [run_load, cell_of hj, hv]

theorem loadCellsFrom_of {P : Program} {j off : Nat} {c' : Array Value} {t : TypeId} (hj : w.heap[j]? = some (.cells c' t (0, 0))) :
    ∀ (n i : Nat) (acc : Array Value), off + i + n ≤ c'.size → (loadCellsFrom ⟨j, off, none⟩ i n acc).run P w = .ok (acc ++ (((c'.toList.drop (off + i)).take n).toArray)) w := by
  intro n
  induction n with
  | zero => intro i acc _; simp [loadCellsFrom]
  | succ n ih =>
    intro i acc hle
    have hlt : off + i < c'.size := by omega
    have hv : c'[off + i]? = some c'[off + i] := Array.getElem?_eq_getElem hlt
    simp only [loadCellsFrom, Sem.run_bind, addr_add, load_of hj hv, Result.andThen_ok]
    rw [ih (i + 1) _ (by omega)]
    congr 1
    apply Array.toList_inj.1
    have : (c'.toList.drop (off + i)).take (n + 1) = c'[off + i] :: (c'.toList.drop (off + (i + 1))).take n := by
      rw [List.drop_eq_getElem_cons (by simpa using hlt), List.take_succ_cons]
      simp [Nat.add_assoc]
    simp [this]

end

def seg (c : List AVal) (off n : Nat) : Option (List AVal) :=
  let p := (c.drop off).take n
  if p.length = n then some p else none

theorem seg_len {c p : List AVal} {off n : Nat} (h : seg c off n = some p) : p.length = n ∧ (n = 0 ∨ off + n ≤ c.length) := by
  unfold seg at h
  simp only at h
  split at h
  · rename_i e
    cases h
    refine ⟨e, ?_⟩
    rw [List.length_take, List.length_drop] at e
    omega
  · cases h

theorem seg_VRs {r : BMap} {c p : List AVal} {off n : Nat} (h : seg c off n = some p) {c' : List Value} (hv : VRs r c (c'.take c.length)) : VRs r p ((c'.drop off).take n) := by
  have hl := seg_len h
  unfold seg at h
  simp only at h
  split at h
  · cases h
    have := (hv.drop off).take n
    rcases hl.2 with e | e
    · subst e; simp; exact .nil
    · have e2 : ((c'.take c.length).drop off).take n = (c'.drop off).take n := by
        rw [List.drop_take, List.take_take]
        congr 1
        omega
      rwa [e2] at this
  · cases h

def aload (C : Cfg) (h : T AObj) (t : TypeId) (a : AVal) : Option AVal :=
  match a, C.ty.get t with
  | .ptr b off, some y =>
    if y.agg then
      if y.size = 0 then some (.agg [])
      else match h.get b with
        | some (.cells _ _ c _) => match seg c off y.size with
          | some p => some (.agg p)
          | none => none
        | _ => none
    else match h.get b with
      | some (.cells _ _ c _) => c[off]?
      | _ => none
  | _, _ => none

theorem aload_run {P : Program} {C : Cfg} (hC : CfgOK P C) {B : Base} {r : BMap} {h : T AObj} {nx : Nat} {t : TypeId} {a c : AVal} {v : Value} (hl : aload C h t a = some c) (hv : VR r a v)
    {w : World} (H : WR B r h nx w) : ∃ v', (Instr.loadAt t v).run P w = .ok v' w ∧ VR r c v' := by
  unfold aload at hl
  split at hl
  · rename_i b off y hy
    have T := hC.ty t y hy
    obtain ⟨j, k, hj, rfl⟩ := hv.ptr_inv
    split at hl
    · rename_i hagg
      split at hl
      · rename_i hz
        cases hl
        refine ⟨.agg #[], ?_, .agg .nil⟩
        simp [Instr.loadAt, Instr.sureAddr, loadVar, T.agg, hagg, T.size, hz, loadCells, loadCellsFrom]
      · split at hl
        · rename_i ro es cs tt hb
          split at hl
          · rename_i p hp
            cases hl
            obtain ⟨c', h1, h2, _, h4⟩ := H.cells hb hj
            have hsl := seg_len hp
            refine ⟨.agg ((c'.toList.drop off).take y.size).toArray, ?_, .agg (by simpa using seg_VRs hp h4)⟩
            have := loadCellsFrom_of (P := P) h1 (off := off) y.size 0 #[] (by rcases hsl.2 with e | e <;> omega)
            simp only [Instr.loadAt, Instr.sureAddr, loadVar, Sem.run_bind, Sem.run_pure, Result.andThen_ok, T.agg, hagg, if_true, T.size, loadCells, this]
            simp
          · cases hl
        · cases hl
    · rename_i hagg
      have hagg' : y.agg = false := by simpa using hagg
      split at hl
      · rename_i ro es cs tt hb
        obtain ⟨c', h1, h2, _, h4⟩ := H.cells hb hj
        obtain ⟨v', h5, h6⟩ := h4.get hl
        refine ⟨v', ?_, h6⟩
        have h7 : c'[off]? = some v' := by
          rw [List.getElem?_take] at h5
          split at h5
          · simpa using h5
          · cases h5
        simp only [Instr.loadAt, Instr.sureAddr, loadVar, Sem.run_bind, Sem.run_pure, Result.andThen_ok, T.agg, hagg', Bool.false_eq_true, if_false, load_of h1 h7]
      · cases hl
  · cases hl

/-! ### Maps -/
theorem srun_bind {α β : Type} {P : Program} : ∀ {x : Sem α} {f : α → Sem β} {b : β}, srun P (x >>= f) = some b → ∃ a, srun P x = some a ∧ srun P (f a) = some b
  | .pure a, _, _, h => ⟨a, rfl, h⟩
  | .program k, _, _, h => srun_bind (x := k P) h
  | .mark _ k, _, _, h => srun_bind (x := k) h
  | .load .., _, _, h => by cases h
  | .store .., _, _, h => by cases h
  | .new .., _, _, h => by cases h
  | .shape .., _, _, h => by cases h
  | .freeze .., _, _, h => by cases h
  | .frozen .., _, _, h => by cases h
  | .getObj .., _, _, h => by cases h
  | .setObj .., _, _, h => by cases h
  | .choose .., _, _, h => by cases h
  | .sys .., _, _, h => by cases h
  | .halt .., _, _, h => by cases h

def bare (e : AEnt) : MapEntry := { key := e.key, val := .nilFunc, born := e.born }

/-- The place of a key among a map's entries. -/
def afind (P : Program) (kt : TypeId) (k : Value) (es : List AEnt) : Option (Option Nat) :=
  match srun P (Instr.findKey kt k (es.map bare)) with
  | some (some (i, _)) => some (some i)
  | some none => some none
  | none => none

theorem findNow_keys {r : BMap} {kind : TypeDesc} {k : Value} : ∀ {es : List AEnt} {es' : List MapEntry}, ERs r es es' → ∀ (i : Nat),
    (Instr.findNow kind k (es.map bare) i = none → Instr.findNow kind k es' i = none) ∧
    (Instr.findNow kind k (es.map bare) i = some none → Instr.findNow kind k es' i = some none) ∧
    (∀ n u, Instr.findNow kind k (es.map bare) i = some (some (n, u)) → i ≤ n ∧ ∃ a e, es[n - i]? = some a ∧ es'[n - i]? = some e ∧ VR r a.val e.val ∧ e.key = a.key ∧ e.born = a.born ∧ Instr.findNow kind k es' i = some (some (n, e.val)))
  | _, _, .nil, i => ⟨fun h => by simp [Instr.findNow] at h, fun _ => rfl, fun n u h => by simp [Instr.findNow] at h⟩
  | a :: es, e :: es', .cons hk hb hv hs, i => by
    simp only [List.map_cons, Instr.findNow, bare, hk]
    cases hsn : Instr.sameNow kind k a.key with
    | none => exact ⟨fun _ => rfl, fun h => h, fun n u h => by cases h⟩
    | some bb =>
      cases bb with
      | true =>
        refine ⟨(fun h => by cases h), (fun h => by simp at h), fun n u h => ?_⟩
        simp at h
        obtain ⟨rfl, _⟩ := h
        exact ⟨Nat.le_refl _, a, e, by simp, by simp, hv, hk, hb, rfl⟩
      | false =>
        obtain ⟨h1, h2, h3⟩ := findNow_keys hs (i + 1)
        refine ⟨h1, h2, fun n u h => ?_⟩
        obtain ⟨hn, a', e', q1, q2, q3, q4, q5, q6⟩ := h3 n u h
        have : n - i = (n - (i + 1)) + 1 := by omega
        exact ⟨by omega, a', e', by rw [this]; simpa using q1, by rw [this]; simpa using q2, q3, q4, q5, q6⟩

theorem findAsking_keys {P : Program} {r : BMap} {kt : TypeId} {k : Value} : ∀ {es : List AEnt} {es' : List MapEntry}, ERs r es es' → ∀ (i : Nat),
    (srun P (Instr.findAsking kt k (es.map bare) i) = some none → ∀ w, (Instr.findAsking kt k es' i).run P w = .ok none w) ∧
    (∀ n u, srun P (Instr.findAsking kt k (es.map bare) i) = some (some (n, u)) → i ≤ n ∧ ∃ a e, es[n - i]? = some a ∧ es'[n - i]? = some e ∧ VR r a.val e.val ∧ e.key = a.key ∧ e.born = a.born ∧
      ∀ w, (Instr.findAsking kt k es' i).run P w = .ok (some (n, e.val)) w)
  | _, _, .nil, i => ⟨fun _ _ => rfl, fun n u h => by simp [Instr.findAsking, srun, pure] at h⟩
  | a :: es, e :: es', .cons hk hb hv hs, i => by
    obtain ⟨h1, h2⟩ := findAsking_keys (P := P) (kt := kt) (k := k) hs (i + 1)
    simp only [List.map_cons, Instr.findAsking, bare, hk]
    constructor
    · intro h
      obtain ⟨bb, e1, e2⟩ := srun_bind h
      cases bb with
      | true => simp [srun, pure] at e2
      | false =>
        intro w
        rw [Sem.run_bind, srun_run e1]
        exact h1 e2 w
    · intro n u h
      obtain ⟨bb, e1, e2⟩ := srun_bind h
      cases bb with
      | true =>
        simp [srun, pure] at e2
        obtain ⟨rfl, _⟩ := e2
        refine ⟨Nat.le_refl _, a, e, by simp, by simp, hv, hk, hb, fun w => ?_⟩
        rw [Sem.run_bind, srun_run e1]
        rfl
      | false =>
        obtain ⟨hn, a', e', q1, q2, q3, q4, q5, q6⟩ := h2 n u e2
        have : n - i = (n - (i + 1)) + 1 := by omega
        refine ⟨by omega, a', e', by rw [this]; simpa using q1, by rw [this]; simpa using q2, q3, q4, q5, fun w => ?_⟩
        rw [Sem.run_bind, srun_run e1]
        exact q6 w

theorem afind_run {P : Program} {r : BMap} {kt : TypeId} {k : Value} {es : List AEnt} {es' : List MapEntry} (he : ERs r es es') {y : Option Nat} (h : afind P kt k es = some y) :
    match y with
    | none => ∀ w, (Instr.findKey kt k es').run P w = .ok none w
    | some i => ∃ a e, es[i]? = some a ∧ es'[i]? = some e ∧ VR r a.val e.val ∧ e.key = a.key ∧ e.born = a.born ∧ ∀ w, (Instr.findKey kt k es').run P w = .ok (some (i, e.val)) w := by
  unfold afind at h
  split at h
  · rename_i i u e1
    cases h
    simp only [Instr.findKey] at e1 ⊢
    obtain ⟨d, g1, g2⟩ := srun_bind e1
    obtain ⟨f1, f2, f3⟩ := findNow_keys (kind := d) (k := k) he 0
    obtain ⟨_, a2⟩ := findAsking_keys (P := P) (kt := kt) (k := k) he 0
    split at g2
    · rename_i rr hrr
      simp [srun, pure] at g2
      subst g2
      obtain ⟨_, a, e, q1, q2, q3, q4, q5, q6⟩ := f3 _ _ hrr
      refine ⟨a, e, by simpa using q1, by simpa using q2, q3, q4, q5, fun w => ?_⟩
      rw [Sem.run_bind, srun_run g1]
      simp only [Result.andThen_ok, q6]
      rfl
    · rename_i hrr
      obtain ⟨_, a, e, q1, q2, q3, q4, q5, q6⟩ := a2 _ _ g2
      refine ⟨a, e, by simpa using q1, by simpa using q2, q3, q4, q5, fun w => ?_⟩
      rw [Sem.run_bind, srun_run g1]
      simp only [Result.andThen_ok, f1 hrr]
      exact q6 w
  · rename_i e1
    cases h
    simp only [Instr.findKey] at e1 ⊢
    obtain ⟨d, g1, g2⟩ := srun_bind e1
    obtain ⟨f1, f2, f3⟩ := findNow_keys (kind := d) (k := k) he 0
    obtain ⟨a1, _⟩ := findAsking_keys (P := P) (kt := kt) (k := k) he 0
    split at g2
    · rename_i rr hrr
      simp [srun, pure] at g2
      subst g2
      intro w
      rw [Sem.run_bind, srun_run g1]
      simp only [Result.andThen_ok, f2 hrr]
      rfl
    · rename_i hrr
      intro w
      rw [Sem.run_bind, srun_run g1]
      simp only [Result.andThen_ok, f1 hrr]
      exact a1 g2 w
  · cases h

theorem ERs.length {r : BMap} : ∀ {l : List AEnt} {l' : List MapEntry}, ERs r l l' → l.length = l'.length
  | _, _, .nil => rfl
  | _, _, .cons _ _ _ hs => congrArg (· + 1) hs.length

theorem ERs.isEmpty {r : BMap} {l : List AEnt} {l' : Array MapEntry} (h : ERs r l l'.toList) : l'.isEmpty = l.isEmpty := by
  have := h.length
  rw [Bool.eq_iff_iff, Array.isEmpty_iff_size_eq_zero, List.isEmpty_iff_length_eq_zero]
  simp at this
  omega

/-- What a lookup hands back, the entries being at hand. -/
def alook (P : Program) (C : Cfg) (kt et : TypeId) (es : List AEnt) (kv : Value) (ok : Bool) : Option AVal :=
  match srun P (Instr.checkKey es.isEmpty 10000 kt kv), afind P kt kv es with
  | some _, some (some i) => match es[i]? with
    | some e => some (if ok then .tuple [e.val, .bool true] else e.val)
    | none => none
  | some _, some none => match C.ty.get et with
    | some ye => match ye.zeroA with
      | some z => some (if ok then .tuple [z, .bool false] else z)
      | none => none
    | none => none
  | _, _ => none

theorem alook_run {P : Program} {C : Cfg} (hC : CfgOK P C) {r : BMap} {kt et : TypeId} {es : List AEnt} {es' : Array MapEntry} (hE : ERs r es es'.toList) {kv : Value} {ok : Bool} {c : AVal}
    (hl : alook P C kt et es kv ok = some c) (w : World) : ∃ v', (do
      Instr.checkKey es'.isEmpty 10000 kt kv
      let (v, ok') ← match ← Instr.findKey kt kv es'.toList with
        | some (_, v) => pure (v, true)
        | none => pure (← zeroValue et, false)
      pure (if ok then .tuple #[v, .bool ok'] else v) : Sem Value).run P w = .ok v' w ∧ VR r c v' := by
  unfold alook at hl
  split at hl
  · rename_i u i hck hf
    obtain ⟨a, e, q1, q2, q3, q4, q5, q6⟩ := afind_run hE hf
    rw [q1] at hl
    simp at hl
    subst hl
    have hck' := srun_run hck w
    rw [← hE.isEmpty] at hck'
    refine ⟨if ok then .tuple #[e.val, .bool true] else e.val, ?_, ?_⟩
    · simp only [Sem.run_bind, hck', Result.andThen_ok, q6, Sem.run_pure]
    · cases ok
      · exact q3
      · exact .tuple (.cons q3 (.cons (.bool true) .nil))
  · rename_i u hck hf
    have q6 := afind_run hE hf
    split at hl
    · rename_i ye hye
      obtain ⟨z, hz, hzr⟩ := (hC.ty et ye hye).zero
      split at hl
      · rename_i z' hz'
        cases hl
        have hck' := srun_run hck w
        rw [← hE.isEmpty] at hck'
        refine ⟨if ok then .tuple #[z, .bool false] else z, ?_, ?_⟩
        · simp only [Sem.run_bind, hck', Result.andThen_ok, q6, Sem.run_pure, hzr]
        · cases ok
          · exact zeroB_value hz hz' r
          · exact .tuple (.cons (zeroB_value hz hz' r) (.cons (.bool false) .nil))
      · cases hl
    · cases hl
  · cases hl

def alookup (P : Program) (C : Cfg) (h : T AObj) (t : TypeId) (m k : AVal) (ok : Bool) : Option AVal :=
  match C.ty.get t, toV k with
  | some y, some kv => match y.kind, m with
    | .map kt et, .nilmap => alook P C kt et [] kv ok
    | .map kt et, .map b => match h.get b with
      | some (.map _ es _) => alook P C kt et es kv ok
      | _ => none
    | _, _ => none
  | _, _ => none

theorem alookup_run {P : Program} {C : Cfg} (hC : CfgOK P C) {B : Base} {r : BMap} {h : T AObj} {nx : Nat} {t : TypeId} {m k c : AVal} {ok : Bool} {mv kv : Value} (hl : alookup P C h t m k ok = some c)
    (hm : VR r m mv) (hk : VR r k kv) {w : World} (H : WR B r h nx w) : ∃ v', (Instr.lookup t mv kv ok).run P w = .ok v' w ∧ VR r c v' := by
  unfold alookup at hl
  split at hl
  · rename_i y kv' hy hkv
    have hkk := toV_VR _ _ _ hkv hk
    subst hkk
    obtain ⟨d, hd, _, hdr⟩ := (hC.ty t y hy).und
    split at hl
    · rename_i kt et hkind
      rw [hkind] at hd
      obtain rfl := kndB_map hd
      obtain rfl := hm.nilmap_inv
      obtain ⟨v', h1, h2⟩ := alook_run hC (es' := #[]) .nil hl w
      refine ⟨v', ?_, h2⟩
      simp only [Instr.lookup, Sem.run_bind, hdr, Result.andThen_ok, Sem.run_pure] at h1 ⊢
      exact h1
    · rename_i kt et b hkind
      rw [hkind] at hd
      obtain rfl := kndB_map hd
      obtain ⟨j, kk, hj, rfl⟩ := hm.map_inv
      split at hl
      · rename_i ro es clock hb
        obtain ⟨o', e1, e2⟩ := H.obj b _ j kk hb hj
        cases e2 with
        | map he =>
          obtain ⟨v', h1, h2⟩ := alook_run hC he hl w
          refine ⟨v', ?_, h2⟩
          simp only [Instr.lookup, Sem.run_bind, hdr, Result.andThen_ok, getObj, Sem.run, e1, Sem.run_pure] at h1 ⊢
          exact h1
      · cases hl
    · cases hl
  · cases hl

def aentry (h : T AObj) (a : AVal) : Option AVal :=
  match a with
  | .ptr b 0 => match h.get b with
    | some (.iter (some m) _ seen stepped) => match seen.getLast?, h.get m with
      | some stamp, some (.map _ es clock) => if clock = stepped then
          match es.find? (fun e => e.born == stamp) with
          | some e => match ofV e.key with
            | some k => some (.tuple [k, e.val])
            | none => none
          | none => none
        else none
      | _, _ => none
    | _ => none
  | _ => none

theorem ERs.find {r : BMap} {stamp : Nat} : ∀ {es : List AEnt} {es' : List MapEntry}, ERs r es es' → ∀ {a : AEnt}, es.find? (fun e => e.born == stamp) = some a →
    ∃ e, es'.find? (fun e => e.born == stamp) = some e ∧ e.key = a.key ∧ VR r a.val e.val
  | _, _, .nil, a, h => by simp at h
  | b :: es, e :: es', .cons hk hb hv hs, a, h => by
    rw [List.find?_cons] at h ⊢
    rw [hb]
    split at h
    · cases h; exact ⟨e, rfl, hk, hv⟩
    · exact ERs.find hs h

theorem aentry_run {P : Program} {B : Base} {r : BMap} {h : T AObj} {nx : Nat} {a c : AVal} {v : Value} (hl : aentry h a = some c) (hv : VR r a v) {w : World} (H : WR B r h nx w) :
    ∃ v', (Instr.entry v).run P w = .ok v' w ∧ VR r c v' := by
  unfold aentry at hl
  split at hl
  · rename_i b
    obtain ⟨j, k, hj, rfl⟩ := hv.ptr_inv
    split at hl
    · rename_i m since seen stepped hb
      obtain ⟨o', e1, e2⟩ := H.obj b _ j k hb hj
      cases e2 with
      | iter hm hs =>
        cases hm with
        | some hm =>
          rename_i seen' jm km
          split at hl
          · rename_i stamp ro es clock hst hmm
            obtain ⟨om, f1, f2⟩ := H.obj m _ jm km hmm hm
            cases f2 with
            | map he =>
              rename_i es'
              split at hl
              · rename_i hcs
                split at hl
                · rename_i e hfe
                  split at hl
                  · rename_i kk hkk
                    cases hl
                    obtain ⟨e', g1, g2, g3⟩ := ERs.find he hfe
                    refine ⟨.tuple #[e'.key, e'.val], ?_, .tuple (.cons (by rw [g2]; exact ofV_VR hkk) (.cons g3 .nil))⟩
                    have hback : seen'.back? = some stamp := by
                      rw [← Array.getLast?_toList, hs]; exact hst
                    have hfind : es'.find? (fun e => e.born == stamp) = some e' := by
                      rw [← Array.find?_toList]; exact g1
                    simp [Instr.entry, getObj, Sem.run, e1, hback, f1, hcs, hfind, bind, Sem.bind, pure]
                  · cases hl
                · cases hl
              · cases hl
          · cases hl
    · cases hl
  · cases hl

end
end Go.Sx
