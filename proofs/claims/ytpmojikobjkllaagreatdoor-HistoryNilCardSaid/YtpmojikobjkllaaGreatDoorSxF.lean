/- Part F: what an operation that asks nothing of memory hands back; what one that only reads hands back; what one that makes a block makes. -/
import Derived.Test.YtpmojikobjkllaaGreatDoorSxE
namespace Go.Sx
open Go
noncomputable section

def aconv (P : Program) (s d : TypeId) (a : AVal) : Option AVal :=
  match toV a with
  | some v => match srun P (convert s d v) with
    | some u => ofV u
    | none => none
  | none => none

def aunop (P : Program) (op : UnOp) (a : AVal) : Option AVal :=
  match toV a with
  | some v => match srun P (Op.unary op v) with
    | some u => ofV u
    | none => none
  | none => none

def aminmax (P : Program) (mx : Bool) (l : List AVal) : Option AVal :=
  match toVs l with
  | some vs => match srun P (if mx then Builtin.max_ #[] 0 vs.toArray else Builtin.min_ #[] 0 vs.toArray) with
    | some u => ofV u
    | none => none
  | none => none

def aassert (C : Cfg) (t : TypeId) (ok : Bool) (a : AVal) : Option AVal :=
  match C.ty.get t with
  | some y => match y.kind, a with
    | .iface, _ => none
    | .other, _ => none
    | _, .iface t' v => if t' = t then some (if ok then .tuple [v, .bool true] else v)
      else if ok then (match y.zeroA with | some z => some (.tuple [z, .bool false]) | none => none) else none
    | _, .niliface => if ok then (match y.zeroA with | some z => some (.tuple [z, .bool false]) | none => none) else none
    | _, _ => none
  | none => none

theorem aassert_run {P : Program} {C : Cfg} (hC : CfgOK P C) {r : BMap} {t xt : TypeId} {ok : Bool} {a c : AVal} {v : Value} (h : aassert C t ok a = some c) (hv : VR r a v) :
    ∃ v', (∀ w, (Instr.typeAssert v xt t ok).run P w = .ok v' w) ∧ VR r c v' := by
  unfold aassert at h
  split at h
  · rename_i y hy
    have T := hC.ty t y hy
    obtain ⟨d, hd, _, hdr⟩ := T.und
    obtain ⟨z, hz, hzr⟩ := T.zero
    split at h
    · cases h
    · cases h
    · rename_i k t' u hk1 hk2
      have hni : ∀ ms, d ≠ .interface ms := by
        rintro ms rfl
        cases hkk : y.kind <;> rw [hkk] at hd <;> simp [kndB] at hd
        · exact hk2 hkk
        · exact hk1 hkk
      obtain ⟨v', rfl, hv'⟩ := hv.iface_inv
      split at h
      · rename_i e
        subst e
        cases h
        cases ok
        · refine ⟨v', fun w => ?_, by simpa using hv'⟩
          cases d <;> first | exact (hni _ rfl).elim | simp [Instr.typeAssert, hdr]
        · refine ⟨.tuple #[v', .bool true], fun w => ?_, by simpa using VR.tuple (.cons hv' (.cons (.bool true) .nil))⟩
          cases d <;> first | exact (hni _ rfl).elim | simp [Instr.typeAssert, hdr]
      · rename_i hne
        split at h
        · rename_i hok
          subst hok
          split at h
          · rename_i z' hz'
            cases h
            refine ⟨.tuple #[z, .bool false], fun w => ?_, .tuple (.cons (zeroB_value hz hz' r) (.cons (.bool false) .nil))⟩
            cases d <;> first | exact (hni _ rfl).elim | simp [Instr.typeAssert, hdr, hne, hzr]
          · cases h
        · cases h
    · rename_i k hk1 hk2
      have hni : ∀ ms, d ≠ .interface ms := by
        rintro ms rfl
        cases hkk : y.kind <;> rw [hkk] at hd <;> simp [kndB] at hd
        · exact hk2 hkk
        · exact hk1 hkk
      obtain rfl := hv.niliface_inv
      split at h
      · rename_i hok
        subst hok
        split at h
        · rename_i z' hz'
          cases h
          refine ⟨.tuple #[z, .bool false], fun w => ?_, .tuple (.cons (zeroB_value hz hz' r) (.cons (.bool false) .nil))⟩
          cases d <;> first | exact (hni _ rfl).elim | simp [Instr.typeAssert, hdr, hzr]
        · cases h
      · cases h
    · cases h
  · cases h

def apure (P : Program) (C : Cfg) (ev : Ev) : Op → Option AVal
  | .move x => ev x
  | .pick c a b => match ev c with
    | some (.bool true) => ev a
    | some (.bool false) => ev b
    | _ => none
  | .build t parts => match evParts ev parts.toList with
    | some ps => abuild C t ps
    | none => none
  | .nilCheck x => match ev x with
    | some (.ptr b o) => some (.ptr b o)
    | some (.iface t v) => some (.iface t v)
    | some (.func f a b) => some (.func f a b)
    | some (.yield l) => some (.yield l)
    | some (.map b) => some (.map b)
    | some .nilmap => some .nilmap
    | _ => none
  | .binOp op t x y _ => match ev x, ev y with
    | some a, some b => abin P C op t x y a b
    | _, _ => none
  | .unOp op _ x => match ev x with
    | some a => aunop P op a
    | none => none
  | .convert s d x => match ev x with
    | some a => aconv P s d a
    | none => none
  | .makeInterface t x => match ev x, C.ty.get t with
    | some a, some y => match y.kind with
      | .iface | .other => none
      | _ => some (.iface t a)
    | _, _ => none
  | .makeFunc fn first caps => match fn, evs ev first.toList, evs ev caps.toList with
    | .func f, some l, some m => some (.func f l m)
    | _, _, _ => none
  | .slice t x lo hi mx => aslice C ev t x lo hi mx
  | .fieldAddr s x f => match ev x with
    | some a => afieldAddr C s a f
    | none => none
  | .field t x f => match ev x with
    | some a => afield C t a f
    | none => none
  | .indexAddr t x i => match ev x, ev i with
    | some a, some b => aindexAddr C t a b
    | _, _ => none
  | .index t x i => match ev x, ev i with
    | some a, some b => aindex C t a b
    | _, _ => none
  | .typeAssert x _ t ok => match ev x with
    | some a => aassert C t ok a
    | none => none
  | .extract x i => match ev x with
    | some (.tuple vs) => vs[i]?
    | _ => none
  | .call { callee := .builtin .len, args, argTypes } => match args.toList, argTypes[0]? with
    | [x], some t => match ev x with
      | some a => alen C t a
      | none => none
    | _, _ => none
  | .call { callee := .builtin .min, args, .. } => match evs ev args.toList with
    | some l => aminmax P false l
    | none => none
  | .call { callee := .builtin .max, args, .. } => match evs ev args.toList with
    | some l => aminmax P true l
    | none => none
  | _ => none

theorem apure_run {P : Program} {C : Cfg} (hC : CfgOK P C) {r : BMap} {ev : Ev} {q : Operand → Value} (hq : EvR r ev q) {o : Oper} {a : AVal} (h : apure P C ev o.op = some a) :
    ∃ v, (∀ w, (execOp q o).run P w = .ok (.value v) w) ∧ VR r a v := by
  have lift : ∀ {s : Sem Value} {v : Value} {c : AVal}, (∀ w, s.run P w = .ok v w) → VR r c v → ∃ v, (∀ w, (do pure (.value (← s)) : Sem Next).run P w = .ok (.value v) w) ∧ VR r c v :=
    fun {s v c} h1 h2 => ⟨v, fun w => by rw [Sem.run_bind, h1]; rfl, h2⟩
  obtain ⟨dst, op, type, pos, after, guard⟩ := o
  simp only at h
  unfold apure at h
  split at h
  · exact ⟨_, fun w => rfl, hq _ _ h⟩
  · rename_i c x y
    split at h
    · rename_i e
      have hb := (hq _ _ e).bool_inv
      exact ⟨q x, fun w => by simp [execOp, hb, asBool], hq _ _ h⟩
    · rename_i e
      have hb := (hq _ _ e).bool_inv
      exact ⟨q y, fun w => by simp [execOp, hb, asBool], hq _ _ h⟩
    · cases h
  · rename_i t parts
    split at h
    · rename_i ps e
      have hp := evParts_run hq _ _ e
      obtain ⟨v, h1, h2⟩ := abuild_run hC h (parts' := parts.map fun (i, x) => (i, q x)) (by simpa using hp)
      exact lift h1 h2
    · cases h
  · rename_i x
    split at h <;> (try cases h) <;> rename_i e <;> have hv := hq _ _ e
    · obtain ⟨j, _, hj, e2⟩ := hv.ptr_inv
      exact ⟨q x, fun w => by simp [execOp, e2], hv⟩
    · obtain ⟨u, e2, _⟩ := hv.iface_inv
      exact ⟨q x, fun w => by simp [execOp, e2], hv⟩
    · obtain ⟨a', b', e2, _, _⟩ := hv.func_inv
      exact ⟨q x, fun w => by simp [execOp, e2], hv⟩
    · obtain ⟨j, _, hj, e2⟩ := hv.yield_inv
      exact ⟨q x, fun w => by simp [execOp, e2], hv⟩
    · obtain ⟨j, _, hj, e2⟩ := hv.map_inv
      exact ⟨q x, fun w => by simp [execOp, e2], hv⟩
    · have e2 := hv.nilmap_inv
      exact ⟨q x, fun w => by simp [execOp, e2], hv⟩
  · split at h
    · rename_i e1 e2
      obtain ⟨v, h1, h2⟩ := abin_run hC h (hq _ _ e1) (hq _ _ e2)
      exact lift h1 h2
    · cases h
  · rename_i uop t x
    split at h
    · rename_i b e
      unfold aunop at h
      split at h
      · rename_i v ev'
        have := toV_VR _ _ _ ev' (hq _ _ e)
        split at h
        · rename_i u hs
          refine lift (s := Op.unary uop (q x)) (v := u) (fun w => ?_) (ofV_VR h)
          rw [this]; exact srun_run hs w
        · cases h
      · cases h
    · cases h
  · rename_i s d x
    split at h
    · rename_i b e
      unfold aconv at h
      split at h
      · rename_i v ev'
        have := toV_VR _ _ _ ev' (hq _ _ e)
        split at h
        · rename_i u hs
          refine lift (s := convert s d (q x)) (v := u) (fun w => ?_) (ofV_VR h)
          rw [this]; exact srun_run hs w
        · cases h
      · cases h
    · cases h
  · rename_i t x
    split at h
    · rename_i b y e hy
      obtain ⟨d, hd, _, hdr⟩ := (hC.ty t y hy).und
      have fin : (∀ ms, d ≠ .interface ms) → ∃ v, (∀ w, (execOp q ⟨dst, .makeInterface t x, type, pos, after, guard⟩).run P w = .ok (.value v) w) ∧ VR r (.iface t b) v := fun hni =>
        ⟨.iface t (q x), fun w => by
          simp only [execOp, Instr.makeInterface, Sem.run_bind, hdr, Result.andThen_ok]
          cases d <;> first | exact (hni _ rfl).elim | rfl, .iface (hq _ _ e)⟩
      have hni : y.kind ≠ .iface → y.kind ≠ .other → ∀ ms, d ≠ .interface ms := by
        rintro hk1 hk2 ms rfl
        cases hkk : y.kind <;> rw [hkk] at hd <;> simp [kndB] at hd
        · exact hk2 hkk
        · exact hk1 hkk
      split at h
      · cases h
      · cases h
      · rename_i hk1 hk2
        cases h
        exact fin (hni (fun e => hk1 e) (fun e => hk2 e))
    · cases h
  · rename_i fn first caps
    split at h
    · rename_i f l m e1 e2
      cases h
      exact ⟨.func (.func f) (first.map q) (caps.map q), fun w => rfl, .func (by simpa using evs_run hq _ _ e1) (by simpa using evs_run hq _ _ e2)⟩
    · cases h
  · obtain ⟨v, h1, h2⟩ := aslice_run hC hq h
    exact lift h1 h2
  · split at h
    · rename_i b e
      obtain ⟨v, h1, h2⟩ := afieldAddr_run hC h (hq _ _ e)
      exact lift h1 h2
    · cases h
  · split at h
    · rename_i b e
      obtain ⟨v, h1, h2⟩ := afield_run hC h (hq _ _ e)
      exact lift h1 h2
    · cases h
  · split at h
    · rename_i e1 e2
      obtain ⟨v, h1, h2⟩ := aindexAddr_run hC h (hq _ _ e1) (hq _ _ e2)
      exact lift h1 h2
    · cases h
  · split at h
    · rename_i e1 e2
      obtain ⟨v, h1, h2⟩ := aindex_run hC h (hq _ _ e1) (hq _ _ e2)
      exact lift h1 h2
    · cases h
  · split at h
    · rename_i e
      obtain ⟨v, h1, h2⟩ := aassert_run hC h (hq _ _ e)
      exact lift h1 h2
    · cases h
  · rename_i x i
    split at h
    · rename_i vs e
      obtain ⟨vs', e2, h2⟩ := (hq _ _ e).tuple_inv
      obtain ⟨v, h3, h4⟩ := h2.get h
      refine lift (s := Instr.extract (q x) i) (v := v) (fun w => ?_) h4
      have h3' : vs'[i]? = some v := by simpa using h3
      simp [Instr.extract, e2, h3']
    · cases h
  · rename_i args argTypes
    split at h
    · rename_i x t ex et
      split at h
      · rename_i b e
        obtain ⟨v, h1, h2⟩ := alen_run hC (u := type) et h (hq _ _ e)
        refine ⟨v, fun w => ?_, h2⟩
        have hargs : args = #[x] := by rw [← Array.toArray_toList (xs := args), ex]
        simp [execOp, resolve, invoke, builtin, hargs, h1]
      · cases h
    · cases h
  · rename_i args argTypes
    split at h
    · rename_i l e
      unfold aminmax at h
      split at h
      · rename_i vs ev'
        have hl := toVs_VRs _ _ _ ev' (evs_run hq _ _ e)
        split at h
        · rename_i u hs
          simp only [Bool.false_eq_true, if_false] at hs
          refine ⟨u, fun w => ?_, ofV_VR h⟩
          have := srun_run hs w
          have hargs : args.map q = vs.toArray := by rw [← hl, ← Array.toList_map, Array.toArray_toList]
          simp only [execOp, resolve, invoke, builtin, Sem.run_bind, hargs, Result.andThen_ok, Sem.run_pure]
          unfold Builtin.min_ at this ⊢
          rw [this]; rfl
        · cases h
      · cases h
    · cases h
  · rename_i args argTypes
    split at h
    · rename_i l e
      unfold aminmax at h
      split at h
      · rename_i vs ev'
        have hl := toVs_VRs _ _ _ ev' (evs_run hq _ _ e)
        split at h
        · rename_i u hs
          simp only [if_true] at hs
          refine ⟨u, fun w => ?_, ofV_VR h⟩
          have := srun_run hs w
          have hargs : args.map q = vs.toArray := by rw [← hl, ← Array.toList_map, Array.toArray_toList]
          simp only [execOp, resolve, invoke, builtin, Sem.run_bind, hargs, Result.andThen_ok, Sem.run_pure]
          unfold Builtin.max_ at this ⊢
          rw [this]; rfl
        · cases h
      · cases h
    · cases h
  · cases h

end
end Go.Sx
