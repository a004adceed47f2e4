/- Part D: the operations that ask nothing of memory. -/
import Derived.Test.YtpmojikobjkllaaGreatDoorSxC
namespace Go.Sx
open Go
noncomputable section

abbrev Ev := Operand → Option AVal

def EvR (r : BMap) (ev : Ev) (q : Operand → Value) : Prop := ∀ x a, ev x = some a → VR r a (q x)

def cellsOf : AVal → List AVal
  | .agg cs => cs
  | v => [v]

theorem VR.cells {r : BMap} {a : AVal} {v : Value} (h : VR r a v) : VRs r (cellsOf a) v.cells.toList := by
  cases h with
  | agg h => exact h
  | bool b => exact .cons (.bool b) .nil
  | int k n => exact .cons (.int k n) .nil
  | str s => exact .cons (.str s) .nil
  | nilptr => exact .cons .nilptr .nil
  | ptr h => exact .cons (.ptr h) .nil
  | nilslice => exact .cons .nilslice .nil
  | slice h hc => exact .cons (.slice h hc) .nil
  | nilmap => exact .cons .nilmap .nil
  | map h => exact .cons (.map h) .nil
  | func h1 h2 => exact .cons (.func h1 h2) .nil
  | yield h => exact .cons (.yield h) .nil
  | nilfunc => exact .cons .nilfunc .nil
  | iface h => exact .cons (.iface h) .nil
  | niliface => exact .cons .niliface .nil
  | tuple h => exact .cons (.tuple h) .nil

/-- A part of a struct's or an array's cells. -/
def apart (C : Cfg) (t : TypeId) (cs : List AVal) (off : Nat) : Option AVal :=
  match C.ty.get t with
  | some y => if y.agg then some (.agg ((cs.drop off).take y.size)) else cs[off]?
  | none => none

theorem apart_run {P : Program} {C : Cfg} (hC : CfgOK P C) {r : BMap} {t : TypeId} {cs : List AVal} {cs' : Array Value} {off : Nat} {a : AVal}
    (h : apart C t cs off = some a) (hv : VRs r cs cs'.toList) : ∃ v, (∀ w, (part t cs' off).run P w = .ok v w) ∧ VR r a v := by
  unfold apart at h
  split at h
  · rename_i y hy
    have T := hC.ty t y hy
    by_cases ha : y.agg = true
    · simp only [ha, if_true, Option.some.injEq] at h
      subst h
      refine ⟨.agg (cs'.extract off (off + y.size)), fun w => ?_, .agg ?_⟩
      · simp only [part, Sem.run_bind, T.agg, Result.andThen_ok, ha, if_true, T.size, Sem.run_pure]
      · have := (hv.drop off).take y.size
        simpa [Array.toList_extract, List.extract_eq_take_drop] using this
    · have ha' : y.agg = false := by simpa using ha
      simp only [ha', Bool.false_eq_true, if_false] at h
      obtain ⟨v, h1, h2⟩ := hv.get h
      refine ⟨v, fun w => ?_, h2⟩
      have h3 : cs'[off]? = some v := by simpa using h1
      simp [part, Sem.run_bind, T.agg, Result.andThen_ok, ha', h3, Sem.run_pure]
  · cases h

/-! ### What a type's description is -/
theorem kndB_strct {d : TypeDesc} {fs : List Fld} (h : kndB d (.strct fs) = true) : ∃ fields, d = .struct fields ∧ fldsB fields.toList fs = true := by
  cases d <;> simp [kndB] at h; exact ⟨_, rfl, h⟩
theorem kndB_arr {d : TypeDesc} {n e : Nat} (h : kndB d (.arr n e) = true) : d = .array n e := by
  cases d <;> simp [kndB] at h; rw [h.1, h.2]
theorem kndB_slice {d : TypeDesc} {e : Nat} (h : kndB d (.slice e) = true) : d = .slice e := by
  cases d <;> simp [kndB] at h; rw [h]
theorem kndB_map {d : TypeDesc} {k e : Nat} (h : kndB d (.map k e) = true) : d = .map k e := by
  cases d <;> simp [kndB] at h; rw [h.1, h.2]
theorem kndB_ptr {d : TypeDesc} {e : Nat} (h : kndB d (.ptr e) = true) : d = .pointer e := by
  cases d <;> simp [kndB] at h; rw [h]
theorem kndB_int {d : TypeDesc} {k : IntKind} (h : kndB d (.int k) = true) : d = .int k := by
  cases d <;> simp [kndB] at h; rw [h]
theorem kndB_str {d : TypeDesc} (h : kndB d .str = true) : d = .string := by
  cases d <;> simp [kndB] at h; rfl
theorem kndB_bool {d : TypeDesc} (h : kndB d .bool = true) : d = .bool := by
  cases d <;> simp [kndB] at h; rfl
theorem kndB_iface {d : TypeDesc} (h : kndB d .iface = true) : ∃ ms, d = .interface ms := by
  cases d <;> simp [kndB] at h; exact ⟨_, rfl⟩
theorem kndB_func {d : TypeDesc} (h : kndB d .func = true) : ∃ a b c, d = .func a b c := by
  cases d <;> simp [kndB] at h; exact ⟨_, _, _, rfl⟩

/-- Numbered parts. -/
inductive PRs (r : BMap) : List (Nat × AVal) → List (Nat × Value) → Prop
  | nil : PRs r [] []
  | cons {i : Nat} {a : AVal} {v : Value} {l : List (Nat × AVal)} {l' : List (Nat × Value)} (h : VR r a v) (hs : PRs r l l') : PRs r ((i, a) :: l) ((i, v) :: l')

/-! ### Building structs and arrays -/
def setAll {α : Type} : List α → Nat → List α → List α
  | cs, _, [] => cs
  | cs, off, v :: vs => setAll (cs.set off v) (off + 1) vs

def fillA (place : Nat → Option (Nat × Nat)) : List AVal → List (Nat × AVal) → Option (List AVal)
  | cells, [] => some cells
  | cells, (i, v) :: rest =>
    match place i with
    | none => none
    | some (off, size) =>
      let vs := cellsOf v
      if vs.length = size ∧ off + vs.length ≤ cells.length then fillA place (setAll cells off vs) rest else none

theorem foldl_set {r : BMap} : ∀ (vs : List AVal) (vs' : List Value), VRs r vs vs' → ∀ (off j : Nat) (cs : List AVal) (cs' : Array Value), VRs r cs cs'.toList →
    VRs r (setAll cs (off + j) vs) ((vs'.zipIdx j).foldl (fun cs (c, j) => cs.setIfInBounds (off + j) c) cs').toList
  | _, _, .nil, off, j, cs, cs', h => by simpa [setAll] using h
  | _, _, .cons ha hs, off, j, cs, cs', h => by
    simp only [setAll, List.zipIdx_cons, List.foldl_cons]
    refine foldl_set _ _ hs off (j + 1) _ _ ?_
    rw [Array.toList_setIfInBounds]; exact h.set _ ha

theorem fillA_run {r : BMap} {place : Nat → Option (Nat × Nat)} : ∀ (ps : List (Nat × AVal)) (ps' : List (Nat × Value)) (cs out : List AVal) (cs' : Array Value),
    PRs r ps ps' → VRs r cs cs'.toList → fillA place cs ps = some out →
    ∃ out', Instr.fill place cs' ps' = some out' ∧ VRs r out out'.toList
  | _, _, cs, out, cs', .nil, h, ho => by
    simp [fillA] at ho; subst ho
    exact ⟨cs', rfl, h⟩
  | (i, v) :: ps, (_, v') :: ps', cs, out, cs', .cons hv hs, h, ho => by
    simp only [fillA] at ho
    split at ho
    · cases ho
    · rename_i off size hpl
      split at ho
      · rename_i hc
        have hvc := VR.cells hv
        have hl : (cellsOf v).length = v'.cells.size := by rw [hvc.length]; simp
        have hl2 : cs.length = cs'.size := by rw [h.length]; simp
        have h1 := foldl_set _ _ hvc off 0 cs cs' h
        simp only [Nat.add_zero] at h1
        obtain ⟨out', e1, e2⟩ := fillA_run ps ps' _ out _ hs h1 ho
        refine ⟨out', ?_, e2⟩
        simp only [Instr.fill, hpl]
        rw [if_neg (by
          simp only [Bool.or_eq_true, decide_eq_true_eq, not_or, gt_iff_lt, Nat.not_lt, ne_eq, Decidable.not_not]
          refine ⟨by rw [← hl]; exact hc.1, by rw [← hl, ← hl2]; exact hc.2⟩)]
        rw [← e1]
        congr 1
        rw [← Array.foldl_toList, Array.toList_zipIdx]
      · cases ho

def evParts (ev : Ev) : List (Nat × Operand) → Option (List (Nat × AVal))
  | [] => some []
  | (i, x) :: l => match ev x, evParts ev l with
    | some a, some l' => some ((i, a) :: l')
    | _, _ => none

theorem evParts_run {r : BMap} {ev : Ev} {q : Operand → Value} (hq : EvR r ev q) : ∀ (l : List (Nat × Operand)) (out : List (Nat × AVal)), evParts ev l = some out →
    PRs r out (l.map fun (i, x) => (i, q x))
  | [], out, h => by simp [evParts] at h; subst h; exact .nil
  | (i, x) :: l, out, h => by
    simp only [evParts] at h
    split at h
    · rename_i a l' e1 e2
      simp at h; subst h
      exact .cons (hq x a e1) (evParts_run hq l l' e2)
    · cases h

def evs (ev : Ev) : List Operand → Option (List AVal)
  | [] => some []
  | x :: l => match ev x, evs ev l with
    | some a, some l' => some (a :: l')
    | _, _ => none

theorem evs_run {r : BMap} {ev : Ev} {q : Operand → Value} (hq : EvR r ev q) : ∀ (l : List Operand) (out : List AVal), evs ev l = some out → VRs r out (l.map q)
  | [], out, h => by simp [evs] at h; subst h; exact .nil
  | x :: l, out, h => by
    simp only [evs] at h
    split at h
    · rename_i a l' e1 e2
      simp at h; subst h
      exact .cons (hq x a e1) (evs_run hq l l' e2)
    · cases h

def fldPlace (C : Cfg) (fs : List Fld) (i : Nat) : Option (Nat × Nat) :=
  match fs[i]? with
  | some f => match C.ty.get f.typ with
    | some y => some (f.off, y.size)
    | none => none
  | none => none

/-- Every field's type is in the table. -/
def fldsIn (C : Cfg) : List Fld → Bool
  | [] => true
  | f :: l => (C.ty.get f.typ).isSome && fldsIn C l

theorem fldsB_get : ∀ {l : List Field} {m : List Fld}, fldsB l m = true → ∀ {i : Nat} {g : Fld}, m[i]? = some g → ∃ f, l[i]? = some f ∧ f.offset = g.off ∧ f.type = g.typ
  | [], [], _, i, g, hg => by simp at hg
  | [], _ :: _, h, _, _, _ => by simp [fldsB] at h
  | _ :: _, [], h, _, _, _ => by simp [fldsB] at h
  | f :: l, k :: m, h, 0, g, hg => by
    simp only [fldsB, Bool.and_eq_true, beq_iff_eq] at h
    simp at hg; subst hg
    exact ⟨f, by simp, h.1.1, h.1.2⟩
  | f :: l, k :: m, h, i + 1, g, hg => by
    simp only [fldsB, Bool.and_eq_true, beq_iff_eq] at h
    simp at hg
    obtain ⟨f', h1, h2⟩ := fldsB_get h.2 hg
    exact ⟨f', by simpa using h1, h2⟩

theorem fldsB_length : ∀ {l : List Field} {m : List Fld}, fldsB l m = true → l.length = m.length
  | [], [], _ => rfl
  | [], _ :: _, h => by simp [fldsB] at h
  | _ :: _, [], h => by simp [fldsB] at h
  | _ :: l, _ :: m, h => by
    simp only [fldsB, Bool.and_eq_true] at h
    simp [fldsB_length h.2]

theorem mapM_places {P : Program} {C : Cfg} (hC : CfgOK P C) : ∀ (l : List Field) (m : List Fld), fldsB l m = true → fldsIn C m = true →
    ∃ ps : List (Nat × Nat), (∀ w, (l.mapM fun f => (do pure (f.offset, ← sizeOf f.type) : Sem (Nat × Nat))).run P w = .ok ps w) ∧ ∀ i, ps[i]? = fldPlace C m i
  | [], [], _, _ => ⟨[], fun w => by simp [List.mapM_nil], fun i => by simp [fldPlace]⟩
  | [], _ :: _, h, _ => by simp [fldsB] at h
  | _ :: _, [], h, _ => by simp [fldsB] at h
  | f :: l, g :: m, h, hin => by
    simp only [fldsB, Bool.and_eq_true, beq_iff_eq] at h
    simp only [fldsIn, Bool.and_eq_true] at hin
    obtain ⟨y, hy⟩ := Option.isSome_iff_exists.1 hin.1
    obtain ⟨ps, h1, h2⟩ := mapM_places hC l m h.2 hin.2
    have T := hC.ty _ y hy
    refine ⟨(g.off, y.size) :: ps, fun w => ?_, fun i => ?_⟩
    · rw [List.mapM_cons]
      simp only [Sem.run_bind, h.1.2, T.size, Result.andThen_ok, Sem.run_pure, h1, h.1.1]
    · cases i with
      | zero => simp [fldPlace, hy]
      | succ i => simpa [fldPlace] using h2 i

def abuild (C : Cfg) (t : TypeId) (parts : List (Nat × AVal)) : Option AVal :=
  match C.ty.get t with
  | some y => match y.kind with
    | .strct fs => if fldsIn C fs then (fillA (fldPlace C fs) y.zero parts).map .agg else none
    | .arr _ e => match C.ty.get e with
      | some ye => (fillA (fun i => some (i * ye.size, ye.size)) y.zero parts).map .agg
      | none => none
    | _ => none
  | none => none

theorem abuild_run {P : Program} {C : Cfg} (hC : CfgOK P C) {r : BMap} {t : TypeId} {parts : List (Nat × AVal)} {parts' : Array (Nat × Value)} {a : AVal}
    (h : abuild C t parts = some a) (hp : PRs r parts parts'.toList) :
    ∃ v, (∀ w, (Instr.build t parts').run P w = .ok v w) ∧ VR r a v := by
  unfold abuild at h
  split at h
  · rename_i y hy
    have T := hC.ty t y hy
    obtain ⟨z, hz, hzr⟩ := T.zero
    obtain ⟨d, hd, _, hdr⟩ := T.und
    have hzc := zeroB_cells hz r
    split at h
    · rename_i fs hk
      split at h
      · rename_i hin
        simp only [Option.map_eq_some_iff] at h
        obtain ⟨out, h1, rfl⟩ := h
        rw [hk] at hd
        obtain ⟨fields, rfl, hd⟩ := kndB_strct hd
        obtain ⟨ps, hp1, hp2⟩ := mapM_places hC fields.toList fs hd hin
        have hfun : fldPlace C fs = fun i => ps[i]? := funext fun i => (hp2 i).symm
        rw [hfun] at h1
        obtain ⟨out', e1, e2⟩ := fillA_run parts parts'.toList _ out _ hp hzc h1
        refine ⟨.agg out', fun w => ?_, .agg e2⟩
        have hm : (fields.mapM fun f => (do pure (f.offset, ← sizeOf f.type) : Sem (Nat × Nat))).run P w = .ok ps.toArray w := by
          rw [Array.mapM_eq_mapM_toList]
          rw [Sem.run_map, hp1]; rfl
        simp only [Instr.build, Sem.run_bind, hzr, Result.andThen_ok, hdr, hm]
        have e1' : Instr.fill (fun x => ps.toArray[x]?) z.cells parts'.toList = some out' := by simpa using e1
        simp only [e1', Sem.run_pure]
      · cases h
    · rename_i n e hk
      split at h
      · rename_i ye hye
        simp only [Option.map_eq_some_iff] at h
        obtain ⟨out, h1, rfl⟩ := h
        rw [hk] at hd
        obtain rfl := kndB_arr hd
        have Te := hC.ty _ ye hye
        obtain ⟨out', e1, e2⟩ := fillA_run parts parts'.toList _ out _ hp hzc h1
        refine ⟨.agg out', fun w => ?_, .agg e2⟩
        simp only [Instr.build, Sem.run_bind, hzr, Result.andThen_ok, hdr, Te.size, e1, Sem.run_pure]
      · cases h
    · cases h
  · cases h

/-! ### The other operations -/

/-- A comparison in which an address takes part: with nil alone. -/
def nilCmp (C : Cfg) : Knd → AVal → AVal → Option Bool
  | .ptr e, .ptr b o, .ptr b' o' => match C.ty.get e with
    | some ye => if b = b' ∧ ye.size ≠ 0 then some (o == o') else none
    | none => none
  | .ptr _, .ptr _ _, .nilptr | .ptr _, .nilptr, .ptr _ _ => some false
  | .iface, .iface _ _, .niliface | .iface, .niliface, .iface _ _ => some false
  | .func, .func _ _ _, .nilfunc | .func, .nilfunc, .func _ _ _ | .func, .yield _, .nilfunc | .func, .nilfunc, .yield _ => some false
  | .slice _, .slice _ _ _ _ _, .nilslice | .slice _, .nilslice, .slice _ _ _ _ _ => some false
  | .map _ _, .map _, .nilmap | .map _ _, .nilmap, .map _ => some false
  | _, _, _ => none

theorem maxDepth_succ : ∃ n, Op.maxDepth = n + 1 := ⟨9999, rfl⟩

theorem nilCmp_run {P : Program} {C : Cfg} (hC : CfgOK P C) {r : BMap} {t : TypeId} {y : Ty} (hy : C.ty.get t = some y) {a b : AVal} {c : Bool} (h : nilCmp C y.kind a b = some c)
    {a' b' : Value} (ha : VR r a a') (hb : VR r b b') : (∀ w, (Op.equal t a' b').run P w = .ok c w) ∧ ((a' ≠ .nilIface ∧ ∀ cs, a' ≠ .agg cs) ∨ (b' ≠ .nilIface ∧ ∀ cs, b' ≠ .agg cs)) := by
  have T := hC.ty t y hy
  obtain ⟨d, hd, _, hdr⟩ := T.und
  obtain ⟨n, hn⟩ := maxDepth_succ
  unfold Op.equal
  rw [hn]
  revert h hd
  generalize y.kind = k
  intro h hd
  unfold nilCmp at h
  split at h
  · rename_i e b o b' o'
    split at h
    · rename_i ye hye
      split at h
      · rename_i hc
        cases h
        obtain ⟨rfl, hsz⟩ := hc
        have Te := hC.ty e ye hye
        obtain rfl := kndB_ptr hd
        cases ha with
        | ptr h1 =>
          cases hb with
          | ptr h2 =>
            rw [h1] at h2
            cases h2
            refine ⟨fun w => ?_, .inl (by simp)⟩
            simp only [Op.equalIn, Sem.run_bind, hdr, Result.andThen_ok, Te.size, ne_eq, hsz, not_false_eq_true, if_true]
            simp [sameAddr]
            rw [Bool.eq_iff_iff, beq_iff_eq, beq_iff_eq, Addr.mk.injEq]
            simp
      · cases h
    · cases h
  all_goals (try cases h) <;> cases ha <;> cases hb <;>
    first
      | (obtain rfl := kndB_ptr hd; exact ⟨fun w => by simp [Op.equalIn, hdr], .inl (by simp)⟩)
      | (obtain rfl := kndB_slice hd; exact ⟨fun w => by simp [Op.equalIn, hdr], .inl (by simp)⟩)
      | (obtain rfl := kndB_map hd; exact ⟨fun w => by simp [Op.equalIn, hdr], .inl (by simp)⟩)
      | (obtain ⟨_, rfl⟩ := kndB_iface hd; refine ⟨fun w => ?_, .inl ?_⟩ <;> simp [Op.equalIn, hdr]; done)
      | (obtain ⟨_, rfl⟩ := kndB_iface hd; refine ⟨fun w => ?_, .inr ?_⟩ <;> simp [Op.equalIn, hdr]; done)
      | (obtain ⟨_, _, _, rfl⟩ := kndB_func hd; exact ⟨fun w => by simp [Op.equalIn, hdr], .inl (by simp)⟩)

def abin (P : Program) (C : Cfg) (op : BinOp) (t : TypeId) (x y : Operand) (a b : AVal) : Option AVal :=
  match toV a, toV b with
  | some a', some b' => match srun P (do eqGuard op t x y a' b'; binOp op t a' b') with
    | some v => ofV v
    | none => none
  | _, _ => match op, C.ty.get t with
    | .eql, some k => match nilCmp C k.kind a b with | some c => some (.bool c) | none => none
    | .neq, some k => match nilCmp C k.kind a b with | some c => some (.bool (!c)) | none => none
    | _, _ => none

theorem eqGuard_skip {P : Program} {op : BinOp} {t : TypeId} {x y : Operand} {a b : Value} (h : (a ≠ .nilIface ∧ ∀ cs, a ≠ .agg cs) ∨ (b ≠ .nilIface ∧ ∀ cs, b ≠ .agg cs)) (w : World) :
    (eqGuard op t x y a b).run P w = .ok () w := by
  unfold eqGuard
  have key : ∀ (z : Sem Unit) (k : Array Value → Array Value → Sem Unit), (match a, b with
      | .nilIface, .nilIface => z
      | .agg xs, .agg ys => k xs ys
      | _, _ => (pure () : Sem Unit)) = pure () := by
    intro z k
    split
    · rcases h with h | h <;> exact (h.1 rfl).elim
    · rcases h with h | h <;> exact (h.2 _ rfl).elim
    · rfl
  cases op <;> first
    | rfl
    | exact congrArg (fun s => Sem.run P s w) (key _ _)

theorem abin_run {P : Program} {C : Cfg} (hC : CfgOK P C) {r : BMap} {op : BinOp} {t : TypeId} {x y : Operand} {a b c : AVal} (h : abin P C op t x y a b = some c)
    {a' b' : Value} (ha : VR r a a') (hb : VR r b b') : ∃ v, (∀ w, (do eqGuard op t x y a' b'; binOp op t a' b' : Sem Value).run P w = .ok v w) ∧ VR r c v := by
  unfold abin at h
  split at h
  · rename_i u v e1 e2
    have ea := toV_VR _ _ _ e1 ha
    have eb := toV_VR _ _ _ e2 hb
    subst ea eb
    split at h
    · rename_i v hs
      exact ⟨v, srun_run hs, ofV_VR h⟩
    · cases h
  · split at h
    · rename_i k hk
      split at h
      · rename_i c' hc
        cases h
        obtain ⟨h1, h2⟩ := nilCmp_run hC hk hc ha hb
        refine ⟨.bool c', fun w => ?_, .bool c'⟩
        rw [Sem.run_bind, eqGuard_skip h2]
        have : binOp .eql t a' b' = (do pure (.bool (← Op.equal t a' b'))) := by
          unfold nilCmp at hc
          split at hc <;> (try cases hc) <;> cases ha <;> cases hb <;> rfl
        rw [Result.andThen_ok, this, Sem.run_bind, h1]
        rfl
      · cases h
    · rename_i k hk
      split at h
      · rename_i c' hc
        cases h
        obtain ⟨h1, h2⟩ := nilCmp_run hC hk hc ha hb
        refine ⟨.bool (!c'), fun w => ?_, .bool _⟩
        rw [Sem.run_bind, eqGuard_skip h2]
        have : binOp .neq t a' b' = (do pure (.bool (!(← Op.equal t a' b')))) := by
          unfold nilCmp at hc
          split at hc <;> (try cases hc) <;> cases ha <;> cases hb <;> rfl
        rw [Result.andThen_ok, this, Sem.run_bind, h1]
        rfl
      · cases h
    · cases h

end
end Go.Sx
