/- Part H: operations that read, and operations that make one block, together. -/
import Derived.Test.YtpmojikobjkllaaGreatDoorSxG
namespace Go.Sx
open Go
noncomputable section

def aread (P : Program) (C : Cfg) (ev : Ev) (h : T AObj) : Op → Option AVal
  | .load t x => match ev x with
    | some a => aload C h t a
    | none => none
  | .lookup t m k ok => match ev m, ev k with
    | some a, some b => alookup P C h t a b ok
    | _, _ => none
  | .entry x => match ev x with
    | some a => aentry h a
    | none => none
  | .call { callee := .builtin .len, args, argTypes } => match args.toList, argTypes[0]? with
    | [x], some t => match ev x, C.ty.get t with
      | some (.map b), some y => match y.kind, h.get b with
        | .map _ _, some (.map _ es _) => some (.int .i64 es.length)
        | _, _ => none
      | _, _ => none
    | _, _ => none
  | _ => none

theorem aread_run {P : Program} {C : Cfg} (hC : CfgOK P C) {B : Base} {r : BMap} {h : T AObj} {nx : Nat} {ev : Ev} {q : Operand → Value} (hq : EvR r ev q) {o : Oper} {a : AVal}
    (hl : aread P C ev h o.op = some a) {w : World} (H : WR B r h nx w) : ∃ v, (execOp q o).run P w = .ok (.value v) w ∧ VR r a v := by
  have lift : ∀ {s : Sem Value} {c : AVal}, (∃ v, s.run P w = .ok v w ∧ VR r c v) → ∃ v, (do pure (.value (← s)) : Sem Next).run P w = .ok (.value v) w ∧ VR r c v :=
    fun {s c} ⟨v, h1, h2⟩ => ⟨v, by rw [Sem.run_bind, h1]; rfl, h2⟩
  obtain ⟨dst, op, type, pos, after, guard⟩ := o
  simp only at hl
  unfold aread at hl
  split at hl
  · split at hl
    · rename_i e
      exact lift (aload_run hC hl (hq _ _ e) H)
    · cases hl
  · split at hl
    · rename_i e1 e2
      exact lift (alookup_run hC hl (hq _ _ e1) (hq _ _ e2) H)
    · cases hl
  · split at hl
    · rename_i e
      exact lift (aentry_run hl (hq _ _ e) H)
    · cases hl
  · rename_i args argTypes
    split at hl
    · rename_i x t ex et
      split at hl
      · rename_i b y e hy
        obtain ⟨d, hd, _, hdr⟩ := (hC.ty t y hy).und
        obtain ⟨j, k, hj, hqx⟩ := (hq _ _ e).map_inv
        split at hl
        · rename_i ro es clock hkind hb
          rw [hkind] at hd
          obtain rfl := kndB_map hd
          cases hl
          obtain ⟨o', e1, e2⟩ := H.obj b _ j k hb hj
          cases e2 with
          | map he =>
            rename_i es'
            have hargs : args = #[x] := by rw [← Array.toArray_toList (xs := args), ex]
            refine ⟨.int .i64 es.length, ?_, .int _ _⟩
            have hlen : es'.size = es.length := by have := he.length; simp at this; omega
            simp [execOp, resolve, invoke, builtin, hargs, hqx, Builtin.len_, et, hdr, getObj, Sem.run, e1, goInt, hlen]
        · cases hl
      · cases hl
    · cases hl
  · cases hl

/-- The zeros of so many elements. -/
def zeros (y : Ty) (n : Nat) : List AVal := (List.range n).map fun i => (y.zero[i % y.zero.length]?).getD noVal

theorem zeros_run {P : Program} {t : TypeId} {y : Ty} (T : TyOK P t y) (n : Nat) : ∃ zs : Array Value, (∀ w, (do
      let zero ← if n = 0 then pure #[] else do pure (← zeroValue t).cells
      pure ((Array.range n).map (zero[· % zero.size]!)) : Sem (Array Value)).run P w = .ok zs w) ∧ ∀ r, (n ≠ 0 → y.zero ≠ []) → VRs r (zeros y n) zs.toList := by
  obtain ⟨z, hz, hzr⟩ := T.zero
  by_cases hn : n = 0
  · subst hn
    exact ⟨#[], fun w => by simp, fun r _ => by simp [zeros]; exact .nil⟩
  · refine ⟨(Array.range n).map (z.cells[· % z.cells.size]!), fun w => by simp [hn, hzr], fun r hne => ?_⟩
    have hc := zeroB_cells hz r
    have hlen : y.zero.length = z.cells.size := by rw [hc.length]; simp
    have key : ∀ l : List Nat, VRs r (l.map fun i => (y.zero[i % y.zero.length]?).getD noVal) (l.map fun i => z.cells[i % z.cells.size]!) := by
      intro l
      induction l with
      | nil => exact .nil
      | cons i l ih =>
        refine .cons ?_ ih
        show VR r ((y.zero[i % y.zero.length]?).getD noVal) (z.cells[i % z.cells.size]!)
        have hpos : 0 < y.zero.length := by
          rcases Nat.eq_zero_or_pos y.zero.length with e | e
          · exact (hne hn (List.length_eq_zero_iff.1 e)).elim
          · exact e
        have hlt : i % y.zero.length < y.zero.length := Nat.mod_lt _ hpos
        obtain ⟨v, h1, h2⟩ := hc.get (List.getElem?_eq_getElem hlt)
        rw [List.getElem?_eq_getElem hlt]
        have h3 : z.cells[i % z.cells.size]! = v := by
          rw [← hlen, getElem!_def]
          have : z.cells[i % y.zero.length]? = some v := by simpa using h1
          rw [this]
        rw [h3]
        exact h2
    simpa [zeros] using key (List.range n)

def anew (C : Cfg) (ev : Ev) : Op → Option (AObj × (Nat → AVal))
  | .alloc e => match C.ty.get e with
    | some y => some (.cells false 0 y.zero e, fun i => .ptr i 0)
    | none => none
  | .box e x => match ev x with
    | some a => some (.cells false 0 (cellsOf a) e, fun i => .ptr i 0)
    | none => none
  | .buildSlice t len parts => match C.ty.get t, evParts ev parts.toList with
    | some y, some ps => match y.kind with
      | .slice e => match C.ty.get e with
        | some ye => if len * ye.size > 2 ^ 24 then none else
          match fillA (fun i => some (i * ye.size, ye.size)) (zeros ye (len * ye.size)) ps with
          | some cs => some (.cells false 0 cs e, fun i => .slice i 0 len len true)
          | none => none
        | none => none
      | _ => none
    | _, _ => none
  | .makeMap t hint => match C.ty.get t with
    | some y => match y.kind, hint with
      | .map _ _, none => some (.map false [] 0, fun i => .map i)
      | .map _ _, some x => match ev x with
        | some (.int _ _) => some (.map false [] 0, fun i => .map i)
        | _ => none
      | _, _ => none
    | none => none
  | .makeSlice t l c => match C.ty.get t, ev l, ev c with
    | some y, some (.int _ nl), some (.int _ nc) => match y.kind with
      | .slice e => match C.ty.get e with
        | some ye => if 0 ≤ nl ∧ nl ≤ nc ∧ nc ≤ 2 ^ 40 ∧ (ye.bytes : Int) * nc ≤ 2 ^ 48 then
            some (.cells false 0 (zeros ye (nc.toNat * ye.size)) e, fun i => .slice i 0 nl.toNat nc.toNat true)
          else none
        | none => none
      | _ => none
    | _, _, _ => none
  | _ => none

theorem wrap_in (n : Int) (h0 : 0 ≤ n) (h1 : n < 2 ^ 63) : IntKind.i64.wrap n = n := by
  simp only [IntKind.wrap, IntKind.signed, IntKind.bits]
  have e : n % (2 ^ 64 : Int) = n := Int.emod_eq_of_lt h0 (by omega)
  simp only [e]
  simp; omega

/-- What a block that an operation makes is, on the other side. -/
def Made (P : Program) (r : BMap) (s : Sem Next) (o : AObj) (mk : Nat → AVal) : Prop :=
  ∃ (o' : Obj) (mk' : Nat → Value), (∀ w, s.run P w = .ok (.value (mk' w.heap.size)) { w with heap := w.heap.push o' }) ∧ OR r 0 o o' ∧
    ∀ (r' : BMap) (i j : Nat), r' i = some (j, 0) → VR r' (mk i) (mk' j)

theorem cells_made {r : BMap} {cs : List AVal} {cs' : Array Value} {e : TypeId} (h : VRs r cs cs'.toList) : OR r 0 (.cells false 0 cs e) (.cells cs' e) := by
  have hl : cs.length = cs'.size := by rw [h.length]; simp
  refine .cells (by omega) (fun _ => rfl) ?_
  rw [hl]
  have : cs'.toList.take cs'.size = cs'.toList := List.take_of_length_le (by simp)
  rw [this]
  exact h

theorem run_newRow {P : Program} {e : TypeId} {cs : Array Value} (w : World) : (newRow e cs).run P w = .ok ⟨w.heap.size, 0, none⟩ { w with heap := w.heap.push (.cells cs e) } := by
  simp [newRow]

theorem anew_run {P : Program} {C : Cfg} (hC : CfgOK P C) {r : BMap} {ev : Ev} {q : Operand → Value} (hq : EvR r ev q) {op : Oper} {o : AObj} {mk : Nat → AVal}
    (h : anew C ev op.op = some (o, mk)) : Made P r (execOp q op) o mk := by
  obtain ⟨dst, op, type, pos, after, guard⟩ := op
  simp only at h
  unfold anew at h
  split at h
  · rename_i e
    split at h
    · rename_i y hy
      cases h
      have T := hC.ty e y hy
      obtain ⟨z, hz, hzr⟩ := T.zero
      refine ⟨.cells z.cells e, fun j => .pointer (some ⟨j, 0, none⟩), fun w => ?_, cells_made (zeroB_cells hz r), fun r' i j hj => .ptr hj⟩
      simp [execOp, Instr.alloc, hzr, newVar, run_newRow]
    · cases h
  · rename_i e x
    split at h
    · rename_i a ea
      cases h
      refine ⟨.cells (q x).cells e, fun j => .pointer (some ⟨j, 0, none⟩), fun w => ?_, cells_made (hq _ _ ea).cells, fun r' i j hj => .ptr hj⟩
      simp [execOp, Instr.box, newVar, run_newRow]
    · cases h
  · rename_i t len parts
    split at h
    · rename_i y ps hy hps
      obtain ⟨d, hd, _, hdr⟩ := (hC.ty t y hy).und
      split at h
      · rename_i e hk
        rw [hk] at hd
        obtain rfl := kndB_slice hd
        split at h
        · rename_i ye hye
          have Te := hC.ty e ye hye
          split at h
          · cases h
          · rename_i hsz
            split at h
            · rename_i cs hcs
              cases h
              obtain ⟨zs, hz1, hz2⟩ := zeros_run Te (len * ye.size)
              have hz3 := hz2 r (by
                intro hne e0
                have := Te.zlen
                rw [e0] at this
                simp at this
                rw [← this] at hne
                simp at hne)
              have hp := evParts_run hq _ _ hps
              obtain ⟨out', f1, f2⟩ := fillA_run ps (parts.map fun (i, x) => (i, q x)).toList _ cs zs (by simpa using hp) hz3 hcs
              refine ⟨.cells out' e, fun j => .slice (some ⟨j, 0, none⟩) len len, fun w => ?_, cells_made f2, fun r' i j hj => .slice hj rfl⟩
              have hz1w := hz1 w
              simp only [Sem.run_bind, Sem.run_ite, Sem.run_pure] at hz1w
              have hsz' : ¬ len * ye.size > 2 ^ 24 := hsz
              simp only [execOp, Instr.buildSlice, Sem.run_bind, hdr, Result.andThen_ok, Te.size, hsz', if_false, Sem.run_ite, Sem.run_pure]
              by_cases h0 : len * ye.size = 0
              · simp only [h0, if_true, Result.andThen_ok] at hz1w ⊢
                cases hz1w
                simp only [f1, Sem.run_bind, run_newRow, Result.andThen_ok, Sem.run_pure]
              · obtain ⟨z, hzz, hzr⟩ := Te.zero
                simp only [h0, if_false, hzr, Result.andThen_ok] at hz1w ⊢
                cases hz1w
                simp only [f1, Sem.run_bind, run_newRow, Result.andThen_ok, Sem.run_pure]
            · cases h
        · cases h
      · cases h
    · cases h
  · rename_i t hint
    split at h
    · rename_i y hy
      obtain ⟨d, hd, _, hdr⟩ := (hC.ty t y hy).und
      have hnil : OR r 0 (.map false [] 0) (.map #[] 0) := .map .nil
      split at h
      · cases h
        refine ⟨.map #[] 0, fun j => .map (some j), fun w => ?_, hnil, fun r' i j hj => .map hj⟩
        simp [execOp, Instr.makeMap]
      · rename_i k e x hk
        rw [hk] at hd
        obtain rfl := kndB_map hd
        split at h
        · rename_i kk n ex
          cases h
          have hx := (hq _ _ ex).int_inv
          refine ⟨.map #[] 0, fun j => .map (some j), fun w => ?_, hnil, fun r' i j hj => .map hj⟩
          simp [execOp, Instr.makeMap, hdr, hx, asInt, asIntOf]
        · cases h
      · cases h
    · cases h
  · rename_i t l c
    split at h
    · rename_i y k1 nl k2 nc hy el ec
      obtain ⟨d, hd, _, hdr⟩ := (hC.ty t y hy).und
      have hl := (hq _ _ el).int_inv
      have hc := (hq _ _ ec).int_inv
      split at h
      · rename_i e hk
        rw [hk] at hd
        obtain rfl := kndB_slice hd
        split at h
        · rename_i ye hye
          have Te := hC.ty e ye hye
          split at h
          · rename_i hb
            cases h
            obtain ⟨b1, b2, b3, b4⟩ := hb
            obtain ⟨i, hib, hir⟩ := Te.info
            obtain ⟨zs, hz1, hz2⟩ := zeros_run Te (nc.toNat * ye.size)
            have hz3 := hz2 r (by
              intro hne e0
              have := Te.zlen
              rw [e0] at this
              simp at this
              rw [← this] at hne
              simp at hne)
            refine ⟨.cells zs e, fun j => .slice (some ⟨j, 0, none⟩) nl.toNat nc.toNat, fun w => ?_, cells_made hz3, fun r' i j hj => .slice hj rfl⟩
            have w1 : IntKind.i64.wrap nl = nl := wrap_in _ b1 (by omega)
            have w2 : IntKind.i64.wrap nc = nc := wrap_in _ (by omega) (by omega)
            have c1 : ¬ ((ye.bytes : Int) * nc > 2 ^ 48) := by omega
            have c2 : ¬ (nc < 0) := by omega
            have c3 : ¬ (nl < 0) := by omega
            have c4 : ¬ (nl > nc) := by omega
            have hz1w := hz1 w
            simp only [Sem.run_bind, Sem.run_ite, Sem.run_pure] at hz1w
            simp only [execOp, Instr.makeSlice, Sem.run_bind, hdr, Result.andThen_ok, hl, hc, asInt, asIntOf, Sem.run_pure, hir, hib, w1, w2, c1, c2, c3, c4, decide_false, Bool.or_self, Bool.false_eq_true, if_false,
              run_askRoom, Te.size, Sem.run_ite, Bool.or_false]
            by_cases h0 : nc.toNat * ye.size = 0
            · simp only [h0, if_true, Result.andThen_ok] at hz1w ⊢
              cases hz1w
              simp only [run_newRow, Result.andThen_ok]
            · obtain ⟨z, hzz, hzr⟩ := Te.zero
              simp only [h0, if_false, hzr, Result.andThen_ok] at hz1w ⊢
              cases hz1w
              simp only [run_newRow, Result.andThen_ok]
          · cases h
        · cases h
      · cases h
    · cases h
  · cases h

end
end Go.Sx
