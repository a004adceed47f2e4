/- Part L: an operation that the runner carries out, in the calculus of the kit. -/
import Derived.Test.YtpmojikobjkllaaGreatDoorSxK
import Derived.RangeFuncRecord
namespace Go.Sx
open Go
noncomputable section

/-- The fence: of an activation, or of a round of the loop whose record is the block j. -/
def Fc (rnd : Option Nat) : Fence := { Fence.wide with round := rnd }

theorem Fc_none : Fc none = Fence.wide := rfl
theorem Fc_some (j : Nat) : Fc (some j) = Fence.wide.inRound j := rfl
theorem Fc_room (rnd : Option Nat) (n : Nat) : (Fc rnd).room n := fun _ h => by simp [Fc, Fence.wide] at h
theorem Fc_depth (rnd : Option Nat) : (Fc rnd).depth.isSome = true → 1 ≤ 0 := fun h => by simp [Fc, Fence.wide] at h
theorem callsIn_Fc {rnd : Option Nat} {P : Program} {f : FuncId} {args : Array Value} {w : World} {K : Ending → World → Prop} (h : CallsIn Fence.wide 0 P f args w K) : CallsIn (Fc rnd) 0 P f args w K := h
theorem roundIn_Fc {rnd : Option Nat} {P : Program} {l : Nat} {f : FuncId} {tmps : Array Value} {a b : Code} {w : World} {K : Ending → World → Prop} (h : RoundIn Fence.wide 0 P l f tmps a b w K) :
    RoundIn (Fc rnd) 0 P l f tmps a b w K := h

/-- The world and the value that came about are one of the outcomes. -/
def OutOK (B : Base) (r : BMap) (nx : Nat) (outs : Outs) (v : Value) (w' : World) : Prop :=
  ∃ a h' nx' r', (a, h', nx') ∈ outs ∧ Ext nx r r' ∧ nx ≤ nx' ∧ WR B r' h' nx' w' ∧ VR r' a v

def retOf (K : Value → World → Prop) : Ending → World → Prop
  | .returned v, w => K v w
  | _, _ => False

def CallOK (R : Run) (call : CallF) : Prop :=
  ∀ f args h nx outs, call f args h nx = some outs → (∀ args' w, (callFunc f args').run R.P w = .ok (.enter f args') w) ∧
    ∀ (B : Base), B.ng = R.ng → ∀ r w args', WR B r h nx w → VRs r args args'.toList → CallsIn Fence.wide 0 R.P f args' w (retOf (OutOK B r nx outs))

structure RunOK (R : Run) : Prop where
  cfg : CfgOK R.P R.C
  meth : ∀ t l m f, R.meth.get t = some l → findMeth l m = some f → ∀ v w, (Go.method (R.P.types.size + Made.depth) t v m).run R.P w = .ok (f, v) w
  clone : ∀ f, R.clone = some f → ∀ args w, (callFunc f args).run R.P w = (do pure (.value (← Extern.MapsClone.clone args)) : Sem Next).run R.P w
  tbl : CallOK R R.tbl

def RoundOK (R : Run) (round : RoundF) : Prop :=
  ∀ l args h nx outs, round l args h nx = some outs → ∀ (B : Base), B.ng = R.ng → ∀ r w args' j k, WR B r h nx w → VRs r args args'.toList → r l = some (j, k) →
    ∃ f tmps asg body, (Instr.yield j args').run R.P w = .ok (.round j f tmps asg body) w ∧ RoundIn Fence.wide 0 R.P j f tmps asg body w (retOf (OutOK B r nx outs))

section
variable {R : Run} {B : Base} {rnd : Option Nat} {o : Oper} {a : Act} {w w' : World} {next : Act → World → Prop} {Q : Exit → Act → World → Prop} {r : BMap} {h : T AObj} {nx : Nat} {outs : Outs}

theorem wpIn_value {v : Value} (hd : ∀ c, o.op ≠ .defer c) (h : (execOp a.eval o).run R.P w = .ok (.value v) w') (hn : next (a.put o.dst v) w') : o.wpIn (Fc rnd) 0 R.P a w next Q := by
  refine ⟨fun _ _ => trivial, ?_⟩
  rw [Oper.semAt_eq _ _ _ hd, h]
  exact hn

theorem wpIn_skip' (hd : ∀ c, o.op ≠ .defer c) (h : (execOp a.eval o).run R.P w = .ok .skip w') (hn : next (a.put o.dst undef) w') : o.wpIn (Fc rnd) 0 R.P a w next Q := by
  refine ⟨fun _ _ => trivial, ?_⟩
  rw [Oper.semAt_eq _ _ _ hd, h]
  exact hn

theorem EffOK.wp (he : EffOK R.P B r nx w (execOp a.eval o) outs) (hd : ∀ c, o.op ≠ .defer c) (hk : ∀ v w', OutOK B r nx outs v w' → next (a.put o.dst v) w') : o.wpIn (Fc rnd) 0 R.P a w next Q := by
  obtain ⟨x, h', nx', r', w', v, hm, hrun, he, hn, hw, hv⟩ := he
  have hk' := hk v w' ⟨x, h', nx', r', hm, he, hn, hw, hv⟩
  rcases hrun with hrun | ⟨hrun, rfl⟩
  · exact wpIn_value hd hrun hk'
  · exact wpIn_skip' hd hrun hk'

theorem wpIn_enter {f : FuncId} {args : Array Value} (hd : ∀ c, o.op ≠ .defer c) (h : (execOp a.eval o).run R.P w = .ok (.enter f args) w) (hc : CallsIn Fence.wide 0 R.P f args w (retOf (OutOK B r nx outs)))
    (hk : ∀ v w', OutOK B r nx outs v w' → next (a.put o.dst v) w') : o.wpIn (Fc rnd) 0 R.P a w next Q := by
  refine ⟨fun _ _ => trivial, ?_⟩
  rw [Oper.semAt_eq _ _ _ hd, h, Oper.uponIn_enter]
  refine ⟨Fc_depth rnd, callsIn_Fc (CallsIn.mono hc fun e w' he => ?_)⟩
  cases e with
  | returned v => exact hk v w' he
  | panicked c => exact he.elim
  | outgrown => exact he.elim

theorem wpIn_round {l : Nat} {f : FuncId} {tmps : Array Value} {asg body : Code} (hd : ∀ c, o.op ≠ .defer c) (h : (execOp a.eval o).run R.P w = .ok (.round l f tmps asg body) w)
    (hc : RoundIn Fence.wide 0 R.P l f tmps asg body w (retOf (OutOK B r nx outs))) (hk : ∀ v w', OutOK B r nx outs v w' → next (a.put o.dst v) w') : o.wpIn (Fc rnd) 0 R.P a w next Q := by
  refine ⟨fun _ _ => trivial, ?_⟩
  rw [Oper.semAt_eq _ _ _ hd, h, Oper.uponIn_round]
  refine ⟨Fc_depth rnd, roundIn_Fc (RoundIn.mono hc fun e w' he => ?_)⟩
  cases e with
  | returned v => exact hk v w' he
  | panicked c => exact he.elim
  | outgrown => exact he.elim

theorem map_fn_eq {α : Type} (f : α → Value) (x : Array α) : (x.map f).toList = x.toList.map f := by simp

/-- A clone of a map. -/
theorem acloneMap_run {args : List AVal} {args' : Array Value} (hs : acloneMap h nx args = some outs) (hv : VRs r args args'.toList) (H : WR B r h nx w) :
    ∃ v w', (Extern.MapsClone.clone args').run R.P w = .ok v w' ∧ OutOK B r nx outs v w' := by
  unfold acloneMap at hs
  split at hs
  · rename_i t b
    split at hs
    · rename_i ro es clock hb
      cases hs
      obtain ⟨l, hl⟩ : ∃ l, args' = ⟨l⟩ := ⟨args'.toList, rfl⟩
      subst hl
      cases hv with
      | cons h1 h2 =>
        cases h2
        obtain ⟨v', rfl, h3⟩ := h1.iface_inv
        obtain ⟨j, k, hj, rfl⟩ := h3.map_inv
        obtain ⟨o', e1, e2⟩ := H.obj b _ j k hb hj
        cases e2 with
        | map he =>
          rename_i es'
          have ho : OR r 0 (.map false es clock) (.map es' clock) := .map he
          refine ⟨.iface t (.map (some w.heap.size)), { w with heap := w.heap.push (.map es' clock) }, ?_, ?_⟩
          · obtain ⟨msg, hc⟩ : ∃ msg : String, Extern.MapsClone.clone #[.iface t (.map (some j))] = (do
                let .map entries clock ← getObj j | stuck msg
                pure (.iface t (.map (some (← newObj (.map entries clock)))))) := ⟨_, rfl⟩
            show (Extern.MapsClone.clone #[.iface t (.map (some j))]).run R.P w = _
            rw [hc]
            simp [getObj, Sem.run, e1, bind, Sem.bind, pure, newObj]
          · exact ⟨_, _, _, _, List.mem_singleton.2 rfl, bind1_ext _ _ _ _ _ (Nat.le_refl _), Nat.le_succ _, H.alloc ho, .iface (.map (bind1_self _ _ _ _))⟩
    · cases hs
  · cases hs

theorem one_mem {x : Option AVal} (h1 : one x h nx = some outs) : ∃ a, x = some a ∧ outs = [(a, h, nx)] := by
  unfold one at h1
  split at h1
  · cases h1; exact ⟨_, rfl, rfl⟩
  · cases h1

theorem aeff_wp (hR : RunOK R) {call : CallF} {round : RoundF} (hcall : CallOK R call) (hround : RoundOK R round) (hB : B.ng = R.ng) {ev : Ev} (hs : aeff R call round ev h nx o.op = some outs)
    (hq : EvR r ev a.eval) (H : WR B r h nx w) (hk : ∀ v w', OutOK B r nx outs v w' → next (a.put o.dst v) w') : o.wpIn (Fc rnd) 0 R.P a w next Q := by
  have hC := hR.cfg
  obtain ⟨dst, op, type, pos, after, guard⟩ := o
  simp only at hs hk
  unfold aeff at hs
  split at hs
  · -- assign
    rename_i x
    obtain ⟨c, e1, rfl⟩ := one_mem hs
    exact wpIn_value (by simp) (by simp [execOp]) (hk _ _ ⟨_, _, _, r, List.mem_singleton.2 rfl, Ext.refl _ _, Nat.le_refl _, H, hq _ _ e1⟩)
  · -- store
    rename_i t x y
    split at hs
    · rename_i p v e1 e2
      split at hs
      · rename_i h' e3
        cases hs
        obtain ⟨w', f1, f2⟩ := astore_run hC e3 (hq _ _ e1) (hq _ _ e2) H
        exact wpIn_skip' (by simp) (by simp only [execOp, Sem.run_bind, f1, Result.andThen_ok, Sem.run_pure]) (hk undef _ ⟨_, _, _, r, List.mem_singleton.2 rfl, Ext.refl _ _, Nat.le_refl _, f2, .tuple .nil⟩)
      · cases hs
    · cases hs
  · -- mapUpdate
    rename_i t m k x
    split at hs
    · rename_i p kk v e1 e2 e3
      split at hs
      · rename_i h' e4
        cases hs
        obtain ⟨w', f1, f2⟩ := amapUpdate_run hC e4 (hq _ _ e1) (hq _ _ e2) (hq _ _ e3) H
        exact wpIn_skip' (by simp) (by simp only [execOp, Sem.run_bind, f1, Result.andThen_ok, Sem.run_pure]) (hk undef _ ⟨_, _, _, r, List.mem_singleton.2 rfl, Ext.refl _ _, Nat.le_refl _, f2, .tuple .nil⟩)
      · cases hs
    · cases hs
  · -- range
    rename_i t x
    split at hs
    · rename_i p e1
      split at hs
      · rename_i oo e2
        cases hs
        obtain ⟨c, h', nx'⟩ := oo
        obtain ⟨r', w', v, f1, f2, f3, f4, f5⟩ := arange_run hC e2 (hq _ _ e1) H
        exact wpIn_value (by simp) (by simp only [execOp, Sem.run_bind, f1, Result.andThen_ok, Sem.run_pure]) (hk v _ ⟨_, _, _, r', List.mem_singleton.2 rfl, f2, f3, f4, f5⟩)
      · cases hs
    · cases hs
  · -- next
    rename_i x
    split at hs
    · rename_i p e1
      obtain ⟨c, h', v, w', f1, f2, f3, f4⟩ := anext_run (P := R.P) (ty := type) hs (hq _ _ e1) H
      exact wpIn_value (by simp) (by simp only [execOp, Sem.run_bind, f2, Result.andThen_ok, Sem.run_pure]) (hk v _ ⟨_, _, _, r, f1, Ext.refl _ _, Nat.le_refl _, f3, f4⟩)
    · cases hs
  · -- call
    rename_i c
    obtain ⟨callee, args, argTypes⟩ := c
    simp only at hs
    split at hs
    · -- append
      split at hs
      · rename_i x y t tx ea e0 e1
        split at hs
        · rename_i p q1 e2 e3
          split at hs
          · rename_i oo e4
            cases hs
            obtain ⟨c, h', nx'⟩ := oo
            obtain ⟨r', w', v, f1, f2, f3, f4, f5⟩ := aappend_run (u := type) hC e0 e1 e4 (hq _ _ e2) (hq _ _ e3) H
            have hargs : args = #[x, y] := by rw [← Array.toArray_toList (xs := args), ea]
            subst hargs
            refine wpIn_value (by simp) ?_ (hk v _ ⟨_, _, _, r', List.mem_singleton.2 rfl, f2, f3, f4, f5⟩)
            simp only [execOp, resolve, Sem.run_bind, Sem.run_pure, Result.andThen_ok, invoke, builtin, List.map_toArray, List.map_cons, List.map_nil, f1]
          · cases hs
        · cases hs
      · cases hs
    · -- copy
      split at hs
      · rename_i x y t ea e0
        split at hs
        · rename_i p q1 e2 e3
          split at hs
          · rename_i vv h' e4
            cases hs
            obtain ⟨w', v, f1, f4, f5⟩ := acopy_run (u := type) hC e0 e4 (hq _ _ e2) (hq _ _ e3) H
            have hargs : args = #[x, y] := by rw [← Array.toArray_toList (xs := args), ea]
            subst hargs
            refine wpIn_value (by simp) ?_ (hk v _ ⟨_, _, _, r, List.mem_singleton.2 rfl, Ext.refl _ _, Nat.le_refl _, f4, f5⟩)
            simp only [execOp, resolve, Sem.run_bind, Sem.run_pure, Result.andThen_ok, invoke, builtin, List.map_toArray, List.map_cons, List.map_nil, f1]
          · cases hs
        · cases hs
      · cases hs
    · cases hs
    · -- a function value
      rename_i f
      split at hs
      · rename_i g first caps as e1 e2
        obtain ⟨first', caps', hf, hv1, hv2⟩ := (hq _ _ e1).func_inv
        have hargs : VRs r as (args.map a.eval).toList := by rw [map_fn_eq]; exact evs_run hq _ _ e2
        have hall : VRs r (first ++ as ++ caps) (first' ++ args.map a.eval ++ caps').toList := by
          simp only [Array.toList_append]
          exact (hv1.append hargs).append hv2
        split at hs
        · rename_i hcl
          obtain ⟨v, w', f1, f2⟩ := acloneMap_run (R := R) hs hall H
          refine wpIn_value (v := v) (w' := w') (by simp) ?_ (hk v _ f2)
          simp only [execOp, resolve, hf, Deferred.ofValue, Sem.run_bind, Sem.run_pure, Result.andThen_ok, invoke, hR.clone g hcl, f1]
        · obtain ⟨g1, g2⟩ := hcall _ _ _ _ _ hs
          refine wpIn_enter (by simp) ?_ (g2 B hB r w _ H hall) hk
          simp only [execOp, resolve, hf, Deferred.ofValue, Sem.run_bind, Sem.run_pure, Result.andThen_ok, invoke, g1]
      · rename_i l as e1 e2
        obtain ⟨j, k, hj, hf⟩ := (hq _ _ e1).yield_inv
        have hargs : VRs r as (args.map a.eval).toList := by rw [map_fn_eq]; exact evs_run hq _ _ e2
        obtain ⟨g, tmps, asg, body, g1, g2⟩ := hround _ _ _ _ _ hs B hB r w _ j k H hargs hj
        refine wpIn_round (by simp) ?_ g2 hk
        simp only [execOp, resolve, hf, Deferred.ofValue, Sem.run_bind, Sem.run_pure, Result.andThen_ok, invoke, Array.empty_append, g1]
      · cases hs
    · -- a method
      rename_i x m
      split at hs
      · rename_i t v as e1 e2
        obtain ⟨v', hf, hv⟩ := (hq _ _ e1).iface_inv
        have hargs : VRs r as (args.map a.eval).toList := by rw [map_fn_eq]; exact evs_run hq _ _ e2
        split at hs
        · rename_i l e3
          split at hs
          · rename_i g e4
            obtain ⟨g1, g2⟩ := hcall _ _ _ _ _ hs
            have hall : VRs r (v :: as) (#[v'] ++ args.map a.eval).toList := by
              simp only [Array.toList_append]
              exact .cons hv hargs
            refine wpIn_enter (by simp) ?_ (g2 B hB r w _ H hall) hk
            have hm := hR.meth t l m g e3 e4 v' w
            have hx : (#[Value.iface t v'] ++ args.map a.eval).extract 1 (#[Value.iface t v'] ++ args.map a.eval).size = args.map a.eval := by
              apply Array.toList_inj.1
              simp
              exact List.take_of_length_le (by simp)
            have h0 : (#[Value.iface t v'] ++ args.map a.eval)[0]? = some (.iface t v') := by rw [Array.getElem?_append_left (by simp)]; rfl
            simp only [execOp, resolve, hf, Sem.run_bind, Sem.run_pure, Result.andThen_ok, invoke, h0, callMethod, hx, run_program, hm, g1]
          · cases hs
        · cases hs
      · cases hs
  · cases hs

/-- An operation's outcomes. -/
theorem aop_wp (hR : RunOK R) {call : CallF} {round : RoundF} (hcall : CallOK R call) (hround : RoundOK R round) (hB : B.ng = R.ng) {ev : Ev} (hs : aop R call round ev h nx o.op = some outs)
    (hq : EvR r ev a.eval) (H : WR B r h nx w) (hk : ∀ v w', OutOK B r nx outs v w' → next (a.put o.dst v) w') : o.wpIn (Fc rnd) 0 R.P a w next Q := by
  have hC := hR.cfg
  unfold aop at hs
  split at hs
  · rename_i hkd
    obtain ⟨c, e1, rfl⟩ := one_mem hs
    obtain ⟨v, f1, f2⟩ := apure_run hC hq e1
    exact wpIn_value (fun c hc => by rw [hc] at hkd; cases hkd) (f1 w) (hk v _ ⟨_, _, _, r, List.mem_singleton.2 rfl, Ext.refl _ _, Nat.le_refl _, H, f2⟩)
  · rename_i hkd
    split at hs
    · rename_i c e1
      cases hs
      obtain ⟨v, f1, f2⟩ := apure_run hC hq e1
      exact wpIn_value (fun c hc => by rw [hc] at hkd; cases hkd) (f1 w) (hk v _ ⟨_, _, _, r, List.mem_singleton.2 rfl, Ext.refl _ _, Nat.le_refl _, H, f2⟩)
    · obtain ⟨c, e1, rfl⟩ := one_mem hs
      obtain ⟨v, f1, f2⟩ := aread_run hC hq e1 H
      exact wpIn_value (fun c hc => by rw [hc] at hkd; cases hkd) f1 (hk v _ ⟨_, _, _, r, List.mem_singleton.2 rfl, Ext.refl _ _, Nat.le_refl _, H, f2⟩)
  · rename_i hkd
    split at hs
    · rename_i ob mk e1
      cases hs
      obtain ⟨o', mk', f1, f2, f3⟩ := anew_run hC hq e1
      exact wpIn_value (fun c hc => by rw [hc] at hkd; cases hkd) (f1 w) (hk _ _ ⟨_, _, _, _, List.mem_singleton.2 rfl, bind1_ext _ _ _ _ _ (Nat.le_refl _), Nat.le_succ _, H.alloc f2, f3 _ _ _ (bind1_self _ _ _ _)⟩)
    · cases hs
  · exact aeff_wp hR hcall hround hB hs hq H hk

end
end
end Go.Sx
