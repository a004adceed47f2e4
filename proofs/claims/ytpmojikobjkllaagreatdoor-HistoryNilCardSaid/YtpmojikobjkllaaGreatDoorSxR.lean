/- Part R: rounds, the statements, and the runner whole. -/
import Derived.Test.YtpmojikobjkllaaGreatDoorSxQ
import Derived.RangeFuncNested
namespace Go.Sx
open Go
noncomputable section
set_option linter.unusedSimpArgs false
set_option linter.unusedVariables false

theorem setParams_tr {r : BMap} {sz : Nat} : ∀ {ps : List Tmp} {args : List AVal} {args' : List Value} {tv : T AVal} {tmps : Array Value}, TR r tv sz tmps → VRs r args args' →
    TR r (setParams tv sz ps args) sz ((ps.zip args').foldl (fun tmps (t, a) => tmps.setIfInBounds t a) tmps)
  | [], args, args', tv, tmps, h, _ => by cases args <;> simpa [setParams] using h
  | p :: ps, _, _, tv, tmps, h, .nil => by simpa [setParams] using h
  | p :: ps, _, _, tv, tmps, h, .cons (a := a) (v := v) (l := l) (l' := l') ha hs => by
    have h1 : TR r (putTv tv sz (some p) a) sz (tmps.setIfInBounds p v) := TR.put (a := { tmps := tmps, defers := [] }) h (some p) ha
    simpa [setParams, List.zip_cons_cons, List.foldl_cons] using setParams_tr (ps := ps) h1 hs

theorem beginRounds_mem {l : Nat} {f : St → Option XOuts} : ∀ {o1 o2 : XOuts}, beginRounds l f o1 = some o2 → ∀ e s, (e, s) ∈ o1 → e = .normal ∧ ∃ pend tv sz ps asg body dfr, s.h.get l = some (.loop .ready pend tv sz ps asg body dfr) ∧
    ∃ x, f { s with h := s.h.set l (.loop .busy pend tv sz ps asg body dfr) } = some x ∧ ∀ y ∈ x, y ∈ o2
  | [], _, _, _, _, hm => by cases hm
  | (e', s') :: rest, o2, h, e, s, hm => by
    unfold beginRounds at h
    split at h
    · rename_i heq; cases heq
    · rename_i s1 rest1 heq
      cases heq
      split at h
      · rename_i pend tv sz ps asg body dfr hl
        split at h
        · rename_i x y e1 e2
          cases h
          rcases List.mem_cons.1 hm with heq | hm
          · cases heq
            exact ⟨rfl, pend, tv, sz, ps, asg, body, dfr, hl, x, e1, fun z hz => List.mem_append_left _ hz⟩
          · obtain ⟨g1, pend, tv, sz, ps, asg, body, dfr, g2, x', g3, g4⟩ := beginRounds_mem e2 e s hm
            exact ⟨g1, pend, tv, sz, ps, asg, body, dfr, g2, x', g3, fun z hz => List.mem_append_right _ (g4 z hz)⟩
        · cases h
      · cases h
    · cases h

theorem endRounds_mem {l : Nat} : ∀ {o2 : XOuts} {o : Outs}, endRounds l o2 = some o → ∀ e s, (e, s) ∈ o2 → ∃ st pend tv sz ps asg body dfr, s.h.get l = some (.loop st pend tv sz ps asg body dfr) ∧
    (AVal.bool (match e with | .normal => true | _ => false), s.h.set l (.loop (match e with | .normal => .ready | _ => .done) (jumpCode e) tv sz ps asg body dfr), s.nx) ∈ o
  | [], _, _, _, _, hm => by cases hm
  | (e', s') :: rest, o, h, e, s, hm => by
    simp only [endRounds] at h
    split at h
    · rename_i st pend tv sz ps asg body dfr o' hl e2
      cases h
      rcases List.mem_cons.1 hm with heq | hm
      · cases heq
        exact ⟨st, pend, tv, sz, ps, asg, body, dfr, hl, List.mem_cons_self ..⟩
      · obtain ⟨st, pend, tv, sz, ps, asg, body, dfr, g1, g2⟩ := endRounds_mem e2 e s hm
        exact ⟨st, pend, tv, sz, ps, asg, body, dfr, g1, List.mem_cons_of_mem _ g2⟩
    · cases h

/-- A loop's record is turned on both sides. -/
theorem WR.loopPut {B : Base} {r : BMap} {h : T AObj} {nx : Nat} {w : World} (H : WR B r h nx w) {l j k : Nat} {st : LoopState} {pend : Option Code} {tv : T AVal} {sz : Nat} {ps : List Tmp} {asg body : Code} {dfr : Nat}
    (hl : h.get l = some (.loop st pend tv sz ps asg body dfr)) (hj : r l = some (j, k)) :
    ∃ (rec : Loop), w.heap[j]? = some (.loop rec) ∧ rec.state = st ∧ rec.pending = pend ∧ rec.params.toList = ps ∧ rec.assign = asg ∧ rec.body = body ∧ TR r tv sz rec.tmps ∧ (∃ q, r dfr = some (rec.defers, q)) ∧
      ∀ (st' : LoopState) (pend' : Option Code), WR B r (h.set l (.loop st' pend' tv sz ps asg body dfr)) nx (w.putObj j (.loop { rec with state := st', pending := pend' })) := by
  obtain ⟨o', e1, e2⟩ := H.obj l _ j k hl hj
  cases e2 with
  | loop ht hp hd =>
    rename_i fn tmps ps' jd ld
    refine ⟨_, e1, rfl, rfl, hp, rfl, rfl, ht, ⟨_, hd⟩, fun st' pend' => ?_⟩
    have hput := putObj_put (o' := .loop { state := st', pending := pend', fn, tmps, params := ps', assign := asg, body, defers := jd }) e1
    exact H.put hl hj rfl (.loop ht hp hd) hput.os hput.tape hput.output hput.size hput.at_ hput.other

theorem roundOK_of {R : Run} (hR : RunOK R) {ex : Option Nat → Code → St → Option XOuts} (hX : ExecOK R ex) : RoundOK R (aroundF ex) := by
  intro l args h nx outs hs B hB r w args' j k H hv hj
  unfold aroundF at hs
  split at hs
  · rename_i st pend tv sz ps asg body dfr hl
    split at hs
    · rename_i hlen
      split at hs
      · rename_i o1 e1
        split at hs
        · rename_i o2 e2
          obtain ⟨rec, g1, g2, g3, g4, g5, g6, g7, g8, g9⟩ := H.loopPut hl hj
          have hsz : args'.size = rec.params.size := by
            have h1 := hv.length
            have h2 : rec.params.toList.length = ps.length := by rw [g4]
            simp at h1 h2
            omega
          refine ⟨rec.fn, _, rec.assign, rec.body, run_yield g1 hsz, roundIn_of_wpIn trivial ?_⟩
          rw [g5, g6]
          have htr : TR r (setParams tv sz ps args) sz ((rec.params.zip args').foldl (fun tmps (t, a) => tmps.setIfInBounds t a) rec.tmps) := by
            have := setParams_tr (ps := ps) g7 hv
            rw [← Array.foldl_toList, Array.toList_zip, g4]
            exact this
          refine (hX B hB (some l) asg _ o1 e1 r { tmps := _, defers := [] } w (some j) ⟨H, htr, .nil⟩ (.some hj) _ fun e s' hm r' a' w' hE hn S => ?_).1
          obtain ⟨rfl, pend1, tv1, sz1, ps1, asg1, body1, dfr1, k1, x, k2, k3⟩ := beginRounds_mem e2 e s' hm
          have hj' : r' l = some (j, k) := by rw [hE l (H.lt hj)]; exact hj
          obtain ⟨rec1, m1, m2, m3, m4, m5, m6, m7, m8, m9⟩ := S.wr.loopPut k1 hj'
          refine ⟨_, run_beginRound m1 m2, ?_⟩
          have hb := m9 .busy pend1
          rw [← m3] at hb
          refine (hX B hB (some l) body _ x k2 r' a' _ (some j) ⟨by rw [← m3]; exact hb, S.tr, S.df⟩ (.some hj') _ fun e2' s2 hm2 r2 a2 w2 hE2 hn2 S2 => ?_).1
          obtain ⟨st2, pend2, tv2, sz2, ps2, asg2, body2, dfr2, q1, q2⟩ := endRounds_mem hs e2' s2 (k3 _ hm2)
          have hn2' : s'.nx ≤ s2.nx := hn2
          have hj2 : r2 l = some (j, k) := by rw [hE2 l (S.wr.lt hj')]; exact hj'
          obtain ⟨rec2, t1, t2, t3, t4, t5, t6, t7, t8, t9⟩ := S2.wr.loopPut q1 hj2
          have hE3 : Ext nx r r2 := hE.trans hE2 hn
          cases e2' with
          | normal => exact ⟨_, _, run_endRound none t1, _, _, _, r2, q2, hE3, Nat.le_trans hn hn2', t9 .ready none, .bool true⟩
          | ret => exact ⟨_, _, run_endRound (some .ret) t1, _, _, _, r2, q2, hE3, Nat.le_trans hn hn2', t9 .done (some .ret), .bool false⟩
          | exit id => exact ⟨_, _, run_endRound (some (.exit id)) t1, _, _, _, r2, q2, hE3, Nat.le_trans hn hn2', t9 .done (some (.exit id)), .bool false⟩
        · cases hs
      · cases hs
    · cases hs
  · cases hs

/-! ### Statements -/
theorem bindX_mem {f : St → Option XOuts} : ∀ {o o2 : XOuts}, bindX f o = some o2 → ∀ e s, (e, s) ∈ o → (e = .normal ∧ ∃ x, f s = some x ∧ ∀ y ∈ x, y ∈ o2) ∨ (e ≠ .normal ∧ (e, s) ∈ o2)
  | [], _, _, _, _, hm => by cases hm
  | (e', s') :: l, o2, h, e, s, hm => by
    unfold bindX at h
    split at h
    · rename_i heq; cases heq
    · rename_i s1 l1 heq
      cases heq
      split at h
      · rename_i x y e1 e2
        cases h
        rcases List.mem_cons.1 hm with heq | hm
        · cases heq; exact .inl ⟨rfl, x, e1, fun z hz => List.mem_append_left _ hz⟩
        · rcases bindX_mem e2 e s hm with ⟨g1, x', g2, g3⟩ | ⟨g1, g2⟩
          · exact .inl ⟨g1, x', g2, fun z hz => List.mem_append_right _ (g3 z hz)⟩
          · exact .inr ⟨g1, List.mem_append_right _ g2⟩
      · cases h
    · rename_i e1 s1 l1 hne heq
      cases heq
      split at h
      · rename_i y e2
        cases h
        rcases List.mem_cons.1 hm with heq | hm
        · cases heq; exact .inr ⟨fun e => hne e, List.mem_cons_self ..⟩
        · rcases bindX_mem e2 e s hm with ⟨g1, x', g2, g3⟩ | ⟨g1, g2⟩
          · exact .inl ⟨g1, x', g2, fun z hz => List.mem_cons_of_mem _ (g3 z hz)⟩
          · exact .inr ⟨g1, List.mem_cons_of_mem _ g2⟩
      · cases h

theorem unBlock_mem {id : Nat} : ∀ {o : XOuts} {e : Ex} {s : St}, (e, s) ∈ o → (match e with | .exit k => (if k = id then (.normal, s) else (.exit k, s)) | e => (e, s)) ∈ unBlock id o
  | [], _, _, hm => by cases hm
  | (e', s') :: l, e, s, hm => by
    rcases List.mem_cons.1 hm with heq | hm
    · cases heq
      cases e' <;> exact List.mem_cons_self ..
    · have := unBlock_mem (id := id) hm
      cases e' <;> exact List.mem_cons_of_mem _ this

theorem normals_mem {s : St} : ∀ {l : List St}, s ∈ l → (Ex.normal, s) ∈ normals l
  | [], hm => by cases hm
  | s' :: l, hm => by
    rcases List.mem_cons.1 hm with rfl | hm
    · exact List.mem_cons_self ..
    · exact List.mem_cons_of_mem _ (normals_mem hm)

def afterLoop (f : Code → St → Option XOuts) (s : St) : Option Code → Option XOuts
  | none => some [(Ex.normal, s)]
  | some c => f c s

theorem endLoops_mem {l : Nat} {s : St} {dfs : List Nat} {f : Code → St → Option XOuts} : ∀ {outs : Outs} {o : XOuts}, endLoops l s dfs f outs = some o → ∀ a h nx, (a, h, nx) ∈ outs →
    ∃ st pend tv sz ps asg body dfr, h.get l = some (.loop st pend tv sz ps asg body dfr) ∧ st ≠ .busy ∧
      ∃ x, afterLoop f { s with h := h.set l (.loop .exhausted pend tv sz ps asg body dfr), nx, dfs } pend = some x ∧ ∀ y ∈ x, y ∈ o
  | [], _, _, _, _, _, hm => by cases hm
  | (a', h', nx') :: rest, o, hs, a, h, nx, hm => by
    simp only [endLoops] at hs
    split at hs
    · rename_i st pend tv sz ps asg body dfr hl
      split at hs
      · cases hs
      · rename_i hst
        split at hs
        · rename_i x y e1 e2
          cases hs
          rcases List.mem_cons.1 hm with heq | hm
          · cases heq
            exact ⟨st, pend, tv, sz, ps, asg, body, dfr, hl, hst, x, (by cases pend <;> exact e1), fun z hz => List.mem_append_left _ hz⟩
          · obtain ⟨st, pend, tv, sz, ps, asg, body, dfr, g1, g2, x', g3, g4⟩ := endLoops_mem e2 a h nx hm
            exact ⟨st, pend, tv, sz, ps, asg, body, dfr, g1, g2, x', g3, fun z hz => List.mem_append_right _ (g4 z hz)⟩
        · cases hs
    · cases hs

theorem leads_wide {P : Program} {w : World} {t : Target} {args : Array Value} {rnd : Option Nat} : ∀ f', Target.leads P w t args = some f' → (Fc rnd).fn f' := fun _ _ => trivial

/-- A range over a function. -/
theorem rangeFunc_wp {R : Run} (hR : RunOK R) {ex : Option Nat → Code → St → Option XOuts} (hX : ExecOK R ex) {B : Base} (hB : B.ng = R.ng) {rnd rc : Option Nat} {g : Operand} {ps : Array Tmp} {asg body : Code} {s : St} {outs : XOuts}
    (hs : arangeFunc R (acallF R ex) ex rnd g ps.toList asg body s = some outs) {r : BMap} {a : Act} {w : World} (S : SR B r s a w) (hrc : OptR r rnd rc) {Q : Exit → Act → World → Prop} (hQ : AtAll B s.nx r outs Q) :
    (Code.rangeFunc g ps asg body).wpIn (Fc rc) 0 R.P Q a w := by
  have hcall := callOK_of hR hX
  -- behind the call
  have post : ∀ {l : Nat} {j k : Nat} {dfs : List Nat} {r1 : BMap} {nx1 : Nat} {a1 : Act} {outs1 : Outs}, Ext s.nx r r1 → s.nx ≤ nx1 → r1 l = some (j, k) → l < nx1 → TR r1 s.tv s.sz a1.tmps → DfR r1 dfs a1.defers →
      OptR r1 rnd rc → (∀ i, nx1 ≤ i → r1 i = none) → endLoops l s dfs (fun c s' => ex rnd c s') outs1 = some outs → ∀ e w3, retOf (OutOK B r1 nx1 outs1) e w3 → rangePost (Fc rc) 0 R.P j Q a1 e w3 := by
    intro l j k dfs r1 nx1 a1 outs1 hE hn hj hlt ht hd ho hsup he e w3 hret
    cases e with
    | panicked c => exact hret.elim
    | outgrown => exact hret.elim
    | returned v =>
      obtain ⟨av, h', nx', r', hm, hE', hn', H', hv⟩ := hret
      obtain ⟨st, pend, tv, sz, ps', asg', body', dfr, g1, g2, x, g3, g4⟩ := endLoops_mem he av h' nx' hm
      have hj' : r' l = some (j, k) := by rw [hE' l hlt]; exact hj
      obtain ⟨rec, m1, m2, m3, m4, m5, m6, m7, m8, m9⟩ := H'.loopPut g1 hj'
      have hw := m9 .exhausted pend
      obtain ⟨st0, pend0, fn0, tm0, ps0, as0, bd0, df0⟩ := rec
      simp only at m3
      subst m3
      refine ⟨_, _, run_endLoop m1 (by rw [m2]; exact g2), ?_⟩
      have hle : Le r1 r' := fun i p hi => by
        by_cases e : i < nx1
        · rw [hE' i e]; exact hi
        · rw [hsup i (by omega)] at hi; cases hi
      have S' : SR B r' { s with h := h'.set l (.loop .exhausted pend0 tv sz ps' asg' body' dfr), nx := nx', dfs := dfs } a1 (w3.putObj j (.loop { state := .exhausted, pending := pend0, fn := fn0, tmps := tm0, params := ps0, assign := as0, body := bd0, defers := df0 })) := ⟨hw, ht.mono hle, hd.mono hle⟩
      cases pend0 with
      | none =>
        simp only [afterLoop, Option.some.injEq] at g3
        subst g3
        exact hQ .normal _ (g4 _ (List.mem_singleton.2 rfl)) r' _ _ (hE.trans hE' hn) (Nat.le_trans hn hn') S'
      | some c =>
        refine (hX B hB rnd c _ x g3 r' a1 _ rc S' (ho.mono hle) Q fun e2 s2 hm2 r2 a2 w2 hE2 hn2 S2 => ?_).1
        exact hQ e2 s2 (g4 _ hm2) r2 a2 w2 ((hE.trans hE' hn).trans hE2 (Nat.le_trans hn hn')) (Nat.le_trans (Nat.le_trans hn hn') hn2) S2
  unfold arangeFunc at hs
  split at hs
  · rename_i f first caps hg
    have hgv := evR_all (ng := R.ng) (S.wr.globs hB) S.tr _ _ hg
    obtain ⟨first', caps', hf, hv1, hv2⟩ := hgv.func_inv
    refine wpIn_rangeFunc fun fn _ => ?_
    have hres : ∀ (l : Nat) (w1 : World) (mark : List Deferred), (resolve a.eval (rangeCall g l) 0).run R.P w1 = .ok { target := .fn (.func f) caps', args := first' ++ #[.func (.yield l) #[] #[]] } w1 := fun l w1 mark => by
      show (Deferred.ofValue (a.eval g) (#[Operand.const (.func (.yield l) #[] #[])].map a.eval)).run R.P w1 = _
      rw [hf]
      simp [Deferred.ofValue, Act.eval]
    split at hs
    · -- an outermost loop
      rename_i hrnd
      cases hrc
      dsimp only at hs
      split at hs
      · rename_i outs1 hc
        obtain ⟨hcf, hcw⟩ := hcall _ _ _ _ _ hc
        -- the block for deferred calls, and the record
        have H1 := S.wr.alloc (l := 0) (o := .deferred) (o' := .deferred (some [])) .deferred
        have hx1 : bind1 r s.nx w.heap.size 0 s.nx = some (w.heap.size, 0) := bind1_self _ _ _ _
        have hE1 : Ext s.nx r (bind1 r s.nx w.heap.size 0) := bind1_ext _ _ _ _ _ (Nat.le_refl _)
        have H2 := H1.alloc (l := 0) (o := .loop .ready none s.tv s.sz ps.toList asg body s.nx)
          (o' := .loop { state := .ready, pending := none, fn := fn, tmps := a.tmps, params := ps, assign := asg, body := body, defers := w.heap.size }) (.loop (S.tr.mono (S.wr.le hE1)) rfl hx1)
        have hE2 : Ext s.nx r (bind1 (bind1 r s.nx w.heap.size 0) (s.nx + 1) (w.heap.push (.deferred (some []))).size 0) := hE1.trans (bind1_ext _ _ _ _ _ (Nat.le_refl _)) (Nat.le_succ _)
        have hle := S.wr.le hE2
        have hxl : bind1 (bind1 r s.nx w.heap.size 0) (s.nx + 1) (w.heap.push (.deferred (some []))).size 0 (s.nx + 1) = some (w.heap.size + 1, 0) := by rw [bind1_self]; simp
        have hxd : bind1 (bind1 r s.nx w.heap.size 0) (s.nx + 1) (w.heap.push (.deferred (some []))).size 0 s.nx = some (w.heap.size, 0) := by rw [bind1_other _ _ _ _ _ (by omega)]; exact hx1
        refine ⟨_, _, _, _, _, f, first' ++ #[.func (.yield (w.heap.size + 1)) #[] #[]] ++ caps', _, run_enterLoop_outer fn a.tmps ps asg body, hres _ _ [], leads_wide, ?_, Fc_depth none, callsIn_Fc (CallsIn.mono (hcw B hB _ _ _ H2 ?_) (post (dfs := s.nx :: s.dfs) hE2 (by omega) hxl (by omega) (S.tr.mono hle) (.cons hxd (S.df.mono hle)) .none (fun i hi => H2.fresh i hi) hs))⟩
        · exact hcf _ _
        · simp only [Array.toList_append]
          exact ((hv1.mono hle).append (.cons (.yield hxl) .nil)).append (hv2.mono hle)
      · cases hs
    · -- a loop within a round
      rename_i l0
      cases hrc with
      | some hl0 =>
        rename_i j0 k0
        split at hs
        · rename_i st0 pend0 tv0 sz0 ps0 asg0 body0 dfr hrec
          dsimp only at hs
          split at hs
          · rename_i outs1 hc
            obtain ⟨hcf, hcw⟩ := hcall _ _ _ _ _ hc
            obtain ⟨rec, m1, m2, m3, m4, m5, m6, m7, ⟨q, m8⟩, m9⟩ := S.wr.loopPut hrec hl0
            have H2 := S.wr.alloc (l := 0) (o := .loop .ready none s.tv s.sz ps.toList asg body dfr)
              (o' := .loop { state := .ready, pending := none, fn := fn, tmps := a.tmps, params := ps, assign := asg, body := body, defers := rec.defers }) (.loop S.tr rfl m8)
            have hE2 : Ext s.nx r (bind1 r s.nx w.heap.size 0) := bind1_ext _ _ _ _ _ (Nat.le_refl _)
            have hle := S.wr.le hE2
            have hxl : bind1 r s.nx w.heap.size 0 s.nx = some (w.heap.size, 0) := bind1_self _ _ _ _
            refine ⟨_, _, _, _, _, f, first' ++ #[.func (.yield w.heap.size) #[] #[]] ++ caps', _, run_enterLoop_inner m1 fn a.tmps ps asg body, hres _ _ [], leads_wide, ?_, Fc_depth _, callsIn_Fc (CallsIn.mono (hcw B hB _ _ _ H2 ?_) (post (dfs := s.dfs) hE2 (by omega) hxl (by omega) (S.tr.mono hle) (S.df.mono hle) (.some (hle _ _ hl0)) (fun i hi => H2.fresh i hi) hs))⟩
            · exact hcf _ _
            · simp only [Array.toList_append]
              exact ((hv1.mono hle).append (.cons (.yield hxl) .nil)).append (hv2.mono hle)
          · cases hs
        · cases hs
  · cases hs
  · cases hs

theorem stepX_ok {R : Run} (hR : RunOK R) {ex : Option Nat → Code → St → Option XOuts} (hX : ExecOK R ex) : ExecOK R (stepX R ex) := by
  intro B hB rnd c s outs hs r a w rc S hrc Q hQ
  have here : ∀ {e : Ex}, outs = [(e, s)] → Q (toExit e) a w := fun {e} he => hQ e s (by rw [he]; exact List.mem_singleton.2 rfl) r a w (Ext.refl _ _) (Nat.le_refl _) S
  unfold stepX at hs
  split at hs
  · cases hs; exact ⟨wpIn_skip (here rfl), fun _ h => by cases h⟩
  · cases hs; exact ⟨wpIn_label (here rfl), fun _ h => by cases h⟩
  · cases hs; exact ⟨wpIn_exit (here rfl), fun _ h => by cases h⟩
  · cases hs; exact ⟨wpIn_ret (here rfl), fun _ h => by cases h⟩
  · -- seq
    rename_i x y
    split at hs
    · rename_i o e1
      refine ⟨wpIn_seq ((hX B hB rnd x s o e1 r a w rc S hrc _ fun e s' hm r' a' w' hE hn S' => ?_).1), fun _ h => by cases h⟩
      rcases bindX_mem hs e s' hm with ⟨rfl, z, g1, g2⟩ | ⟨g1, g2⟩
      · refine (hX B hB rnd y s' z g1 r' a' w' rc S' (hrc.mono (S.wr.le hE)) Q fun e2 s2 hm2 r2 a2 w2 hE2 hn2 S2 => ?_).1
        exact hQ e2 s2 (g2 _ hm2) r2 a2 w2 (hE.trans hE2 hn) (Nat.le_trans hn hn2) S2
      · have := hQ e s' g2 r' a' w' hE hn S'
        cases e with
        | normal => exact (g1 rfl).elim
        | exit id => exact this
        | ret => exact this
    · cases hs
  · -- cond
    rename_i cc t e
    have hev := evR_all (ng := R.ng) (S.wr.globs hB) S.tr
    split at hs
    · rename_i hc
      exact ⟨wpIn_cond_true (hev _ _ hc).bool_inv ((hX B hB rnd t s outs hs r a w rc S hrc Q hQ).1), fun _ h => by cases h⟩
    · rename_i hc
      exact ⟨wpIn_cond_false (hev _ _ hc).bool_inv ((hX B hB rnd e s outs hs r a w rc S hrc Q hQ).1), fun _ h => by cases h⟩
    · cases hs
  · -- block
    rename_i id body
    split at hs
    · rename_i o e1
      cases hs
      refine ⟨wpIn_block ((hX B hB rnd body s o e1 r a w rc S hrc _ fun e s' hm r' a' w' hE hn S' => ?_).1), fun _ h => by cases h⟩
      have hm' := unBlock_mem (id := id) hm
      cases e with
      | normal => exact hQ _ _ hm' r' a' w' hE hn S'
      | ret => exact hQ _ _ hm' r' a' w' hE hn S'
      | exit k =>
        simp only at hm'
        show if k = id then Q .normal a' w' else Q (.exit k) a' w'
        split at hm'
        · rename_i hk; rw [if_pos hk]; exact hQ _ _ hm' r' a' w' hE hn S'
        · rename_i hk; rw [if_neg hk]; exact hQ _ _ hm' r' a' w' hE hn S'
    · cases hs
  · -- loop
    rename_i body
    split at hs
    · rename_i o e1
      have hl : LoopIn (Fc rc) R.P body Q a w := loopIn_of ((hX B hB rnd body s o e1 r a w rc S hrc _ fun e s' hm r' a' w' hE hn S' => by
        rcases bindX_mem hs e s' hm with ⟨rfl, z, g1, g2⟩ | ⟨g1, g2⟩
        · refine (hX B hB rnd (.loop body) s' z g1 r' a' w' rc S' (hrc.mono (S.wr.le hE)) Q fun e2 s2 hm2 r2 a2 w2 hE2 hn2 S2 => ?_).2 body rfl
          exact hQ e2 s2 (g2 _ hm2) r2 a2 w2 (hE.trans hE2 hn) (Nat.le_trans hn hn2) S2
        · have := hQ e s' g2 r' a' w' hE hn S'
          cases e with
          | normal => exact (g1 rfl).elim
          | exit id => exact this
          | ret => exact this).1)
      exact ⟨wpIn_loop_of hl, fun b h => by cases h; exact hl⟩
    · cases hs
  · -- region
    rename_i id ops d
    have hcall := callOK_of hR hX
    have hround := roundOK_of hR hX
    split at hs
    · rename_i l hl
      cases hs
      refine ⟨?_, fun _ h => by cases h⟩
      cases d with
      | true =>
        exact drawn_wp hR hcall hround hB (by simpa using hl) S fun s' hm r' a' w' hE hn S' => hQ .normal s' (normals_mem hm) r' a' w' hE hn S'
      | false =>
        refine wpIn_region ?_
        have := runOps_wp (rnd := rc) (Q := Q) hR hcall hround hB (ops := ops) ops.toList 0 rfl s.tv s.h s.nx l (by simpa using hl) r a w S fun s' hm r' a' w' hE hn S' => hQ .normal s' (normals_mem hm) r' a' w' hE hn S'
        rw [List.range_eq_range']
        simpa using this
    · cases hs
  · -- range over a function
    exact ⟨rangeFunc_wp hR hX hB hs S hrc hQ, fun _ h => by cases h⟩
  · cases hs

/-- The runner is right, whatever its fuel. -/
theorem exec_ok {R : Run} (hR : RunOK R) : ∀ n, ExecOK R (exec R n)
  | 0 => fun B hB rnd c s outs hs => by cases hs
  | n + 1 => stepX_ok hR (exec_ok hR n)

theorem acall_ok {R : Run} (hR : RunOK R) (n : Nat) : CallOK R (acall R n) := callOK_of hR (exec_ok hR n)

end
end Go.Sx
