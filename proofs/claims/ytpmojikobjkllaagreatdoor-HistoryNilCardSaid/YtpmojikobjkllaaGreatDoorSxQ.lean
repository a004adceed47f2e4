/- Part Q: calls, rounds, and the code of a function. -/
import Derived.Test.YtpmojikobjkllaaGreatDoorSxP
namespace Go.Sx
open Go
noncomputable section
set_option linter.unusedSimpArgs false
set_option linter.unusedVariables false

def toExit : Ex → Exit
  | .normal => .normal
  | .exit id => .exit id
  | .ret => .ret

/-- Ahead of a loop's body, the loop around it. -/
def LoopIn (F : Fence) (P : Program) (c : Code) (Q : Exit → Act → World → Prop) (a : Act) (w : World) : Prop :=
  ∀ (b : Frame) (k : List Item) (cs : List Frame), b.roundOf = F.round → F.fn b.fn → F.room (cs.length + 1 + 0) →
    ∃ e a' w', Q e a' w' ∧ ArrivesIn (Machine.fenced P F) P (lone (b.atR a (.code c :: .inLoop c :: k)) cs w) b k cs e a' w'

theorem wpIn_loop_of {F : Fence} {P : Program} {c : Code} {Q : Exit → Act → World → Prop} {a : Act} {w : World} (h : LoopIn F P c Q a w) : (Code.loop c).wpIn F 0 P Q a w :=
  fun b k cs hro hb hr => let ⟨e, a', w', q, x⟩ := h b k cs hro hb hr; ⟨e, a', w', q, .of_steps (.one (fenced_calm hb hr rfl) stepR_loop) x⟩

theorem loopIn_of {F : Fence} {P : Program} {c : Code} {Q : Exit → Act → World → Prop} {a : Act} {w : World} (h : c.wpIn F 0 P (Exit.then (LoopIn F P c Q) Q) a w) : LoopIn F P c Q a w := by
  intro b k cs hro hb hr
  obtain ⟨e, a₁, w₁, hq, harr⟩ := h b (.inLoop c :: k) cs hro hb hr
  cases e with
  | normal =>
    obtain ⟨e₂, a₂, w₂, hq₂, harr₂⟩ := hq b k cs hro hb hr
    exact ⟨e₂, a₂, w₂, hq₂, .of_steps (StepsIn.trans harr (.one (fenced_calm hb hr rfl) stepR_inLoop)) harr₂⟩
  | exit id => exact ⟨_, a₁, w₁, hq, .pass (x := .inLoop c) rfl (fun _ _ => .inl (by simp)) harr⟩
  | goto l => exact ⟨_, a₁, w₁, hq, .pass (x := .inLoop c) rfl (fun _ _ => .inl (by simp)) harr⟩
  | ret => exact ⟨_, a₁, w₁, hq, .pass (x := .inLoop c) rfl (fun _ _ => .inl (by simp)) harr⟩
  | panic ch => exact ⟨_, a₁, w₁, hq, .pass (x := .inLoop c) rfl (fun _ _ => .inl (by simp)) harr⟩
  | outgrown => exact ⟨_, a₁, w₁, hq, .pass (x := .inLoop c) rfl (fun _ _ => .inl (by simp)) harr⟩

/-- What is asked at every outcome. -/
def AtAll (B : Base) (nx : Nat) (r : BMap) (outs : XOuts) (Q : Exit → Act → World → Prop) : Prop :=
  ∀ e s', (e, s') ∈ outs → ∀ r' a' w', Ext nx r r' → nx ≤ s'.nx → SR B r' s' a' w' → Q (toExit e) a' w'

def ExecOK (R : Run) (ex : Option Nat → Code → St → Option XOuts) : Prop :=
  ∀ (B : Base), B.ng = R.ng → ∀ rnd c s outs, ex rnd c s = some outs → ∀ r a w rc, SR B r s a w → OptR r rnd rc → ∀ Q, AtAll B s.nx r outs Q →
    c.wpIn (Fc rc) 0 R.P Q a w ∧ ∀ body, c = .loop body → LoopIn (Fc rc) R.P body Q a w

/-! ### The end of an activation -/
theorem WR.kill {B : Base} {r : BMap} {h : T AObj} {nx : Nat} {w : World} (H : WR B r h nx w) {b j k : Nat} {o : AObj} {p' : Obj} (hb : h.get b = some o) (hj : r b = some (j, k)) (hrw : o.rw = true) {w' : World} (hp : Put w w' j p') :
    WR B r (h.del b) nx w' := by
  have hw := H.own b o j k hb hj hrw
  have hdel : ∀ {i x}, (h.del b).get i = some x → i ≠ b ∧ h.get i = some x := fun {i x} hi => by
    rw [T.get_del] at hi
    split at hi
    · cases hi
    · rename_i e; exact ⟨e, hi⟩
  refine ⟨hp.os.trans H.os, hp.tape.trans H.tape, hp.output.trans H.output, by rw [hp.size]; exact H.size, fun q hq => ?_, fun i x l n hi hl => ?_, fun i x l n hi => H.own i x l n (hdel hi).2, fun i i' x x' l n n' hi hi' => H.inj i i' x x' l n n' (hdel hi).2 (hdel hi').2, H.fresh, H.glob⟩
  · rw [hp.other q (by omega)]; exact H.old q hq
  · obtain ⟨hne, hi⟩ := hdel hi
    have : l ≠ j := fun e => by subst e; exact hne (H.inj b i o x l k n hb hi hj hl hrw).symm
    obtain ⟨x', h1, h2⟩ := H.obj i x l n hi hl
    exact ⟨x', by rw [hp.other l this]; exact h1, h2⟩

theorem putObj_put {w : World} {j : Nat} {o o' : Obj} (hj : w.heap[j]? = some o) : Put w (w.putObj j o') j o' := setObj_put hj

def resultSem (tmps : Array Value) : ResultVar → Sem Value
  | .tmp t => pure (tmps.getD t undef)
  | .cell a t => do loadVar t (← asAddr (tmps.getD a undef))

theorem results_eq (fn : Func) (tmps : Array Value) : results fn tmps = (do
    let vs ← fn.results.mapM (resultSem tmps)
    pure (if h : vs.size = 1 then vs[0] else .tuple vs)) := by
  have e : (fun x : ResultVar => (match x with
      | .tmp t => pure (tmps.getD t undef)
      | .cell a t => (do loadVar t (← asAddr (tmps.getD a undef)) : Sem Value) : Sem Value)) = resultSem tmps := funext fun x => (by cases x <;> rfl)
  unfold results
  rw [← e]
  rfl

theorem aresults_run {R : Run} (hR : RunOK R) {B : Base} {r : BMap} {h : T AObj} {nx : Nat} {tv : T AVal} {sz : Nat} {tmps : Array Value} {w : World} (H : WR B r h nx w) (ht : TR r tv sz tmps) :
    ∀ {l : List ResultVar} {vs : List AVal}, aresults R.C h tv l = some vs → ∃ vs', (l.mapM (resultSem tmps)).run R.P w = .ok vs' w ∧ VRs r vs vs'
  | [], vs, hv => by
    simp only [aresults, Option.some.injEq] at hv
    subst hv
    exact ⟨[], by simp [List.mapM_nil], .nil⟩
  | x :: l, vs, hv => by
    simp only [aresults] at hv
    split at hv
    · rename_i c l' e1 e2
      cases hv
      obtain ⟨vs', h1, h2⟩ := aresults_run hR H ht e2
      cases x with
      | tmp t =>
        simp only [aresult, Option.some.injEq] at e1
        subst e1
        exact ⟨tmps.getD t undef :: vs', by rw [List.mapM_cons]; simp only [resultSem, Sem.run_bind, Sem.run_pure, Result.andThen_ok, h1], .cons (ht.2 t) h2⟩
      | cell a t =>
        simp only [aresult] at e1
        obtain ⟨v', g1, g2⟩ := aload_run hR.cfg e1 (ht.2 a) H
        refine ⟨v' :: vs', ?_, .cons g2 h2⟩
        have g3 : (do loadVar t (← asAddr (tmps.getD a undef)) : Sem Value).run R.P w = .ok v' w := by
          have hp := ht.2 a
          generalize tmps.getD a undef = u at g1 hp ⊢
          have hu : ∃ ad, u = .pointer (some ad) := by
            unfold aload at e1
            split at e1
            · rename_i e3 e4
              rw [e3] at hp
              obtain ⟨j, k, _, rfl⟩ := hp.ptr_inv
              exact ⟨_, rfl⟩
            · cases e1
          obtain ⟨ad, rfl⟩ := hu
          simpa [Instr.loadAt, Instr.sureAddr, asAddr] using g1
        have g4 : (resultSem tmps (.cell a t)).run R.P w = .ok v' w := g3
        rw [List.mapM_cons]
        simp only [Sem.run_bind, g4, Result.andThen_ok, h1, Sem.run_pure]
    · cases hv

theorem results_run {R : Run} (hR : RunOK R) {B : Base} {r : BMap} {h : T AObj} {nx : Nat} {tv : T AVal} {sz : Nat} {tmps : Array Value} {w : World} (H : WR B r h nx w) (ht : TR r tv sz tmps) {fn : Func} {vs : List AVal}
    (hv : aresults R.C h tv fn.results.toList = some vs) : ∃ v, (results fn tmps).run R.P w = .ok v w ∧ VR r (resultOf vs) v := by
  obtain ⟨vs', h1, h2⟩ := aresults_run hR H ht hv
  have hm : (fn.results.mapM (resultSem tmps)).run R.P w = .ok vs'.toArray w := by
    rw [Array.mapM_eq_mapM_toList, Sem.run_map, h1]; rfl
  rw [results_eq]
  simp only [Sem.run_bind, hm, Result.andThen_ok, Sem.run_pure]
  refine ⟨_, rfl, ?_⟩
  cases h2 with
  | nil => exact .tuple .nil
  | cons hv0 hs =>
    cases hs with
    | nil => simpa [resultOf] using hv0
    | cons hv' hs =>
      simp only [resultOf, List.size_toArray, List.length_cons]
      rw [dif_neg (by omega)]
      exact .tuple (.cons hv0 (.cons hv' hs))

theorem takeMarks_run {R : Run} {B : Base} {r : BMap} {fn : Func} {tmps : Array Value} {K : Ending → World → Prop} {nx : Nat} : ∀ {dfs : List Nat} {defers : List Deferred} {h h' : T AObj} {w : World}, takeMarks h dfs = some h' → DfR r dfs defers → WR B r h nx w →
    (∀ w', WR B r h' nx w' → ∃ v, (results fn tmps).run R.P w' = .ok v w' ∧ K (.returned v) w') → LeavesInM Fence.wide 0 R.P fn tmps K defers .returning w
  | [], _, h, h', w, ht, .nil, H, hk => by
    simp only [takeMarks, Option.some.injEq] at ht
    subst ht
    exact hk w H
  | i :: dfs, _, h, h', w, ht, .cons (j := j) (k := k) hi hs, H, hk => by
    simp only [takeMarks] at ht
    split at ht
    · rename_i hd
      obtain ⟨o', e1, e2⟩ := H.obj i _ j k hd hi
      cases e2
      refine ⟨by simp, .inl ⟨j, _, rfl, run_takeDeferred e1, ?_⟩⟩
      exact takeMarks_run ht hs (H.kill hd hi rfl (putObj_put e1)) hk
    · cases ht

theorem leaveAll_mem {C : Cfg} {fn : Func} : ∀ {l : XOuts} {o : Outs}, leaveAll C fn l = some o → ∀ e s, (e, s) ∈ l → (∀ id, e ≠ .exit id) ∧ ∃ h vs, takeMarks s.h s.dfs = some h ∧ aresults C h s.tv fn.results.toList = some vs ∧ (resultOf vs, h, s.nx) ∈ o
  | [], _, _, _, _, hm => by cases hm
  | (e', s') :: l, o, h, e, s, hm => by
    simp only [leaveAll] at h
    split at h
    · cases h
    · rename_i hne
      split at h
      · rename_i h1 e1
        split at h
        · rename_i vs o' e2 e3
          cases h
          rcases List.mem_cons.1 hm with heq | hm
          · cases heq
            exact ⟨fun id he => hne id he, h1, vs, e1, e2, List.mem_cons_self ..⟩
          · obtain ⟨g1, h2, vs', g2, g3, g4⟩ := leaveAll_mem e3 e s hm
            exact ⟨g1, h2, vs', g2, g3, List.mem_cons_of_mem _ g4⟩
        · cases h
      · cases h

/-- The temporaries at the beginning. -/
theorem args0_get : ∀ (l : List AVal) (tv : T AVal) (i t : Nat), (args0 tv i l).get t = if i ≤ t ∧ t < i + l.length then l[t - i]? else tv.get t
  | [], tv, i, t => by simp [args0]; omega
  | a :: l, tv, i, t => by
    rw [args0, args0_get l, T.get_set]
    simp only [List.length_cons]
    by_cases e : t = i
    · subst e; simp; omega
    · by_cases h : i + 1 ≤ t ∧ t < i + 1 + l.length
      · rw [if_pos h, if_pos (by omega)]
        have : t - i = (t - (i + 1)) + 1 := by omega
        rw [this]; simp
      · rw [if_neg h, if_neg e, if_neg (by omega)]

theorem TR.start {r : BMap} {args : List AVal} {args' : Array Value} (h : VRs r args args'.toList) (n : Nat) : TR r (args0 .leaf 0 args) (max n args.length) (args' ++ Array.replicate (n - args'.size) undef) := by
  have hl : args.length = args'.size := by rw [h.length]; simp
  refine ⟨by simp; omega, fun t => ?_⟩
  rw [args0_get, Array.getD_eq_getD_getElem?]
  by_cases ht : t < args.length
  · rw [if_pos ⟨Nat.zero_le _, by omega⟩]
    obtain ⟨v, h1, h2⟩ := h.get (List.getElem?_eq_getElem (i := t) ht)
    rw [Array.getElem?_append_left (by omega)]
    have h3 : args'[t]? = some v := by simpa using h1
    rw [h3]
    simp only [Nat.sub_zero, List.getElem?_eq_getElem ht, Option.getD_some]
    exact h2
  · rw [if_neg (by omega), T.get_leaf, Array.getElem?_append_right (by omega), Array.getElem?_replicate]
    split <;> exact .tuple .nil

/-! ### Joined calls -/
theorem roT_get : ∀ (t : T AObj) (i : Nat), (roT t).get i = (t.get i).bind roObj
  | .leaf, i => rfl
  | .node l v q, 0 => by
    simp only [roT, T.get_zero]
    cases v <;> rfl
  | .node l v q, i + 1 => by
    simp only [roT, T.get_succ]
    split
    · exact roT_get l _
    · exact roT_get q _

theorem roObj_ro {o o' : AObj} (h : roObj o = some o') : o'.rw = false := by
  cases o <;> simp [roObj] at h <;> subst h <;> rfl

theorem roObj_OR {r : BMap} {k : Nat} {o o' : AObj} {x : Obj} (h : roObj o = some o') (ho : OR r k o x) : OR r k o' x := by
  cases ho <;> simp [roObj] at h <;> subst h
  · rename_i hs he hv; exact .cells hs he hv
  · rename_i he; exact .map he

theorem WR.ro {B : Base} {r : BMap} {h : T AObj} {nx : Nat} {w : World} (H : WR B r h nx w) : WR { w0 := w, ng := B.ng } r (roT h) nx w := by
  have hget : ∀ {i o}, (roT h).get i = some o → o.rw = false ∧ ∃ o1, h.get i = some o1 ∧ roObj o1 = some o := fun {i o} hi => by
    rw [roT_get] at hi
    obtain ⟨o1, h1, h2⟩ := Option.bind_eq_some_iff.1 hi
    exact ⟨roObj_ro h2, o1, h1, h2⟩
  refine ⟨rfl, rfl, rfl, Nat.le_refl _, fun _ _ => rfl, fun i o j k hi hj => ?_, fun i o j k hi hj hrw => ?_, fun i i' o o' j k k' hi hi' hj hj' hrw => ?_, H.fresh, H.glob⟩
  · obtain ⟨_, o1, h1, h2⟩ := hget hi
    obtain ⟨x, g1, g2⟩ := H.obj i o1 j k h1 hj
    exact ⟨x, g1, roObj_OR h2 g2⟩
  · rw [(hget hi).1] at hrw; cases hrw
  · rw [(hget hi).1] at hrw; cases hrw

/-- What has been taken over: the old blocks, and of the new ones those that 'ok' lets in. -/
theorem takeNew_get {h1 h2 : T AObj} : ∀ (n nx : Nat) (g : T AObj) (i : Nat) (o : AObj), (takeNew g h1 h2 nx n).get i = some o → (g.get i = some o ∧ (i < nx ∨ nx + n ≤ i)) ∨ (nx ≤ i ∧ i < nx + n ∧ meetAt h1 h2 i = some o)
  | 0, nx, g, i, o, h => .inl ⟨h, by omega⟩
  | n + 1, nx, g, i, o, h => by
    simp only [takeNew] at h
    split at h
    · rename_i p e
      rcases takeNew_get n (nx + 1) _ i o h with ⟨h3, h4⟩ | ⟨h3, h4, h5⟩
      · rw [T.get_set] at h3
        split at h3
        · rename_i e2; subst e2; cases h3
          exact .inr ⟨Nat.le_refl _, by omega, e⟩
        · exact .inl ⟨h3, by omega⟩
      · exact .inr ⟨by omega, by omega, h5⟩
    · split at h
      · rename_i e e3
        rcases takeNew_get n (nx + 1) _ i o h with ⟨h3, h4⟩ | ⟨h3, h4, h5⟩
        · by_cases e2 : i = nx
          · subst e2; rw [e3] at h3; cases h3
          · exact .inl ⟨h3, by omega⟩
        · exact .inr ⟨by omega, by omega, h5⟩
      · rename_i e p e3
        rcases takeNew_get n (nx + 1) _ i o h with ⟨h3, h4⟩ | ⟨h3, h4, h5⟩
        · rw [T.get_del] at h3
          split at h3
          · cases h3
          · rename_i e2; exact .inl ⟨h3, by omega⟩
        · exact .inr ⟨by omega, by omega, h5⟩

theorem meetAt_both {h1 h2 : T AObj} {i : Nat} {o : AObj} (h : meetAt h1 h2 i = some o) : h1.get i = some o ∧ h2.get i = some o ∧ o.rw = true := by
  unfold meetAt at h
  split at h
  · rename_i es c t es' c' t' e1 e2
    split at h
    · rename_i hc
      cases h
      obtain ⟨g1, g2, g3⟩ := hc
      exact ⟨e1, by rw [e2, g1, aeqs_eq _ _ g2, g3], rfl⟩
    · cases h
  · cases h

theorem WR.joined {B : Base} {r r' : BMap} {h h1 : T AObj} {nx nx1 : Nat} {w w' : World} (H : WR B r h nx w) (H1 : WR { w0 := w, ng := B.ng } r' h1 nx1 w') (hE : Ext nx r r') (hn : nx ≤ nx1) {g : T AObj}
    (hg : ∀ i o, g.get i = some o → (h.get i = some o ∧ (i < nx ∨ nx1 ≤ i)) ∨ (nx ≤ i ∧ h1.get i = some o ∧ o.rw = true)) : WR B r' g nx1 w' := by
  have hold : ∀ {i o j k}, h.get i = some o → (i < nx ∨ nx1 ≤ i) → r' i = some (j, k) → i < nx ∧ r i = some (j, k) ∧ j < w.heap.size := fun {i o j k} hi hb hj => by
    have hlt : i < nx := hb.resolve_right fun hb => by rw [H1.fresh i hb] at hj; cases hj
    rw [hE i hlt] at hj
    obtain ⟨x, g1, _⟩ := H.obj i o j k hi hj
    exact ⟨hlt, hj, (Array.getElem?_eq_some_iff.1 g1).1⟩
  refine ⟨H1.os.trans H.os, H1.tape.trans H.tape, H1.output.trans H.output, Nat.le_trans H.size H1.size, fun k hk => ?_, fun i o j k hi hj => ?_, fun i o j k hi hj hrw => ?_, fun i i' o o' j k k' hi hi' hj hj' hrw => ?_, H1.fresh, H1.glob⟩
  · rw [H1.old k (Nat.lt_of_lt_of_le hk H.size)]; exact H.old k hk
  · rcases hg i o hi with ⟨h2, h3⟩ | ⟨h2, h3, h4⟩
    · obtain ⟨g1, g2, g3⟩ := hold h2 h3 hj
      obtain ⟨x, k1, k2⟩ := H.obj i o j k h2 g2
      exact ⟨x, by rw [H1.old j g3]; exact k1, k2.mono (H.le hE)⟩
    · exact H1.obj i o j k h3 hj
  · rcases hg i o hi with ⟨h2, h3⟩ | ⟨h2, h3, h4⟩
    · obtain ⟨g1, g2, g3⟩ := hold h2 h3 hj
      exact H.own i o j k h2 g2 hrw
    · exact Nat.le_trans H.size (H1.own i o j k h3 hj h4)
  · rcases hg i o hi with ⟨h2, h3⟩ | ⟨h2, h3, h4⟩ <;> rcases hg i' o' hi' with ⟨k2, k3⟩ | ⟨k2, k3, k4⟩
    · exact H.inj i i' o o' j k k' h2 k2 (hold h2 h3 hj).2.1 (hold k2 k3 hj').2.1 hrw
    · have a1 := (hold h2 h3 hj).2.2
      have a2 := H1.own i' o' j k' k3 hj' k4
      simp only at a2
      omega
    · have a1 := (hold k2 k3 hj').2.2
      have a2 := H1.own i o j k h3 hj h4
      simp only at a2
      omega
    · exact H1.inj i i' o o' j k k' h3 k3 hj hj' hrw

theorem joinOuts_ok {B : Base} {r r' : BMap} {h h1 : T AObj} {nx nx1 : Nat} {w w' : World} {outs outs' : Outs} (hj : joinOuts h nx outs = some outs') {a : AVal} {v : Value} (hm : (a, h1, nx1) ∈ outs)
    (H : WR B r h nx w) (H1 : WR { w0 := w, ng := B.ng } r' h1 nx1 w') (hE : Ext nx r r') (hn : nx ≤ nx1) (hv : VR r' a v) : OutOK B r nx outs' v w' := by
  unfold joinOuts at hj
  split at hj
  · rename_i a1 g1 m1
    cases hj
    cases List.mem_singleton.1 hm
    refine ⟨_, _, _, r', List.mem_singleton.2 rfl, hE, hn, H.joined H1 hE hn fun i o hi => ?_, hv⟩
    rcases takeNew_get _ _ _ _ _ hi with ⟨k1, k2⟩ | ⟨k1, k2, k3⟩
    · exact .inl ⟨k1, by omega⟩
    · exact .inr ⟨k1, (meetAt_both k3).1, (meetAt_both k3).2.2⟩
  · rename_i a1 g1 m1 a2 g2 m2
    split at hj
    · rename_i hc
      obtain ⟨c1, rfl⟩ := hc
      have c1 := aeq_eq _ _ c1
      subst c1
      cases hj
      have hm' : a1 = a ∧ m1 = nx1 ∧ (g1 = h1 ∨ g2 = h1) := by
        rcases List.mem_cons.1 hm with e | e
        · cases e; exact ⟨rfl, rfl, .inl rfl⟩
        · cases List.mem_singleton.1 e; exact ⟨rfl, rfl, .inr rfl⟩
      obtain ⟨rfl, rfl, hh⟩ := hm'
      refine ⟨_, _, _, r', List.mem_singleton.2 rfl, hE, hn, H.joined H1 hE hn fun i o hi => ?_, hv⟩
      rcases takeNew_get _ _ _ _ _ hi with ⟨k1, k2⟩ | ⟨k1, k2, k3⟩
      · exact .inl ⟨k1, by omega⟩
      · refine .inr ⟨k1, ?_, (meetAt_both k3).2.2⟩
        rcases hh with rfl | rfl
        · exact (meetAt_both k3).1
        · exact (meetAt_both k3).2.1
    · cases hj
  · cases hj

/-- Calls. -/
theorem callOK0_of {R : Run} (hR : RunOK R) {ex : Option Nat → Code → St → Option XOuts} (hX : ExecOK R ex) : CallOK R (acallF0 R ex) := by
  intro f args h nx outs hs
  unfold acallF0 at hs
  split at hs
  · rename_i fn hfn
    obtain ⟨hf, hcf⟩ := hR.cfg.fn f fn hfn
    refine ⟨hcf, fun B hB r w args' H hv => ?_⟩
    split at hs
    · rename_i c hc
      refine callsIn_of_wp_marks hf hc trivial ?_
      have ht := TR.start hv fn.ntmps
      have key : ∀ (B' : Base) (h' : T AObj) (xo : XOuts) (o' : Outs) (K : Ending → World → Prop), B'.ng = R.ng → ex none c ⟨args0 .leaf 0 args, max fn.ntmps args.length, h', nx, []⟩ = some xo → leaveAll R.C fn xo = some o' → WR B' r h' nx w →
          (∀ a h1 nx1 r' w' v, (a, h1, nx1) ∈ o' → Ext nx r r' → nx ≤ nx1 → WR B' r' h1 nx1 w' → VR r' a v → K (.returned v) w') →
          c.wpIn Fence.wide 0 R.P (bodyPostM Fence.wide 0 R.P fn K) { tmps := args' ++ Array.replicate (fn.ntmps - args'.size) undef, defers := [] } w := by
        intro B' h' xo o' K hB' hx hl H' hK
        refine (hX B' hB' none c _ xo hx r _ w none ⟨H', ht, .nil⟩ .none _ fun e s' hm r' a' w' hE hn S => ?_).1
        obtain ⟨g1, h1, vs, g2, g3, g4⟩ := leaveAll_mem hl e s' hm
        have fin : LeavesInM Fence.wide 0 R.P fn a'.tmps K a'.defers .returning w' := takeMarks_run g2 S.df S.wr fun w2 H2 => by
          obtain ⟨v, k1, k2⟩ := results_run hR H2 S.tr g3
          exact ⟨v, k1, hK _ _ _ r' w2 v g4 hE hn H2 k2⟩
        cases e with
        | normal => exact fin
        | ret => exact fin
        | exit id => exact (g1 id rfl).elim
      split at hs
      · split at hs
        · rename_i xo hx
          split at hs
          · rename_i o' hl
            exact key { w0 := w, ng := B.ng } _ xo o' _ hB hx hl H.ro fun a h1 nx1 r' w' v hm hE hn H1 hv1 => joinOuts_ok hs hm H H1 hE hn hv1
          · cases hs
        · cases hs
      · split at hs
        · rename_i xo hx
          exact key B h xo outs _ hB hx hs H fun a h1 nx1 r' w' v hm hE hn H1 hv1 => ⟨a, h1, nx1, r', hm, hE, hn, H1, hv1⟩
        · cases hs
    · cases hs
  · cases hs

theorem callOK_of {R : Run} (hR : RunOK R) {ex : Option Nat → Code → St → Option XOuts} (hX : ExecOK R ex) : CallOK R (acallF R ex) := by
  intro f args h nx outs hs
  unfold acallF at hs
  split at hs
  · rename_i o e
    cases hs
    exact hR.tbl _ _ _ _ _ e
  · exact callOK0_of hR hX _ _ _ _ _ hs

end
end Go.Sx
