/- Part P: a region that draws its order, whole. -/
import Derived.Test.YtpmojikobjkllaaGreatDoorSxO
namespace Go.Sx
open Go
noncomputable section
set_option linter.unusedSimpArgs false
set_option linter.unusedVariables false

section
variable {R : Run} {B : Base} {ops : Array Oper} {sz : Nat} {df : List Deferred} {n0 : Nat}

def Lst (listed : Array Bool) (j : Nat) : Prop := listed[j]? = some true

theorem lst_set {listed : Array Bool} {i j : Nat} (hi : i < listed.size) : Lst (listed.setIfInBounds i true) j ↔ Lst listed j ∨ j = i := by
  unfold Lst
  rw [Array.getElem?_setIfInBounds]
  by_cases e : i = j
  · subst e; simp [hi]
  · simp [e, Ne.symm e]

/-- What is known of what has been carried out. -/
structure St8 (ops : Array Oper) (listed : Array Bool) (es : List Node) (done past : Nat) : Prop where
  size : listed.size = ops.size
  closed : ∀ y ∈ nodes ops.toList, Lst listed y.i → ∀ e ∈ y.o.after.toList, Region.binds .any e = true → Lst listed e.on
  done : ∀ j, done.testBit j = true ↔ ∃ x ∈ nodes ops.toList, x.kd = 3 ∧ x.i = j ∧ Lst listed j
  past : ∀ j, past.testBit j = true → Lst listed j
  es : ∃ pre, effs (nodes ops.toList) = pre ++ es ∧ (∀ x ∈ pre, Lst listed x.i) ∧ ∀ x ∈ es, ¬ Lst listed x.i

theorem St8.avl_of {listed : Array Bool} {es : List Node} {done past : Nat} (S : St8 ops listed es done past) (hreg : regOK (nodes ops.toList) = true) {x : Node} (hx : x ∈ nodes ops.toList)
    (he : ∀ e ∈ x.o.after.toList, Region.binds .any e = true → Lst listed e.on) : avl (effMask (nodes ops.toList)) (some done) x = true := by
  refine sub_of fun j hj => ?_
  rw [land_bit, Bool.and_eq_true] at hj
  have hl := anc_closed hreg S.closed _ x (node_mem hx) he j hj.1
  obtain ⟨y, hy, hk, hi⟩ := effMask_bit.1 hj.2
  exact (S.done j).2 ⟨y, hy, hk, hi, hl⟩

theorem aget_run (hC : CfgOK R.P R.C) {d : Ds} {x : Node} {c : AVal} {r : BMap} {a : Act} {w : World} (hg : ∀ g, g < R.ng → r g = some (g, 0)) (h : aget R d x = some c)
    (ht : ∀ t, .tmp t ∈ x.o.op.operands → VR r ((d.tv.get t).getD noVal) (a.tmps.getD t undef)) (H : WR B r d.h d.nx w) : ∃ v, (execOp a.eval x.o).run R.P w = .ok (.value v) w ∧ VR r c v := by
  have hq := evR_only (ng := R.ng) hg ht
  have hcg : ∀ y ∈ x.o.op.operands, only x.o.op.operands (evOf R.ng d.tv) y = evOf R.ng d.tv y := fun y hy => only_of hy
  unfold aget at h
  split at h
  · rw [← apure_congr hcg] at h
    obtain ⟨v, h1, h2⟩ := apure_run hC hq h
    exact ⟨v, h1 w, h2⟩
  · split at h
    · rename_i b e
      cases h
      rw [← apure_congr hcg] at e
      obtain ⟨v, h1, h2⟩ := apure_run hC hq e
      exact ⟨v, h1 w, h2⟩
    · rw [← aread_congr hcg] at h
      exact aread_run hC hq h H

theorem kd_defer {x : Node} {i : Nat} (h : (nodes ops.toList)[i]? = some x) (hk : x.kd ≠ 3) : ∀ c, x.o.op ≠ .defer c := fun c e => by
  obtain ⟨_, _, h3, _⟩ := node_at h
  rw [e] at h3
  exact hk h3

/-- An operation that does not write is carried out: what it hands back has been evaluated ahead. -/
theorem draw_calm (hR : RunOK R) (hB : B.ng = R.ng) {rnd : Option Nat} {Q : Exit → Act → World → Prop} (hreg : regOK (nodes ops.toList) = true) {listed : Array Bool} {es : List Node} {done past : Nat} {d : Ds} {r : BMap} {a : Act} {w : World}
    (S : St8 ops listed es done past) (I : Inv R B ops sz df n0 done (Lst listed) d r a w) {x : Node} (hx : x ∈ nodes ops.toList) (hk : x.kd ≠ 3) (hnl : ¬ Lst listed x.i) (hil : x.i < listed.size)
    (he : ∀ e ∈ x.o.after.toList, Region.binds .any e = true → Lst listed e.on) {K : Act → World → Prop}
    (hK : ∀ r' a' w', Ext n0 r r' → St8 ops (listed.setIfInBounds x.i true) es done past → Inv R B ops sz df n0 done (Lst (listed.setIfInBounds x.i true)) d r' a' w' → K a' w') :
    wpOpIn (Fc rnd) 0 R.P ops Q x.i K a w := by
  obtain ⟨_, hio, hkd, hlk, _⟩ := node_at (node_mem hx)
  have hav := S.avl_of hreg hx he
  obtain ⟨t, ht, hlt, hg⟩ := I.pend x hx hk hav hnl
  have hset : ∀ {j}, Lst (listed.setIfInBounds x.i true) j ↔ Lst listed j ∨ j = x.i := lst_set hil
  have S' : St8 ops (listed.setIfInBounds x.i true) es done past := by
    refine ⟨by rw [Array.size_setIfInBounds]; exact S.size, fun y hy hl e hey hb => ?_, fun j => ?_, fun j hj => hset.2 (.inl (S.past j hj)), ?_⟩
    · rcases hset.1 hl with hl | hl
      · exact hset.2 (.inl (S.closed y hy hl e hey hb))
      · rw [node_inj hy hx hl] at hey
        exact hset.2 (.inl (he e hey hb))
    · rw [S.done j]
      constructor
      · rintro ⟨y, h1, h2, h3, h4⟩; exact ⟨y, h1, h2, h3, hset.2 (.inl h4)⟩
      · rintro ⟨y, h1, h2, h3, h4⟩
        rcases hset.1 h4 with h4 | h4
        · exact ⟨y, h1, h2, h3, h4⟩
        · rw [node_inj h1 hx (h3.trans h4)] at h2; exact (hk h2).elim
    · obtain ⟨pre, h1, h2, h3⟩ := S.es
      refine ⟨pre, h1, fun y hy => hset.2 (.inl (h2 y hy)), fun y hy hl => ?_⟩
      rcases hset.1 hl with hl | hl
      · exact h3 y hy hl
      · have hy' : y ∈ effs (nodes ops.toList) := by rw [h1]; exact List.mem_append_right _ hy
        obtain ⟨g1, g2⟩ := effs_mem.1 hy'
        rw [node_inj g1 hx hl] at g2
        exact hk g2
  have hlooks : ∀ u ∈ x.looks, VR r ((d.tv.get u).getD noVal) (a.tmps.getD u undef) := fun u hu => I.tmps u fun y hy hky hay hny hdy => by
    by_cases hyx : y.i = x.i
    · rw [node_inj hy hx hyx] at hdy
      obtain ⟨t', e1, e2⟩ := reg_dst hreg hx hk
      rw [e1] at hdy; cases hdy; exact e2 hu
    · obtain ⟨h1, _, _⟩ := pair_parts (reg_pair hreg hy hx) hyx
      exact hny (anc_closed hreg S.closed _ x (node_mem hx) he _ (((h1 u hdy).2 hky).2 hu))
  have hwant : Region.wanted x.o (yielded ops a.tmps) = wantedA ops.toList d.tv x.o := wanted_eq (r := r) fun u hu => hlooks u (hlk ▸ hu)
  have hops : ∀ u, Operand.tmp u ∈ x.o.op.operands → VR r ((d.tv.get u).getD noVal) (a.tmps.getD u undef) := fun u hu => hlooks u (hlk ▸ operand_looks hu)
  have hio' : ops[x.i]? = some x.o := by simpa using hio
  -- the invariant behind it
  have keep : ∀ {r' : BMap} {w' : World} {v : Value}, WR B r' d.h d.nx w' → Le r r' → VR r' ((d.tv.get t).getD noVal) v → (∀ y ∈ nodes ops.toList, y.kd ≠ 3 → avl (effMask (nodes ops.toList)) (some done) y = true → ¬ Lst listed y.i → y.i ≠ x.i → Good R ops.toList sz d r' y) →
      Inv R B ops sz df n0 done (Lst (listed.setIfInBounds x.i true)) d r' (a.put x.o.dst v) w' := by
    intro r' w' v hw hle hv hgd
    refine ⟨hw, I.wf, ?_, by rw [put_defers]; exact I.df, fun u hu => ?_, fun y hy hky hay hny => ?_⟩
    · rw [ht]; simp [Act.put, I.size]
    · rw [ht]
      show VR r' _ ((a.tmps.setIfInBounds t v).getD u undef)
      rw [getD_set u (by rw [I.size]; exact hlt)]
      split
      · rename_i e; subst e; exact hv
      · rename_i hne
        refine (I.tmps u fun y hy hky hay hny hdy => ?_).mono hle
        refine hu y hy hky hay (fun hl => ?_) hdy
        rcases hset.1 hl with hl | hl
        · exact hny hl
        · rw [node_inj hy hx hl, ht] at hdy
          cases hdy; exact hne rfl
    · exact hgd y hy hky hay (fun hl => hny (hset.2 (.inl hl))) fun e => hny (hset.2 (.inr e))
  unfold wpOpIn
  simp only [hio', hwant]
  rcases hg with ⟨h1, h2⟩ | ⟨h1, h2, c, h3, h4⟩ | ⟨h1, h2, o, mk, id, h3, h4, h5, h6, h7, h8⟩
  · simp only [h1, Bool.false_eq_true, if_false]
    refine ⟨fun _ _ => trivial, hK r _ _ (Ext.refl _ _) S' (keep I.wr (fun _ _ h => h) (by rw [h2]; exact .tuple .nil) fun y hy hky hay hny hne => I.pend y hy hky hay hny)⟩
  · simp only [h1, if_true]
    obtain ⟨v, e1, e2⟩ := aget_run hR.cfg (I.wr.globs hB) h3 hops I.wr
    exact wpIn_value (kd_defer (node_mem hx) hk) e1 (hK r _ _ (Ext.refl _ _) S' (keep I.wr (fun _ _ h => h) (by rw [h4]; exact e2) fun y hy hky hay hny hne => I.pend y hy hky hay hny))
  · simp only [h1, if_true]
    have hq := evR_only (ng := R.ng) (I.wr.globs hB) hops
    have hcg : ∀ y ∈ x.o.op.operands, only x.o.op.operands (evOf R.ng d.tv) y = evOf R.ng d.tv y := fun y hy => only_of hy
    rw [← anew_congr hcg] at h3
    obtain ⟨o', mk', f1, f2, f3⟩ := anew_run hR.cfg hq h3
    have hle := bind1_le r id w.heap.size 0 h7
    have hwr := I.wr.bindNew (i := id) (l := 0) (o := o) (o' := o') h5 h7 h8 (f2.mono hle)
    refine wpIn_value (kd_defer (node_mem hx) hk) (f1 w) (hK (bind1 r id w.heap.size 0) _ _ ?_ S' (keep hwr hle (by rw [h6]; exact f3 _ _ _ (bind1_self _ _ _ _)) fun y hy hky hay hny hne => ?_))
    · exact bind1_ext _ _ _ _ _ (I.wf.2.1 _ _ h4).1
    · obtain ⟨t', g1, g2, g3⟩ := I.pend y hy hky hay hny
      refine ⟨t', g1, g2, ?_⟩
      rcases g3 with g3 | g3 | ⟨k1, k2, o2, mk2, id2, k3, k4, k5, k6, k7, k8⟩
      · exact .inl g3
      · exact .inr (.inl g3)
      · refine .inr (.inr ⟨k1, k2, o2, mk2, id2, k3, k4, k5, k6, ?_, k8⟩)
        rw [bind1_other _ _ _ _ _ fun e => hne (I.wf.2.2 _ _ id (by rw [← e]; exact k4) h4)]
        exact k7

theorem looks_ready (hreg : regOK (nodes ops.toList) = true) {listed : Array Bool} {es : List Node} {done past : Nat} {d : Ds} {r : BMap} {a : Act} {w : World}
    (S : St8 ops listed es done past) (I : Inv R B ops sz df n0 done (Lst listed) d r a w) {x : Node} (hx : x ∈ nodes ops.toList) (hk : x.kd = 3)
    (he : ∀ e ∈ x.o.after.toList, Region.binds .any e = true → Lst listed e.on) : ∀ u ∈ x.looks, VR r ((d.tv.get u).getD noVal) (a.tmps.getD u undef) := fun u hu => I.tmps u fun y hy hky hay hny hdy => by
  have hyx : y.i ≠ x.i := fun e => hky (by rw [node_inj hy hx e]; exact hk)
  obtain ⟨h1, _, _⟩ := pair_parts (reg_pair hreg hy hx) hyx
  exact hny (anc_closed hreg S.closed _ x (node_mem hx) he _ (((h1 u hdy).2 hky).2 hu))

/-- Behind a writing operation. -/
theorem draw_next (hreg : regOK (nodes ops.toList) = true) {call : CallF} {round : RoundF} {dfs : List Nat} {listed : Array Bool} {es : List Node} {done past : Nat} {d : Ds} {r r' : BMap} {a : Act} {w w' : World} {x : Node}
    (S : St8 ops listed (x :: es) done past) (I : Inv R B ops sz df n0 done (Lst listed) d r a w) (hx : x ∈ nodes ops.toList) (hk : x.kd = 3) (hnl : ¬ Lst listed x.i) (hil : x.i < listed.size)
    (he : ∀ e ∈ x.o.after.toList, Region.binds .any e = true → Lst listed e.on) {c : AVal} {h' : T AObj} {nx' : Nat} {v : Value} (hE : Ext d.nx r r') (hn : d.nx ≤ nx') (hw : WR B r' h' nx' w') (hv : VR r' c v)
    {res : List St} (hg : drawGo R call round ops.toList (nodes ops.toList) (effMask (nodes ops.toList)) dfs sz es (some done) (Nat.lor done (Nat.shiftLeft 1 x.i)) (Nat.lor (Nat.lor past x.anc) (Nat.shiftLeft 1 x.i)) { d with tv := putTv d.tv sz x.o.dst c, h := h', nx := nx' } = some res) :
    ∃ d3, settle R ops.toList sz (todo (effMask (nodes ops.toList)) (some done) (Nat.lor done (Nat.shiftLeft 1 x.i)) (Nat.lor (Nat.lor past x.anc) (Nat.shiftLeft 1 x.i)) (nodes ops.toList)) { d with tv := putTv d.tv sz x.o.dst c, h := h', nx := nx' } = some d3 ∧
      St8 ops (listed.setIfInBounds x.i true) es (Nat.lor done (Nat.shiftLeft 1 x.i)) (Nat.lor (Nat.lor past x.anc) (Nat.shiftLeft 1 x.i)) ∧
      Inv R B ops sz df n0 (Nat.lor done (Nat.shiftLeft 1 x.i)) (Lst (listed.setIfInBounds x.i true)) d3 r' (a.put x.o.dst v) w' := by
  have hset : ∀ {j}, Lst (listed.setIfInBounds x.i true) j ↔ Lst listed j ∨ j = x.i := lst_set hil
  have hanc : ∀ j, x.anc.testBit j = true → Lst listed j := anc_closed hreg S.closed _ x (node_mem hx) he
  have hle : Le r r' := I.wr.le hE
  have hne : ∀ {y : Node}, y ∈ nodes ops.toList → y.kd ≠ 3 → y.i ≠ x.i := fun hy hky e => hky (by rw [node_inj hy hx e]; exact hk)
  obtain ⟨d3, hd3⟩ := drawGo_settle hg
  have S' : St8 ops (listed.setIfInBounds x.i true) es (Nat.lor done (Nat.shiftLeft 1 x.i)) (Nat.lor (Nat.lor past x.anc) (Nat.shiftLeft 1 x.i)) := by
    refine ⟨by rw [Array.size_setIfInBounds]; exact S.size, fun y hy hl e hey hb => ?_, fun j => ?_, fun j hj => ?_, ?_⟩
    · rcases hset.1 hl with hl | hl
      · exact hset.2 (.inl (S.closed y hy hl e hey hb))
      · rw [node_inj hy hx hl] at hey
        exact hset.2 (.inl (he e hey hb))
    · rw [lor_bit, shl_bit, Bool.or_eq_true, decide_eq_true_eq, S.done j]
      constructor
      · rintro (⟨y, h1, h2, h3, h4⟩ | rfl)
        · exact ⟨y, h1, h2, h3, hset.2 (.inl h4)⟩
        · exact ⟨x, hx, hk, rfl, hset.2 (.inr rfl)⟩
      · rintro ⟨y, h1, h2, h3, h4⟩
        rcases hset.1 h4 with h4 | h4
        · exact .inl ⟨y, h1, h2, h3, h4⟩
        · exact .inr h4.symm
    · rw [lor_bit, lor_bit, shl_bit, Bool.or_eq_true, Bool.or_eq_true, decide_eq_true_eq] at hj
      rcases hj with (hj | hj) | hj
      · exact hset.2 (.inl (S.past j hj))
      · exact hset.2 (.inl (hanc j hj))
      · exact hset.2 (.inr hj.symm)
    · obtain ⟨pre, h1, h2, h3⟩ := S.es
      refine ⟨pre ++ [x], by rw [h1]; simp, fun y hy => ?_, fun y hy hl => ?_⟩
      · rcases List.mem_append.1 hy with hy | hy
        · exact hset.2 (.inl (h2 y hy))
        · rw [List.mem_singleton.1 hy]; exact hset.2 (.inr rfl)
      · rcases hset.1 hl with hl | hl
        · exact h3 y (List.mem_cons_of_mem _ hy) hl
        · have hs : (effs (nodes ops.toList)).Pairwise fun x y => x.i < y.i := (nodes_sorted ops.toList).sublist (effs_sublist _)
          rw [h1, List.pairwise_append] at hs
          have := (List.pairwise_cons.1 hs.2.1).1 y hy
          omega
  refine ⟨d3, hd3, S', ?_⟩
  refine stage hreg hd3 hw ⟨Nat.le_trans I.wf.1 hn, fun i id hi => ⟨(I.wf.2.1 i id hi).1, Nat.lt_of_lt_of_le (I.wf.2.1 i id hi).2 hn⟩, I.wf.2.2⟩ ?_ (by rw [put_defers]; exact I.df) ?_ ?_ ?_ S'.past
  · cases x.o.dst <;> simp [Act.put, I.size]
  · intro t ht
    refine put_one I.size hv ((I.tmps t fun y hy hky hay hny hdy => ?_).mono hle)
    exact ht y hy hky hay (fun hl => (hset.1 hl).elim hny (hne hy hky)) hdy
  · intro y hy hky hay hny
    have hny' : ¬ Lst listed y.i := fun hl => hny (hset.2 (.inl hl))
    have hgood := I.pend y hy hky hay hny'
    have hnice := nice_of hreg hy hky
    obtain ⟨p1, _, _⟩ := pair_parts (reg_pair hreg hx hy) (Ne.symm (hne hy hky))
    obtain ⟨q1, _, _⟩ := pair_parts (reg_pair hreg hy hx) (hne hy hky)
    have hput : ∀ t, x.o.dst ≠ some t → (putTv d.tv sz x.o.dst c).get t = d.tv.get t := fun t ht => by
      cases hd : x.o.dst with
      | none => rfl
      | some u =>
        simp only [putTv]
        split
        · rw [T.get_set, if_neg fun e => ht (by rw [hd, e])]
        · rfl
    have hlk : ∀ t ∈ y.looks, (putTv d.tv sz x.o.dst c).get t = d.tv.get t := fun t ht => hput t fun hd => by
      rcases (p1 t hd).1 hk ht with hb | hb
      · have : done.testBit x.i = true := sub_bit (a := Nat.land y.anc (effMask (nodes ops.toList))) hay (by rw [land_bit, hb, effMask_bit.2 ⟨x, hx, hk, rfl⟩]; rfl)
        obtain ⟨z, z1, z2, z3, z4⟩ := (S.done x.i).1 this
        exact hnl z4
      · exact hny' (hanc _ hb)
    have hdst : ∀ t, y.o.dst = some t → (putTv d.tv sz x.o.dst c).get t = d.tv.get t := fun t ht => hput t ((q1 t ht).2 hky).1
    have hwn : wantedA ops.toList (putTv d.tv sz x.o.dst c) y.o = wantedA ops.toList d.tv y.o := wantedA_congr (hnice.1 ▸ hlk)
    have hev := evs_looks (ng := R.ng) (all := ops.toList) (o := y.o) (hnice.1 ▸ hlk)
    refine ⟨sub_of fun j hj => ?_, fun h0 => ?_, ?_⟩
    · rw [lor_bit, sub_bit hay hj]; rfl
    · obtain ⟨t, g1, g2, g3⟩ := hgood
      refine ⟨t, g1, g2, ?_⟩
      dsimp only
      rw [hwn, hdst t g1]
      rcases g3 with g3 | ⟨k1, k2, b, k3, k4⟩ | ⟨k1, k2, _⟩
      · exact .inl g3
      · exact .inr (.inl ⟨k1, k2, b, aget_ag (d := d) (d' := { d with tv := putTv d.tv sz x.o.dst c, h := h', nx := nx' }) hnice.1 hlk (.inl h0) k3, k4⟩)
      · rw [h0] at k2; cases k2
    · obtain ⟨t, g1, g2, g3⟩ := hgood
      refine ⟨t, g1, g2, ?_⟩
      dsimp only
      rw [hwn, hdst t g1]
      rcases g3 with g3 | ⟨k1, k2, b, k3, k4⟩ | ⟨k1, k2, o, mk, id, k3, k4, k5, k6, k7, k8⟩
      · exact .inl g3
      · exact .inr (.inl ⟨k1, k2⟩)
      · exact .inr (.inr ⟨k1, k2, o, mk, id, by rw [← k3]; exact anew_congr hev, k4, k6, by rw [hE id k8]; exact k7, Nat.lt_of_lt_of_le k8 hn⟩)
  · intro y hy hky hl
    rcases hset.1 hl with hl | hl
    · exact S.avl_of hreg hy (S.closed y hy hl)
    · exact (hne hy hky hl).elim

theorem all_listed (hreg : regOK (nodes ops.toList) = true) {listed : Array Bool} (hs : listed.size = ops.size) (h : Region.ready .any ops listed = []) : ∀ j, j < ops.size → Lst listed j := by
  intro j
  induction j using Nat.strongRecOn with
  | _ j ih =>
    intro hj
    have hls : j < listed.size := by rw [hs]; exact hj
    cases hb : listed[j] with
    | true => exact Array.getElem?_eq_some_iff.2 ⟨hls, hb⟩
    | false =>
      have ho : ops.toList[j]? = some ops[j] := by simp [hj]
      obtain ⟨x, h1, h2, h3⟩ := node_of ho
      have : j ∈ Region.ready .any ops listed := mem_ready.2 ⟨by simp [Array.getD, hls, hb], ops[j], by simp [hj], fun e hee hbe => by
        have hlt := reg_edge hreg (List.mem_of_getElem? h1) (e := e) (by rw [h3]; simpa using hee) hbe
        rw [h2] at hlt
        have := ih e.on hlt (by omega)
        rw [Array.getD_eq_getD_getElem?, this]; rfl⟩
      rw [h] at this; cases this

/-- Whatever is drawn, the region ends in one of the outcomes. -/
theorem draw_any (hR : RunOK R) {call : CallF} {round : RoundF} (hcall : CallOK R call) (hround : RoundOK R round) (hB : B.ng = R.ng) {rnd : Option Nat} {Q : Exit → Act → World → Prop} (hreg : regOK (nodes ops.toList) = true) {dfs : List Nat} {r0 : BMap} :
    ∀ (fuel : Nat) (listed : Array Bool) (es : List Node) (p : Option Nat) (done past : Nat) (d0 d : Ds) (res : List St) (r : BMap) (a : Act) (w : World),
    drawGo R call round ops.toList (nodes ops.toList) (effMask (nodes ops.toList)) dfs sz es p done past d0 = some res →
    settle R ops.toList sz (todo (effMask (nodes ops.toList)) p done past (nodes ops.toList)) d0 = some d → St8 ops listed es done past → Inv R B ops sz df n0 done (Lst listed) d r a w →
    listed.toList.count false ≤ fuel → Ext n0 r0 r →
    (∀ tv h nx, St.mk tv sz h nx dfs ∈ res → ∀ r' a' w', Ext n0 r0 r' → n0 ≤ nx → WR B r' h nx w' → TR r' tv sz a'.tmps → a'.defers = df → Q .normal a' w') →
    wpAnyIn (Fc rnd) 0 R.P .any ops Q fuel listed a w := by
  have hfin : ∀ (listed : Array Bool) (es : List Node) (p : Option Nat) (done past : Nat) (d0 d : Ds) (res : List St) (r : BMap) (a : Act) (w : World),
      drawGo R call round ops.toList (nodes ops.toList) (effMask (nodes ops.toList)) dfs sz es p done past d0 = some res →
      settle R ops.toList sz (todo (effMask (nodes ops.toList)) p done past (nodes ops.toList)) d0 = some d → St8 ops listed es done past → Inv R B ops sz df n0 done (Lst listed) d r a w → Ext n0 r0 r →
      (∀ tv h nx, St.mk tv sz h nx dfs ∈ res → ∀ r' a' w', Ext n0 r0 r' → n0 ≤ nx → WR B r' h nx w' → TR r' tv sz a'.tmps → a'.defers = df → Q .normal a' w') →
      Region.ready .any ops listed = [] → Q .normal a w := by
    intro listed es p done past d0 d res r a w hgo hst S I hE hQ hready
    have hall := all_listed hreg S.size hready
    have hin : ∀ x ∈ nodes ops.toList, Lst listed x.i := fun x hx => hall _ (by
      have := (List.getElem?_eq_some_iff.1 (node_at (node_mem hx)).2.1).1
      simpa using this)
    obtain ⟨pre, h1, h2, h3⟩ := S.es
    cases es with
    | cons y es =>
      exact (h3 y (List.mem_cons_self ..) (hin y (effs_mem.1 (by rw [h1]; simp)).1)).elim
    | nil =>
      simp only [drawGo, hst, Option.some.injEq] at hgo
      subst hgo
      exact hQ _ _ _ (List.mem_singleton.2 rfl) r a w hE I.wf.1 I.wr ⟨I.size, fun t => I.tmps t fun y hy _ _ hny => (hny (hin y hy)).elim⟩ I.df
  intro fuel
  induction fuel with
  | zero =>
    intro listed es p done past d0 d res r a w hgo hst S I hc hE hQ
    have hr : Region.ready .any ops listed = [] := by
      cases hrd : Region.ready .any ops listed with
      | nil => rfl
      | cons i l =>
        have hi : i ∈ Region.ready .any ops listed := by rw [hrd]; exact List.mem_cons_self ..
        have h0 := (mem_ready.1 hi).1
        have h1 : false ∈ listed.toList := by
          by_cases hl : i < listed.size
          · simp [Array.getD, hl] at h0
            exact h0 ▸ (by simp)
          · simp [Array.getD, hl] at h0
        have := List.count_pos_iff.2 h1
        omega
    exact ⟨hr, hfin listed es p done past d0 d res r a w hgo hst S I hE hQ hr⟩
  | succ fuel ih =>
    intro listed es p done past d0 d res r a w hgo hst S I hc hE hQ
    refine ⟨hfin listed es p done past d0 d res r a w hgo hst S I hE hQ, fun i hi => ?_⟩
    obtain ⟨h0, o, ho, hall⟩ := mem_ready.1 hi
    have hlt : i < ops.size := (Array.getElem?_eq_some_iff.1 ho).1
    have hll : i < listed.size := by rw [S.size]; exact hlt
    have hfalse : listed[i]? = some false := by
      simp [Array.getD, hll] at h0
      rw [Array.getElem?_eq_getElem hll, h0]
    obtain ⟨x, hxi, rfl, rfl⟩ := node_of (ops := ops.toList) (i := i) (o := o) (by simpa using ho)
    have hx := List.mem_of_getElem? hxi
    have hnl : ¬ Lst listed x.i := fun e => by unfold Lst at e; rw [hfalse] at e; cases e
    have he : ∀ e ∈ x.o.after.toList, Region.binds .any e = true → Lst listed e.on := fun e hee hb => by
      have := hall e (by simpa using hee) hb
      rw [Array.getD_eq_getD_getElem?] at this
      unfold Lst
      cases hq : listed[e.on]? with
      | none => rw [hq] at this; cases this
      | some b => rw [hq] at this; simp at this; rw [this]
    have hcnt : (listed.setIfInBounds x.i true).toList.count false ≤ fuel := by
      rw [Array.toList_setIfInBounds]
      have := cnt_set listed.toList x.i (by simpa using hfalse)
      omega
    by_cases hk : x.kd = 3
    · -- it writes: it is the next of them
      obtain ⟨pre, h1, h2, h3⟩ := S.es
      have hxe : x ∈ effs (nodes ops.toList) := effs_mem.2 ⟨hx, hk⟩
      have hxes : x ∈ es := by
        rw [h1] at hxe
        rcases List.mem_append.1 hxe with h | h
        · exact (hnl (h2 x h)).elim
        · exact h
      cases es with
      | nil => cases hxes
      | cons y es =>
        have hye := effs_mem.1 (show y ∈ effs (nodes ops.toList) by rw [h1]; simp)
        have hyx : y = x := by
          rcases List.mem_cons.1 hxes with h | h
          · exact h.symm
          · have hs : (effs (nodes ops.toList)).Pairwise fun x y => x.i < y.i := (nodes_sorted ops.toList).sublist (effs_sublist _)
            rw [h1, List.pairwise_append] at hs
            have hlt' := (List.pairwise_cons.1 hs.2.1).1 x h
            obtain ⟨_, _, g3⟩ := pair_parts (reg_pair hreg hye.1 hx) (Nat.ne_of_lt hlt')
            exact (h3 y (List.mem_cons_self ..) (anc_closed hreg S.closed _ x (node_mem hx) he _ (g3 hye.2 hk hlt'))).elim
        subst hyx
        have hlooks := looks_ready hreg S I hx hk he
        obtain ⟨_, hio, hkd, hlk, _⟩ := node_at (node_mem hx)
        have hwant : Region.wanted y.o (yielded ops a.tmps) = wantedA ops.toList d.tv y.o := wanted_eq (r := r) fun u hu => hlooks u (hlk ▸ hu)
        have hops : ∀ u, Operand.tmp u ∈ y.o.op.operands → VR r ((d.tv.get u).getD noVal) (a.tmps.getD u undef) := fun u hu => hlooks u (hlk ▸ operand_looks hu)
        simp only [drawGo, hst] at hgo
        unfold wpOpIn
        simp only [ho, hwant]
        cases hwa : wantedA ops.toList d.tv y.o with
        | true =>
          simp only [hwa] at hgo
          simp only [if_true]
          split at hgo
          · rename_i outs hef
            have hcg : ∀ z ∈ y.o.op.operands, only y.o.op.operands (evOf R.ng d.tv) z = evOf R.ng d.tv z := fun z hz => only_of hz
            rw [← aeff_congr hcg] at hef
            refine aeff_wp hR hcall hround hB hef (evR_only (ng := R.ng) (I.wr.globs hB) hops) I.wr fun v w' hout => ?_
            obtain ⟨c, h', nx', r', hm, hE', hn, hw', hv⟩ := hout
            obtain ⟨res', e1, e2⟩ := bindOuts_mem hgo _ hm
            obtain ⟨d3, k1, k2, k3⟩ := draw_next hreg S I hx hk hnl hll he hE' hn hw' hv e1
            exact ih _ _ _ _ _ _ _ _ r' _ _ e1 k1 k2 k3 hcnt (hE.trans (hE'.mono I.wf.1) (Nat.le_refl _)) fun tv h nx hs => hQ tv h nx (e2 _ hs)
          · cases hgo
        | false =>
          simp only [hwa] at hgo
          simp only [Bool.false_eq_true, if_false]
          refine ⟨fun _ _ => trivial, ?_⟩
          obtain ⟨d3, k1, k2, k3⟩ := draw_next (v := undef) hreg S I hx hk hnl hll he (Ext.refl _ _) (Nat.le_refl _) I.wr (.tuple .nil) hgo
          exact ih _ _ _ _ _ _ _ _ r _ _ hgo k1 k2 k3 hcnt hE hQ
    · exact draw_calm hR hB hreg S I hx hk hnl hll he fun r' a' w' hE' S' I' =>
        ih _ _ _ _ _ _ _ _ r' a' w' hgo hst S' I' hcnt (hE.trans hE' (Nat.le_refl _)) hQ

/-- A region that draws its order. -/
theorem drawn_wp (hR : RunOK R) {call : CallF} {round : RoundF} (hcall : CallOK R call) (hround : RoundOK R round) (hB : B.ng = R.ng) {rnd : Option Nat} {id : Nat} {Q : Exit → Act → World → Prop} {s : St} {res : List St}
    (h : drawn R call round ops.toList s = some res) {r : BMap} {a : Act} {w : World} (S : SR B r s a w)
    (hQ : ∀ s' ∈ res, ∀ r' a' w', Ext s.nx r r' → s.nx ≤ s'.nx → SR B r' s' a' w' → Q .normal a' w') : (Code.region id ops true).wpIn (Fc rnd) 0 R.P Q a w := by
  unfold drawn at h
  split at h
  · rename_i hreg
    refine wpIn_region_any hR.cfg.mixed ?_
    obtain ⟨d, hd⟩ := drawGo_settle h
    have hnl : ∀ j, ¬ Lst (Array.replicate ops.size false) j := fun j e => by
      unfold Lst at e
      rw [Array.getElem?_replicate] at e
      split at e <;> cases e
    have I := stage (B := B) (df := a.defers) (n0 := s.nx) (L := Lst (Array.replicate ops.size false)) (r := r) (a := a) (w := { w with drawn := w.drawn + 1 }) hreg hd (S.wr.drew _)
      ⟨Nat.le_refl _, fun i id hi => (by cases hi), fun i j id hi => (by cases hi)⟩ S.tr.1 rfl (fun t _ => S.tr.2 t) (fun x _ _ hav => by cases hav) (fun x _ _ hl => (hnl _ hl).elim) (fun j hj => by simp at hj)
    refine draw_any (df := a.defers) (n0 := s.nx) (r0 := r) hR hcall hround hB hreg ops.size _ _ _ _ _ _ d res r a _ h hd ?_ I ?_ (Ext.refl _ _) fun tv h' nx hm r' a' w' hE hn hw ht hdf => ?_
    · refine ⟨by simp, fun y hy hl => (hnl _ hl).elim, fun j => ?_, fun j hj => (by simp at hj), ⟨[], rfl, fun x hx => (by cases hx), fun x _ => hnl _⟩⟩
      constructor
      · intro hj; simp at hj
      · rintro ⟨x, _, _, _, hl⟩; exact (hnl _ hl).elim
    · simp [List.count_replicate_self]
    · exact hQ _ hm r' a' w' hE hn ⟨hw, ht, hdf ▸ S.df.mono (S.wr.le hE)⟩
  · cases h

end
end
end Go.Sx
