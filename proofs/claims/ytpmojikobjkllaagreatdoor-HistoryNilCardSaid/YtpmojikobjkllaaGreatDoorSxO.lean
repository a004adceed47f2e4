/- Part O: regions that draw their order: whatever is drawn. -/
import Derived.Test.YtpmojikobjkllaaGreatDoorSxN
namespace Go.Sx
open Go
noncomputable section
set_option linter.unusedSimpArgs false
set_option linter.unusedVariables false

theorem nodesF_sorted {all : List Oper} : ∀ {l : List Oper} {i : Nat} {acc : List Nat}, (∀ x ∈ nodesF all i acc l, i ≤ x.i) ∧ (nodesF all i acc l).Pairwise fun x y => x.i < y.i
  | [], _, _ => ⟨fun _ h => by simp [nodesF] at h, .nil⟩
  | o :: l, i, acc => by
    obtain ⟨h1, h2⟩ := nodesF_sorted (all := all) (l := l) (i := i + 1) (acc := acc ++ [edgeMask acc o.after.toList])
    simp only [nodesF]
    refine ⟨fun x hx => ?_, List.pairwise_cons.2 ⟨fun y hy => ?_, h2⟩⟩
    · rcases List.mem_cons.1 hx with rfl | hx
      · exact Nat.le_refl _
      · exact Nat.le_of_succ_le (h1 x hx)
    · exact h1 y hy

theorem nodes_sorted (ops : List Oper) : (nodes ops).Pairwise fun x y => x.i < y.i := nodesF_sorted.2

theorem effs_sublist : ∀ ns : List Node, (effs ns).Sublist ns
  | [] => .slnil
  | x :: l => by
    simp only [effs]
    split
    · exact (effs_sublist l).cons_cons x
    · exact (effs_sublist l).cons x

theorem todo_mem {em done past : Nat} {p : Option Nat} {b : Bool} {x : Node} : ∀ {ns : List Node}, (b, x) ∈ todo em p done past ns ↔
    x ∈ ns ∧ x.kd ≠ 3 ∧ past.testBit x.i = false ∧ avl em (some done) x = true ∧ ((b = true ∧ avl em p x = false) ∨ (b = false ∧ avl em p x = true ∧ x.kd ≠ 0))
  | [] => by simp [todo]
  | y :: l => by
    have ih := todo_mem (em := em) (done := done) (past := past) (p := p) (b := b) (x := x) (ns := l)
    simp only [todo]
    split
    · rename_i h
      rw [ih, List.mem_cons]
      simp only [Bool.or_eq_true, Bool.not_eq_true', beq_true_iff] at h
      constructor
      · rintro ⟨h1, h2⟩; exact ⟨.inr h1, h2⟩
      · rintro ⟨rfl | h1, h2, h3, h4, h5⟩
        · rcases h with (h | h) | h
          · exact (h2 h).elim
          · rw [h3] at h; cases h
          · rw [h4] at h; cases h
        · exact ⟨h1, h2, h3, h4, h5⟩
    · rename_i h
      simp only [Bool.or_eq_false_iff, Bool.not_eq_false', beq_false_iff] at h
      obtain ⟨⟨g1, g2⟩, g3⟩ := h
      split
      · rename_i ha
        rw [List.mem_cons, List.mem_cons, ih]
        constructor
        · rintro (e | ⟨h1, h2⟩)
          · cases e; exact ⟨.inl rfl, g1, g2, g3, .inl ⟨rfl, ha⟩⟩
          · exact ⟨.inr h1, h2⟩
        · rintro ⟨rfl | h1, h2, h3, h4, h5⟩
          · rcases h5 with ⟨rfl, _⟩ | ⟨_, h6, _⟩
            · exact .inl rfl
            · rw [ha] at h6; cases h6
          · exact .inr ⟨h1, h2, h3, h4, h5⟩
      · rename_i ha
        split
        · rename_i hk
          rw [List.mem_cons, ih]
          constructor
          · rintro ⟨h1, h2⟩; exact ⟨.inr h1, h2⟩
          · rintro ⟨rfl | h1, h2, h3, h4, h5⟩
            · rcases h5 with ⟨_, h6⟩ | ⟨_, _, h6⟩
              · rw [ha] at h6; cases h6
              · exact (h6 hk).elim
            · exact ⟨h1, h2, h3, h4, h5⟩
        · rename_i hk
          rw [List.mem_cons, List.mem_cons, ih]
          constructor
          · rintro (e | ⟨h1, h2⟩)
            · cases e; exact ⟨.inl rfl, g1, g2, g3, .inr ⟨rfl, ha, fun e => hk e⟩⟩
            · exact ⟨.inr h1, h2⟩
          · rintro ⟨rfl | h1, h2, h3, h4, h5⟩
            · rcases h5 with ⟨_, h6⟩ | ⟨rfl, _⟩
              · rw [ha] at h6; cases h6
              · exact .inl rfl
            · exact .inr ⟨h1, h2, h3, h4, h5⟩

theorem todo_sorted {em done past : Nat} {p : Option Nat} : ∀ {ns : List Node}, ns.Pairwise (fun x y => x.i < y.i) → (todo em p done past ns).Pairwise fun x y => x.2.i < y.2.i
  | [], _ => .nil
  | y :: l, h => by
    rw [List.pairwise_cons] at h
    have ih := todo_sorted (em := em) (done := done) (past := past) (p := p) h.2
    simp only [todo]
    split
    · exact ih
    · split
      · exact List.pairwise_cons.2 ⟨fun q hq => h.1 _ (todo_mem (b := q.1).1 hq).1, ih⟩
      · split
        · exact ih
        · exact List.pairwise_cons.2 ⟨fun q hq => h.1 _ (todo_mem (b := q.1).1 hq).1, ih⟩

theorem cnt_set : ∀ (l : List Bool) (i : Nat), l[i]? = some false → (l.set i true).count false + 1 = l.count false
  | [], i, h => by simp at h
  | b :: l, 0, h => by
    simp at h; subst h
    simp
  | b :: l, i + 1, h => by
    simp at h
    have := cnt_set l i h
    simp only [List.set_cons_succ, List.count_cons]
    omega

section
variable {R : Run} {B : Base} {ops : Array Oper} {sz : Nat} {df : List Deferred} {n0 : Nat}

/-- What holds when everything that may be evaluated has been. -/
structure Inv (R : Run) (B : Base) (ops : Array Oper) (sz : Nat) (df : List Deferred) (n0 : Nat) (done : Nat) (L : Nat → Prop) (d : Ds) (r : BMap) (a : Act) (w : World) : Prop where
  wr : WR B r d.h d.nx w
  wf : Wf n0 d
  size : a.tmps.size = sz
  df : a.defers = df
  tmps : ∀ t, (∀ x ∈ nodes ops.toList, x.kd ≠ 3 → avl (effMask (nodes ops.toList)) (some done) x = true → ¬ L x.i → x.o.dst ≠ some t) → VR r ((d.tv.get t).getD noVal) (a.tmps.getD t undef)
  pend : ∀ x ∈ nodes ops.toList, x.kd ≠ 3 → avl (effMask (nodes ops.toList)) (some done) x = true → ¬ L x.i → Good R ops.toList sz d r x

theorem nice_of (hreg : regOK (nodes ops.toList) = true) {x : Node} (hx : x ∈ nodes ops.toList) (hk : x.kd ≠ 3) : Nice ops.toList x := by
  obtain ⟨h1, h2, h3, h4, h5⟩ := node_at (node_mem hx)
  obtain ⟨t, ht, hn⟩ := reg_dst hreg hx hk
  exact ⟨h4, fun u hu => by rw [ht] at hu; cases hu; exact hn⟩

/-- A newly evaluated operation is looked at by none that was evaluated before. -/
theorem ind_of (hreg : regOK (nodes ops.toList) = true) {em : Nat} {p : Option Nat} {x y : Node} (hx : x ∈ nodes ops.toList) (hy : y ∈ nodes ops.toList) (hky : y.kd ≠ 3)
    (ax : avl em p x = true) (ay : avl em p y = false) : Ind y x := by
  have hne : y.i ≠ x.i := fun e => by rw [node_inj hy hx e] at ay; rw [ax] at ay; cases ay
  obtain ⟨h1, h2, _⟩ := pair_parts (reg_pair hreg hy hx) hne
  refine ⟨fun t ht => ⟨fun hm => ?_, ((h1 t ht).2 hky).1⟩, hne⟩
  have hs := h2 (((h1 t ht).2 hky).2 hm)
  cases p with
  | none => cases ax
  | some dd =>
    have : avl em (some dd) y = true := sub_of fun j hj => by
      rw [land_bit, Bool.and_eq_true] at hj
      exact sub_bit (a := Nat.land x.anc em) ax (by rw [land_bit, sub_bit hs hj.1, hj.2]; rfl)
    rw [this] at ay; cases ay

theorem stage (hreg : regOK (nodes ops.toList) = true) {p : Option Nat} {done past : Nat} {L : Nat → Prop} {d d' : Ds} {r : BMap} {a : Act} {w : World}
    (hs : settle R ops.toList sz (todo (effMask (nodes ops.toList)) p done past (nodes ops.toList)) d = some d')
    (hw : WR B r d.h d.nx w) (hwf : Wf n0 d) (hsz : a.tmps.size = sz) (hdf : a.defers = df)
    (htm : ∀ t, (∀ x ∈ nodes ops.toList, x.kd ≠ 3 → avl (effMask (nodes ops.toList)) p x = true → ¬ L x.i → x.o.dst ≠ some t) → VR r ((d.tv.get t).getD noVal) (a.tmps.getD t undef))
    (hpd : ∀ x ∈ nodes ops.toList, x.kd ≠ 3 → avl (effMask (nodes ops.toList)) p x = true → ¬ L x.i → avl (effMask (nodes ops.toList)) (some done) x = true ∧ (x.kd = 0 → Good R ops.toList sz d r x) ∧ PG R ops.toList sz d r x)
    (hL : ∀ x ∈ nodes ops.toList, x.kd ≠ 3 → L x.i → avl (effMask (nodes ops.toList)) p x = true)
    (hpast : ∀ j, past.testBit j = true → L j) : Inv R B ops sz df n0 done L d' r a w := by
  have hnice : ∀ b x, (b, x) ∈ todo (effMask (nodes ops.toList)) p done past (nodes ops.toList) → Nice ops.toList x := fun b x hm => by
    obtain ⟨h1, h2, _⟩ := todo_mem.1 hm
    exact nice_of hreg h1 h2
  obtain ⟨g1, g2, g3, g4⟩ := settle_spec hs hnice
  have hpw : (todo (effMask (nodes ops.toList)) p done past (nodes ops.toList)).Pairwise fun q s => s.1 = true → Ind s.2 q.2 := by
    refine List.Pairwise.imp_of_mem ?_ (todo_sorted (nodes_sorted ops.toList))
    intro q s hq hs' hlt hb
    obtain ⟨b, x⟩ := q
    obtain ⟨c, y⟩ := s
    simp only at hlt hb ⊢
    obtain ⟨m1, m2, _⟩ := todo_mem.1 hq
    obtain ⟨n1, n2, _⟩ := todo_mem.1 hs'
    obtain ⟨h1, h2, _⟩ := pair_parts (reg_pair hreg n1 m1) (Nat.ne_of_gt hlt)
    refine ⟨fun t ht => ⟨fun hm => ?_, ((h1 t ht).2 n2).1⟩, Nat.ne_of_gt hlt⟩
    have := anc_lt hreg _ _ (node_mem m1) _ (((h1 t ht).2 n2).2 hm)
    omega
  have hgood := settle_good (W := fun x => ¬ L x.i) hs hnice (fun i hi => hw.fresh i hi) (fun x hx hLx => by
    obtain ⟨m1, m2, m3, m4, m5⟩ := todo_mem.1 hx
    have hax : avl (effMask (nodes ops.toList)) p x = true := by rcases m5 with ⟨h, _⟩ | ⟨_, h, _⟩; cases h; exact h
    refine ⟨(hpd x m1 m2 hax hLx).2.2, fun y hy => ?_⟩
    obtain ⟨n1, n2, n3, n4, n5⟩ := todo_mem.1 hy
    have hay : avl (effMask (nodes ops.toList)) p y = false := by rcases n5 with ⟨_, h⟩ | ⟨h, _⟩; exact h; cases h
    exact ind_of hreg m1 n1 n2 hax hay) hpw
  have hnotpast : ∀ x : Node, ¬ L x.i → past.testBit x.i = false := fun x hx => by
    cases hb : past.testBit x.i with
    | false => rfl
    | true => exact (hx (hpast _ hb)).elim
  refine ⟨g3 hw, g2 hwf, hsz, hdf, fun t ht => ?_, fun x hx hk hav hLx => ?_⟩
  · rw [g4 t fun x hm => by
      obtain ⟨m1, m2, m3, m4, m5⟩ := todo_mem.1 hm
      have hax : avl (effMask (nodes ops.toList)) p x = false := by rcases m5 with ⟨_, h⟩ | ⟨h, _⟩; exact h; cases h
      exact ht x m1 m2 m4 fun hLx => by rw [hL x m1 m2 hLx] at hax; cases hax]
    exact htm t fun x hx hk hav hLx => ht x hx hk (hpd x hx hk hav hLx).1 hLx
  · cases hp : avl (effMask (nodes ops.toList)) p x with
    | false => exact hgood true x (todo_mem.2 ⟨hx, hk, hnotpast x hLx, hav, .inl ⟨rfl, hp⟩⟩) hLx
    | true =>
      by_cases h0 : x.kd = 0
      · refine ((hpd x hx hk hp hLx).2.1 h0).ag (nice_of hreg hx hk).1 (settle_ag hs fun y hy => ?_)
        obtain ⟨n1, n2, n3, n4, n5⟩ := todo_mem.1 hy
        have hay : avl (effMask (nodes ops.toList)) p y = false := by rcases n5 with ⟨_, h⟩ | ⟨h, _⟩; exact h; cases h
        exact ⟨nice_of hreg n1 n2, ind_of hreg hx n1 n2 hp hay⟩
      · exact hgood false x (todo_mem.2 ⟨hx, hk, hnotpast x hLx, hav, .inr ⟨rfl, hp, h0⟩⟩) hLx

theorem put_one {r : BMap} {tv : T AVal} {a : Act} (hs : a.tmps.size = sz) {dst : Option Tmp} {c : AVal} {v : Value} (hv : VR r c v) {t : Nat} (ht : VR r ((tv.get t).getD noVal) (a.tmps.getD t undef)) :
    VR r (((putTv tv sz dst c).get t).getD noVal) ((a.put dst v).tmps.getD t undef) := by
  cases dst with
  | none => exact ht
  | some u =>
    simp only [putTv, Act.put]
    split
    · rename_i hlt
      rw [getD_set t (by rw [hs]; exact hlt), T.get_set]
      split
      · exact hv
      · exact ht
    · rename_i hlt
      have : a.tmps.setIfInBounds u v = a.tmps := by
        apply Array.ext_getElem?
        intro i
        rw [Array.getElem?_setIfInBounds]
        split
        · rename_i e; subst e
          rw [if_neg (by rw [hs]; exact hlt), Array.getElem?_eq_none (by rw [hs]; exact Nat.le_of_not_lt hlt)]
        · rfl
      rw [this]
      exact ht

theorem drawGo_settle {call : CallF} {round : RoundF} {all : List Oper} {ns : List Node} {em : Nat} {dfs : List Nat} : ∀ {es : List Node} {p : Option Nat} {done past : Nat} {d : Ds} {res : List St},
    drawGo R call round all ns em dfs sz es p done past d = some res → ∃ d', settle R all sz (todo em p done past ns) d = some d'
  | [], p, done, past, d, res, h => by
    simp only [drawGo] at h
    split at h
    · rename_i d' e; exact ⟨d', e⟩
    · cases h
  | x :: es, p, done, past, d, res, h => by
    simp only [drawGo] at h
    split at h
    · rename_i d' e; exact ⟨d', e⟩
    · cases h

end
end
end Go.Sx
