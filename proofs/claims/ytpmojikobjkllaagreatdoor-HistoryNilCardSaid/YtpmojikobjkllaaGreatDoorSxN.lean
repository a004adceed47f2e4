/- Part N: regions that draw their order. -/
import Derived.Test.YtpmojikobjkllaaGreatDoorSxM
namespace Go.Sx
open Go
noncomputable section
set_option linter.unusedSimpArgs false

/-! ### Masks -/
theorem sub_bit {a b j : Nat} (h : sub a b = true) (ha : a.testBit j = true) : b.testBit j = true := by
  have h1 : Nat.land a b = a := Nat.eq_of_beq_eq_true h
  rw [← h1] at ha
  have h2 : (a &&& b).testBit j = true := ha
  rw [Nat.testBit_and, Bool.and_eq_true] at h2
  exact h2.2

theorem sub_of {a b : Nat} (h : ∀ j, a.testBit j = true → b.testBit j = true) : sub a b = true := by
  have h1 : a &&& b = a := Nat.eq_of_testBit_eq fun j => by
    rw [Nat.testBit_and]
    cases ha : a.testBit j with
    | false => rfl
    | true => rw [h j ha]; rfl
  show Nat.beq (a &&& b) a = true
  rw [h1]
  exact Nat.beq_refl a

theorem lor_bit {a b j : Nat} : (Nat.lor a b).testBit j = (a.testBit j || b.testBit j) := Nat.testBit_or a b j
theorem land_bit {a b j : Nat} : (Nat.land a b).testBit j = (a.testBit j && b.testBit j) := Nat.testBit_and a b j
theorem shl_bit {k j : Nat} : (Nat.shiftLeft 1 k).testBit j = decide (k = j) := by
  show (1 <<< k).testBit j = _
  rw [Nat.one_shiftLeft, Nat.testBit_two_pow]

theorem edgeMask_bit {acc : List Nat} {j : Nat} : ∀ {es : List Edge}, (edgeMask acc es).testBit j = true → ∃ e ∈ es, Region.binds .any e = true ∧ (j = e.on ∨ (acc.getD e.on 0).testBit j = true)
  | [], h => by simp [edgeMask] at h
  | e :: es, h => by
    simp only [edgeMask] at h
    split at h
    · rename_i hb
      simp only [lor_bit, shl_bit, Bool.or_eq_true, decide_eq_true_eq] at h
      rcases h with (h | h) | h
      · exact ⟨e, List.mem_cons_self .., hb, .inl h.symm⟩
      · exact ⟨e, List.mem_cons_self .., hb, .inr h⟩
      · obtain ⟨e', h1, h2⟩ := edgeMask_bit h
        exact ⟨e', List.mem_cons_of_mem _ h1, h2⟩
    · obtain ⟨e', h1, h2⟩ := edgeMask_bit h
      exact ⟨e', List.mem_cons_of_mem _ h1, h2⟩

theorem memB_iff {t : Nat} : ∀ {l : List Nat}, memB t l = true ↔ t ∈ l
  | [] => by simp [memB]
  | u :: l => by
    simp only [memB, List.mem_cons]
    split
    · rename_i h; have := Nat.eq_of_beq_eq_true h; simp [this]
    · rename_i h
      have hne : t ≠ u := fun e => by subst e; rw [Nat.beq_refl] at h; cases h
      rw [memB_iff]; simp [hne]

theorem beq_true_iff {a b : Nat} : Nat.beq a b = true ↔ a = b := ⟨Nat.eq_of_beq_eq_true, fun e => e ▸ Nat.beq_refl a⟩
theorem beq_false_iff {a b : Nat} : Nat.beq a b = false ↔ a ≠ b := by
  rw [← Bool.not_eq_true, beq_true_iff]

/-! ### Nodes -/
theorem nodesF_length {all : List Oper} : ∀ {l : List Oper} {i : Nat} {acc : List Nat}, (nodesF all i acc l).length = l.length
  | [], _, _ => rfl
  | _ :: l, i, acc => by simp only [nodesF, List.length_cons, nodesF_length (l := l)]

theorem nodesF_get {all : List Oper} : ∀ {l : List Oper} {i : Nat} {acc : List Nat} {k : Nat} {x : Node}, (nodesF all i acc l)[k]? = some x →
    x.i = i + k ∧ l[k]? = some x.o ∧ x.kd = kindOf x.o.op ∧ x.looks = looksA all x.o ∧ x.anc = edgeMask (acc ++ ((nodesF all i acc l).take k).map (·.anc)) x.o.after.toList
  | [], i, acc, k, x, h => by simp [nodesF] at h
  | o :: l, i, acc, 0, x, h => by
    simp only [nodesF, List.getElem?_cons_zero, Option.some.injEq] at h
    subst h
    exact ⟨rfl, rfl, rfl, rfl, by simp⟩
  | o :: l, i, acc, k + 1, x, h => by
    simp only [nodesF, List.getElem?_cons_succ] at h
    obtain ⟨h1, h2, h3, h4, h5⟩ := nodesF_get h
    refine ⟨by omega, by simpa using h2, h3, h4, ?_⟩
    rw [h5]
    simp [nodesF]

section
variable {ops : List Oper}

theorem node_at {i : Nat} {x : Node} (h : (nodes ops)[i]? = some x) :
    x.i = i ∧ ops[i]? = some x.o ∧ x.kd = kindOf x.o.op ∧ x.looks = looksA ops x.o ∧ x.anc = edgeMask (((nodes ops).take i).map (·.anc)) x.o.after.toList := by
  obtain ⟨h1, h2, h3, h4, h5⟩ := nodesF_get h
  exact ⟨by omega, h2, h3, h4, by simpa [nodes] using h5⟩

theorem node_of {i : Nat} {o : Oper} (h : ops[i]? = some o) : ∃ x, (nodes ops)[i]? = some x ∧ x.i = i ∧ x.o = o := by
  have hlt : i < (nodes ops).length := by
    rw [nodes, nodesF_length]
    exact (List.getElem?_eq_some_iff.1 h).1
  obtain ⟨h1, h2, _⟩ := node_at (List.getElem?_eq_getElem hlt)
  rw [h] at h2
  exact ⟨_, List.getElem?_eq_getElem hlt, h1, (Option.some.inj h2).symm⟩

theorem node_mem {x : Node} (h : x ∈ nodes ops) : (nodes ops)[x.i]? = some x := by
  obtain ⟨i, hi⟩ := List.getElem?_of_mem h
  rw [(node_at hi).1]; exact hi

theorem node_inj {x y : Node} (hx : x ∈ nodes ops) (hy : y ∈ nodes ops) (h : x.i = y.i) : x = y := by
  have h1 := node_mem hx
  have h2 := node_mem hy
  rw [h] at h1
  exact Option.some.inj (h1.symm.trans h2)

theorem acc_get {i j : Nat} {y : Node} (h : (nodes ops)[j]? = some y) (hj : j < i) : (((nodes ops).take i).map (·.anc)).getD j 0 = y.anc := by
  rw [List.getD_eq_getElem?_getD, List.getElem?_map, List.getElem?_take, if_pos hj, h]
  rfl

theorem reg_node (hr : regOK (nodes ops) = true) {x : Node} (hx : x ∈ nodes ops) : nodeOK x = true := by
  have := List.all_eq_true.1 hr x hx
  simp only [Bool.and_eq_true] at this
  exact this.1

theorem reg_pair (hr : regOK (nodes ops) = true) {x y : Node} (hx : x ∈ nodes ops) (hy : y ∈ nodes ops) : pairOK x y = true := by
  have := List.all_eq_true.1 hr x hx
  simp only [Bool.and_eq_true] at this
  exact List.all_eq_true.1 this.2 y hy

theorem reg_edge (hr : regOK (nodes ops) = true) {x : Node} (hx : x ∈ nodes ops) {e : Edge} (he : e ∈ x.o.after.toList) (hb : Region.binds .any e = true) : e.on < x.i := by
  have := reg_node hr hx
  simp only [nodeOK, Bool.and_eq_true] at this
  have h1 := List.all_eq_true.1 this.1 e he
  simp only [hb, Bool.not_true, Bool.false_or] at h1
  exact Nat.le_of_ble_eq_true h1

theorem reg_dst (hr : regOK (nodes ops) = true) {x : Node} (hx : x ∈ nodes ops) (hk : x.kd ≠ 3) : ∃ t, x.o.dst = some t ∧ t ∉ x.looks := by
  have := reg_node hr hx
  simp only [nodeOK, Bool.and_eq_true] at this
  have h1 := this.2
  rw [beq_false_iff.2 hk] at h1
  simp only at h1
  split at h1
  · rename_i t e
    refine ⟨t, e, fun hm => ?_⟩
    rw [memB_iff.2 hm] at h1
    cases h1
  · cases h1

theorem pair_parts {x y : Node} (h : pairOK x y = true) (hne : x.i ≠ y.i) :
    (∀ t, x.o.dst = some t → (x.kd = 3 → t ∈ y.looks → y.anc.testBit x.i = true ∨ x.anc.testBit y.i = true) ∧ (x.kd ≠ 3 → y.o.dst ≠ some t ∧ (t ∈ y.looks → y.anc.testBit x.i = true))) ∧
    (y.anc.testBit x.i = true → sub x.anc y.anc = true) ∧ (x.kd = 3 → y.kd = 3 → x.i < y.i → y.anc.testBit x.i = true) := by
  unfold pairOK at h
  rw [beq_false_iff.2 hne] at h
  simp only [Bool.and_eq_true] at h
  obtain ⟨⟨h1, h2⟩, h3⟩ := h
  refine ⟨fun t ht => ?_, fun hb => ?_, fun hx hy hlt => ?_⟩
  · rw [ht] at h1
    simp only at h1
    constructor
    · intro hk hm
      rw [beq_true_iff.2 hk] at h1
      simp only [memB_iff.2 hm, Bool.not_true, Bool.false_or, Bool.or_eq_true] at h1
      exact h1
    · intro hk
      rw [beq_false_iff.2 hk] at h1
      simp only [Bool.and_eq_true] at h1
      refine ⟨fun e => ?_, fun hm => ?_⟩
      · have h4 := h1.1
        rw [e] at h4
        simp only [Nat.beq_refl, Bool.not_true, Bool.false_eq_true] at h4
      · have h4 := h1.2
        simpa only [memB_iff.2 hm, Bool.not_true, Bool.false_or] using h4
  · simpa only [hb, Bool.not_true, Bool.false_or] using h2
  · have hl : Nat.blt x.i y.i = true := Nat.ble_eq_true_of_le hlt
    rw [beq_true_iff.2 hx, beq_true_iff.2 hy, hl] at h3
    simpa using h3

theorem anc_lt (hr : regOK (nodes ops) = true) : ∀ (i : Nat) (x : Node), (nodes ops)[i]? = some x → ∀ j, x.anc.testBit j = true → j < i := by
  intro i
  induction i using Nat.strongRecOn with
  | _ i ih =>
    intro x hx j hj
    obtain ⟨h1, h2, h3, h4, h5⟩ := node_at hx
    rw [h5] at hj
    obtain ⟨e, he, hb, hj⟩ := edgeMask_bit hj
    have hlt : e.on < i := h1 ▸ reg_edge hr (List.mem_of_getElem? hx) he hb
    rcases hj with rfl | hj
    · exact hlt
    · have hl : i < (nodes ops).length := (List.getElem?_eq_some_iff.1 hx).1
      have hy : (nodes ops)[e.on]? = some (nodes ops)[e.on] := List.getElem?_eq_getElem (by omega)
      rw [acc_get hy hlt] at hj
      have := ih e.on hlt _ hy j hj
      omega

/-- What has been carried out holds all that its operations come behind. -/
theorem anc_closed (hr : regOK (nodes ops) = true) {L : Nat → Prop} (hL : ∀ y ∈ nodes ops, L y.i → ∀ e ∈ y.o.after.toList, Region.binds .any e = true → L e.on) :
    ∀ (i : Nat) (x : Node), (nodes ops)[i]? = some x → (∀ e ∈ x.o.after.toList, Region.binds .any e = true → L e.on) → ∀ j, x.anc.testBit j = true → L j := by
  intro i
  induction i using Nat.strongRecOn with
  | _ i ih =>
    intro x hx hall j hj
    obtain ⟨h1, h2, h3, h4, h5⟩ := node_at hx
    rw [h5] at hj
    obtain ⟨e, he, hb, hj⟩ := edgeMask_bit hj
    have hlt : e.on < i := h1 ▸ reg_edge hr (List.mem_of_getElem? hx) he hb
    rcases hj with rfl | hj
    · exact hall e he hb
    · have hl : i < (nodes ops).length := (List.getElem?_eq_some_iff.1 hx).1
      have hy : (nodes ops)[e.on]? = some (nodes ops)[e.on] := List.getElem?_eq_getElem (by omega)
      rw [acc_get hy hlt] at hj
      refine ih e.on hlt _ hy (hL _ (List.mem_of_getElem? hy) ?_) j hj
      rw [(node_at hy).1]
      exact hall e he hb

theorem effMask_bit {j : Nat} : ∀ {ns : List Node}, (effMask ns).testBit j = true ↔ ∃ x ∈ ns, x.kd = 3 ∧ x.i = j
  | [] => by simp [effMask]
  | x :: l => by
    simp only [effMask]
    split
    · rename_i h
      have hk := beq_true_iff.1 h
      simp only [lor_bit, shl_bit, Bool.or_eq_true, decide_eq_true_eq, effMask_bit (ns := l), List.mem_cons, exists_eq_or_imp, hk, true_and]
    · rename_i h
      have hk := beq_false_iff.1 h
      simp only [effMask_bit (ns := l), List.mem_cons, exists_eq_or_imp, hk, false_and, false_or]

theorem effs_mem {x : Node} : ∀ {ns : List Node}, x ∈ effs ns ↔ x ∈ ns ∧ x.kd = 3
  | [] => by simp [effs]
  | y :: l => by
    simp only [effs]
    split
    · rename_i h
      have hk := beq_true_iff.1 h
      simp only [List.mem_cons, effs_mem (ns := l)]
      constructor
      · rintro (rfl | h)
        · exact ⟨.inl rfl, hk⟩
        · exact ⟨.inr h.1, h.2⟩
      · rintro ⟨rfl | h, h3⟩
        · exact .inl rfl
        · exact .inr ⟨h, h3⟩
    · rename_i h
      have hk := beq_false_iff.1 h
      simp only [effs_mem (ns := l), List.mem_cons]
      constructor
      · rintro ⟨h, h3⟩; exact ⟨.inr h, h3⟩
      · rintro ⟨rfl | h, h3⟩
        · exact (hk h3).elim
        · exact ⟨h, h3⟩
end

/-! ### Evaluated ahead -/
section
variable {R : Run} {all : List Oper} {sz : Nat}

/-- The blocks that have been made ahead bear numbers of the region's own. -/
def Wf (n0 : Nat) (d : Ds) : Prop := n0 ≤ d.nx ∧ (∀ i id, idOf d.ids i = some id → n0 ≤ id ∧ id < d.nx) ∧ ∀ i j id, idOf d.ids i = some id → idOf d.ids j = some id → i = j

/-- y's result is none of what x looks at. -/
def Ind (y x : Node) : Prop := (∀ t, y.o.dst = some t → t ∉ x.looks ∧ x.o.dst ≠ some t) ∧ y.i ≠ x.i

structure Ag (d d' : Ds) (x : Node) : Prop where
  looks : ∀ t ∈ x.looks, d'.tv.get t = d.tv.get t
  dst : ∀ t, x.o.dst = some t → d'.tv.get t = d.tv.get t
  heap : ∀ i o, d.h.get i = some o → d'.h.get i = some o
  ids : idOf d'.ids x.i = idOf d.ids x.i
  nx : d.nx ≤ d'.nx

theorem Ag.refl (d : Ds) (x : Node) : Ag d d x := ⟨fun _ _ => rfl, fun _ _ => rfl, fun _ _ h => h, rfl, Nat.le_refl _⟩
theorem Ag.trans {d d' d'' : Ds} {x : Node} (h : Ag d d' x) (k : Ag d' d'' x) : Ag d d'' x :=
  ⟨fun t ht => (k.looks t ht).trans (h.looks t ht), fun t ht => (k.dst t ht).trans (h.dst t ht), fun i o e => k.heap i o (h.heap i o e), k.ids.trans h.ids, Nat.le_trans h.nx k.nx⟩

theorem wantedA_congr {tv tv' : T AVal} {o : Oper} (h : ∀ t ∈ looksA all o, tv'.get t = tv.get t) : wantedA all tv' o = wantedA all tv o := by
  unfold wantedA
  split
  · rfl
  · rename_i j want hg
    cases hj : all[j]? with
    | none => rfl
    | some p =>
      cases hd : p.dst with
      | none => simp [hd]
      | some d =>
        simp only [hd]
        rw [h d (List.mem_append_right _ (by simp [hg, hj, hd]))]

theorem operand_looks {o : Oper} {t : Tmp} (h : Operand.tmp t ∈ o.op.operands) : t ∈ looksA all o :=
  List.mem_append_left _ (List.mem_filterMap.2 ⟨.tmp t, by simpa using h, rfl⟩)

theorem evs_looks {ng : Nat} {tv tv' : T AVal} {o : Oper} (h : ∀ t ∈ looksA all o, tv'.get t = tv.get t) : ∀ x ∈ o.op.operands, evOf ng tv' x = evOf ng tv x :=
  fun x hx => evOf_congr fun t e => h t (operand_looks (e ▸ hx))

/-- What has been evaluated ahead holds good: evaluated now it would give the same. -/
def Good (R : Run) (all : List Oper) (sz : Nat) (d : Ds) (r : BMap) (x : Node) : Prop := ∃ t, x.o.dst = some t ∧ t < sz ∧
  ((wantedA all d.tv x.o = false ∧ d.tv.get t = some noVal) ∨
   (wantedA all d.tv x.o = true ∧ x.kd ≠ 2 ∧ ∃ a, aget R d x = some a ∧ d.tv.get t = some a) ∨
   (wantedA all d.tv x.o = true ∧ x.kd = 2 ∧ ∃ o mk id, anew R.C (evOf R.ng d.tv) x.o.op = some (o, mk) ∧ idOf d.ids x.i = some id ∧ d.h.get id = some o ∧ d.tv.get t = some (mk id) ∧ r id = none ∧ id < d.nx))

/-- What is left of it when another operation has written. -/
def PG (R : Run) (all : List Oper) (sz : Nat) (d : Ds) (r : BMap) (x : Node) : Prop := ∃ t, x.o.dst = some t ∧ t < sz ∧
  ((wantedA all d.tv x.o = false ∧ d.tv.get t = some noVal) ∨
   (wantedA all d.tv x.o = true ∧ x.kd ≠ 2) ∨
   (wantedA all d.tv x.o = true ∧ x.kd = 2 ∧ ∃ o mk id, anew R.C (evOf R.ng d.tv) x.o.op = some (o, mk) ∧ idOf d.ids x.i = some id ∧ d.tv.get t = some (mk id) ∧ r id = none ∧ id < d.nx))

theorem aget_ag {d d' : Ds} {x : Node} (hl : x.looks = looksA all x.o) (h : ∀ t ∈ x.looks, d'.tv.get t = d.tv.get t) (hh : x.kd = 0 ∨ ∀ i o, d.h.get i = some o → d'.h.get i = some o) {a : AVal} (ha : aget R d x = some a) :
    aget R d' x = some a := by
  have hev := evs_looks (ng := R.ng) (all := all) (o := x.o) (hl ▸ h)
  unfold aget at ha ⊢
  split at ha
  · rw [apure_congr hev]; exact ha
  · rename_i hk
    rw [apure_congr hev]
    cases hp : apure R.P R.C (evOf R.ng d.tv) x.o.op with
    | some b => rw [hp] at ha; exact ha
    | none =>
      rw [hp] at ha
      simp only at ha ⊢
      rw [aread_congr hev]
      exact aread_mono (hh.resolve_left hk) ha

theorem Good.ag {d d' : Ds} {r : BMap} {x : Node} (hl : x.looks = looksA all x.o) (A : Ag d d' x) (h : Good R all sz d r x) : Good R all sz d' r x := by
  obtain ⟨t, ht, hlt, h⟩ := h
  have hw := wantedA_congr (all := all) (o := x.o) (hl ▸ A.looks)
  have hev := evs_looks (ng := R.ng) (all := all) (o := x.o) (hl ▸ A.looks)
  refine ⟨t, ht, hlt, ?_⟩
  rw [hw, A.dst t ht]
  rcases h with h | ⟨h1, h2, a, h3, h4⟩ | ⟨h1, h2, o, mk, id, h3, h4, h5, h6, h7, h8⟩
  · exact .inl h
  · exact .inr (.inl ⟨h1, h2, a, aget_ag hl A.looks (.inr A.heap) h3, h4⟩)
  · exact .inr (.inr ⟨h1, h2, o, mk, id, by rw [anew_congr hev]; exact h3, A.ids.trans h4, A.heap _ _ h5, h6, h7, Nat.lt_of_lt_of_le h8 A.nx⟩)

theorem PG.ag {d d' : Ds} {r : BMap} {x : Node} (hl : x.looks = looksA all x.o) (A : Ag d d' x) (h : PG R all sz d r x) : PG R all sz d' r x := by
  obtain ⟨t, ht, hlt, h⟩ := h
  have hw := wantedA_congr (all := all) (o := x.o) (hl ▸ A.looks)
  have hev := evs_looks (ng := R.ng) (all := all) (o := x.o) (hl ▸ A.looks)
  refine ⟨t, ht, hlt, ?_⟩
  rw [hw, A.dst t ht]
  rcases h with h | ⟨h1, h2⟩ | ⟨h1, h2, o, mk, id, h3, h4, h6, h7, h8⟩
  · exact .inl h
  · exact .inr (.inl ⟨h1, h2⟩)
  · exact .inr (.inr ⟨h1, h2, o, mk, id, by rw [anew_congr hev]; exact h3, A.ids.trans h4, h6, h7, Nat.lt_of_lt_of_le h8 A.nx⟩)

theorem objEq_eq {o o' : AObj} (h : objEq o o' = true) : o = o' := by
  unfold objEq at h
  split at h
  · rename_i ro es c t ro' es' c' t'
    simp only [Bool.and_eq_true] at h
    obtain ⟨⟨⟨h1, h2⟩, h3⟩, h4⟩ := h
    have e1 : ro = ro' := by cases ro <;> cases ro' <;> first | rfl | cases h1
    rw [e1, Nat.eq_of_beq_eq_true h2, aeqs_eq _ _ h3, Nat.eq_of_beq_eq_true h4]
  · rename_i ro a ro' b
    simp only [Bool.and_eq_true] at h
    have e1 : ro = ro' := by cases ro <;> cases ro' <;> first | rfl | cases h.1
    rw [e1, Nat.eq_of_beq_eq_true h.2]
  · cases h

theorem again1_good {d : Ds} {r : BMap} {x : Node} (h : PG R all sz d r x) (ha : again1 R all x d = true) : Good R all sz d r x := by
  obtain ⟨t, ht, hlt, h⟩ := h
  refine ⟨t, ht, hlt, ?_⟩
  rcases h with h | ⟨h1, h2⟩ | ⟨h1, h2, o, mk, id, h3, h4, h6, h7, h8⟩
  · exact .inl h
  · unfold again1 at ha
    simp only [h1, ht] at ha
    split at ha
    · rename_i a b e1 e2
      exact .inr (.inl ⟨h1, h2, a, e1, by rw [e2, aeq_eq _ _ ha]⟩)
    · cases ha
  · unfold again1 at ha
    simp only [h1, h2, h3, h4] at ha
    split at ha
    · rename_i o' e
      exact .inr (.inr ⟨h1, h2, o, mk, id, h3, h4, by rw [e, objEq_eq ha], h6, h7, h8⟩)
    · cases ha

/-- An operation that does not write, evaluated for the first time. -/
theorem first1_spec {x : Node} {d d' : Ds} (hx : x.looks = looksA all x.o) (hl : ∀ t, x.o.dst = some t → t ∉ x.looks) (h : first1 R all sz x d = some d') :
    ∃ t, x.o.dst = some t ∧ (∀ u, u ≠ t → d'.tv.get u = d.tv.get u) ∧ (∀ i o, d.h.get i = some o → d'.h.get i = some o) ∧ (∀ j, j ≠ x.i → idOf d'.ids j = idOf d.ids j) ∧ d.nx ≤ d'.nx ∧
      (∀ {n0 : Nat}, Wf n0 d → Wf n0 d') ∧ (∀ {B : Base} {r : BMap} {w : World}, WR B r d.h d.nx w → WR B r d'.h d'.nx w) ∧ (∀ {r : BMap}, (∀ i, d.nx ≤ i → r i = none) → Good R all sz d' r x) := by
  unfold first1 at h
  split at h
  · cases h
  · rename_i t ht
    split at h
    · cases h
    · rename_i hlt
      have hlt' : t < sz := Nat.le_of_ble_eq_true hlt
      have hset : ∀ (v : AVal) (u : Nat), u ≠ t → (d.tv.set t v).get u = d.tv.get u := fun v u hu => by rw [T.get_set, if_neg hu]
      have hself : ∀ v : AVal, (d.tv.set t v).get t = some v := fun v => by rw [T.get_set, if_pos rfl]
      have hag : ∀ v : AVal, ∀ u ∈ x.looks, (d.tv.set t v).get u = d.tv.get u := fun v u hu => hset v u fun e => hl t ht (e ▸ hu)
      have hw : ∀ v : AVal, wantedA all (d.tv.set t v) x.o = wantedA all d.tv x.o := fun v => wantedA_congr (hx ▸ hag v)
      split at h
      · rename_i hwf
        cases h
        exact ⟨t, ht, hset _, fun _ _ e => e, fun _ _ => rfl, Nat.le_refl _, fun w => w, fun H => H, fun _ => ⟨t, ht, hlt', .inl ⟨(hw _).trans hwf, hself _⟩⟩⟩
      · rename_i hwt
        split at h
        · rename_i hk
          split at h
          · rename_i o mk e1
            split at h
            · rename_i e2
              cases h
              refine ⟨t, ht, hset _, fun i o' e => ?_, fun j hj => ?_, Nat.le_succ _, fun W => ⟨Nat.le_succ_of_le W.1, fun i id hi => ?_, fun i j id hi hj => ?_⟩, fun H => H.reserve o, fun hr => ⟨t, ht, hlt', .inr (.inr ⟨(hw _).trans hwt, hk, o, mk, d.nx, ?_, ?_, ?_, hself _, hr _ (Nat.le_refl _), Nat.lt_succ_self _⟩)⟩⟩
              · rw [T.get_set]
                split
                · rename_i e3; subst e3; rw [e2] at e; cases e
                · exact e
              · show idOf ((x.i, d.nx) :: d.ids) j = _
                simp only [idOf, beq_false_iff.2 (Ne.symm hj)]
              · simp only [idOf] at hi
                split at hi
                · cases hi; exact ⟨W.1, Nat.lt_succ_self _⟩
                · exact ⟨(W.2.1 i id hi).1, Nat.lt_succ_of_lt (W.2.1 i id hi).2⟩
              · simp only [idOf] at hi hj
                split at hi
                · rename_i ei
                  cases hi
                  split at hj
                  · rename_i ej; exact (Nat.eq_of_beq_eq_true ei).symm.trans (Nat.eq_of_beq_eq_true ej)
                  · exact absurd (W.2.1 j _ hj).2 (Nat.lt_irrefl _)
                · split at hj
                  · cases hj; exact absurd (W.2.1 i _ hi).2 (Nat.lt_irrefl _)
                  · exact W.2.2 i j id hi hj
              · show anew R.C (evOf R.ng (d.tv.set t _)) x.o.op = _
                rw [anew_congr (evs_looks (all := all) (hx ▸ hag _))]
                exact e1
              · show idOf ((x.i, d.nx) :: d.ids) x.i = _
                simp only [idOf, Nat.beq_refl]
              · show (d.h.set d.nx o).get d.nx = _
                rw [T.get_set, if_pos rfl]
            · cases h
          · cases h
        · rename_i hk
          split at h
          · rename_i a e1
            cases h
            exact ⟨t, ht, hset _, fun _ _ e => e, fun _ _ => rfl, Nat.le_refl _, fun w => w, fun H => H, fun _ => ⟨t, ht, hlt', .inr (.inl ⟨(hw _).trans hwt, hk, a, aget_ag (d := d) (d' := { d with tv := d.tv.set t a }) hx (hag _) (.inr fun _ _ e => e) e1, hself _⟩)⟩⟩
          · cases h

theorem first1_ag {x y : Node} {d d' : Ds} (hx : x.looks = looksA all x.o) (hl : ∀ t, x.o.dst = some t → t ∉ x.looks) (h : first1 R all sz x d = some d') (hi : Ind x y) : Ag d d' y := by
  obtain ⟨t, ht, h1, h2, h3, h4, _⟩ := first1_spec hx hl h
  exact ⟨fun u hu => h1 u fun e => (hi.1 t ht).1 (e ▸ hu), fun u hu => h1 u fun e => (hi.1 t ht).2 (e ▸ hu), h2, h3 _ (Ne.symm hi.2), h4⟩

/-- Nodes as the region's check has them. -/
def Nice (all : List Oper) (x : Node) : Prop := x.looks = looksA all x.o ∧ ∀ t, x.o.dst = some t → t ∉ x.looks

theorem settle_ag {y : Node} : ∀ {l : List (Bool × Node)} {d d' : Ds}, settle R all sz l d = some d' → (∀ x, (true, x) ∈ l → Nice all x ∧ Ind x y) → Ag d d' y
  | [], d, d', h, _ => by cases h; exact Ag.refl _ _
  | (true, x) :: l, d, d', h, hl => by
    simp only [settle] at h
    split at h
    · rename_i d1 e1
      obtain ⟨⟨n1, n2⟩, hi⟩ := hl x (List.mem_cons_self ..)
      exact (first1_ag n1 n2 e1 hi).trans (settle_ag h fun z hz => hl z (List.mem_cons_of_mem _ hz))
    · cases h
  | (false, x) :: l, d, d', h, hl => by
    simp only [settle] at h
    split at h
    · exact settle_ag h fun z hz => hl z (List.mem_cons_of_mem _ hz)
    · cases h

theorem settle_spec : ∀ {l : List (Bool × Node)} {d d' : Ds}, settle R all sz l d = some d' → (∀ b x, (b, x) ∈ l → Nice all x) →
    d.nx ≤ d'.nx ∧ (∀ {n0 : Nat}, Wf n0 d → Wf n0 d') ∧ (∀ {B : Base} {r : BMap} {w : World}, WR B r d.h d.nx w → WR B r d'.h d'.nx w) ∧ ∀ t, (∀ x, (true, x) ∈ l → x.o.dst ≠ some t) → d'.tv.get t = d.tv.get t
  | [], d, d', h, _ => by cases h; exact ⟨Nat.le_refl _, fun h => h, fun h => h, fun _ _ => rfl⟩
  | (true, x) :: l, d, d', h, hl => by
    simp only [settle] at h
    split at h
    · rename_i d1 e1
      obtain ⟨n1, n2⟩ := hl true x (List.mem_cons_self ..)
      obtain ⟨t, ht, h1, h2, h3, h4, h5, h6, h7⟩ := first1_spec n1 n2 e1
      obtain ⟨g1, g2, g3, g4⟩ := settle_spec h fun b z hz => hl b z (List.mem_cons_of_mem _ hz)
      exact ⟨Nat.le_trans h4 g1, fun w => g2 (h5 w), fun H => g3 (h6 H), fun u hu => (g4 u fun z hz => hu z (List.mem_cons_of_mem _ hz)).trans (h1 u fun e => hu x (List.mem_cons_self ..) (e ▸ ht))⟩
    · cases h
  | (false, x) :: l, d, d', h, hl => by
    simp only [settle] at h
    split at h
    · obtain ⟨g1, g2, g3, g4⟩ := settle_spec h fun b z hz => hl b z (List.mem_cons_of_mem _ hz)
      exact ⟨g1, g2, g3, fun u hu => g4 u fun z hz => hu z (List.mem_cons_of_mem _ hz)⟩
    · cases h

theorem settle_good {r : BMap} {W : Node → Prop} : ∀ {l : List (Bool × Node)} {d d' : Ds}, settle R all sz l d = some d' → (∀ b x, (b, x) ∈ l → Nice all x) → (∀ i, d.nx ≤ i → r i = none) →
    (∀ x, (false, x) ∈ l → W x → PG R all sz d r x ∧ ∀ y, (true, y) ∈ l → Ind y x) → l.Pairwise (fun p q => q.1 = true → Ind q.2 p.2) → ∀ b x, (b, x) ∈ l → W x → Good R all sz d' r x
  | [], _, _, _, _, _, _, _, _, _, hm, _ => by cases hm
  | (true, x) :: l, d, d', h, hl, hr, hp, hw, b, z, hm, hz => by
    simp only [settle] at h
    split at h
    · rename_i d1 e1
      obtain ⟨n1, n2⟩ := hl true x (List.mem_cons_self ..)
      obtain ⟨t, ht, h1, h2, h3, h4, h5, h6, h7⟩ := first1_spec n1 n2 e1
      rw [List.pairwise_cons] at hw
      rcases List.mem_cons.1 hm with e | hm
      · cases e
        exact (h7 hr).ag n1 (settle_ag h fun y hy => ⟨hl true y (List.mem_cons_of_mem _ hy), hw.1 _ hy rfl⟩)
      · refine settle_good (W := W) h (fun b y hy => hl b y (List.mem_cons_of_mem _ hy)) (fun i hi => hr i (Nat.le_trans h4 hi)) (fun y hy hW => ?_) hw.2 b z hm hz
        obtain ⟨p1, p2⟩ := hp y (List.mem_cons_of_mem _ hy) hW
        exact ⟨p1.ag (hl false y (List.mem_cons_of_mem _ hy)).1 (first1_ag n1 n2 e1 (p2 x (List.mem_cons_self ..))), fun q hq => p2 q (List.mem_cons_of_mem _ hq)⟩
    · cases h
  | (false, x) :: l, d, d', h, hl, hr, hp, hw, b, z, hm, hz => by
    simp only [settle] at h
    split at h
    · rename_i e1
      rw [List.pairwise_cons] at hw
      rcases List.mem_cons.1 hm with e | hm
      · cases e
        exact (again1_good (hp x (List.mem_cons_self ..) hz).1 e1).ag (hl false x (List.mem_cons_self ..)).1 (settle_ag h fun y hy => ⟨hl true y (List.mem_cons_of_mem _ hy), hw.1 _ hy rfl⟩)
      · exact settle_good (W := W) h (fun b y hy => hl b y (List.mem_cons_of_mem _ hy)) hr
          (fun y hy hW => ⟨(hp y (List.mem_cons_of_mem _ hy) hW).1, fun q hq => (hp y (List.mem_cons_of_mem _ hy) hW).2 q (List.mem_cons_of_mem _ hq)⟩) hw.2 b z hm hz
    · cases h

end
end
end Go.Sx
