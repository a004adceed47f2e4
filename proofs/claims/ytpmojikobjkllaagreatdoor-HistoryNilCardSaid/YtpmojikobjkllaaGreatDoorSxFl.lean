/- From what a row lists of a variable (integers, bools, strings, structs and arrays of these) to the variable's cells. -/
import Derived.Lib.LaidU8
import Derived.OpenShut
namespace Go.Sx
open Go

def flatL (fl : TypeId → DataW Unit → Option (List Value)) (P : Program) (total : Nat) : List (TypeId × Nat) → List (DataW Unit) → Nat → Option (List Value)
  | [], [], pos => if pos = total then some [] else none
  | (t, off) :: fs, d :: ds, pos => if off = pos then
      match fl t d, flatL fl P total fs ds (pos + P.cellsOf t) with
      | some a, some b => some (a ++ b)
      | _, _ => none
    else none
  | _, _, _ => none

def flat (P : Program) : Nat → TypeId → DataW Unit → Option (List Value)
  | 0, _, _ => none
  | n + 1, t, d => match P.underlying t, d with
    | some (.int k), .lit (.int j z) => if j = k then some [.int k z] else none
    | some .bool, .lit (.bool b) => some [.bool b]
    | some .string, .lit (.string s) => some [.string ⟨s.toArray⟩]
    | some (.struct fs), .agg ds => flatL (flat P n) P (P.cellsOf t) (fs.toList.map fun f => (f.type, f.offset)) ds 0
    | some (.array m e), .agg ds => flatL (flat P n) P (P.cellsOf t) ((List.range m).map fun i => (e, i * P.cellsOf e)) ds 0
    | _, _ => none

section
variable {enc : TypeId × Value → Unit} {P : Program} {w : World} {base : Nat} {sp : Nat → Bool} {held : Bool}

theorem flatL_ok {fl : TypeId → DataW Unit → Option (List Value)} (hfl : ∀ t d l, fl t d = some l → ∀ fuel cs p, DataW.trod enc P w base sp held fuel t cs = some (d, p) → cs = l) {total : Nat} {cs : List Value} (hcs : cs.length = total) :
    ∀ (fs : List (TypeId × Nat)) (ds : List (DataW Unit)) (pos : Nat) (l : List Value), flatL fl P total fs ds pos = some l →
      (∀ (i : Nat) (t : TypeId) (off : Nat), fs[i]? = some (t, off) → ∃ fuel d p, ds[i]? = some d ∧ DataW.trod enc P w base sp held fuel t ((cs.drop off).take (P.cellsOf t)) = some (d, p)) → cs.drop pos = l
  | [], [], pos, l, h, _ => by
    simp only [flatL] at h
    split at h
    · rename_i e
      cases h
      rw [e, ← hcs]
      exact List.drop_length
    · cases h
  | [], d :: ds, pos, l, h, _ => by simp [flatL] at h
  | (t, off) :: fs, [], pos, l, h, _ => by simp [flatL] at h
  | (t, off) :: fs, d :: ds, pos, l, h, ha => by
    simp only [flatL] at h
    split at h
    · rename_i e
      subst e
      split at h
      · rename_i a b e1 e2
        cases h
        obtain ⟨fuel, d', p, k1, k2⟩ := ha 0 t off rfl
        simp only [List.getElem?_cons_zero, Option.some.injEq] at k1
        subst k1
        have h1 := hfl t d a e1 _ _ _ k2
        have h2 := flatL_ok hfl hcs fs ds (off + P.cellsOf t) b e2 fun i t' off' hi => by
          obtain ⟨fuel, d', p, g1, g2⟩ := ha (i + 1) t' off' (by simpa using hi)
          exact ⟨fuel, d', p, by simpa using g1, g2⟩
        rw [← h1, ← h2, ← List.drop_drop, List.take_append_drop]
      · cases h
    · cases h

theorem flat_ok : ∀ (n : Nat) (t : TypeId) (d : DataW Unit) (l : List Value), flat P n t d = some l → ∀ (fuel : Nat) (cs : List Value) (p : List MemPlace), DataW.trod enc P w base sp held fuel t cs = some (d, p) → cs = l
  | 0, _, _, _, h, _, _, _, _ => by simp [flat] at h
  | n + 1, t, d, l, h, fuel, cs, p, ht => by
    simp only [flat] at h
    split at h
    · rename_i k j z hu
      obtain ⟨m, h1, h2, _⟩ := DataW.trod_int hu ht
      split at h
      · rename_i e
        cases h
        have := (Prod.mk.inj h2).1
        simp only [DataW.lit.injEq, Lit.int.injEq] at this
        rw [h1, this.2]
      · cases h
    · rename_i b hu
      obtain ⟨m, h1, h2⟩ := DataW.trod_bool hu ht
      cases h
      have := (Prod.mk.inj h2).1
      simp only [DataW.lit.injEq, Lit.bool.injEq] at this
      rw [h1, this]
    · rename_i s hu
      obtain ⟨m, h1, h2, _⟩ := DataW.trod_string hu ht
      cases h
      have := (Prod.mk.inj h2).1
      simp only [DataW.lit.injEq, Lit.string.injEq] at this
      rw [h1, this]
    · rename_i fs ds hu
      obtain ⟨xs, m, _, hx, hl, hxl, hall⟩ := DataW.trod_struct hu ht
      have hds : ds = xs.map (·.1) := by
        have := (Prod.mk.inj hx).1
        simpa using this
      have := flatL_ok (flat_ok n) hl _ _ _ _ h fun i t' off hi => by
        simp only [List.getElem?_map, Option.map_eq_some_iff, Prod.mk.injEq] at hi
        obtain ⟨f, hf, rfl, rfl⟩ := hi
        have hi' : i < fs.size := by
          rcases Nat.lt_or_ge i fs.size with g | g
          · exact g
          · rw [List.getElem?_eq_none (by simpa using g)] at hf; cases hf
        have k := hall i f (by simpa using hf)
        obtain ⟨b, hb⟩ : ∃ b, xs[i]? = some b := ⟨xs[i]'(by omega), List.getElem?_eq_getElem (by omega)⟩
        rw [hb] at k
        exact ⟨m, b.1, b.2, by rw [hds]; simp [hb], k⟩
      simpa using this
    · rename_i m' e ds hu
      obtain ⟨xs, m, _, hx, hl, hxl, hall⟩ := DataW.trod_array hu ht
      have hds : ds = xs.map (·.1) := by
        have := (Prod.mk.inj hx).1
        simpa using this
      have := flatL_ok (flat_ok n) hl _ _ _ _ h fun i t' off hi => by
        simp only [List.getElem?_map, Option.map_eq_some_iff, Prod.mk.injEq] at hi
        obtain ⟨f, hf, rfl, rfl⟩ := hi
        have hi' : i < m' := by
          rcases Nat.lt_or_ge i m' with g | g
          · exact g
          · rw [List.getElem?_eq_none (by simpa using g)] at hf; cases hf
        have ef : f = i := by
          rw [List.getElem?_range hi'] at hf
          exact (Option.some.inj hf).symm
        subst ef
        have k := hall f hi'
        obtain ⟨b, hb⟩ : ∃ b, xs[f]? = some b := ⟨xs[f]'(by omega), List.getElem?_eq_getElem (by omega)⟩
        rw [hb] at k
        exact ⟨m, b.1, b.2, by rw [hds]; simp [hb], k⟩
      simpa using this
    · cases h
end

/-- A listed variable's block. -/
theorem block_of_laid {P : Program} {w : World} {laid : List (String × DataW Unit)} (h : laidMet P laid w) {n : String} {d : DataW Unit} (hm : (n, d) ∈ laid) {g : Nat} (hg : P.globalNamed n = some g) {t : TypeId}
    (ht : (P.globals[g]?).map (·.type) = some t) {fuel : Nat} {l : List Value} (hf : flat P fuel t d = some l) : ∃ cs x y, w.heap[g]? = some (.cells cs x y) ∧ cs.toList = l := by
  obtain ⟨g', t', cs, fuel', p, h1, h2, h3, h4⟩ := Lib.laidMet.reads h hm
  obtain rfl := Option.some.inj (hg.symm.trans h1)
  obtain rfl := Option.some.inj (ht.symm.trans h2)
  have := flat_ok fuel t d l hf fuel' _ p h4
  simp only [World.var?, hg, Option.bind_some] at h3
  split at h3
  · rename_i c x y e
    cases h3
    exact ⟨_, _, _, e, this⟩
  · cases h3

end Go.Sx
