/- known, as a contract: it hands back true, and nothing that lay in memory turns. -/
import Derived.Test.YtpmojikobjkllaaGreatDoorSxZ
import Derived.Below
namespace Go.Sx.Tab
open Go Go.Sx Go.Proofs Go.RowKit

noncomputable def cellsA : AObj → List AVal
  | .cells _ _ c _ => c
  | _ => []

noncomputable def idMap : BMap := fun i => if i < 5 then some (i, 0) else none

theorem er_res : er.res = [(.bool true, .leaf, 1902)] := rfl

theorem heap_get {i : Nat} {o : AObj} (h : (mkHeap er.objs).get i = some o) : (i = 0 ∧ o = glob0) ∨ (i = 1 ∧ o = glob1) := by
  have hm := mkHeap_mem _ _ _ h
  have e : er.objs = [(0, glob0), (1, glob1)] := rfl
  rw [e] at hm
  simp only [List.mem_cons, Prod.mk.injEq, List.not_mem_nil, or_false] at hm
  exact hm

theorem or_of {g : AObj} {t : TypeId} (hg : g = .cells true 0 (cellsA g) t) {c : Array Value} (hc : ofV1s c.toList = some (cellsA g)) (r : BMap) : OR r 0 g (.cells c t (0, 0)) := by
  have hv : VRs r (cellsA g) c.toList := ofV1s_VRs hc
  rw [hg]
  refine .cells ?_ (fun _ => rfl) ?_
  · have h : (cellsA g).length = c.size := hv.length
    exact h.symm
  · have e : c.toList.take (cellsA g).length = c.toList := List.take_of_length_le (by rw [hv.length]; exact Nat.le_refl _)
    show VRs r (cellsA g) (c.toList.take (cellsA g).length)
    rw [e]
    exact hv

theorem wr0 {w : World} {c0 c1 : Array Value} (h0 : w.heap[0]? = some (.cells c0 239 (0, 0))) (h1 : w.heap[1]? = some (.cells c1 303 (0, 0)))
    (e0 : ofV1s c0.toList = some (cellsA glob0)) (e1 : ofV1s c1.toList = some (cellsA glob1)) : WR ⟨w, 5⟩ idMap (mkHeap er.objs) 5 w where
  os := rfl
  tape := rfl
  output := rfl
  size := Nat.le_refl _
  old := fun _ _ => rfl
  obj := fun i o j k h hr => by
    rcases heap_get h with ⟨rfl, rfl⟩ | ⟨rfl, rfl⟩
    · have e : (0, 0) = (j, k) := Option.some.inj hr
      cases e
      exact ⟨_, h0, or_of rfl e0 _⟩
    · have e : (1, 0) = (j, k) := Option.some.inj hr
      cases e
      exact ⟨_, h1, or_of rfl e1 _⟩
  own := fun i o j k h hr hw => by
    rcases heap_get h with ⟨rfl, rfl⟩ | ⟨rfl, rfl⟩ <;> cases hw
  inj := fun i i' o o' j k k' h h' hr hr' hw => by
    rcases heap_get h with ⟨rfl, rfl⟩ | ⟨rfl, rfl⟩ <;> cases hw
  fresh := fun i hi => by simp [idMap, Nat.not_lt.2 hi]
  glob := fun g hg => by
    have hg' : g < 5 := hg
    simp [idMap, hg']

theorem known_any {w : World} {c0 c1 : Array Value} (h0 : w.heap[0]? = some (.cells c0 239 (0, 0))) (h1 : w.heap[1]? = some (.cells c1 303 (0, 0)))
    (e0 : ofV1s c0.toList = some (cellsA glob0)) (e1 : ofV1s c1.toList = some (cellsA glob1)) :
    Calls Tryz.prog 5 #[] w fun e w' => e = .returned (.bool true) ∧ Below w.heap.size w w' := by
  have h := kr.2 ⟨w, 5⟩ rfl idMap w #[] (wr0 h0 h1 e0 e1) .nil
  refine (callsIn_wide.1 h).mono fun e w' he => ?_
  cases e with
  | returned v =>
    obtain ⟨a, h', nx', r', hm, hE, hn, hW, hv⟩ := he
    rw [er_res] at hm
    cases List.mem_singleton.1 hm
    cases hv
    exact ⟨rfl, ⟨hW.os, hW.tape, hW.output, hW.size, hW.old⟩⟩
  | panicked c => exact he.elim
  | outgrown => exact he.elim

end Go.Sx.Tab
