/- The arguments opened: what an operation is, cell for cell. -/
import Derived.Test.YtpmojikobjkllaaGreatDoorHnC
import Derived.ProofKit
import Derived.OpenShut
namespace Go.Proofs.YtpmojikobjkllaaGreatDoor
open Go.ChangeShapes Go.WideShapes Go.ChangeAt Go.RowKit

theorem cells26 : Tryz.prog.cellsOf 26 = 7 := by kernel_rfl
theorem cells24 : Tryz.prog.cellsOf 24 = 4 := by kernel_rfl
theorem cells22 : Tryz.prog.cellsOf 22 = 1 := by kernel_rfl
theorem cells5 : Tryz.prog.cellsOf 5 = 1 := by kernel_rfl
theorem cells3 : Tryz.prog.cellsOf 3 = 1 := by kernel_rfl
theorem cells4 : Tryz.prog.cellsOf 4 = 1 := by kernel_rfl

section
variable {H : Type} {enc : TypeId × Value → H} {W : World} {sp : Nat → Bool} {held : Bool}

theorem agg_of_wide {P : Program} {w : World} {r : Reach} {b0 : Nat} {t : TypeId} {fs : Array Field} {v : Value} (ht : P.underlying t = some (.struct fs)) (h : Value.okWide P w r b0 t v) : ∃ l : List Value, v = .agg ⟨l⟩ ∧ l.length = P.cellsOf t := by
  unfold Value.okWide at h
  rw [ht] at h
  obtain ⟨⟨cs⟩, e, hs, _⟩ := h
  exact ⟨cs, e, hs⟩

theorem open_p {fuel : Nat} {x2 x3 x4 x5 : Value} {x : DataW H × List MemPlace} (h : DataW.trod enc Tryz.prog W 0 sp held fuel 24 [x2, x3, x4, x5] = some x) :
    ∃ (a b c : Int) (d : Bool), x2 = .int .i64 a ∧ x3 = .int .i64 b ∧ x4 = .int .i64 c ∧ x5 = .bool d := by
  obtain ⟨xs, m, _, _, _, hxl, hall⟩ := DataW.trod_struct Tryz.underlying24 h
  have hxl' : xs.length = 4 := hxl
  obtain ⟨b0, e0⟩ : ∃ b, xs[0]? = some b := ⟨xs[0]'(by omega), List.getElem?_eq_getElem (by omega)⟩
  obtain ⟨b1, e1⟩ : ∃ b, xs[1]? = some b := ⟨xs[1]'(by omega), List.getElem?_eq_getElem (by omega)⟩
  obtain ⟨b2, e2⟩ : ∃ b, xs[2]? = some b := ⟨xs[2]'(by omega), List.getElem?_eq_getElem (by omega)⟩
  obtain ⟨b3, e3⟩ : ∃ b, xs[3]? = some b := ⟨xs[3]'(by omega), List.getElem?_eq_getElem (by omega)⟩
  have k0 : DataW.trod enc Tryz.prog W 0 sp held m 3 (([x2, x3, x4, x5].drop 0).take (Tryz.prog.cellsOf 3)) = xs[0]? := hall 0 _ rfl
  have k1 : DataW.trod enc Tryz.prog W 0 sp held m 3 (([x2, x3, x4, x5].drop 1).take (Tryz.prog.cellsOf 3)) = xs[1]? := hall 1 _ rfl
  have k2 : DataW.trod enc Tryz.prog W 0 sp held m 3 (([x2, x3, x4, x5].drop 2).take (Tryz.prog.cellsOf 3)) = xs[2]? := hall 2 _ rfl
  have k3 : DataW.trod enc Tryz.prog W 0 sp held m 4 (([x2, x3, x4, x5].drop 3).take (Tryz.prog.cellsOf 4)) = xs[3]? := hall 3 _ rfl
  rw [e0] at k0
  rw [e1] at k1
  rw [e2] at k2
  rw [e3] at k3
  simp only [cells3, cells4] at k0 k1 k2 k3
  obtain ⟨a, ha, _⟩ := DataW.trod_int Tryz.underlying3 k0
  obtain ⟨b, hb, _⟩ := DataW.trod_int Tryz.underlying3 k1
  obtain ⟨c, hc, _⟩ := DataW.trod_int Tryz.underlying3 k2
  obtain ⟨d, hd, _⟩ := DataW.trod_bool Tryz.underlying4 k3
  simp at ha hb hc hd
  exact ⟨a, b, c, d, ha, hb, hc, hd⟩

set_option maxRecDepth 100000 in
theorem open_op {r : Reach} {b0 : Nat} {v : Value} {d : DataW H} {ps : List MemPlace} (hval : Value.okWide Tryz.prog W r b0 26 v) (hd : DataW.Trod enc Tryz.prog W 0 sp held 26 v d ps) :
    ∃ (k : Int) (p : Option Addr) (l q : Nat) (a b c : Int) (bo : Bool) (n : Int), v = .agg #[.int .u8 k, .slice p l q, .int .i64 a, .int .i64 b, .int .i64 c, .bool bo, .int .i64 n] := by
  obtain ⟨cs, rfl, hsz⟩ := agg_of_wide Tryz.underlying26 hval
  obtain ⟨fuel, h⟩ := hd
  have h' : DataW.trod enc Tryz.prog W 0 sp held fuel 26 cs = some (d, ps) := h
  have hl : cs.length = 7 := hsz.trans cells26
  match cs, hl with
  | [x0, x1, x2, x3, x4, x5, x6], _ =>
    obtain ⟨xs, m, _, _, _, hxl, hall⟩ := DataW.trod_struct Tryz.underlying26 h'
    have hxl' : xs.length = 4 := hxl
    obtain ⟨b0, e0⟩ : ∃ b, xs[0]? = some b := ⟨xs[0]'(by omega), List.getElem?_eq_getElem (by omega)⟩
    obtain ⟨b1, e1⟩ : ∃ b, xs[1]? = some b := ⟨xs[1]'(by omega), List.getElem?_eq_getElem (by omega)⟩
    obtain ⟨b2, e2⟩ : ∃ b, xs[2]? = some b := ⟨xs[2]'(by omega), List.getElem?_eq_getElem (by omega)⟩
    obtain ⟨b3, e3⟩ : ∃ b, xs[3]? = some b := ⟨xs[3]'(by omega), List.getElem?_eq_getElem (by omega)⟩
    have k0 : DataW.trod enc Tryz.prog W 0 sp held m 5 (([x0, x1, x2, x3, x4, x5, x6].drop 0).take (Tryz.prog.cellsOf 5)) = xs[0]? := hall 0 _ rfl
    have k1 : DataW.trod enc Tryz.prog W 0 sp held m 22 (([x0, x1, x2, x3, x4, x5, x6].drop 1).take (Tryz.prog.cellsOf 22)) = xs[1]? := hall 1 _ rfl
    have k2 : DataW.trod enc Tryz.prog W 0 sp held m 24 (([x0, x1, x2, x3, x4, x5, x6].drop 2).take (Tryz.prog.cellsOf 24)) = xs[2]? := hall 2 _ rfl
    have k3 : DataW.trod enc Tryz.prog W 0 sp held m 3 (([x0, x1, x2, x3, x4, x5, x6].drop 6).take (Tryz.prog.cellsOf 3)) = xs[3]? := hall 3 _ rfl
    rw [e0] at k0
    rw [e1] at k1
    rw [e2] at k2
    rw [e3] at k3
    simp only [cells3, cells5, cells22, cells24] at k0 k1 k2 k3
    obtain ⟨k, hk, _⟩ := DataW.trod_int Tryz.underlying5 k0
    obtain ⟨a, b, c, bo, ha, hb, hc, hbo⟩ := open_p (x2 := x2) (x3 := x3) (x4 := x4) (x5 := x5) k2
    obtain ⟨n, hn, _⟩ := DataW.trod_int Tryz.underlying3 k3
    have hs : ∃ p l q, x1 = .slice p l q := by
      rcases DataW.trod_slice Tryz.underlying22 k1 with ⟨hs, _⟩ | ⟨p, l, q, _, _, _, _, hs, _⟩
      · simp at hs
        exact ⟨_, _, _, hs⟩
      · simp at hs
        exact ⟨_, _, _, hs⟩
    obtain ⟨p, l, q, hs⟩ := hs
    simp at hk hn
    subst hk hs ha hb hc hbo hn
    exact ⟨k, p, l, q, a, b, c, bo, n, rfl⟩
end

end Go.Proofs.YtpmojikobjkllaaGreatDoor
