/- HistoryNil: for every operation and every number the law hands back true, and the arguments read as they did; with the two listed variables tied to the program's text (the card). Premises of the row: the calm assumption, and that of the outside only time passes. -/
import Derived.Test.YtpmojikobjkllaaGreatDoorRows
import Derived.Test.YtpmojikobjkllaaGreatDoorTie
import Derived.Test.YtpmojikobjkllaaGreatDoorCards
import Derived.Test.YtpmojikobjkllaaGreatDoorHnD
import Derived.Test.YtpmojikobjkllaaGreatDoorHnF
import Derived.Test.YtpmojikobjkllaaGreatDoorHnG
import Derived.Test.YtpmojikobjkllaaGreatDoorSxFl
import Derived.Clock
import Derived.OpenVars
import Derived.LaidMore
import Derived.Lay
import Derived.LaidOnce
import Derived.SevenTiedAt
namespace Go.Proofs.YtpmojikobjkllaaGreatDoor
open Go.ChangeShapes Go.WideShapes Go.ChangeAt Go.RowKit Go.Clock Go.Sx Go.Sx.Tab

theorem fl0 : (flat Tryz.prog 9 239 Rows.laid_palmette_kernel_forms).bind ofV1s = some (cellsA glob0) := by kernel_rfl
theorem fl1 : (flat Tryz.prog 9 303 Rows.laid_math_bits_deBruijn64tab).bind ofV1s = some (cellsA glob1) := by kernel_rfl

theorem laid_of {W : World} (h0 : laidMetH Tryz.prog Rows.historyNilRow.laid W) (hsh : W.ShapedOpen Tryz.prog) : Laid W := by
  have h : laidMet Tryz.prog Rows.historyNilRow.laid W := by
    rw [MakeChecks.laidMetH_plain _ _ _ (by kernel_rfl)] at h0
    exact h0
  have f0 := fl0
  have f1 := fl1
  rw [Option.bind_eq_some_iff] at f0 f1
  obtain ⟨l0, a0, b0⟩ := f0
  obtain ⟨l1, a1, b1⟩ := f1
  have q0 : Rows.historyNilRow.laid[1]? = some (_, Rows.laid_palmette_kernel_forms) := rfl
  have q1 : Rows.historyNilRow.laid[0]? = some (_, Rows.laid_math_bits_deBruijn64tab) := rfl
  obtain ⟨c0, x0, y0, g0, e0⟩ := block_of_laid h (List.mem_of_getElem? q0) (g := 0) (by kernel_rfl) (t := 239) (by kernel_rfl) a0
  obtain ⟨c1, x1, y1, g1, e1⟩ := block_of_laid h (List.mem_of_getElem? q1) (g := 1) (by kernel_rfl) (t := 303) (by kernel_rfl) a1
  have r0 : (((begin Tryz.prog (fun _ _ => 0) default).world.heap[0]?).bind Obj.row?).map (·.2) = some 239 := by kernel_rfl
  have r1 : (((begin Tryz.prog (fun _ _ => 0) default).world.heap[1]?).bind Obj.row?).map (·.2) = some 303 := by kernel_rfl
  obtain ⟨⟨z0, t0⟩, r0, rt0⟩ := Option.map_eq_some_iff.1 r0
  obtain ⟨⟨z1, t1⟩, r1, rt1⟩ := Option.map_eq_some_iff.1 r1
  obtain rfl : t0 = 239 := rt0
  obtain rfl : t1 = 303 := rt1
  obtain ⟨d0, k0, _⟩ := hsh.1 0 z0 239 (of_decide_eq_true (by kernel_rfl)) r0
  obtain ⟨d1, k1, _⟩ := hsh.1 1 z1 303 (of_decide_eq_true (by kernel_rfl)) r1
  rw [k0] at g0
  rw [k1] at g1
  cases g0
  cases g1
  exact ⟨_, _, k0, k1, by rw [e0]; exact b0, by rw [e1]; exact b1⟩

set_option maxRecDepth 100000 in
theorem contract {H : Type} {enc : TypeId × Value → H} (W : World) (base : Nat) (args : Array Value) (ds gs : List (DataW H)) (before : List MemPlace)
    (hval0 : ∀ (j : Nat) t v, Tryz.f3.params[j]? = some t → args[j]? = some v → Value.okWide Tryz.prog W .any base t v)
    (hW : DataW.Whole enc Tryz.prog Tryz.f3.params.toList Rows.historyNilSpec.vars false W args.toList ds gs before)
    (hL : laidMetH Tryz.prog Rows.historyNilRow.laid W) (hsh : W.ShapedOpen Tryz.prog) :
    Calls Tryz.prog 3 args W fun e W' => ∃ v, e = .returned v ∧ Rows.historyNilSpec.post enc Tryz.prog Tryz.f3 false true false false W args v { W' with os := W.os } ∧ Later W.os W'.os := by
  have hval := hval0
  have hW' := hW
  obtain ⟨p, q, hA0, hV, rfl, _, _⟩ := hW
  have hA : DataW.TrodAll enc Tryz.prog W 0 (fun _ => true) true Tryz.f3.params.toList args.toList ds p := hA0
  rw [Tryz.params3] at hA hval
  obtain ⟨v0, v1, d0, d1, p0, p1, rfl, rfl, rfl, h0, h1⟩ := trodAll_two hA
  obtain ⟨rfl, rfl⟩ := trodVars_none hV
  have hlt0 : ∀ x ∈ p0, x.block < W.heap.size := fun x hx => hW'.lt x (by simp [hx])
  obtain ⟨k, ad, l, c, x, y, z, bo, n, rfl⟩ := open_op (hval 0 26 v0 rfl rfl) h0
  obtain ⟨v, rfl, rfl, rfl, wv⟩ := open_int Tryz.underlying3 (hval 1 3 v1 rfl rfl) h1
  refine (law_any k x y z n v bo ad l c W (laid_of hL hsh)).mono fun e W' ⟨he, hb⟩ => ?_
  subst he
  have hs := Since.of_below hb
  exact ⟨_, rfl, ⟨_, _, _, [], _, [], hW', trodAll_mk1 (shut_bool Tryz.underlying4 _), trodAll_mk2 (Below.trod laidOut (by kernel_rfl) (of_decide_eq_true (by kernel_rfl)) h0 hs.2 hlt0) (shut_int Tryz.underlying3 wv), rfl, hs.2.frame _, fun h => by cases h⟩, hs.1⟩

set_option maxRecDepth 100000 in
theorem lifted (os : Os) (started : os.Started) (H : Type) (enc : TypeId × Value → H) (F : Stop.Interp) :
    ReturnsInHanded { calm := true } Tryz.checked os 3 .any (fun w args => (Rows.historyNilSpec.pre enc Tryz.prog Tryz.f3 [] false w args ∧ laidMetH Tryz.prog Rows.historyNilRow.laid w) ∧ sizedMet enc Tryz.prog Tryz.f3 (OpenSpec.ofChange Rows.historyNilSpec) false w args)
      ((OpenSpec.ofChange Rows.historyNilSpec).postWith enc Tryz.prog Tryz.f3 F (outsideKept [.timePasses]) false true false) := by
  refine returns_of_change (C := Tryz.checked) (X := fun w _ => laidMetH Tryz.prog Rows.historyNilRow.laid w) (fun _ _ _ hh h => h.of_heap hh) own started k6 Tryz.func3
    (witness_at (enc := enc) (C := Tryz.checked) (X := fun w _ => laidMetH Tryz.prog Rows.historyNilRow.laid w) (World.laidAll Tryz.prog os Rows.historyNilRow.laid) #[.agg #[.int .u8 0, .slice none 0 0, .int .i64 0, .int .i64 0, .int .i64 0, .bool false, .int .i64 0], .int .i64 0] 8 (World.laidAll_os _ _ _) (World.shaped_of_ZipB (by kernel_rfl) (by kernel_rfl)) (by kernel_rfl) (by kernel_rfl) (by kernel_rfl)
      (by rw [MakeChecks.laidMetH_plain _ _ _ (by kernel_rfl)]; exact laidMet_laidAll _ (by kernel_rfl) (by kernel_rfl))) ?_
  intro W base args ds gs before hval0 hW _ _ hL hsh
  exact contract W base args ds gs before hval0 hW hL hsh

theorem historyNil_holds : Rows.HistoryNilSaid :=
  holds_of_wide_time 3 Tryz.f3 rfl rfl rfl rfl rfl rfl rfl ⟨rfl, rfl, rfl, rfl, rfl⟩ rfl rfl rfl rfl rfl k5 Tryz.func3 closed k7 k8
    (fun os started H enc _ F => lifted os started H enc F)

theorem historyNil_card_holds : Rows.HistoryNilCardSaid :=
  Claim7.holds_tied_plain_at .later [] [.data, .data] true (true, "1e3f8c555a6b12452fdd76f3727121e29c59fba5f85961f0d800cd80f87eedaa") true historyNil_holds (fun _ h => by cases h) k0 (fun _ h => by cases h) historyNil_row_tie rfl ⟨rfl, rfl⟩ k1 rfl
    (fun f fn hf hfn => by
      obtain rfl : f = 3 := Option.some.inj (k5.symm.trans hf) |>.symm
      obtain rfl : fn = Tryz.f3 := (Option.some.inj (Tryz.func3.symm.trans hfn)).symm
      exact ⟨k2, fun j t ht => by
        rw [Tryz.params3] at ht
        have hm : t ∈ [26, 3] := by simpa using Array.mem_of_getElem? ht
        exact (show Tryz.prog.wantsStandIn t = false by simpa using List.all_eq_true.1 k3 t hm)⟩)
    k4
#print axioms historyNil_card_holds
end Go.Proofs.YtpmojikobjkllaaGreatDoor
