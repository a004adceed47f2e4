/- Part E: the operations that ask nothing of memory, together. -/
import Derived.Test.YtpmojikobjkllaaGreatDoorSxD
namespace Go.Sx
open Go
noncomputable section

theorem VR.int_inv {r : BMap} {k : IntKind} {n : Int} {v : Value} (h : VR r (.int k n) v) : v = .int k n := by cases h; rfl
theorem VR.bool_inv {r : BMap} {b : Bool} {v : Value} (h : VR r (.bool b) v) : v = .bool b := by cases h; rfl
theorem VR.str_inv {r : BMap} {s : ByteArray} {v : Value} (h : VR r (.str s) v) : v = .string s := by cases h; rfl
theorem VR.ptr_inv {r : BMap} {b off : Nat} {v : Value} (h : VR r (.ptr b off) v) : ∃ j k, r b = some (j, k) ∧ v = .pointer (some ⟨j, off, none⟩) := by cases h with | ptr h => exact ⟨_, _, h, rfl⟩
theorem VR.slice_inv {r : BMap} {b off len cap : Nat} {tight : Bool} {v : Value} (h : VR r (.slice b off len cap tight) v) :
    ∃ j k, r b = some (j, k) ∧ v = .slice (some ⟨j, off, none⟩) len (if tight = true then cap else cap + k) := by
  cases h with | slice h hc => subst hc; exact ⟨_, _, h, rfl⟩
theorem VR.nilslice_inv {r : BMap} {v : Value} (h : VR r .nilslice v) : v = .slice none 0 0 := by cases h; rfl
theorem VR.nilmap_inv {r : BMap} {v : Value} (h : VR r .nilmap v) : v = .map none := by cases h; rfl
theorem VR.map_inv {r : BMap} {b : Nat} {v : Value} (h : VR r (.map b) v) : ∃ j k, r b = some (j, k) ∧ v = .map (some j) := by cases h with | map h => exact ⟨_, _, h, rfl⟩
theorem VR.agg_inv {r : BMap} {cs : List AVal} {v : Value} (h : VR r (.agg cs) v) : ∃ cs', v = .agg cs' ∧ VRs r cs cs'.toList := by cases h with | agg h => exact ⟨_, rfl, h⟩
theorem VR.tuple_inv {r : BMap} {cs : List AVal} {v : Value} (h : VR r (.tuple cs) v) : ∃ cs', v = .tuple cs' ∧ VRs r cs cs'.toList := by cases h with | tuple h => exact ⟨_, rfl, h⟩
theorem VR.iface_inv {r : BMap} {t : TypeId} {a : AVal} {v : Value} (h : VR r (.iface t a) v) : ∃ v', v = .iface t v' ∧ VR r a v' := by cases h with | iface h => exact ⟨_, rfl, h⟩
theorem VR.niliface_inv {r : BMap} {v : Value} (h : VR r .niliface v) : v = .nilIface := by cases h; rfl
theorem VR.func_inv {r : BMap} {f : FuncId} {a b : List AVal} {v : Value} (h : VR r (.func f a b) v) : ∃ a' b', v = .func (.func f) a' b' ∧ VRs r a a'.toList ∧ VRs r b b'.toList := by
  cases h with | func h1 h2 => exact ⟨_, _, rfl, h1, h2⟩
theorem VR.yield_inv {r : BMap} {l : Nat} {v : Value} (h : VR r (.yield l) v) : ∃ j k, r l = some (j, k) ∧ v = .func (.yield j) #[] #[] := by cases h with | yield h => exact ⟨_, _, h, rfl⟩

/-! ### Slicing -/
def evIdx (ev : Ev) : Option Operand → Option (Option Nat)
  | none => some none
  | some x => match ev x with
    | some (.int _ i) => if 0 ≤ i then some (some i.toNat) else none
    | _ => none

theorem evIdx_none {ev : Ev} {o : Option Operand} (h : evIdx ev o = some none) : o = none := by
  cases o with
  | none => rfl
  | some x =>
    simp only [evIdx] at h
    split at h
    · split at h <;> cases h
    · cases h

theorem evIdx_some {r : BMap} {ev : Ev} {q : Operand → Value} (hq : EvR r ev q) {o : Option Operand} {n : Nat} (h : evIdx ev o = some (some n)) : ∃ x k, o = some x ∧ q x = .int k (n : Int) := by
  cases o with
  | none => simp [evIdx] at h
  | some x =>
    simp only [evIdx] at h
    split at h
    · rename_i k i e
      split at h
      · rename_i hi
        simp at h
        have hv := (hq _ _ e).int_inv
        exact ⟨x, k, rfl, by rw [hv, ← h]; congr 1; omega⟩
      · cases h
    · cases h

theorem sliceBound_run {P : Program} {k : IntKind} {n y : Nat} {code : BoundsCode} (h : n ≤ y) (w : World) : (Instr.sliceBound (.int k (n : Int)) y code).run P w = .ok n w := by
  simp [Instr.sliceBound, asIntOf, h]

/-- The three bounds: low, high, max (of the abstract capacity, where none is given). -/
def abounds (len cap : Nat) (lo hi mx : Option Nat) : Option (Nat × Nat × Nat) :=
  let m := mx.getD cap
  let h := hi.getD len
  let l := lo.getD 0
  if m ≤ cap ∧ h ≤ m ∧ l ≤ h ∧ (mx.isSome = true → hi.isSome = true) then some (l, h, m) else none

theorem abounds_run {P : Program} {r : BMap} {ev : Ev} {q : Operand → Value} (hq : EvR r ev q) {lo hi mx : Option Operand} {lo' hi' mx' : Option Nat}
    (h1 : evIdx ev lo = some lo') (h2 : evIdx ev hi = some hi') (h3 : evIdx ev mx = some mx') {isSlice : Bool} {len cap cap' l h m : Nat} (hc : cap ≤ cap')
    (hb : abounds len cap lo' hi' mx' = some (l, h, m)) (w : World) :
    (Instr.sliceBounds isSlice len cap' (lo.map q) (hi.map q) (mx.map q)).run P w = .ok (l, h, mx'.getD cap') w ∧ l ≤ h ∧ h ≤ m ∧ m ≤ cap ∧ (mx'.isSome = true → mx'.getD cap' = m) ∧ (mx' = none → m = cap) := by
  simp only [abounds] at hb
  split at hb
  · rename_i hcond
    obtain ⟨c1, c2, c3, c4⟩ := hcond
    simp at hb
    obtain ⟨rfl, rfl, rfl⟩ := hb
    refine ⟨?_, c3, c2, c1, ?_, ?_⟩
    · unfold Instr.sliceBounds
      cases mx' with
      | none =>
        obtain rfl := evIdx_none h3
        cases hi' with
        | none =>
          obtain rfl := evIdx_none h2
          cases lo' with
          | none => obtain rfl := evIdx_none h1; simp
          | some l =>
            obtain ⟨x, k, rfl, e⟩ := evIdx_some hq h1
            simp at c2 c3
            simp [e, sliceBound_run c3]
        | some h =>
          obtain ⟨y, k2, rfl, e2⟩ := evIdx_some hq h2
          simp at c2 c3
          have c2' : h ≤ cap' := by omega
          cases lo' with
          | none => obtain rfl := evIdx_none h1; simp [e2, sliceBound_run c2']
          | some l =>
            obtain ⟨x, k, rfl, e⟩ := evIdx_some hq h1
            simp at c3
            simp [e, e2, sliceBound_run c2', sliceBound_run c3]
      | some m =>
        obtain ⟨z, k3, rfl, e3⟩ := evIdx_some hq h3
        simp at c1 c2 c3 c4
        have c1' : m ≤ cap' := by omega
        cases hi' with
        | none => simp at c4
        | some h =>
          obtain ⟨y, k2, rfl, e2⟩ := evIdx_some hq h2
          simp at c2 c3
          cases lo' with
          | none => obtain rfl := evIdx_none h1; simp [e2, e3, sliceBound_run c1', sliceBound_run c2]
          | some l =>
            obtain ⟨x, k, rfl, e⟩ := evIdx_some hq h1
            simp at c3
            simp [e, e2, e3, sliceBound_run c1', sliceBound_run c2, sliceBound_run c3]
    · intro hm; cases mx' with
      | none => cases hm
      | some m => rfl
    · intro hm; subst hm; rfl
  · cases hb

def aslice (C : Cfg) (ev : Ev) (t : TypeId) (x : Operand) (lo hi mx : Option Operand) : Option AVal :=
  match C.ty.get t, ev x, evIdx ev lo, evIdx ev hi, evIdx ev mx with
  | some y, some a, some lo', some hi', some mx' =>
    match y.kind, a with
    | .slice e, .slice b off len cap tight => match C.ty.get e, abounds len cap lo' hi' mx' with
      | some ye, some (l, h, m) =>
        if l * ye.size = 0 then some (.slice b off (h - l) (m - l) (tight || mx'.isSome))
        else if m = l then none
        else some (.slice b (off + l * ye.size) (h - l) (m - l) (tight || mx'.isSome))
      | _, _ => none
    | .slice e, .nilslice => match C.ty.get e, abounds 0 0 lo' hi' mx' with
      | some _, some _ => some .nilslice
      | _, _ => none
    | .arr n e, .ptr b off => match C.ty.get e, abounds n n lo' hi' mx' with
      | some ye, some (l, h, m) => some (.slice b (if m = l then off else off + l * ye.size) (h - l) (m - l) true)
      | _, _ => none
    | .str, .str s => match mx', abounds s.size s.size lo' hi' none with
      | none, some (l, h, _) => some (.str (s.extract l h))
      | _, _ => none
    | _, _ => none
  | _, _, _, _, _ => none

theorem addr_add (j off n : Nat) : (⟨j, off, none⟩ : Addr).add n = ⟨j, off + n, none⟩ := by
  unfold Addr.add
  split
  · rename_i h; subst h; rfl
  · rfl

theorem aslice_run {P : Program} {C : Cfg} (hC : CfgOK P C) {r : BMap} {ev : Ev} {q : Operand → Value} (hq : EvR r ev q) {t : TypeId} {x : Operand} {lo hi mx : Option Operand} {c : AVal}
    (h : aslice C ev t x lo hi mx = some c) : ∃ v, (∀ w, (Instr.sliceAt t (q x) (lo.map q) (hi.map q) (mx.map q)).run P w = .ok v w) ∧ VR r c v := by
  unfold aslice at h
  split at h
  · rename_i y a lo' hi' mx' hy ha h1 h2 h3
    have T := hC.ty t y hy
    obtain ⟨d, hd, _, hdr⟩ := T.und
    have hv := hq x a ha
    split at h
    · rename_i e b off len cap tight hk
      rw [hk] at hd
      obtain rfl := kndB_slice hd
      obtain ⟨j, k', hj, hqx⟩ := hv.slice_inv
      generalize hcap' : (if tight = true then cap else cap + k') = cap' at hqx
      have hcap : cap ≤ cap' := by rw [← hcap']; split <;> omega
      split at h
      · rename_i ye l hh m hye hb
        have Te := hC.ty e ye hye
        have R := fun w => abounds_run (P := P) hq h1 h2 h3 (isSlice := true) hcap hb w
        have R0 := (R default).2
        obtain ⟨c1, c2, c3, c4, c5⟩ := R0
        have hm' : mx'.getD cap' - l = if (tight || mx'.isSome) = true then m - l else m - l + k' := by
          cases hmx : mx' with
          | none =>
            have := c5 hmx
            simp only [Option.getD_none, Option.isSome_none, Bool.or_false]
            rw [← hcap', this]
            split <;> omega
          | some z => rw [hmx] at c4; have := c4 rfl; simp at this; simp; omega
        have hm2 : m ≤ mx'.getD cap' := by
          cases hmx : mx' with
          | none => have := c5 hmx; simp; omega
          | some z => rw [hmx] at c4; have := c4 rfl; simp at this; simp; omega
        have run : ∀ w, (Instr.sliceAt t (q x) (lo.map q) (hi.map q) (mx.map q)).run P w =
            .ok (.slice (if mx'.getD cap' = l then some ⟨j, off, none⟩ else some ⟨j, off + l * ye.size, none⟩) (hh - l) (mx'.getD cap' - l)) w := fun w => by
          simp only [Instr.sliceAt, Sem.run_bind, hdr, Result.andThen_ok, hqx, Instr.slice, (R w).1, Te.size, Sem.run_pure, Option.map_some, addr_add]
        refine ⟨_, run, ?_⟩
        split at h
        · rename_i hz
          cases h
          have : (if mx'.getD cap' = l then some (⟨j, off, none⟩ : Addr) else some ⟨j, off + l * ye.size, none⟩) = some ⟨j, off, none⟩ := by
            split
            · rfl
            · rw [hz]; rfl
          rw [this]
          exact .slice hj hm'
        · split at h
          · cases h
          · rename_i hml
            cases h
            have : mx'.getD cap' ≠ l := by omega
            rw [if_neg this]
            exact .slice hj hm'
      · cases h
    · rename_i e hk
      rw [hk] at hd
      obtain rfl := kndB_slice hd
      have hqx := hv.nilslice_inv
      split at h
      · rename_i ye p hye hb
        cases h
        obtain ⟨l, hh, m⟩ := p
        have Te := hC.ty e ye hye
        have R := fun w => abounds_run (P := P) hq h1 h2 h3 (isSlice := true) (Nat.le_refl 0) hb w
        obtain ⟨c1, c2, c3, c4, c5⟩ := (R default).2
        have e1 : l = 0 := by omega
        have e2 : hh = 0 := by omega
        have e3 : mx'.getD 0 = 0 := by
          cases hmx : mx' with
          | none => rfl
          | some z => rw [hmx] at c4; have := c4 rfl; simp at this; simp; omega
        refine ⟨.slice none 0 0, fun w => ?_, .nilslice⟩
        simp [Instr.sliceAt, hdr, hqx, Instr.slice, (R w).1, Te.size, e1, e2, e3]
      · cases h
    · rename_i n e b off hk
      rw [hk] at hd
      obtain rfl := kndB_arr hd
      obtain ⟨j, k', hj, hqx⟩ := hv.ptr_inv
      split at h
      · rename_i ye l hh m hye hb
        cases h
        have Te := hC.ty e ye hye
        have R := fun w => abounds_run (P := P) hq h1 h2 h3 (isSlice := false) (Nat.le_refl n) hb w
        obtain ⟨c1, c2, c3, c4, c5⟩ := (R default).2
        have hm : mx'.getD n = m := by
          cases hmx : mx' with
          | none => have := c5 hmx; simp; omega
          | some z => rw [hmx] at c4; have := c4 rfl; simpa using this
        refine ⟨.slice (some ⟨j, if m = l then off else off + l * ye.size, none⟩) (hh - l) (m - l), fun w => ?_, .slice hj rfl⟩
        simp only [Instr.sliceAt, Sem.run_bind, hdr, Result.andThen_ok, hqx, Instr.sureAddr, (R w).1, Te.size, Sem.run_pure, addr_add, hm]
        split <;> rfl
      · cases h
    · rename_i s hk
      rw [hk] at hd
      obtain rfl := kndB_str hd
      have hqx := hv.str_inv
      split at h
      · rename_i p l hh m hb
        cases h
        have R := fun w => abounds_run (P := P) hq h1 h2 h3 (isSlice := false) (Nat.le_refl s.size) hb w
        obtain rfl := evIdx_none h3
        refine ⟨.string (s.extract l hh), fun w => ?_, .str _⟩
        have R1 := (R w).1
        simp only [Option.map_none] at R1
        simp [Instr.sliceAt, hdr, hqx, Instr.slice, R1]
      · cases h
    · cases h
  · cases h

/-! ### Addresses of parts -/
def afieldAddr (C : Cfg) (s : TypeId) (a : AVal) (f : Nat) : Option AVal :=
  match a, C.ty.get s with
  | .ptr b off, some y => match y.kind with
    | .strct fs => match fs[f]? with
      | some fl => match C.ty.get fl.typ with
        | some yf => if yf.size = 0 then none else some (.ptr b (off + fl.off))
        | none => none
      | none => none
    | _ => none
  | _, _ => none

theorem afieldAddr_run {P : Program} {C : Cfg} (hC : CfgOK P C) {r : BMap} {s : TypeId} {a c : AVal} {f : Nat} {v : Value} (h : afieldAddr C s a f = some c) (hv : VR r a v) :
    ∃ v', (∀ w, (Instr.fieldAt s v f).run P w = .ok v' w) ∧ VR r c v' := by
  unfold afieldAddr at h
  split at h
  · rename_i b off y hy
    obtain ⟨d, hd, _, hdr⟩ := (hC.ty s y hy).und
    obtain ⟨j, k', hj, rfl⟩ := hv.ptr_inv
    split at h
    · rename_i fs hk
      rw [hk] at hd
      obtain ⟨fields, rfl, hfs⟩ := kndB_strct hd
      split at h
      · rename_i fl hfl
        obtain ⟨fd, hfd, ho, ht⟩ := fldsB_get hfs hfl
        split at h
        · rename_i yf hyf
          have Tf := hC.ty _ yf hyf
          split at h
          · cases h
          · rename_i hz
            cases h
            refine ⟨.pointer (some ⟨j, off + fl.off, none⟩), fun w => ?_, .ptr hj⟩
            have hfd' : fields[f]? = some fd := by simpa using hfd
            simp only [Instr.fieldAt, Sem.run_bind, hdr, Result.andThen_ok, hfd', Instr.sureAddr, Sem.run_pure, fieldPlace, ht, Tf.size, hz, if_false, addr_add, ho]
        · cases h
      · cases h
    · cases h
  · cases h

def afield (C : Cfg) (t : TypeId) (a : AVal) (f : Nat) : Option AVal :=
  match a, C.ty.get t with
  | .agg cs, some y => match y.kind with
    | .strct fs => match fs[f]? with
      | some fl => apart C fl.typ cs fl.off
      | none => none
    | _ => none
  | _, _ => none

theorem afield_run {P : Program} {C : Cfg} (hC : CfgOK P C) {r : BMap} {t : TypeId} {a c : AVal} {f : Nat} {v : Value} (h : afield C t a f = some c) (hv : VR r a v) :
    ∃ v', (∀ w, (Instr.field t v f).run P w = .ok v' w) ∧ VR r c v' := by
  unfold afield at h
  split at h
  · rename_i cs y hy
    obtain ⟨d, hd, _, hdr⟩ := (hC.ty t y hy).und
    obtain ⟨cs', rfl, hcs⟩ := hv.agg_inv
    split at h
    · rename_i fs hk
      rw [hk] at hd
      obtain ⟨fields, rfl, hfs⟩ := kndB_strct hd
      split at h
      · rename_i fl hfl
        obtain ⟨fd, hfd, ho, ht⟩ := fldsB_get hfs hfl
        obtain ⟨u, h1, h2⟩ := apart_run hC h hcs
        refine ⟨u, fun w => ?_, h2⟩
        have hfd' : fields[f]? = some fd := by simpa using hfd
        simp only [Instr.field, Sem.run_bind, hdr, Result.andThen_ok, hfd', asAgg, Sem.run_pure, ho, ht, h1]
      · cases h
    · cases h
  · cases h

def aindexAddr (C : Cfg) (t : TypeId) (a i : AVal) : Option AVal :=
  match C.ty.get t, i with
  | some y, .int _ n => match y.kind, a with
    | .arr len e, .ptr b off => match C.ty.get e with
      | some ye => if 0 ≤ n ∧ n < (len : Int) then some (.ptr b (off + n.toNat * ye.size)) else none
      | none => none
    | .slice e, .slice b off len _ _ => match C.ty.get e with
      | some ye => if 0 ≤ n ∧ n < (len : Int) then some (.ptr b (off + n.toNat * ye.size)) else none
      | none => none
    | _, _ => none
  | _, _ => none

theorem aindexAddr_run {P : Program} {C : Cfg} (hC : CfgOK P C) {r : BMap} {t : TypeId} {a i c : AVal} {v u : Value} (h : aindexAddr C t a i = some c) (hv : VR r a v) (hu : VR r i u) :
    ∃ v', (∀ w, (Instr.indexAt t v u).run P w = .ok v' w) ∧ VR r c v' := by
  unfold aindexAddr at h
  split at h
  · rename_i y k n hy
    obtain ⟨d, hd, _, hdr⟩ := (hC.ty t y hy).und
    obtain rfl := hu.int_inv
    split at h
    · rename_i len e b off hk
      rw [hk] at hd
      obtain rfl := kndB_arr hd
      obtain ⟨j, k', hj, rfl⟩ := hv.ptr_inv
      split at h
      · rename_i ye hye
        have Te := hC.ty e ye hye
        split at h
        · rename_i hb
          cases h
          refine ⟨.pointer (some ⟨j, off + n.toNat * ye.size, none⟩), fun w => ?_, .ptr hj⟩
          simp [Instr.indexAt, asIntOf, hdr, Instr.sureAddr, hb, Te.size, addr_add]
        · cases h
      · cases h
    · rename_i e b off len cap tight hk
      rw [hk] at hd
      obtain rfl := kndB_slice hd
      obtain ⟨j, k', hj, rfl⟩ := hv.slice_inv
      split at h
      · rename_i ye hye
        have Te := hC.ty e ye hye
        split at h
        · rename_i hb
          cases h
          refine ⟨.pointer (some ⟨j, off + n.toNat * ye.size, none⟩), fun w => ?_, .ptr hj⟩
          simp [Instr.indexAt, asIntOf, hdr, hb, Te.size, addr_add]
        · cases h
      · cases h
    · cases h
  · cases h

def aindex (C : Cfg) (t : TypeId) (a i : AVal) : Option AVal :=
  match C.ty.get t, i with
  | some y, .int _ n => match y.kind, a with
    | .arr len e, .agg cs => match C.ty.get e with
      | some ye => if 0 ≤ n ∧ n < (len : Int) then apart C e cs (n.toNat * ye.size) else none
      | none => none
    | .str, .str s => if 0 ≤ n then match s[n.toNat]? with
      | some b => some (.int .u8 b.toNat)
      | none => none
      else none
    | _, _ => none
  | _, _ => none

theorem aindex_run {P : Program} {C : Cfg} (hC : CfgOK P C) {r : BMap} {t : TypeId} {a i c : AVal} {v u : Value} (h : aindex C t a i = some c) (hv : VR r a v) (hu : VR r i u) :
    ∃ v', (∀ w, (Instr.index t v u).run P w = .ok v' w) ∧ VR r c v' := by
  unfold aindex at h
  split at h
  · rename_i y k n hy
    obtain ⟨d, hd, _, hdr⟩ := (hC.ty t y hy).und
    obtain rfl := hu.int_inv
    split at h
    · rename_i len e cs hk
      rw [hk] at hd
      obtain rfl := kndB_arr hd
      obtain ⟨cs', rfl, hcs⟩ := hv.agg_inv
      split at h
      · rename_i ye hye
        have Te := hC.ty e ye hye
        split at h
        · rename_i hb
          obtain ⟨u, h1, h2⟩ := apart_run hC h hcs
          refine ⟨u, fun w => ?_, h2⟩
          simp [Instr.index, asIntOf, hdr, hb, Te.size, h1]
        · cases h
      · cases h
    · rename_i s hk
      rw [hk] at hd
      obtain rfl := kndB_str hd
      obtain rfl := hv.str_inv
      split at h
      · rename_i hb
        split at h
        · rename_i b hs
          cases h
          refine ⟨.int .u8 b.toNat, fun w => ?_, .int _ _⟩
          simp [Instr.index, asIntOf, hdr, hb, hs]
        · cases h
      · cases h
    · cases h
  · cases h

def alen (C : Cfg) (t : TypeId) (a : AVal) : Option AVal :=
  match C.ty.get t with
  | some y => match y.kind, a with
    | .slice _, .slice _ _ len _ _ => some (.int .i64 len)
    | .slice _, .nilslice => some (.int .i64 0)
    | .str, .str s => some (.int .i64 s.size)
    | .arr n _, _ => some (.int .i64 n)
    | .map _ _, .nilmap => some (.int .i64 0)
    | _, _ => none
  | none => none

theorem alen_run {P : Program} {C : Cfg} (hC : CfgOK P C) {r : BMap} {t u : TypeId} {a c : AVal} {v : Value} {ts : Array TypeId} (hts : ts[0]? = some t) (h : alen C t a = some c) (hv : VR r a v) :
    ∃ v', (∀ w, (Builtin.len_ ts u #[v]).run P w = .ok v' w) ∧ VR r c v' := by
  unfold alen at h
  split at h
  · rename_i y hy
    obtain ⟨d, hd, _, hdr⟩ := (hC.ty t y hy).und
    split at h
    · rename_i e b off len cap tight hk
      rw [hk] at hd
      obtain rfl := kndB_slice hd
      obtain ⟨j, k', hj, rfl⟩ := hv.slice_inv
      cases h
      exact ⟨_, fun w => by simp [Builtin.len_, hts, hdr, goInt], .int _ _⟩
    · rename_i e hk
      rw [hk] at hd
      obtain rfl := kndB_slice hd
      obtain rfl := hv.nilslice_inv
      cases h
      exact ⟨_, fun w => by simp [Builtin.len_, hts, hdr, goInt], .int _ _⟩
    · rename_i s hk
      rw [hk] at hd
      obtain rfl := kndB_str hd
      obtain rfl := hv.str_inv
      cases h
      exact ⟨_, fun w => by simp [Builtin.len_, hts, hdr, goInt], .int _ _⟩
    · rename_i n e hk
      rw [hk] at hd
      obtain rfl := kndB_arr hd
      cases h
      exact ⟨_, fun w => by simp [Builtin.len_, hts, hdr, goInt], .int _ _⟩
    · rename_i k e hk
      rw [hk] at hd
      obtain rfl := kndB_map hd
      obtain rfl := hv.nilmap_inv
      cases h
      exact ⟨_, fun w => by simp [Builtin.len_, hts, hdr, goInt], .int _ _⟩
    · cases h
  · cases h

end
end Go.Sx
