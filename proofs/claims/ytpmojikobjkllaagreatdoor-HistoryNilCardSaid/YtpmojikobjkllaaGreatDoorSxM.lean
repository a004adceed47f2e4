/- Part M: what an operation looks at; the state of an activation; regions in the order of the text. -/
import Derived.Test.YtpmojikobjkllaaGreatDoorSxL
namespace Go.Sx
open Go
noncomputable section
set_option linter.unusedSimpArgs false

/-! ### Only the operands are looked at -/
section congr
variable {ev ev' : Ev}

theorem evs_congr : ∀ {l : List Operand}, (∀ x ∈ l, ev x = ev' x) → evs ev l = evs ev' l
  | [], _ => rfl
  | x :: l, h => by
    simp only [evs, h x (List.mem_cons_self ..), evs_congr (l := l) fun y hy => h y (List.mem_cons_of_mem _ hy)]

theorem evParts_congr : ∀ {l : List (Nat × Operand)}, (∀ x ∈ l.map (·.2), ev x = ev' x) → evParts ev l = evParts ev' l
  | [], _ => rfl
  | (i, x) :: l, h => by
    simp only [evParts, h x (by simp), evParts_congr (l := l) fun y hy => h y (by rw [List.map_cons]; exact List.mem_cons_of_mem _ hy)]

theorem evIdx_congr {o : Option Operand} (h : ∀ x ∈ o, ev x = ev' x) : evIdx ev o = evIdx ev' o := by
  cases o with
  | none => rfl
  | some x => simp only [evIdx, h x rfl]

theorem apure_congr {P : Program} {C : Cfg} {op : Op} (h : ∀ x ∈ op.operands, ev x = ev' x) : apure P C ev op = apure P C ev' op := by
  cases op <;> simp only [Op.operands, List.mem_toArray, Array.mem_append, Option.mem_toArray, List.mem_singleton, List.mem_cons, List.not_mem_nil, or_false, forall_eq_or_imp, forall_eq, Array.mem_singleton] at h <;>
    try (first | rfl | (simp only [apure, h]; done))
  case build t ps => simp only [apure, evParts_congr h]
  case makeFunc fn first caps =>
    simp only [apure, evs_congr (l := first.toList) fun x hx => h x (.inl (by simpa using hx)), evs_congr (l := caps.toList) fun x hx => h x (.inr (by simpa using hx))]
  case slice t x lo hi mx =>
    simp only [apure, aslice, h x (.inl (.inl (.inl rfl))), evIdx_congr (o := lo) fun y hy => h y (.inl (.inl (.inr hy))), evIdx_congr (o := hi) fun y hy => h y (.inl (.inr hy)), evIdx_congr (o := mx) fun y hy => h y (.inr hy)]
  case call c =>
    obtain ⟨callee, args, ts⟩ := c
    simp only [Call.operands, Array.mem_append] at h
    have h2 := evs_congr (l := args.toList) fun x hx => h x (.inr (by simpa using hx))
    cases callee with
    | value f => rfl
    | invoke x m => rfl
    | builtin b =>
      cases b <;> first | rfl | (simp only [apure, h2]; done) | skip
      simp only [apure]
      split
      · rename_i x t e1 e2
        rw [h x (.inr (by rw [← Array.mem_toList_iff, e1]; exact List.mem_singleton.2 rfl))]
      · rfl

theorem aread_congr {P : Program} {C : Cfg} {hp : T AObj} {op : Op} (h : ∀ x ∈ op.operands, ev x = ev' x) : aread P C ev hp op = aread P C ev' hp op := by
  cases op <;> simp only [Op.operands, List.mem_toArray, Array.mem_append, Option.mem_toArray, List.mem_singleton, List.mem_cons, List.not_mem_nil, or_false, forall_eq_or_imp, forall_eq, Array.mem_singleton] at h <;>
    try (first | rfl | (simp only [aread, h]; done))
  case call c =>
    obtain ⟨callee, args, ts⟩ := c
    simp only [Call.operands, Array.mem_append] at h
    cases callee with
    | value f => rfl
    | invoke x m => rfl
    | builtin b =>
      cases b <;> first | rfl | skip
      simp only [aread]
      split
      · rename_i x t e1 e2
        rw [h x (.inr (by rw [← Array.mem_toList_iff, e1]; exact List.mem_singleton.2 rfl))]
      · rfl

theorem anew_congr {C : Cfg} {op : Op} (h : ∀ x ∈ op.operands, ev x = ev' x) : anew C ev op = anew C ev' op := by
  cases op <;> simp only [Op.operands, List.mem_toArray, Array.mem_append, Option.mem_toArray, List.mem_singleton, List.mem_cons, List.not_mem_nil, or_false, forall_eq_or_imp, forall_eq, Array.mem_singleton] at h <;>
    try (first | rfl | (simp only [anew, h]; done))
  case buildSlice t n ps => simp only [anew, evParts_congr h]
  case makeMap t hint =>
    have hx : ∀ x, hint = some x → ev x = ev' x := fun x e => h x e
    cases hy : C.ty.get t with
    | none => simp only [anew, hy]
    | some y => cases hint with
      | none => cases hk : y.kind <;> simp only [anew, hy, hk]
      | some x => cases hk : y.kind <;> simp only [anew, hy, hk, hx x rfl]

theorem aeff_congr {R : Run} {call : CallF} {round : RoundF} {hp : T AObj} {nx : Nat} {op : Op} (h : ∀ x ∈ op.operands, ev x = ev' x) : aeff R call round ev hp nx op = aeff R call round ev' hp nx op := by
  cases op <;> simp only [Op.operands, List.mem_toArray, Array.mem_append, Option.mem_toArray, List.mem_singleton, List.mem_cons, List.not_mem_nil, or_false, forall_eq_or_imp, forall_eq, Array.mem_singleton] at h <;>
    try (first | rfl | (simp only [aeff, h]; done))
  case next x b => cases b <;> simp only [aeff, h]
  case call c =>
    obtain ⟨callee, args, ts⟩ := c
    simp only [Call.operands, Array.mem_append] at h
    have hm : ∀ x ∈ args.toList, ev x = ev' x := fun x hx => h x (.inr (by simpa using hx))
    have h2 := evs_congr (l := args.toList) hm
    cases callee with
    | value f => simp only [aeff, h f (.inl (by simp)), h2]
    | invoke x m => simp only [aeff, h x (.inl (by simp)), h2]
    | builtin b =>
      cases b <;> first | rfl | skip
      all_goals
        simp only [aeff]
        generalize he : args.toList = al at hm ⊢
        generalize ts[0]? = t0
        try generalize ts[1]? = t1
        try cases t1
        all_goals cases t0
        all_goals rcases al with _ | ⟨x, _ | ⟨y, _ | ⟨z, l⟩⟩⟩ <;> first | rfl | (simp only [List.mem_cons, List.not_mem_nil, or_false, forall_eq_or_imp, forall_eq] at hm; simp only [hm])
end congr

theorem aread_mono {P : Program} {C : Cfg} {ev : Ev} {h h' : T AObj} (hh : ∀ i o, h.get i = some o → h'.get i = some o) {op : Op} {a : AVal} (ha : aread P C ev h op = some a) : aread P C ev h' op = some a := by
  unfold aread at ha ⊢
  split at ha
  · split at ha
    · rename_i e
      try simp only [e]
      unfold aload at ha ⊢
      split at ha
      · rename_i b off y hy
        try simp only [hy]
        split at ha
        · rename_i hagg
          try simp only [hagg, if_true]
          split at ha
          · rename_i hz; try simp only [hz, if_true]; exact ha
          · rename_i hz
            try simp only [hz, if_false]
            split at ha
            · rename_i hb; try simp only [hh _ _ hb]; exact ha
            · cases ha
        · rename_i hagg
          try simp only [hagg, Bool.false_eq_true, if_false]
          split at ha
          · rename_i hb; try simp only [hh _ _ hb]; exact ha
          · cases ha
      · cases ha
    · cases ha
  · split at ha
    · rename_i e1 e2
      try simp only [e1, e2]
      unfold alookup at ha ⊢
      split at ha
      · rename_i y kv hy hkv
        try simp only [hy, hkv]
        split at ha
        · exact ha
        · rename_i hk
          try simp only [hk]
          split at ha
          · rename_i hb; try simp only [hh _ _ hb]; exact ha
          · cases ha
        · cases ha
      · cases ha
    · cases ha
  · split at ha
    · rename_i e1
      try simp only [e1]
      unfold aentry at ha ⊢
      split at ha
      · rename_i b
        split at ha
        · rename_i m since seen stepped hb
          try simp only [hh _ _ hb]
          split at ha
          · rename_i stamp ro es clock hst hm
            try simp only [hst, hh _ _ hm]
            exact ha
          · cases ha
        · cases ha
      · cases ha
    · cases ha
  · split at ha
    · rename_i x t e1 e2
      try simp only [e1, e2]
      split at ha
      · rename_i b y e3 e4
        try simp only [e3, e4]
        split at ha
        · rename_i e5 e6
          try simp only [e5, hh _ _ e6]
          exact ha
        · cases ha
      · cases ha
    · cases ha
  · cases ha

/-! ### Operands of an activation -/
theorem evOf_one {ng : Nat} {r : BMap} (hg : ∀ g, g < ng → r g = some (g, 0)) {tv : T AVal} {a : Act} {x : Operand} {c : AVal} (ht : ∀ t, x = .tmp t → VR r ((tv.get t).getD noVal) (a.tmps.getD t undef))
    (h : evOf ng tv x = some c) : VR r c (a.eval x) := by
  cases x with
  | tmp t => simp only [evOf, Option.some.injEq] at h; subst h; exact ht t rfl
  | const v => exact ofV_VR h
  | global g =>
    simp only [evOf] at h
    split at h
    · rename_i hlt; cases h; exact .ptr (hg g hlt)
    · cases h
  | func f => simp only [evOf, Option.some.injEq] at h; subst h; exact .func .nil .nil

/-- The evaluation of some operands alone. -/
def only (l : Array Operand) (ev : Ev) : Ev := fun x => open Classical in if x ∈ l then ev x else none

theorem only_of {l : Array Operand} {ev : Ev} {x : Operand} (h : x ∈ l) : only l ev x = ev x := by simp [only, h]

theorem evR_only {ng : Nat} {r : BMap} (hg : ∀ g, g < ng → r g = some (g, 0)) {tv : T AVal} {a : Act} {l : Array Operand}
    (ht : ∀ t, .tmp t ∈ l → VR r ((tv.get t).getD noVal) (a.tmps.getD t undef)) : EvR r (only l (evOf ng tv)) a.eval := by
  intro x c h
  unfold only at h
  split at h
  · rename_i hx
    exact evOf_one hg (fun t e => ht t (e ▸ hx)) h
  · cases h

theorem evR_all {ng : Nat} {r : BMap} (hg : ∀ g, g < ng → r g = some (g, 0)) {tv : T AVal} {sz : Nat} {a : Act} (ht : TR r tv sz a.tmps) : EvR r (evOf ng tv) a.eval :=
  fun _ _ h => evOf_one hg (fun t _ => ht.2 t) h

theorem evOf_congr {ng : Nat} {tv tv' : T AVal} {x : Operand} (h : ∀ t, x = .tmp t → tv'.get t = tv.get t) : evOf ng tv' x = evOf ng tv x := by
  cases x with
  | tmp t => simp only [evOf, h t rfl]
  | const v => rfl
  | global g => rfl
  | func f => rfl

theorem VR.bool_back {r : BMap} {a : AVal} {b : Bool} (h : VR r a (.bool b)) : a = .bool b := by cases h; rfl

/-- The guard, on both sides. -/
theorem wanted_eq {r : BMap} {tv : T AVal} {ops : Array Oper} {tmps : Array Value} {o : Oper}
    (ht : ∀ t ∈ looksA ops.toList o, VR r ((tv.get t).getD noVal) (tmps.getD t undef)) : Region.wanted o (yielded ops tmps) = wantedA ops.toList tv o := by
  unfold Region.wanted wantedA
  split
  · rename_i hg; simp only [hg]
  · rename_i j want hg
    simp only [hg, Array.getElem?_toList]
    unfold yielded
    cases hj : ops[j]? with
    | none => simp
    | some p =>
      cases hd : p.dst with
      | none => simp [hd]
      | some d =>
        have hr := ht d (List.mem_append_right _ (by simp [hg, hj, hd]))
        simp only [Option.bind_some, hd]
        cases hb : tmps[d]? with
        | none =>
          have e : tmps.getD d undef = undef := by rw [Array.getD_eq_getD_getElem?, hb]; rfl
          rw [e] at hr
          cases hv : tv.get d with
          | none => simp
          | some v =>
            rw [hv] at hr
            cases v <;> first | (cases hr; done) | simp
        | some u =>
          have e : tmps.getD d undef = u := by rw [Array.getD_eq_getD_getElem?, hb]; rfl
          rw [e] at hr
          cases hv : tv.get d with
          | none =>
            rw [hv] at hr
            simp only [Option.getD_none] at hr
            cases u <;> first | (cases hr; done) | simp
          | some v =>
            rw [hv] at hr
            simp only [Option.getD_some] at hr
            cases u <;> first | (rename_i b; obtain rfl := hr.bool_back; cases b <;> cases want <;> rfl) | (cases hr <;> simp)

/-! ### The state of an activation -/
inductive DfR (r : BMap) : List Nat → List Deferred → Prop
  | nil : DfR r [] []
  | cons {i j k : Nat} {l : List Nat} {ds : List Deferred} (h : r i = some (j, k)) (hs : DfR r l ds) : DfR r (i :: l) ({ target := .collected j, args := #[] } :: ds)

theorem DfR.mono {r r' : BMap} (hl : Le r r') : ∀ {l : List Nat} {ds : List Deferred}, DfR r l ds → DfR r' l ds
  | _, _, .nil => .nil
  | _, _, .cons h hs => .cons (hl _ _ h) (hs.mono hl)

structure SR (B : Base) (r : BMap) (s : St) (a : Act) (w : World) : Prop where
  wr : WR B r s.h s.nx w
  tr : TR r s.tv s.sz a.tmps
  df : DfR r s.dfs a.defers

theorem getD_set {tmps : Array Value} {d : Tmp} {v : Value} (t : Tmp) (hd : d < tmps.size) : (tmps.setIfInBounds d v).getD t undef = if t = d then v else tmps.getD t undef := by
  rw [Array.getD_eq_getD_getElem?, Array.getD_eq_getD_getElem?, Array.getElem?_setIfInBounds]
  by_cases e : d = t
  · subst e; simp [hd]
  · simp [e, Ne.symm e]

theorem TR.put {r : BMap} {tv : T AVal} {sz : Nat} {a : Act} (h : TR r tv sz a.tmps) (dst : Option Tmp) {c : AVal} {v : Value} (hv : VR r c v) : TR r (putTv tv sz dst c) sz (a.put dst v).tmps := by
  cases dst with
  | none => exact h
  | some d =>
    simp only [putTv, Act.put]
    split
    · rename_i hlt
      refine ⟨by simp [h.1], fun t => ?_⟩
      rw [getD_set t (by rw [h.1]; exact hlt), T.get_set]
      split
      · exact hv
      · exact h.2 t
    · rename_i hlt
      refine ⟨by simp [h.1], fun t => ?_⟩
      have : a.tmps.setIfInBounds d v = a.tmps := by
        apply Array.ext_getElem?
        intro i
        rw [Array.getElem?_setIfInBounds]
        split
        · rename_i e; subst e
          rw [if_neg (by rw [h.1]; exact hlt), Array.getElem?_eq_none (by rw [h.1]; exact Nat.le_of_not_lt hlt)]
        · rfl
      rw [this]
      exact h.2 t

theorem put_defers (a : Act) (dst : Option Tmp) (v : Value) : (a.put dst v).defers = a.defers := by cases dst <;> rfl

theorem WR.globs {R : Run} {B : Base} (hB : B.ng = R.ng) {r : BMap} {h : T AObj} {nx : Nat} {w : World} (H : WR B r h nx w) : ∀ g, g < R.ng → r g = some (g, 0) := fun g hg => H.glob g (hB ▸ hg)

theorem bindOuts_mem {α : Type} {f : AVal × T AObj × Nat → Option (List α)} : ∀ {outs : Outs} {res : List α}, bindOuts f outs = some res → ∀ o ∈ outs, ∃ l, f o = some l ∧ ∀ x ∈ l, x ∈ res
  | [], _, _, o, ho => by cases ho
  | p :: l, res, h, o, ho => by
    simp only [bindOuts] at h
    split at h
    · rename_i x y e1 e2
      cases h
      rcases List.mem_cons.1 ho with rfl | ho
      · exact ⟨x, e1, fun z hz => List.mem_append_left _ hz⟩
      · obtain ⟨l', g1, g2⟩ := bindOuts_mem e2 o ho
        exact ⟨l', g1, fun z hz => List.mem_append_right _ (g2 z hz)⟩
    · cases h

/-- Operations in the order of the text. -/
theorem runOps_wp {R : Run} (hR : RunOK R) {call : CallF} {round : RoundF} (hcall : CallOK R call) (hround : RoundOK R round) {B : Base} (hB : B.ng = R.ng) {rnd : Option Nat} {ops : Array Oper} {dfs : List Nat} {sz : Nat}
    {Q : Exit → Act → World → Prop} : ∀ (l : List Oper) (i : Nat), ops.toList.drop i = l → ∀ (tv : T AVal) (h : T AObj) (nx : Nat) (res : List St), runOps R call round ops.toList dfs sz l tv h nx = some res →
    ∀ (r : BMap) (a : Act) (w : World), SR B r ⟨tv, sz, h, nx, dfs⟩ a w →
    (∀ s' ∈ res, ∀ r' a' w', Ext nx r r' → nx ≤ s'.nx → SR B r' s' a' w' → Q .normal a' w') → wpOpsIn (Fc rnd) 0 R.P ops Q ((List.range' i l.length)) a w
  | [], i, _, tv, h, nx, res, hs, r, a, w, S, hQ => by
    simp only [runOps, Option.some.injEq] at hs
    subst hs
    exact hQ _ (List.mem_singleton.2 rfl) r a w (Ext.refl _ _) (Nat.le_refl _) S
  | o :: l, i, hd, tv, h, nx, res, hs, r, a, w, S, hQ => by
    have hio : ops[i]? = some o := by
      have : ops.toList[i]? = some o := by
        have h1 : (ops.toList.drop i)[0]? = some o := by rw [hd]; rfl
        simpa using h1
      simpa using this
    have hdl : ops.toList.drop (i + 1) = l := by
      rw [← List.drop_drop, hd]; rfl
    have hev := evR_all (ng := R.ng) (S.wr.globs hB) S.tr
    have hwant : Region.wanted o (yielded ops a.tmps) = wantedA ops.toList tv o := wanted_eq (r := r) fun t _ => S.tr.2 t
    simp only [List.length_cons, List.range'_succ]
    simp only [wpOpsIn, hio, hwant]
    simp only [runOps] at hs
    split at hs
    · rename_i hw
      simp only [hw, if_true]
      split at hs
      · rename_i outs e1
        refine aop_wp hR hcall hround hB e1 hev S.wr fun v w' ho => ?_
        obtain ⟨c, h', nx', r', hm, he, hn, hw', hv⟩ := ho
        obtain ⟨res', g1, g2⟩ := bindOuts_mem hs _ hm
        have hle := S.wr.le he
        refine runOps_wp hR hcall hround hB l (i + 1) hdl _ _ _ res' g1 r' _ w' ⟨hw', (S.tr.mono hle).put _ hv, by rw [put_defers]; exact S.df.mono hle⟩ fun s' hs' r'' a' w'' he' hn' S' => ?_
        exact hQ s' (g2 s' hs') r'' a' w'' (he.trans he' hn) (Nat.le_trans hn hn') S'
      · cases hs
    · rename_i hw
      have hw' : wantedA ops.toList tv o = false := by simpa using hw
      simp only [hw', Bool.false_eq_true, if_false]
      refine ⟨fun _ _ => trivial, ?_⟩
      exact runOps_wp hR hcall hround hB l (i + 1) hdl _ _ _ res hs r _ w ⟨S.wr, S.tr.put _ (.tuple .nil), by rw [put_defers]; exact S.df⟩ hQ

end
end Go.Sx
