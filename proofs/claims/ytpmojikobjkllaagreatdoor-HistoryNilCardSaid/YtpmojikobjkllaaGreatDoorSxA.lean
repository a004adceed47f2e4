/- A symbolic runner for the model, part A: abstract values, a tree of cells, and how an abstract value stands to a value of the model. -/
import Derived.RangeFuncLeaves
import Derived.OrdersIn
import Derived.Below
namespace Go.Sx
open Go

/-- Abstract values: values of the model in which blocks bear abstract numbers. -/
inductive AVal where
  | bool (b : Bool)
  | int (k : IntKind) (n : Int)
  | str (s : ByteArray)
  | nilptr
  | ptr (b off : Nat)
  | nilslice
  | slice (b off len cap : Nat) (tight : Bool)
  | nilmap
  | map (b : Nat)
  | func (f : FuncId) (first caps : List AVal)
  | yield (l : Nat)
  | nilfunc
  | iface (t : TypeId) (v : AVal)
  | niliface
  | agg (cs : List AVal)
  | tuple (vs : List AVal)

/-- Which abstract block is which block of the world, and how many spare elements that one has behind what the abstract one shows. -/
abbrev BMap := Nat → Option (Nat × Nat)

mutual
inductive VR (r : BMap) : AVal → Value → Prop
  | bool (b : Bool) : VR r (.bool b) (.bool b)
  | int (k : IntKind) (n : Int) : VR r (.int k n) (.int k n)
  | str (s : ByteArray) : VR r (.str s) (.string s)
  | nilptr : VR r .nilptr (.pointer none)
  | ptr {b off j k : Nat} (h : r b = some (j, k)) : VR r (.ptr b off) (.pointer (some ⟨j, off, none⟩))
  | nilslice : VR r .nilslice (.slice none 0 0)
  | slice {b off len cap cap' j k : Nat} {tight : Bool} (h : r b = some (j, k)) (hc : cap' = if tight = true then cap else cap + k) : VR r (.slice b off len cap tight) (.slice (some ⟨j, off, none⟩) len cap')
  | nilmap : VR r .nilmap (.map none)
  | map {b j k : Nat} (h : r b = some (j, k)) : VR r (.map b) (.map (some j))
  | func {f : FuncId} {first caps : List AVal} {first' caps' : Array Value} (h1 : VRs r first first'.toList) (h2 : VRs r caps caps'.toList) :
      VR r (.func f first caps) (.func (.func f) first' caps')
  | yield {l j k : Nat} (h : r l = some (j, k)) : VR r (.yield l) (.func (.yield j) #[] #[])
  | nilfunc : VR r .nilfunc .nilFunc
  | iface {t : TypeId} {v : AVal} {v' : Value} (h : VR r v v') : VR r (.iface t v) (.iface t v')
  | niliface : VR r .niliface .nilIface
  | agg {cs : List AVal} {cs' : Array Value} (h : VRs r cs cs'.toList) : VR r (.agg cs) (.agg cs')
  | tuple {vs : List AVal} {vs' : Array Value} (h : VRs r vs vs'.toList) : VR r (.tuple vs) (.tuple vs')
inductive VRs (r : BMap) : List AVal → List Value → Prop
  | nil : VRs r [] []
  | cons {a : AVal} {v : Value} {l : List AVal} {l' : List Value} (h : VR r a v) (hs : VRs r l l') : VRs r (a :: l) (v :: l')
end

def Le (r r' : BMap) : Prop := ∀ i j, r i = some j → r' i = some j

theorem Le.refl (r : BMap) : Le r r := fun _ _ h => h
theorem Le.trans {a b c : BMap} (h : Le a b) (k : Le b c) : Le a c := fun i j x => k i j (h i j x)

mutual
theorem VR.mono {r r' : BMap} (hl : Le r r') : ∀ {a : AVal} {v : Value}, VR r a v → VR r' a v
  | _, _, .bool b => .bool b
  | _, _, .int k n => .int k n
  | _, _, .str s => .str s
  | _, _, .nilptr => .nilptr
  | _, _, .ptr h => .ptr (hl _ _ h)
  | _, _, .nilslice => .nilslice
  | _, _, .slice h hc => .slice (hl _ _ h) hc
  | _, _, .nilmap => .nilmap
  | _, _, .map h => .map (hl _ _ h)
  | _, _, .func h1 h2 => .func (VRs.mono hl h1) (VRs.mono hl h2)
  | _, _, .yield h => .yield (hl _ _ h)
  | _, _, .nilfunc => .nilfunc
  | _, _, .iface h => .iface (VR.mono hl h)
  | _, _, .niliface => .niliface
  | _, _, .agg h => .agg (VRs.mono hl h)
  | _, _, .tuple h => .tuple (VRs.mono hl h)
theorem VRs.mono {r r' : BMap} (hl : Le r r') : ∀ {l : List AVal} {l' : List Value}, VRs r l l' → VRs r' l l'
  | _, _, .nil => .nil
  | _, _, .cons h hs => .cons (VR.mono hl h) (VRs.mono hl hs)
end

theorem VRs.length {r : BMap} : ∀ {l : List AVal} {l' : List Value}, VRs r l l' → l.length = l'.length
  | _, _, .nil => rfl
  | _, _, .cons _ hs => congrArg (· + 1) hs.length

theorem VRs.append {r : BMap} : ∀ {l m : List AVal} {l' m' : List Value}, VRs r l l' → VRs r m m' → VRs r (l ++ m) (l' ++ m')
  | _, _, _, _, .nil, hm => hm
  | _, _, _, _, .cons h hs, hm => .cons h (VRs.append hs hm)

theorem VRs.drop {r : BMap} : ∀ (n : Nat) {l : List AVal} {l' : List Value}, VRs r l l' → VRs r (l.drop n) (l'.drop n)
  | 0, _, _, h => h
  | _ + 1, _, _, .nil => .nil
  | n + 1, _, _, .cons _ hs => VRs.drop n hs

theorem VRs.take {r : BMap} : ∀ (n : Nat) {l : List AVal} {l' : List Value}, VRs r l l' → VRs r (l.take n) (l'.take n)
  | 0, _, _, _ => .nil
  | _ + 1, _, _, .nil => .nil
  | n + 1, _, _, .cons h hs => .cons h (VRs.take n hs)

theorem VRs.get {r : BMap} : ∀ {l : List AVal} {l' : List Value}, VRs r l l' → ∀ {i : Nat} {a : AVal}, l[i]? = some a → ∃ v, l'[i]? = some v ∧ VR r a v
  | _, _, .nil, i, a, h => by simp at h
  | _, _, .cons (a := b) (v := v) hb hs, 0, a, h => by
    simp at h; subst h; exact ⟨v, by simp, hb⟩
  | _, _, .cons _ hs, i + 1, a, h => by
    simp at h
    obtain ⟨v, h1, h2⟩ := VRs.get hs h
    exact ⟨v, by simpa using h1, h2⟩

theorem VRs.get' {r : BMap} {l : List AVal} {l' : List Value} (h : VRs r l l') {i : Nat} {v : Value} (hv : l'[i]? = some v) : ∃ a, l[i]? = some a ∧ VR r a v := by
  have hlt : i < l'.length := by
    rcases Nat.lt_or_ge i l'.length with g | g
    · exact g
    · rw [List.getElem?_eq_none g] at hv; cases hv
  have hlt' : i < l.length := by rw [h.length]; exact hlt
  obtain ⟨v', h1, h2⟩ := h.get (List.getElem?_eq_getElem hlt')
  rw [hv] at h1; cases h1
  exact ⟨_, List.getElem?_eq_getElem hlt', h2⟩

theorem VRs.set {r : BMap} : ∀ {l : List AVal} {l' : List Value}, VRs r l l' → ∀ (i : Nat) {a : AVal} {v : Value}, VR r a v → VRs r (l.set i a) (l'.set i v)
  | _, _, .nil, _, _, _, _ => .nil
  | _, _, .cons _ hs, 0, _, _, h => .cons h hs
  | _, _, .cons hb hs, i + 1, _, _, h => .cons hb (VRs.set hs i h)

theorem VRs.replicate {r : BMap} {a : AVal} {v : Value} (h : VR r a v) : ∀ n, VRs r (List.replicate n a) (List.replicate n v)
  | 0 => .nil
  | n + 1 => .cons h (VRs.replicate h n)

/-! ### Values without addresses -/
mutual
def toV : AVal → Option Value
  | .bool b => some (.bool b)
  | .int k n => some (.int k n)
  | .str s => some (.string s)
  | .nilptr => some (.pointer none)
  | .nilslice => some (.slice none 0 0)
  | .nilmap => some (.map none)
  | .nilfunc => some .nilFunc
  | .niliface => some .nilIface
  | .iface t v => match toV v with
    | some v' => some (.iface t v')
    | none => none
  | .agg cs => match toVs cs with
    | some cs' => some (.agg cs'.toArray)
    | none => none
  | .tuple vs => match toVs vs with
    | some vs' => some (.tuple vs'.toArray)
    | none => none
  | .ptr _ _ | .slice _ _ _ _ _ | .map _ | .func _ _ _ | .yield _ => none
def toVs : List AVal → Option (List Value)
  | [] => some []
  | a :: l => match toV a, toVs l with
    | some v, some l' => some (v :: l')
    | _, _ => none
end

mutual
theorem toV_VR {r : BMap} : ∀ (a : AVal) (u v : Value), toV a = some u → VR r a v → v = u
  | .bool _, u, v, h, hv => by cases hv; simpa [toV] using h
  | .int _ _, u, v, h, hv => by cases hv; simpa [toV] using h
  | .str _, u, v, h, hv => by cases hv; simpa [toV] using h
  | .nilptr, u, v, h, hv => by cases hv; simpa [toV] using h
  | .ptr _ _, u, v, h, hv => by simp [toV] at h
  | .nilslice, u, v, h, hv => by cases hv; simpa [toV] using h
  | .slice _ _ _ _ _, u, v, h, hv => by simp [toV] at h
  | .nilmap, u, v, h, hv => by cases hv; simpa [toV] using h
  | .map _, u, v, h, hv => by simp [toV] at h
  | .func _ _ _, u, v, h, hv => by simp [toV] at h
  | .yield _, u, v, h, hv => by simp [toV] at h
  | .nilfunc, u, v, h, hv => by cases hv; simpa [toV] using h
  | .niliface, u, v, h, hv => by cases hv; simpa [toV] using h
  | .iface t a, u, v, h, hv => by
    cases hv with
    | iface hv =>
      simp only [toV] at h
      split at h
      · rename_i v' e
        have := toV_VR _ _ _ e hv
        subst this
        simpa using h
      · cases h
  | .agg cs, u, v, h, hv => by
    cases hv with
    | agg hv =>
      simp only [toV] at h
      split at h
      · rename_i cs' e
        have := toVs_VRs _ _ _ e hv
        subst this
        simpa using h
      · cases h
  | .tuple cs, u, v, h, hv => by
    cases hv with
    | tuple hv =>
      simp only [toV] at h
      split at h
      · rename_i cs' e
        have := toVs_VRs _ _ _ e hv
        subst this
        simpa using h
      · cases h
theorem toVs_VRs {r : BMap} : ∀ (a : List AVal) (u v : List Value), toVs a = some u → VRs r a v → v = u
  | [], u, v, h, hv => by cases hv; simpa [toVs] using h
  | a :: l, u, v, h, hv => by
    cases hv with
    | cons hv hs =>
      simp only [toVs] at h
      split at h
      · rename_i v l' e1 e2
        have h1 := toV_VR _ _ _ e1 hv
        have h2 := toVs_VRs _ _ _ e2 hs
        subst h1 h2
        simpa using h
      · cases h
end

/-- A value that holds no address, read back (one level of struct or tuple alone). -/
def ofV1 : Value → Option AVal
  | .bool b => some (.bool b)
  | .int k n => some (.int k n)
  | .string s => some (.str s)
  | .pointer none => some .nilptr
  | .slice none 0 0 => some .nilslice
  | .map none => some .nilmap
  | .nilFunc => some .nilfunc
  | .nilIface => some .niliface
  | _ => none

def ofV1s : List Value → Option (List AVal)
  | [] => some []
  | v :: l => match ofV1 v, ofV1s l with
    | some a, some l' => some (a :: l')
    | _, _ => none

def ofV : Value → Option AVal
  | .agg cs => (ofV1s cs.toList).map .agg
  | .tuple cs => (ofV1s cs.toList).map .tuple
  | v => ofV1 v

theorem ofV1_VR {r : BMap} {v : Value} {a : AVal} (h : ofV1 v = some a) : VR r a v := by
  unfold ofV1 at h
  split at h <;> simp at h <;> subst h <;> constructor

theorem ofV1s_VRs {r : BMap} : ∀ {l : List Value} {l' : List AVal}, ofV1s l = some l' → VRs r l' l
  | [], _, h => by simp [ofV1s] at h; subst h; exact .nil
  | v :: l, _, h => by
    simp only [ofV1s] at h
    split at h
    · rename_i a l' e1 e2
      simp at h; subst h
      exact .cons (ofV1_VR e1) (ofV1s_VRs e2)
    · cases h

theorem ofV_VR {r : BMap} {v : Value} {a : AVal} (h : ofV v = some a) : VR r a v := by
  unfold ofV at h
  split at h
  · simp only [Option.map_eq_some_iff] at h
    obtain ⟨l, h1, h2⟩ := h
    subst h2
    exact .agg (ofV1s_VRs h1)
  · simp only [Option.map_eq_some_iff] at h
    obtain ⟨l, h1, h2⟩ := h
    subst h2
    exact .tuple (ofV1s_VRs h1)
  · exact ofV1_VR h

/-! ### Steps of the model that ask nothing of the world -/
def srun {α : Type} (P : Program) : Sem α → Option α
  | .pure a => some a
  | .program k => srun P (k P)
  | .mark _ k => srun P k
  | _ => none

theorem srun_run {α : Type} {P : Program} : ∀ {s : Sem α} {a : α}, srun P s = some a → ∀ w, s.run P w = .ok a w
  | .pure _, _, h, w => by simp [srun] at h; subst h; rfl
  | .program k, _, h, w => by simp only [srun] at h; exact srun_run (s := k P) h w
  | .mark m k, _, h, w => by simp only [srun] at h; exact srun_run (s := k) h w
  | .load .., _, h, _ => by simp [srun] at h
  | .store .., _, h, _ => by simp [srun] at h
  | .new .., _, h, _ => by simp [srun] at h
  | .shape .., _, h, _ => by simp [srun] at h
  | .freeze .., _, h, _ => by simp [srun] at h
  | .frozen .., _, h, _ => by simp [srun] at h
  | .getObj .., _, h, _ => by simp [srun] at h
  | .setObj .., _, h, _ => by simp [srun] at h
  | .choose .., _, h, _ => by simp [srun] at h
  | .sys .., _, h, _ => by simp [srun] at h
  | .halt .., _, h, _ => by simp [srun] at h

/-! ### A tree of cells, read by a number's digits -/
inductive T (α : Type) where
  | leaf
  | node (l : T α) (v : Option α) (r : T α)

namespace T
variable {α : Type}

/-- The cell at a number: 0 here, 2 k + 1 to the left at k, 2 k + 2 to the right at k. (By the recursor: the kernel runs it.) -/
noncomputable def get (t : T α) : Nat → Option α :=
  T.rec (motive := fun _ => Nat → Option α) (fun _ => none)
    (fun _ v _ gl gr n => Nat.rec (motive := fun _ => Option α) v
      (fun m _ => Nat.rec (motive := fun _ => Option α) (gl (Nat.div m 2)) (fun _ _ => gr (Nat.div m 2)) (Nat.mod m 2)) n) t

/-- A tree of one cell. -/
noncomputable def path (x : Option α) (f : Nat) : Nat → T α :=
  Nat.rec (motive := fun _ => Nat → T α) (fun _ => .leaf)
    (fun _ ih n => Nat.rec (motive := fun _ => T α) (.node .leaf x .leaf)
      (fun m _ => Nat.rec (motive := fun _ => T α) (.node (ih (Nat.div m 2)) none .leaf) (fun _ _ => .node .leaf none (ih (Nat.div m 2))) (Nat.mod m 2)) n) f

noncomputable def put (t : T α) (x : Option α) : Nat → T α :=
  T.rec (motive := fun _ => Nat → T α) (fun n => path x (Nat.succ n) n)
    (fun l v r pl pr n => Nat.rec (motive := fun _ => T α) (.node l x r)
      (fun m _ => Nat.rec (motive := fun _ => T α) (.node (pl (Nat.div m 2)) v r) (fun _ _ => .node l v (pr (Nat.div m 2))) (Nat.mod m 2)) n) t

noncomputable def set (t : T α) (n : Nat) (x : α) : T α := put t (some x) n
noncomputable def del (t : T α) (n : Nat) : T α := put t none n

theorem get_leaf (n : Nat) : (T.leaf : T α).get n = none := rfl
theorem get_zero (l r : T α) (v : Option α) : (T.node l v r).get 0 = v := rfl
theorem get_succ (l r : T α) (v : Option α) (m : Nat) : (T.node l v r).get (m + 1) = if m % 2 = 0 then l.get (m / 2) else r.get (m / 2) := by
  show Nat.rec (motive := fun _ => Option α) (l.get (Nat.div m 2)) (fun _ _ => r.get (Nat.div m 2)) (Nat.mod m 2) = _
  have e1 : Nat.mod m 2 = m % 2 := rfl
  have e2 : Nat.div m 2 = m / 2 := rfl
  rw [e1, e2]
  rcases Nat.mod_two_eq_zero_or_one m with h | h <;> rw [h] <;> rfl

theorem path_zero (x : Option α) (f : Nat) : path x (f + 1) 0 = .node .leaf x .leaf := rfl
theorem path_succ (x : Option α) (f m : Nat) : path x (f + 1) (m + 1) = if m % 2 = 0 then .node (path x f (m / 2)) none .leaf else .node .leaf none (path x f (m / 2)) := by
  show Nat.rec (motive := fun _ => T α) (.node (path x f (Nat.div m 2)) none .leaf) (fun _ _ => .node .leaf none (path x f (Nat.div m 2))) (Nat.mod m 2) = _
  have e1 : Nat.mod m 2 = m % 2 := rfl
  have e2 : Nat.div m 2 = m / 2 := rfl
  rw [e1, e2]
  rcases Nat.mod_two_eq_zero_or_one m with h | h <;> rw [h] <;> rfl

theorem get_path (x : Option α) : ∀ (f n m : Nat), n < f → (path x f n).get m = if m = n then x else none := by
  intro f
  induction f with
  | zero => intro n m h; omega
  | succ f ih =>
    intro n m h
    cases n with
    | zero =>
      rw [path_zero]
      cases m with
      | zero => rfl
      | succ m => rw [get_succ]; simp [get_leaf]
    | succ n =>
      rw [path_succ]
      have ih' := fun k => ih (n / 2) k (by omega)
      cases m with
      | zero => split <;> (rw [get_zero]; simp)
      | succ m =>
        by_cases e : m = n
        · subst e
          split <;> (rw [get_succ]; simp [*])
        · have e' : ¬ m + 1 = n + 1 := by omega
          rw [if_neg e']
          split
          · rename_i hn
            rw [get_succ]
            split
            · rename_i hm
              rw [ih', if_neg (by omega)]
            · rfl
          · rename_i hn
            rw [get_succ]
            split
            · rfl
            · rename_i hm
              rw [ih', if_neg (by omega)]

theorem put_zero (l r : T α) (v x : Option α) : (T.node l v r).put x 0 = .node l x r := rfl
theorem put_succ (l r : T α) (v x : Option α) (m : Nat) : (T.node l v r).put x (m + 1) = if m % 2 = 0 then .node (l.put x (m / 2)) v r else .node l v (r.put x (m / 2)) := by
  show Nat.rec (motive := fun _ => T α) (.node (l.put x (Nat.div m 2)) v r) (fun _ _ => .node l v (r.put x (Nat.div m 2))) (Nat.mod m 2) = _
  have e1 : Nat.mod m 2 = m % 2 := rfl
  have e2 : Nat.div m 2 = m / 2 := rfl
  rw [e1, e2]
  rcases Nat.mod_two_eq_zero_or_one m with h | h <;> rw [h] <;> rfl

theorem get_put (x : Option α) : ∀ (t : T α) (n m : Nat), (t.put x n).get m = if m = n then x else t.get m := by
  intro t
  induction t with
  | leaf => intro n m; exact get_path x (n + 1) n m (by omega)
  | node l v r ihl ihr =>
    intro n m
    cases n with
    | zero =>
      rw [put_zero]
      cases m with
      | zero => rfl
      | succ m => rw [get_succ, get_succ]; simp
    | succ n =>
      rw [put_succ]
      cases m with
      | zero => split <;> (rw [get_zero, get_zero]; simp)
      | succ m =>
        rw [get_succ l r v m]
        by_cases e : m = n
        · subst e
          split <;> (rw [get_succ]; simp [*])
        · have e' : ¬ m + 1 = n + 1 := by omega
          rw [if_neg e']
          split
          · rename_i hn
            rw [get_succ]
            split
            · rename_i hm
              rw [ihl, if_neg (by omega)]
            · rfl
          · rename_i hn
            rw [get_succ]
            split
            · rfl
            · rename_i hm
              rw [ihr, if_neg (by omega)]

theorem get_set (t : T α) (n m : Nat) (x : α) : (t.set n x).get m = if m = n then some x else t.get m := get_put (some x) t n m
theorem get_del (t : T α) (n m : Nat) : (t.del n).get m = if m = n then none else t.get m := get_put none t n m

end T
end Go.Sx
