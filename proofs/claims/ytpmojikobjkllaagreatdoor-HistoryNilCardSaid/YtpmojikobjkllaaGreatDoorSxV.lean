/- What the runner asks of its tables holds of this program. -/
import Derived.Test.YtpmojikobjkllaaGreatDoorSxTab
import Derived.Laws.Externs
import Derived.KernelRfl
namespace Go.Sx.Tab
open Go Go.Sx Go.Proofs

theorem tysB : allT (tyB Tryz.prog) tyT 1 0 = true := by kernel_rfl
theorem methsB : allT (methB Tryz.prog) methT 1 0 = true := by kernel_rfl

theorem fnsOK (f : FuncId) (fn : Func) (h : fnT.get f = some fn) : Tryz.prog.funcs[f]? = some fn ∧ ∀ args w, (callFunc f args).run Tryz.prog w = .ok (.enter f args) w := by
  have h1 := AllT.get fns f fn h
  have e : (1 * f + 0 : Nat) = f := Nat.one_mul f
  rw [e] at h1
  exact h1

theorem cfgOK : CfgOK Tryz.prog { ty := tyT, fn := fnT } := ⟨tys_ok tysB, fnsOK, by kernel_rfl⟩

theorem methOK (t : TypeId) (l : List (String × FuncId)) (m : String) (f : FuncId) (h1 : methT.get t = some l) (h2 : findMeth l m = some f) (v : Value) (w : World) :
    (Go.method (Tryz.prog.types.size + Made.depth) t v m).run Tryz.prog w = .ok (f, v) w := by
  have h := allT_get methsB t l h1
  have e : (1 * t + 0 : Nat) = t := Nat.one_mul t
  rw [e] at h
  have hn : 0 < Tryz.prog.types.size + Made.depth := Nat.lt_of_lt_of_le (by decide : 0 < Made.depth) (Nat.le_add_left _ _)
  revert hn
  generalize Tryz.prog.types.size + Made.depth = n
  intro hn
  cases n with
  | zero => exact absurd hn (Nat.lt_irrefl 0)
  | succ n => exact meth_ok h h2 n v w

theorem cloneOK (args : Array Value) (w : World) : (callFunc 176 args).run Tryz.prog w = (do pure (.value (← Extern.MapsClone.clone args)) : Sem Next).run Tryz.prog w := by
  rw [run_callFunc_extern Tryz.func176 (by kernel_rfl) (by kernel_rfl) (by kernel_rfl) (e := Extern.MapsClone.clone) (by kernel_rfl)]
  simp only [Sem.run_bind, Sem.run_pure]

theorem runOK : RunOK Tab.run where
  cfg := cfgOK
  meth := fun t l m f h1 h2 v w => by
    rw [show Tab.run.P = Tryz.prog from rfl]
    exact methOK t l m f h1 h2 v w
  clone := fun f h => by
    have e : 176 = f := Option.some.inj h
    subst e
    rw [show Tab.run.P = Tryz.prog from rfl]
    exact cloneOK
  tbl := fun _ _ _ _ _ h => by cases h

#print axioms runOK
end Go.Sx.Tab
