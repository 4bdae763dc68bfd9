/- Runs: what fits, copies of empty slices. -/
import Derived.Test.YtikfefjaeejeeaaGreatDoorAeJ
import Derived.Test.YtikfefjaeejeeaaGreatDoorAeF
namespace Go.Proofs.YtikfefjaeejeeaaGreatDoor
open Go.RowKit
set_option maxRecDepth 100000

def noOrc : FuncId → List PD → Option AEnd := fun _ _ => none
def noInl : FuncId → Bool := fun _ => false
def namesB (P : Program) : Bool := P.funcs.all fun fn => fn.body.isNone || !(fn.name == "runtime.NumGoroutine")
theorem names_of {P : Program} (h : namesB P = true) (f : FuncId) (fn : Func) (hf : P.funcs[f]? = some fn) (hb : fn.body.isSome = true) : (fn.name == "runtime.NumGoroutine") = false := by
  unfold namesB at h
  rw [Array.all_eq_true_iff_forall_mem] at h
  have := h fn (Array.mem_of_getElem? hf)
  rw [Bool.or_eq_true] at this
  rcases this with h1 | h1
  · rw [Option.isNone_iff_eq_none] at h1; rw [h1] at hb; cases hb
  · simpa using h1
theorem names_ok : namesB Tryz.prog = true := by kernel_rfl
theorem order_ok : Tryz.prog.follows .mixedOrders = true := by kernel_rfl
theorem fit_of {orc : FuncId → List PD → Option AEnd} (h : ∀ f args r, orc f args = some r → Pure Tryz.prog f args r) : Fit Tryz.prog orc := ⟨order_ok, names_of names_ok, h⟩
theorem fit0 : Fit Tryz.prog noOrc := fit_of fun f args r h => by cases h
/-- a run, closed -/
noncomputable abbrev run0 (n : Nat) (f : FuncId) (args : List PD) : Option AEnd := evPure Tryz.prog noOrc noInl (evRun Tryz.prog noOrc noInl n) f args
theorem run0_pure (n : Nat) {f : FuncId} {args : List PD} {e : AEnd} (h : run0 n f args = some e) : Pure Tryz.prog f args e := run_pure fit0 n h

theorem clone48_some : ∀ (a : Addr) (c : Nat), run0 300 48 [.v (.slice (some a) 0 c)] = some (.ret (.sl [])) := fun a c => by kernel_rfl
theorem clone48_none : ∀ (c : Nat), run0 300 48 [.v (.slice none 0 c)] = some (.ret (.sl [])) := fun c => by kernel_rfl
theorem clone48_empty : Pure Tryz.prog 48 [.sl []] (.ret (.sl [])) := pure_empty (pre := []) (post := []) fun A c => by
  cases A with
  | none => exact run0_pure 300 (clone48_none c)
  | some a => exact run0_pure 300 (clone48_some a c)
theorem clone87_some : ∀ (a : Addr) (c : Nat), run0 300 87 [.v (.slice (some a) 0 c)] = some (.ret (.sl [])) := fun a c => by kernel_rfl
theorem clone87_none : ∀ (c : Nat), run0 300 87 [.v (.slice none 0 c)] = some (.ret (.sl [])) := fun c => by kernel_rfl
theorem clone87_empty : Pure Tryz.prog 87 [.sl []] (.ret (.sl [])) := pure_empty (pre := []) (post := []) fun A c => by
  cases A with
  | none => exact run0_pure 300 (clone87_none c)
  | some a => exact run0_pure 300 (clone87_some a c)
theorem clone92_some : ∀ (a : Addr) (c : Nat), run0 300 92 [.v (.slice (some a) 0 c)] = some (.ret (.sl [])) := fun a c => by kernel_rfl
theorem clone92_none : ∀ (c : Nat), run0 300 92 [.v (.slice none 0 c)] = some (.ret (.sl [])) := fun c => by kernel_rfl
theorem clone92_empty : Pure Tryz.prog 92 [.sl []] (.ret (.sl [])) := pure_empty (pre := []) (post := []) fun A c => by
  cases A with
  | none => exact run0_pure 300 (clone92_none c)
  | some a => exact run0_pure 300 (clone92_some a c)
/-- contracts that runs go by: copies of empty slices -/
def cloneOrc : FuncId → List PD → Option AEnd := fun f l => match l with
  | [.sl []] => if (f == 48 || f == 87 || f == 92) = true then some (.ret (.sl [])) else none
  | _ => none
theorem cloneOrc_ok (f : FuncId) (l : List PD) (r : AEnd) (h : cloneOrc f l = some r) : Pure Tryz.prog f l r := by
  unfold cloneOrc at h
  split at h
  · split at h
    · rename_i hf
      injection h with h; subst h
      simp only [Bool.or_eq_true, beq_iff_eq] at hf
      rcases hf with (rfl | rfl) | rfl
      · exact clone48_empty
      · exact clone87_empty
      · exact clone92_empty
    · cases h
  · cases h
end Go.Proofs.YtikfefjaeejeeaaGreatDoor
