/- What the rows and cards of this seat share. -/
import Derived.Test.YtmhpccchgbdiiaaGreatDoorRows
import Derived.Test.YtmhpccchgbdiiaaGreatDoorTie
import Derived.Test.YtmhpccchgbdiiaaGreatDoorCards
import Derived.Test.YtmhpccchgbdiiaaGreatDoorAe9
import Derived.Test.YtmhpccchgbdiiaaGreatDoorOp1
import Derived.Test.YtmhpccchgbdiiaaGreatDoorOp3
import Derived.ProofKit
import Derived.OpenShut
import Derived.ShutString
import Derived.ChangeOld
import Derived.SizedLaws
import Derived.JoinedCond
import Derived.Stop.Joined
namespace Go.Proofs.YtmhpccchgbdiiaaGreatDoor
open Go.ChangeShapes Go.WideShapes Go.ChangeAt Go.RowKit
open Go.ChangeMaps (open_string shut_string)

theorem ownP : ownKnob Tryz.prog.godebug = none := by kernel_rfl
theorem laidOutP : laidOutB Tryz.prog = true := by kernel_rfl
def laidL : List (String × DataW Unit) := [("math/bits.deBruijn32tab", Rows.laid_math_bits_deBruijn32tab), ("math/bits.deBruijn64tab", Rows.laid_math_bits_deBruijn64tab), ("internal/strconv.uint64pow10", Rows.laid_internal_strconv_uint64pow10), ("strconv.ErrRange", Rows.laid_strconv_ErrRange), ("strconv.ErrSyntax", Rows.laid_strconv_ErrSyntax)]
set_option maxRecDepth 100000 in
/-- the door's own heap meets the condition -/
theorem door_met (os : Os) (args : Array Value) : laidMetH Tryz.prog laidL ((World.doorLaid Tryz.prog 4000 os).forCall (fun _ _ => 0) ⟨#[], args, []⟩).memory :=
  laidMetH_of_parts3 (fuel := 8) (laidMet_of_run' 8 (by kernel_rfl) (by kernel_rfl)) (by kernel_rfl) (by kernel_rfl)
set_option maxRecDepth 100000 in
theorem laidW_of {W : World} (h : laidMetH Tryz.prog laidL W) : LaidW W.heap.size W := by
  rw [MakeChecks.laidMetH_plain _ _ _ (by kernel_rfl)] at h
  intro p hp
  simp only [glbs, List.mem_cons, List.not_mem_nil, or_false] at hp
  rcases hp with rfl | rfl | rfl | rfl | rfl
  · exact laid_arr (l := [0, 1, 28, 2, 29, 14, 24, 3, 30, 22, 20, 15, 25, 17, 4, 8, 31, 27, 13, 23, 21, 19, 16, 7, 26, 12, 18, 6, 11, 5, 10, 9]) (n := "math/bits.deBruijn32tab") h (.head _) (by kernel_rfl) (by kernel_rfl)
  · exact laid_arr (l := [0, 1, 56, 2, 57, 49, 28, 3, 61, 58, 42, 50, 38, 29, 17, 4, 62, 47, 59, 36, 45, 43, 51, 22, 53, 39, 33, 30, 24, 18, 12, 5, 63, 55, 48, 27, 60, 41, 37, 16, 46, 35, 44, 21, 52, 32, 23, 11, 54, 26, 40, 15, 34, 20, 31, 10, 25, 14, 19, 9, 13, 8, 7, 6]) (n := "math/bits.deBruijn64tab") h (.tail _ (.head _)) (by kernel_rfl) (by kernel_rfl)
  · exact laid_arr (l := (List.range 20).map fun k => (10 : Int) ^ k) (n := "internal/strconv.uint64pow10") h (.tail _ (.tail _ (.head _))) (by kernel_rfl) (by kernel_rfl)
  · exact laid_if (n := "strconv.ErrRange") h (.tail _ (.tail _ (.tail _ (.head _)))) (by kernel_rfl) (by kernel_rfl)
  · exact laid_if (n := "strconv.ErrSyntax") h (.tail _ (.tail _ (.tail _ (.tail _ (.head _))))) (by kernel_rfl) (by kernel_rfl)
/-- a string's value -/
theorem pd_str {W : World} (s : ByteArray) : PRel (Liv W) W (.v (.string s)) (.string s) := .v _
theorem prelL_2 {Z : Nat → Nat → Prop} {w : World} {a b : PD} {x y : Value} (h1 : PRel Z w a x) (h2 : PRel Z w b y) : PRelL Z w [a, b] #[x, y] := by
  refine ⟨rfl, fun i d v hd hv => ?_⟩
  match i, hd, hv with
  | 0, hd, hv => simp at hd hv; subst hd; subst hv; exact h1
  | 1, hd, hv => simp at hd hv; subst hd; subst hv; exact h2
  | i + 2, hd, hv => simp at hd
theorem prelL_1 {Z : Nat → Nat → Prop} {w : World} {a : PD} {x : Value} (h1 : PRel Z w a x) : PRelL Z w [a] #[x] := by
  refine ⟨rfl, fun i d v hd hv => ?_⟩
  match i, hd, hv with
  | 0, hd, hv => simp at hd hv; subst hd; subst hv; exact h1
  | i + 1, hd, hv => simp at hd
/-- a pure law that answers true, as the row wants it -/
theorem calls_true {f : FuncId} {args : List PD} {W : World} {xs : Array Value} (h : Pure Tryz.prog f args (.ret (.v (.bool true)))) (hl : LaidW W.heap.size W) (ha : PRelL (Liv W) W args xs) : Calls Tryz.prog f xs W fun e W' => e = .returned (.bool true) ∧ Below W.heap.size W W' := by
  refine (h.2 (Liv W) W xs hl (fun b o hb => hb) ha).mono ?_
  intro e W' he
  cases e with
  | returned x =>
    obtain ⟨h1, h2⟩ := he
    cases h1
    exact ⟨rfl, h2⟩
  | panicked ch => exact he.elim
  | outgrown => exact he.elim
end Go.Proofs.YtmhpccchgbdiiaaGreatDoor
