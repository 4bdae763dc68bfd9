/- Bytes of plain names. refs, plain names. -/
import Derived.Test.YtmhpccchgbdiiaaGreatDoorAeU
namespace Go.Proofs.YtmhpccchgbdiiaaGreatDoor
open Go.RowKit
set_option maxRecDepth 100000

def letB (c : Nat) : Bool := decide (97 ≤ c) && decide (c ≤ 122)
def othB (c : Nat) : Bool := (decide (48 ≤ c) && decide (c ≤ 57)) || decide (c = 95)
def okB : Nat → List UInt8 → Bool
  | _, [] => true
  | i, c :: r => (letB c.toNat || (decide (i ≠ 0) && othB c.toNat)) && okB (i + 1) r
def plainM (s : ByteArray) : Bool := decide (1 ≤ s.size) && decide (s.size ≤ 32) && okB 0 s.data.toList
theorem str_get {s : ByteArray} {k : Nat} (h : k < s.size) : ∃ b, s[k]? = some b ∧ s.data.toList.drop k = b :: s.data.toList.drop (k + 1) := by
  have hlt' : k < s.data.toList.length := by rw [Array.length_toList]; exact h
  exact ⟨s.data.toList[k], by rw [getElem?_pos s k h]; rfl, List.drop_eq_getElem_cons hlt'⟩
theorem str_end {s : ByteArray} {k : Nat} (h : ¬ k < s.size) : s.data.toList.drop k = [] := List.drop_eq_nil_of_le (by rw [Array.length_toList]; exact Nat.le_of_not_lt h)
theorem okB_end {s : ByteArray} {k : Nat} (h : ¬ k < s.size) : okB k (s.data.toList.drop k) = true := by rw [str_end h]; rfl
theorem okB_step {k : Nat} {b : UInt8} {r l : List UInt8} (h : l = b :: r) : okB k l = ((letB b.toNat || (decide (k ≠ 0) && othB b.toNat)) && okB (k + 1) r) := by rw [h]; rfl
theorem test_ok {k c : Nat} (h : (97 ≤ (c : Int) ∧ (c : Int) ≤ 122) ∨ (¬ (k : Int) = 0 ∧ ((48 ≤ (c : Int) ∧ (c : Int) ≤ 57) ∨ (c : Int) = 95))) : (letB c || (decide (k ≠ 0) && othB c)) = true := by
  simp only [letB, othB, Bool.or_eq_true, Bool.and_eq_true, decide_eq_true_eq]
  omega
theorem test_no {k c : Nat} (h : ¬ ((97 ≤ (c : Int) ∧ (c : Int) ≤ 122) ∨ (¬ (k : Int) = 0 ∧ ((48 ≤ (c : Int) ∧ (c : Int) ≤ 57) ∨ (c : Int) = 95)))) : (letB c || (decide (k ≠ 0) && othB c)) = false := by
  rw [← Bool.not_eq_true]
  simp only [letB, othB, Bool.or_eq_true, Bool.and_eq_true, decide_eq_true_eq]
  omega
end Go.Proofs.YtmhpccchgbdiiaaGreatDoor
