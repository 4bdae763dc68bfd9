/- Walks: a cotangent's name. -/
import Derived.Test.YtmhpccchgbdiiaaGreatDoorWaB
import Derived.Test.YtmhpccchgbdiiaaGreatDoorWa2
import Derived.Test.YtmhpccchgbdiiaaGreatDoorWaG
import Derived.Test.YtmhpccchgbdiiaaGreatDoorShelf
import Derived.WalkKit
import Derived.BigCall
namespace Go.Proofs.YtmhpccchgbdiiaaGreatDoor
open Go.RowKit
set_option maxRecDepth 100000
def tilde : ByteArray := ⟨#[126]⟩
def cotName (k : Nat) : List UInt8 := 126 :: Lib.decDigits k
def cotM (s : ByteArray) : Bool := (List.range 64).any fun k => s.data.toList == cotName k
def cutR (s : ByteArray) : ByteArray := if s.data.toList.head? = some 126 then s.extract 1 s.size else s
def cutB (s : ByteArray) : Bool := decide (s.data.toList.head? = some 126)
theorem ext_head (s : ByteArray) (h : 1 ≤ s.size) : ((s.extract 0 1).toList == tilde.toList) = decide (s.data.toList.head? = some 126) := by
  have e1 : (s.extract 0 1).data.toList = s.data.toList.take 1 := by simp
  have h2 : ∀ b : ByteArray, b.toList = b.data.toList := fun b => by
    exact Lib.toList_data b
  rw [h2, e1, h2]
  cases hl : s.data.toList with
  | nil =>
    have h : 1 ≤ s.data.size := h
    rw [← Array.length_toList, hl] at h; simp at h
  | cons b r =>
    show ([b] == [126]) = _
    simp only [List.head?_cons, Option.some.injEq]
    by_cases hb : b = 126
    · subst hb; rfl
    · rw [decide_eq_false hb]; simpa using hb
theorem cutPrefix_pure (s : ByteArray) (hs : s.size ≤ 9223372036854775806) : Pure Tryz.prog 108 [strP s, strP tilde] (.ret (.tup [strP (cutR s), boolP (cutB s)])) := by
  have ht : tilde.size = 1 := rfl
  by_cases h1 : 1 ≤ s.size
  · have he : ((s.extract 0 (Int.toNat 1)).toList == (ByteArray.mk #[126]).toList) = decide (s.data.toList.head? = some 126) := ext_head s h1
    by_cases hh : s.data.toList.head? = some 126
    · rw [decide_eq_true hh] at he
      refine pure_eq (prun [] [(32, .b true), (37, .sc), (39, .b true), (53, .sc)] (e := AEnd.ret (PD.tup [PD.v (Value.string (s.extract (Int.toNat 1) s.size)), PD.v (Value.bool true)])) (.c (show SlOK (Int.toNat (1 : Int)) s.size s.size ((0 : Int) ≤ (1 : Int)) True by first | exact ⟨by first | trivial | omega, by first | trivial | omega, by first | omega | (simp <;> omega), by first | omega | (simp <;> omega)⟩ | exact ⟨⟨by first | trivial | omega, by first | trivial | omega, by first | omega | (simp <;> omega), by first | omega | (simp <;> omega)⟩, by first | assumption | exact nums_sized _ _ | simp [sized_nil, sized_one, sized_append, sized_map, nums_sized, nums_append]⟩ | exact ⟨⟨by first | trivial | omega, by first | trivial | omega, by first | omega | (simp <;> omega), by first | omega | (simp <;> omega)⟩, by first | omega | (simp <;> omega)⟩) (.c he (.c (show SlOK (0 : Nat) (Int.toNat (1 : Int)) s.size True ((0 : Int) ≤ (1 : Int)) by first | exact ⟨by first | trivial | omega, by first | trivial | omega, by first | omega | (simp <;> omega), by first | omega | (simp <;> omega)⟩ | exact ⟨⟨by first | trivial | omega, by first | trivial | omega, by first | omega | (simp <;> omega), by first | omega | (simp <;> omega)⟩, by first | assumption | exact nums_sized _ _ | simp [sized_nil, sized_one, sized_append, sized_map, nums_sized, nums_append]⟩ | exact ⟨⟨by first | trivial | omega, by first | trivial | omega, by first | omega | (simp <;> omega), by first | omega | (simp <;> omega)⟩, by first | omega | (simp <;> omega)⟩) (.c (dT (show (1 : Int) ≤ (↑s.size : Int) by omega)) .n)))) (by kernel_rfl)) ?_
      simp [cutR, cutB, hh, strP, boolP]
    · rw [decide_eq_false hh] at he
      refine pure_eq (prun [] [(32, .b true), (37, .sc), (39, .b false)] (e := AEnd.ret (PD.tup [PD.v (Value.string s), PD.v (Value.bool false)])) (.c he (.c (show SlOK (0 : Nat) (Int.toNat (1 : Int)) s.size True ((0 : Int) ≤ (1 : Int)) by first | exact ⟨by first | trivial | omega, by first | trivial | omega, by first | omega | (simp <;> omega), by first | omega | (simp <;> omega)⟩ | exact ⟨⟨by first | trivial | omega, by first | trivial | omega, by first | omega | (simp <;> omega), by first | omega | (simp <;> omega)⟩, by first | assumption | exact nums_sized _ _ | simp [sized_nil, sized_one, sized_append, sized_map, nums_sized, nums_append]⟩ | exact ⟨⟨by first | trivial | omega, by first | trivial | omega, by first | omega | (simp <;> omega), by first | omega | (simp <;> omega)⟩, by first | omega | (simp <;> omega)⟩) (.c (dT (show (1 : Int) ≤ (↑s.size : Int) by omega)) .n))) (by kernel_rfl)) ?_
      simp [cutR, cutB, hh, strP, boolP]
  · have hh : ¬ s.data.toList.head? = some 126 := by
      have : s.data.toList = [] := List.eq_nil_of_length_eq_zero (by rw [Array.length_toList]; show s.size = 0; omega)
      rw [this]; simp
    refine pure_eq (prun [] [(32, .b false)] (e := AEnd.ret (PD.tup [PD.v (Value.string s), PD.v (Value.bool false)])) (.c (dF (show ¬ (1 : Int) ≤ (↑s.size : Int) by omega)) .n) (by kernel_rfl)) ?_
    simp [cutR, cutB, hh, strP, boolP]

def digs (k : Nat) : List UInt8 := if k < 10 then [UInt8.ofNat (48 + k)] else [UInt8.ofNat (48 + k / 10), UInt8.ofNat (48 + k % 10)]
theorem dig_is {k : Nat} (hk : k < 100) : Lib.decDigits k = digs k := by
  unfold digs
  rw [Lib.decDigits]
  split
  · rfl
  · rw [Lib.decDigits, dif_pos (by omega)]; rfl
theorem dig_atoi0 : ∀ k, k < 64 → Lib.atoiAll (digs k) = .ok k := by decide
theorem dig_atoi (k : Nat) (hk : k < 64) : Lib.atoiAll (Lib.decDigits k) = .ok k := by rw [dig_is (by omega)]; exact dig_atoi0 k hk
theorem cot_no {s : ByteArray} (h : ∀ k, k < 64 → s.data.toList ≠ cotName k) : cotM s = false := by
  unfold cotM
  rw [List.any_eq_false]
  intro k hk
  have := h k (by simpa using hk)
  simpa using this
theorem cot_yes {s : ByteArray} {k : Nat} (hk : k < 64) (h : s.data.toList = cotName k) : cotM s = true := by
  unfold cotM
  rw [List.any_eq_true]
  exact ⟨k, by simpa using hk, by simpa using h⟩
/-- what is behind the sign -/
theorem cut_rest {s : ByteArray} (hh : s.data.toList.head? = some 126) : s.data.toList = 126 :: (s.extract 1 s.size).data.toList := by
  have e1 : (s.extract 1 s.size).data.toList = s.data.toList.drop 1 := by
    simp only [ByteArray.data_extract, Array.toList_extract, List.extract_eq_take_drop]
    rw [List.take_of_length_le]
    simp
  rw [e1]
  cases hl : s.data.toList with
  | nil => rw [hl] at hh; simp at hh
  | cons b r => rw [hl] at hh; simp at hh; simp [hh]
theorem cot_case {s : ByteArray} (hh : s.data.toList.head? = some 126) {v : Int} (ha : Lib.atoiAll (s.extract 1 s.size).data.toList = .ok v) (h0 : 0 ≤ v) (h1 : v < 64) : cotM s = (Lib.decDigits v.toNat == (s.extract 1 s.size).data.toList) := by
  have hr := cut_rest hh
  by_cases he : Lib.decDigits v.toNat = (s.extract 1 s.size).data.toList
  · rw [cot_yes (k := v.toNat) (by omega) (by rw [hr, cotName, he])]
    simp [he]
  · have : (Lib.decDigits v.toNat == (s.extract 1 s.size).data.toList) = false := by simpa using he
    rw [this]
    refine cot_no fun k hk hc => he ?_
    rw [hr, cotName] at hc
    injection hc with _ hc
    rw [hc, dig_atoi k hk] at ha
    injection ha with ha
    rw [hc, ← ha]; rfl
theorem cot_fail {s : ByteArray} (h : s.data.toList.head? = some 126 → ∀ v, Lib.atoiAll (s.extract 1 s.size).data.toList = .ok v → ¬ (0 ≤ v ∧ v < 64)) : cotM s = false := by
  refine cot_no fun k hk hc => ?_
  have hh : s.data.toList.head? = some 126 := by rw [hc]; rfl
  have hr := cut_rest hh
  rw [hr, cotName] at hc
  injection hc with _ hc
  exact h hh k (by rw [hc, dig_atoi k hk]) ⟨by omega, by omega⟩
end Go.Proofs.YtmhpccchgbdiiaaGreatDoor
