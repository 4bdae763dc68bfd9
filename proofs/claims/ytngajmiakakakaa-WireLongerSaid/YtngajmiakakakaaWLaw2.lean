/- Walk of the statement WireOnce. -/
import Derived.Test.YtngajmiakakakaaWWalk6
namespace Go.Proofs.Ytngajmiakakakaa
open Go.RowKit

theorem rd_below {w w' : World} {v : Value} {n : Nat} {cs : List Value} {size : Nat} (h : Rd w v n cs size) (hb : Below w.heap.size w w') : Rd w' v n cs size :=
  rd_kept h fun _ _ hc => cell_later hb hc

theorem rd_pre {w : World} {ao : Option Addr} {c n : Nat} {cs : List Value} (h : Rd w (.slice ao n c) n cs 1) (j : Nat) (hj : j ≤ n) : Rd w (.slice ao j c) j (cs.take j) 1 := by
  obtain ⟨ao', c', he, h1, h2, h3, h4⟩ := h
  cases he
  refine ⟨ao, c, rfl, by omega, by simp; omega, h3, fun ad had t u ht => ?_⟩
  rw [List.getElem?_take] at ht
  split at ht
  · exact h4 ad had t u ht
  · cases ht
theorem by8_take (l : List Int) (n : Nat) : (by8 l).take n = by8 (l.take n) := by simp [by8, List.map_take]
set_option maxHeartbeats 1000000 in
theorem walk_once (w : World) (ao : Option Addr) (c : Nat) (l : List Int) (h : Rd w (.slice ao l.length c) l.length (by8 l) 1) (hb : l.length ≤ 140737488351232) (hr : ∀ x ∈ l, 0 ≤ x ∧ x < 256) :
    Calls Try.prog 5 #[.slice ao l.length c] w fun e w' => e = .returned (.bool true) ∧ Below w.heap.size w w' := by
  obtain ⟨r1, r2, r3, hrd⟩ : ∃ r1 r2 r3, rdn l = (r1, r2, r3) := ⟨_, _, _, rfl⟩
  have HV := Lib.hid h
  have HG := Lib.hid hr
  have HR := Lib.hid hrd
  have hlc : l.length ≤ c := by obtain ⟨_, _, he, hh, _⟩ := h; cases he; exact hh
  clear h hrd
  by_cases h3 : r3 = 0
  · subst h3
    obtain ⟨m, -, g1, g2, g3, g4⟩ := uv_enc 10 0 l 0 rfl hr (by decide) (by decide) (by have e := HR.out; unfold rdn at e; rw [e])
    have e := HR.out
    unfold rdn at e
    rw [e] at g1 g2 g4
    simp only [Int.pow_zero, Int.mul_one, Int.zero_add, Nat.zero_add] at g1 g2 g4
    clear e hr
    subst g1 g2
    have hm : m < 18446744073709551616 := by omega
    have hlen : (enc m).length ≤ l.length := by have := congrArg List.length g3; rw [List.length_take] at this; omega
    have hep := enc_pos m
    have hl10 := enc_len64 hm
    have hz : zz (uz (m : Int)) = m := by have := zz_uz (n := (m : Int)) (by omega); omega
    have hzr := uz_rng (n := (m : Int)) (by omega) (by omega)
    have HT := Lib.hid g3
    have HZ := Lib.hid hz
    have HER := Lib.hid (enc_rng hm)
    have hm0 : (0 : Int) ≤ m := by omega
    have HM := Lib.hid hm
    have HZR := Lib.hid hzr
    clear g3 hz hm g4 hzr
    go_enter Try.func5, Try.ntmps5
    go_wp2_with fail
    refine (reads_any _ l _ HV.out (by omega) HG.out m _ 0 HR.out).mono ?_
    rintro e w1 ⟨rfl, hb1⟩
    go_wp2_with fail
    refine (put_any _ 0 [] m _ (rd_nil _ _) (by decide) (by simp) HM.out).mono ?_
    rintro e w2 ⟨v2, rfl, hown2, hb2⟩
    obtain ⟨a2, c2, rfl, hlc2, -, -, -⟩ := rd_own hown2
    have HO := Lib.hid hown2
    have HB := Lib.hid (bt hb1 hb2)
    clear hown2 hb1 hb2
    simp only [Nat.zero_add, List.nil_append] at HO hlc2 ⊢
    go_wp2_with fail
    have hp := rd_pre (rd_below HV.out HB.out) (enc m).length hlen
    rw [by8_take, HT.out] at hp
    refine (same_true _ _ _ _ (enc m) _ (rd_own HO.out) hp HER.out).mono ?_
    rintro e w3 ⟨rfl, rfl⟩
    clear hp
    go_wp2_with fail
    refine (new_any _ l _ (rd_below HV.out HB.out) (by omega) HG.out).mono ?_
    rintro e w4 ⟨B, ac, cc, rfl, hB0, hB1, hC, hb4⟩
    go_wp2_with fail
    refine (zig_any hC m (enc m).length 0 (by simpa using HR.out)).mono ?_
    rintro e w5 ⟨rfl, hC5, hG5⟩
    rw [show zigR (m : Int) 0 = uz m from rfl]
    have hb25 : Below w2.heap.size w2 w5 := below_of_gb hb4 hG5 hb4.size hB0
    have HB5 := Lib.hid hb25
    have HC5 := Lib.hid hC5
    clear hb4 hC hG5 hb25 hC5 hB0 hB1
    rw [show (0 + (enc m).length : Nat) = (enc m).length from Nat.zero_add _] at HC5
    go_wp2_with fail
    refine (at_any HC5.out).mono ?_
    rintro e w6 ⟨rfl, rfl⟩
    go_wp2_with fail
    refine (putz_any _ 0 [] (uz m) _ (rd_nil _ _) (by decide) (by simp) HZR.out.1 HZR.out.2).mono ?_
    rintro e w7 ⟨v7, rfl, hown7, hb7⟩
    rw [HZ.out] at hown7
    go_wp2_with fail
    refine (same_true _ _ _ _ (enc m) _ (by simpa using rd_own hown7) (rd_below (rd_own HO.out) (bt HB5.out hb7)) HER.out).mono ?_
    rintro e w8 ⟨rfl, rfl⟩
    go_wp2_with fail
    refine (known_any _).mono ?_
    rintro e w9 ⟨rfl, hb9⟩
    go_wp2
    go_ret
    exact ⟨rfl, bt (bt (bt HB.out HB5.out) hb7) hb9⟩
  · have e3 : (r3 == 0) = false := by simp [h3]
    clear h3 hr
    go_enter Try.func5, Try.ntmps5
    go_wp2_with fail
    refine (reads_any _ l _ HV.out (by omega) HG.out r1 r2 r3 HR.out).mono ?_
    rintro e w1 ⟨rfl, hb1⟩
    go_wp2_with fail
    refine (known_any _).mono ?_
    rintro e w9 ⟨rfl, hb9⟩
    go_wp2
    go_ret
    exact ⟨rfl, bt hb1 hb9⟩
end Go.Proofs.Ytngajmiakakakaa
