/- Walk of the statement WirePuts. -/
import Derived.Test.YtngajmiakakakaaWLaw2
namespace Go.Proofs.Ytngajmiakakakaa
open Go.RowKit

theorem rng_app {a b : List Int} (ha : ∀ x ∈ a, 0 ≤ x ∧ x < 256) (hb : ∀ x ∈ b, 0 ≤ x ∧ x < 256) : ∀ x ∈ a ++ b, 0 ≤ x ∧ x < 256 := by
  intro x hx
  rcases List.mem_append.1 hx with h | h
  · exact ha x h
  · exact hb x h
set_option maxHeartbeats 2000000 in
theorem walk_puts (w : World) (ao : Option Addr) (c : Nat) (l : List Int) (h : Rd w (.slice ao l.length c) l.length (by8 l) 1) (hb : l.length ≤ 1048576) (hr : ∀ x ∈ l, 0 ≤ x ∧ x < 256)
    (n : Nat) (hn : n < 18446744073709551616) (k : Int) (hk0 : -9223372036854775808 ≤ k) (hk1 : k ≤ 9223372036854775807)
    (a2 : Option Addr) (c2 : Nat) (l2 : List Int) (h2 : Rd w (.slice a2 l2.length c2) l2.length (by8 l2) 1) (hb2 : l2.length ≤ 1048576) (hr2 : ∀ x ∈ l2, 0 ≤ x ∧ x < 256) :
    Calls Try.prog 4 #[.slice ao l.length c, .int .u64 n, .int .i64 k, .slice a2 l2.length c2] w fun e w' => e = .returned (.bool true) ∧ Below w.heap.size w w' := by
  have V := Lib.hid h
  have V2 := Lib.hid h2
  have G := Lib.hid hr
  have G2 := Lib.hid hr2
  have N := Lib.hid hn
  have K := Lib.hid (And.intro hk0 hk1)
  have el1 := enc_len64 hn
  have el2 := enc_len64 (zz_lt hk0 hk1)
  have el3 := enc_len64 (n := l2.length) (by omega)
  have E1 := Lib.hid (enc_rng hn)
  have E2 := Lib.hid (enc_rng (zz_lt hk0 hk1))
  have E3 := Lib.hid (enc_rng (n := l2.length) (by omega))
  clear h h2 hr hr2 hn hk0 hk1
  go_enter Try.func4, Try.ntmps4
  go_wp2_with fail
  refine (own_any _ _ _ _ V.out (by omega) (by8_one l)).mono ?_
  rintro e w1 ⟨v1, rfl, o1, b1⟩
  go_wp2_with fail
  refine (put_any _ _ _ n _ (rd_own o1) (by omega) (by8_one l) N.out).mono ?_
  rintro e w2 ⟨v2, rfl, o2, b2⟩
  have B2 := bt b1 b2
  have O2 := Lib.hid o2
  clear b1 b2 o1 o2
  go_wp2_with fail
  refine (own_any _ _ _ _ (rd_below V.out B2) (by omega) (by8_one l)).mono ?_
  rintro e w3 ⟨v3, rfl, o3, b3⟩
  go_wp2_with fail
  refine (putz_any _ _ _ k _ (rd_own o3) (by omega) (by8_one l) K.out.1 K.out.2).mono ?_
  rintro e w4 ⟨v4, rfl, o4, b4⟩
  have B24 := bt b3 b4
  have B4 := bt B2 B24
  have O4 := Lib.hid o4
  clear b3 b4 o3 o4
  go_wp2_with fail
  refine (own_any _ _ _ _ (rd_below V.out B4) (by omega) (by8_one l)).mono ?_
  rintro e w5 ⟨v5, rfl, o5, b5⟩
  go_wp2_with fail
  refine (own_any _ _ _ _ (rd_below V2.out (bt B4 b5)) (by omega) (by8_one l2)).mono ?_
  rintro e w6 ⟨v6, rfl, o6, b6⟩
  go_wp2_with fail
  refine (putb_any _ _ _ _ _ _ _ (rd_below (rd_own o5) b6) (rd_own o6) (by omega) (by8_one l) (by8_one l2)).mono ?_
  rintro e w7 ⟨v7, rfl, o7, b7⟩
  have B47 := bt (bt b5 b6) b7
  have B27 := bt B24 B47
  have B7 := bt B2 B27
  have O7 := Lib.hid o7
  clear b5 b6 b7 o5 o6 o7
  go_wp2_with fail
  refine (own_any _ _ _ _ (rd_below V.out B7) (by omega) (by8_one l)).mono ?_
  rintro e w8 ⟨v8, rfl, o8, b8⟩
  go_wp2_with fail
  refine (number_any n _ N.out).mono ?_
  rintro e w9 ⟨v9, rfl, o9, b9⟩
  have o8' := ownsRow_below o8 b9
  have s9 := b9.size
  have s8 := b8.size
  go_wp2_with (at_builtin; refine wpList_append_slice rfl _ _ 23 5 1 1 sT_u8 rfl w7.heap.size _ _ _ rfl o8' _ _ _ rfl (rd_own o9) (by8_one _) (by unfold maxLen; omega) (by omega) (by omega) ?_)
  intro v10 w10 o10 b10 _
  have B710 := (bt b8 b9).trans b10
  have B10 := bt B7 B710
  have q10 := rd_own o10
  rw [← by8_app] at q10
  have Q10 := Lib.hid q10
  have q2 := rd_below (rd_own O2.out) (bt B27 B710)
  rw [← by8_app] at q2
  have Q2 := Lib.hid q2
  clear o8 o8' o9 o10 b8 b9 b10 s8 s9 q10 q2
  go_wp2_with fail
  refine (same_true _ _ _ _ (l ++ enc n) _ Q2.out Q10.out (rng_app G.out E1.out)).mono ?_
  rintro e w11 ⟨rfl, rfl⟩
  clear Q2 Q10
  go_wp2_with fail
  refine (own_any _ _ _ _ (rd_below V.out B10) (by omega) (by8_one l)).mono ?_
  rintro e w11 ⟨v11, rfl, o11, b11⟩
  go_wp2_with fail
  refine (signed_any k _ K.out.1 K.out.2).mono ?_
  rintro e w12 ⟨rfl, rfl⟩
  go_wp2_with fail
  refine (number_any (zz k) _ (zz_lt K.out.1 K.out.2)).mono ?_
  rintro e w12 ⟨v12, rfl, o12, b12⟩
  have o11' := ownsRow_below o11 b12
  have s12 := b12.size
  have s11 := b11.size
  go_wp2_with (at_builtin; refine wpList_unguard rfl (wpList_append_slice rfl _ _ 23 5 1 1 sT_u8 rfl w10.heap.size _ _ _ rfl o11' _ _ _ rfl (rd_own o12) (by8_one _) (by unfold maxLen; omega) (by omega) (by omega) ?_))
  intro v13 w13 o13 b13 _
  have B1013 := (bt b11 b12).trans b13
  have B13 := bt B10 B1013
  have q13 := rd_own o13
  rw [← by8_app] at q13
  have Q13 := Lib.hid q13
  have q4 := rd_below (rd_own O4.out) (bt B47 (bt B710 B1013))
  rw [← by8_app] at q4
  have Q4 := Lib.hid q4
  clear o11 o11' o12 o13 b11 b12 b13 s11 s12 q13 q4
  go_wp2_with fail
  refine (same_true _ _ _ _ (l ++ enc (zz k)) _ Q4.out Q13.out (rng_app G.out E2.out)).mono ?_
  rintro e w14 ⟨rfl, rfl⟩
  clear Q4 Q13
  go_wp2_with fail
  refine (own_any _ _ _ _ (rd_below V.out B13) (by omega) (by8_one l)).mono ?_
  rintro e w14 ⟨v14, rfl, o14, b14⟩
  go_wp2_with fail
  refine (number_any l2.length _ (by omega)).mono ?_
  rintro e w15 ⟨v15, rfl, o15, b15⟩
  have o14' := ownsRow_below o14 b15
  have s15 := b15.size
  have s14 := b14.size
  go_wp2_with (at_builtin; refine wpList_unguard rfl (wpList_append_slice rfl _ _ 23 5 1 1 sT_u8 rfl w13.heap.size _ _ _ rfl o14' _ _ _ rfl (rd_own o15) (by8_one _) (by unfold maxLen; omega) (by omega) (by omega) ?_))
  intro v16 w16 o16 b16 _
  have s16 := b16.size
  have B1316 := (bt b14 b15).trans b16
  have V16 := rd_below V2.out (bt B13 B1316)
  have V16' := Lib.hid V16
  clear o14 o14' o15 b14 b15 b16 V16
  go_wp2_with (at_builtin; refine wpList_unguard rfl (wpList_append_slice rfl _ _ 23 5 1 1 sT_u8 rfl w13.heap.size _ _ _ rfl o16 _ _ _ rfl V16'.out (by8_one _) (by unfold maxLen; omega) (by omega) (by omega) ?_))
  intro v17 w17 o17 b17 _
  have B1317 := B1316.trans b17
  have q17 := rd_own o17
  rw [← by8_app, ← by8_app] at q17
  have Q17 := Lib.hid q17
  have q7 := rd_below (rd_own O7.out) (bt B710 (bt B1013 B1317))
  rw [← by8_app, ← by8_app] at q7
  have Q7 := Lib.hid q7
  clear o16 o17 b17 q17 q7
  go_wp2_with fail
  refine (same_true _ _ _ _ (l ++ enc l2.length ++ l2) _ Q7.out (by rw [List.append_assoc]; exact Q17.out) (rng_app (rng_app G.out E3.out) G2.out)).mono ?_
  rintro e w18 ⟨rfl, rfl⟩
  go_wp2_with fail
  refine (known_any _).mono ?_
  rintro e w19 ⟨rfl, b19⟩
  go_wp2
  go_ret
  exact ⟨rfl, bt (bt B13 B1317) b19⟩
end Go.Proofs.Ytngajmiakakakaa
