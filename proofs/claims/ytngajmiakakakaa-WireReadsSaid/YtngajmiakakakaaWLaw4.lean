/- Walk of the statement WireBack. -/
import Derived.Test.YtngajmiakakakaaWLaw3
import Derived.Test.YtngajmiakakakaaWLaw1
namespace Go.Proofs.Ytngajmiakakakaa
open Go.RowKit

theorem blk_put (bl rest : List Int) (h : bl.length < 9223372036854775808) : blk (enc bl.length ++ (bl ++ rest)) bl.length = (bl, (enc bl.length).length + bl.length, 0) := by
  unfold blk
  have e := rdn_put (m := bl.length) (by omega) (bl ++ rest)
  rw [e]
  simp only [ne_eq, not_true, if_false]
  rw [if_neg (by omega), if_neg (by simp; omega)]
  simp
theorem zigR_put (k : Int) : zigR (zz k : Int) 0 = k := by unfold zigR; rw [if_pos rfl, uz_zz]

def n_ (a b c d : List Int) : Nat := a.length + b.length + c.length + d.length
theorem bd_of {a b : World} (n : Nat) (h : Below a.heap.size a b) : Below a.heap.size a (b.drewN n) := ⟨h.os, h.tape, h.output, h.size, h.block⟩
set_option maxHeartbeats 2000000 in
theorem walk_back (w : World) (n : Nat) (hn : n < 18446744073709551616) (k : Int) (hk0 : -9223372036854775808 ≤ k) (hk1 : k ≤ 9223372036854775807)
    (ao : Option Addr) (c : Nat) (l : List Int) (h : Rd w (.slice ao l.length c) l.length (by8 l) 1) (hb : l.length ≤ 1048576) (hr : ∀ x ∈ l, 0 ≤ x ∧ x < 256)
    (a2 : Option Addr) (c2 : Nat) (l2 : List Int) (h2 : Rd w (.slice a2 l2.length c2) l2.length (by8 l2) 1) (hb2 : l2.length ≤ 1048576) (hr2 : ∀ x ∈ l2, 0 ≤ x ∧ x < 256) :
    Calls Try.prog 9 #[.int .u64 n, .int .i64 k, .slice ao l.length c, .slice a2 l2.length c2] w fun e w' => e = .returned (.bool true) ∧ Below w.heap.size w w' := by
  have V := Lib.hid h
  have V2 := Lib.hid h2
  have G := Lib.hid hr
  have G2 := Lib.hid hr2
  have N := Lib.hid hn
  have K := Lib.hid (And.intro hk0 hk1)
  have el1 := enc_len64 hn
  have el2 := enc_len64 (zz_lt hk0 hk1)
  have el3 := enc_len64 (n := l.length) (by omega)
  have E1 := Lib.hid (enc_rng hn)
  have E2 := Lib.hid (enc_rng (zz_lt hk0 hk1))
  have E3 := Lib.hid (enc_rng (n := l.length) (by omega))
  clear h h2 hr hr2 hn hk0 hk1
  go_enter Try.func9, Try.ntmps9
  go_wp2_with fail
  refine (put_any _ 0 [] n _ (rd_nil _ _) (by decide) (by simp) N.out).mono ?_
  rintro e w1 ⟨v1, rfl, o1, b1⟩
  simp only [Nat.zero_add, List.nil_append] at o1
  go_wp2_with fail
  refine (putz_any _ _ _ k _ (rd_own o1) (by omega) (by8_one _) K.out.1 K.out.2).mono ?_
  rintro e w2 ⟨v2, rfl, o2, b2⟩
  rw [← by8_app] at o2
  have B2 := bt b1 b2
  go_wp2_with fail
  refine (putb_any _ _ _ _ _ _ _ (rd_own o2) (rd_below V.out B2) (by omega) (by8_one _) (by8_one l)).mono ?_
  rintro e w3 ⟨v3, rfl, o3, b3⟩
  rw [← by8_app, ← by8_app] at o3
  have B3 := bt B2 b3
  have s2 := B2.size
  have V23 := Lib.hid (rd_below V2.out B3)
  have s3 := b3.size
  obtain ⟨a3, c3, rfl, -, -, -, -⟩ := rd_own o3
  clear b1 b2 o1 o2
  go_wp2_with (at_builtin; refine wpList_append_slice rfl _ _ 23 5 1 1 sT_u8 rfl w2.heap.size _ _ _ rfl o3 _ _ _ rfl V23.out (by8_one _) (by unfold maxLen; omega) (by omega) (by omega) ?_)
  intro v4 w4 o4 b4 _
  rw [← by8_app] at o4
  have B4 := B3.trans (b4.mono (by omega))
  obtain ⟨L, hL⟩ : ∃ L, L = enc n ++ (enc (zz k) ++ (enc l.length ++ (l ++ l2))) := ⟨_, rfl⟩
  have hLl : L.length = (enc n).length + (enc (zz k)).length + (enc l.length).length + l.length + l2.length := by rw [hL]; simp; omega
  have R4 : Rd w4 v4 L.length (by8 L) 1 := by
    have := rd_own o4
    rw [hLl, hL]
    simpa [by8_app] using this
  have hLr : ∀ x ∈ L, 0 ≤ x ∧ x < 256 := by rw [hL]; exact rng_app E1.out (rng_app E2.out (rng_app E3.out (rng_app G.out G2.out)))
  have RR := Lib.hid R4
  have LR := Lib.hid hLr
  have BB := Lib.hid B4
  have d1 : L.drop (enc n).length = enc (zz k) ++ (enc l.length ++ (l ++ l2)) := by rw [hL, List.drop_left]
  have d2 : L.drop ((enc n).length + (enc (zz k)).length) = enc l.length ++ (l ++ l2) := by rw [← List.drop_drop, d1, List.drop_left]
  have d3 : L.drop ((enc n).length + (enc (zz k)).length + ((enc l.length).length + l.length)) = l2 := by rw [← List.drop_drop, d2, ← List.append_assoc, ← List.length_append, List.drop_left]
  have D1 := Lib.hid d1
  have D2 := Lib.hid d2
  have D3 := Lib.hid d3
  have HL := Lib.hid hL
  have HLL := Lib.hid hLl
  have HLB := Lib.hid (show L.length ≤ 140737488355328 by omega)
  clear o3 o4 b3 b4 B2 B3 B4 R4 hLr d1 d2 d3 hL hLl s2 s3 V23
  go_wp2_with fail
  refine (new_any _ L _ RR.out HLB.out LR.out).mono ?_
  rintro e w5 ⟨B, ac, cc, rfl, hB0, hB1, C5, b5⟩
  go_wp2_with fail
  refine (uv_any C5 n (enc n).length 0 (by rw [List.drop_zero, HL.out]; exact rdn_put N.out _)).mono ?_
  rintro e w6 ⟨rfl, C6, g6⟩
  rw [Nat.zero_add] at C6
  go_wp2_with fail
  refine (zig_any C6 (zz k) (enc (zz k)).length 0 (by rw [D1.out]; exact rdn_put (zz_lt K.out.1 K.out.2) _)).mono ?_
  rintro e w7 ⟨rfl, C7, g7⟩
  rw [zigR_put]
  go_wp2_with fail
  refine (block_any C7 l.length (by omega) (by omega) l _ 0 (by rw [D2.out]; exact blk_put l l2 (by omega))).mono ?_
  rintro e w8 ⟨v8, rfl, R8, C8, g8⟩
  have G8 := gb_trans (gb_trans g6 g7) g8
  have B48 : Below w4.heap.size w4 w8 := below_of_gb b5 G8 b5.size hB0
  have R8' := Lib.hid R8
  have C8' := Lib.hid C8
  have BB8 := Lib.hid (bt BB.out B48)
  have hBw : w.heap.size ≤ B := Nat.le_trans BB.out.size hB0
  clear C5 C6 C7 C8 g6 g7 g8 G8 R8 b5 B48 hB0 hB1
  go_wp2_with fail
  refine (same_true _ _ _ _ l _ R8'.out (rd_below V.out BB8.out) G.out).mono ?_
  rintro e w9 ⟨rfl, rfl⟩
  go_wp2_with fail
  refine (left_any C8'.out).mono ?_
  rintro e w9 ⟨rfl, nq, rfl⟩
  have hl : (L.length : Int) - ((enc n).length + (enc (zz k)).length + ((enc l.length).length + l.length) : Nat) = l2.length := by rw [HLL.out]; omega
  rw [hl]
  clear hl
  have hle8 := C8'.out.le
  have hlr := HLL.out
  go_wp2_with fail
  refine (end_any (C8'.out.drewN nq)).mono ?_
  rintro e w9 ⟨rfl, nq2, rfl⟩
  have C9 := Lib.hid (C8'.out.drewN (nq + nq2))
  have T9 := take_ok C9.out l2.length (by omega)
  rw [D3.out, List.take_of_length_le (Nat.le_refl _)] at T9
  have T9' := Lib.hid T9
  have BQ := Lib.hid (bd_of (nq + nq2) BB8.out)
  have he0 : l2.length = 0 → endE ((enc n).length + (enc (zz k)).length + ((enc l.length).length + l.length)) L.length = 0 := fun h0 => by unfold endE; rw [if_neg (by omega)]
  have he1 : l2.length ≠ 0 → endE ((enc n).length + (enc (zz k)).length + ((enc l.length).length + l.length)) L.length = 5 := fun h0 => by unfold endE; rw [if_pos (by omega)]
  have hend : endE ((enc n).length + (enc (zz k)).length + ((enc l.length).length + l.length) + l2.length) L.length = 0 := by unfold endE; rw [if_neg (by omega)]
  have HEND := Lib.hid hend
  have hat : (((enc n).length + (enc (zz k)).length + ((enc l.length).length + l.length) + l2.length : Nat) : Int) = (((enc n).length + (enc (zz k)).length + (enc l.length).length + l.length : Nat) : Int) + (l2.length : Int) := by omega
  have HAT := Lib.hid hat
  clear hend hat hle8 hlr T9
  have key : ∃ (E : Int) (zb : Bool), endE ((enc n).length + (enc (zz k)).length + ((enc l.length).length + l.length)) L.length = E ∧ ((l2.length : Int) == 0) = zb ∧ ((E = 0 ∧ zb = true) ∨ (E = 5 ∧ zb = false)) := by
    by_cases h0 : l2.length = 0
    · exact ⟨0, true, he0 h0, beq_iff_eq.2 (by omega), .inl ⟨rfl, rfl⟩⟩
    · exact ⟨5, false, he1 h0, beq_eq_false_iff_ne.2 (by omega), .inr ⟨rfl, rfl⟩⟩
  clear he0 he1
  obtain ⟨E, zb, hE, hz, hh⟩ := key
  rw [hE]
  clear hE
  rcases hh with ⟨rfl, rfl⟩ | ⟨rfl, rfl⟩
  all_goals
    go_wp2_with fail
    refine T9'.out.mono ?_
    rintro e w10 ⟨v10, rfl, o10, C10, g10⟩
    have O10 := Lib.hid (rd_own o10)
    have C10' := Lib.hid C10
    have G10 := Lib.hid g10
    have B10 : Below w.heap.size w w10 := below_of_gb BQ.out g10 (by have := BQ.out.size; omega) hBw
    have B10' := Lib.hid B10
    clear o10 C10 g10 B10
    go_wp2_with fail
    refine (same_true _ _ _ _ l2 _ O10.out (rd_below V2.out B10'.out) G2.out).mono ?_
    rintro e w11 ⟨rfl, rfl⟩
    go_wp2_with fail
    refine (end_any C10'.out).mono ?_
    rintro e w11 ⟨rfl, nq3, rfl⟩
    rw [HEND.out]
    have C11 := Lib.hid (C10'.out.drewN nq3)
    go_wp2_with fail
    refine (at_any C11.out).mono ?_
    rintro e w12 ⟨rfl, rfl⟩
    rw [HAT.out]
    go_wp2_with fail
    refine (known_any _).mono ?_
    rintro e w13 ⟨rfl, b13⟩
    go_wp2
    go_ret
    exact ⟨rfl, bt B10'.out (bd b13)⟩
end Go.Proofs.Ytngajmiakakakaa
