/- Walk of the statement WireReads. -/
import Derived.Test.YtngajmiakakakaaWGet
import Derived.Test.YtngajmiakakakaaWLaw4
namespace Go.Proofs.Ytngajmiakakakaa
open Go.RowKit

theorem rd_at {w : World} {ad : Addr} {c n : Nat} {k : IntKind} {l : List Int} (h : Rd w (.slice (some ad) n c) n (l.map (Value.int k)) 1) (j : Nat) (hj : j < l.length) : w.cell? (ad.add j) = some (.int k (l.getD j 0)) := by
  obtain ⟨ao', c', he, h1, h2, h3, h4⟩ := h
  cases he
  refine h4 ad rfl j _ ?_
  rw [List.getElem?_map, List.getElem?_eq_getElem hj]
  simp [List.getD, List.getElem?_eq_getElem hj]
theorem rd_none {w : World} {c n : Nat} {cs : List Value} (h : Rd w (.slice none n c) n cs 1) : n = 0 := by
  obtain ⟨ao', c', he, h1, h2, h3, h4⟩ := h
  cases he
  have := h3 rfl
  omega

theorem uv_e (f : Nat) : ∀ i l acc, 0 ≤ (uv f i l acc).2.2 ∧ (uv f i l acc).2.2 ≤ 4 := by
  induction f with
  | zero => intro i l acc; simp [uv]
  | succ f ih =>
    intro i l acc
    cases l with
    | nil => simp [uv]
    | cons x r =>
      simp only [uv]
      split
      · exact ih _ _ _
      · split <;> simp
theorem rdn_e (l : List Int) : 0 ≤ (rdn l).2.2 ∧ (rdn l).2.2 ≤ 4 := uv_e _ _ _ _
theorem zigR_eq (l : List Int) (r1 : Int) (r2 : Nat) (r3 : Int) (h : rdn l = (r1, r2, r3)) : zigR r1 r3 = uz r1 := by
  unfold zigR
  by_cases h3 : r3 = 0
  · rw [if_pos h3]
  · rw [if_neg h3]
    have := uv_err 10 0 l 0 (by unfold rdn at h; rw [h]; exact h3)
    unfold rdn at h
    rw [h] at this
    simp only at this
    rw [this.1]
    decide
theorem blk_e (l : List Int) (m : Int) : 0 ≤ (blk l m).2.2 ∧ (blk l m).2.2 ≤ 14 := by
  have := rdn_e l
  unfold blk
  split
  · simp only; omega
  · split
    · simp
    · split <;> simp
theorem blk_rng (l : List Int) (m : Int) (h : ∀ x ∈ l, 0 ≤ x ∧ x < 256) : ∀ x ∈ (blk l m).1, 0 ≤ x ∧ x < 256 := by
  unfold blk
  split
  · simp
  · split
    · simp
    · split
      · simp
      · exact fun x hx => h x (List.mem_of_mem_drop (List.mem_of_mem_take hx))
set_option maxRecDepth 100000 in
set_option maxHeartbeats 4000000 in
theorem walk_reads (w : World) (ao : Option Addr) (c : Nat) (l : List Int) (h : Rd w (.slice ao l.length c) l.length (by8 l) 1) (hb : l.length ≤ 140737488351232) (hr : ∀ x ∈ l, 0 ≤ x ∧ x < 256)
    (a1 : Option Addr) (c1 : Nat) (l1 : List Int) (h1 : Rd w (.slice a1 l1.length c1) l1.length (l1.map (Value.int .i64)) 1) (hb1 : l1.length * 8 ≤ 140737488351232) (hr1 : ∀ x ∈ l1, -9223372036854775808 ≤ x ∧ x ≤ 9223372036854775807)
    (a2 : Option Addr) (c2 : Nat) (l2 : List Int) (h2 : Rd w (.slice a2 l2.length c2) l2.length (l2.map (Value.int .i64)) 1) (_hb2 : l2.length * 8 ≤ 140737488351232) (hr2 : ∀ x ∈ l2, -9223372036854775808 ≤ x ∧ x ≤ 9223372036854775807) :
    Calls Try.prog 7 #[.slice ao l.length c, .slice a1 l1.length c1, .slice a2 l2.length c2] w fun e w' => e = .returned (.bool true) ∧ Below w.heap.size w w' := by
  have V := Lib.hid h
  have V1 := Lib.hid h1
  have V2 := Lib.hid h2
  have G := Lib.hid hr
  have G1 := Lib.hid hr1
  have G2 := Lib.hid hr2
  have hlc : l.length ≤ c := by obtain ⟨_, _, he, hh, _⟩ := h; cases he; exact hh
  clear h h1 h2 hr hr1 hr2
  go_enter Try.func7, Try.ntmps7
  go_wp2_with fail
  refine (own_any _ _ _ _ V.out (by omega) (by8_one l)).mono ?_
  rintro e w1 ⟨v1, rfl, o1, b1⟩
  go_wp2_with fail
  refine (new_any _ l _ (rd_own o1) (by omega) G.out).mono ?_
  rintro e w2 ⟨B, ac, cc, rfl, hB0, hB1, C2, b2⟩
  have BB := Lib.hid (bt b1 b2)
  have CC := Lib.hid C2
  have hBw : w.heap.size ≤ B := Nat.le_trans b1.size hB0
  clear o1 b1 b2 C2 hB0 hB1
  go_wp2_with fail
  go_loopw [8, 9] (fun x y wr => ∃ k i : Nat, x = .int .i64 k ∧ y = .int .i64 i ∧ i ≤ l1.length ∧ i ≤ l2.length ∧ Cur wr B ac cc l k ∧ Below w.heap.size w wr)
    (fun _ y _ => l1.length - (intOf y).toNat)
  case atStart => exact ⟨0, 0, rfl, rfl, Nat.zero_le _, Nat.zero_le _, CC.out, BB.out⟩
  case round =>
    obtain ⟨k, i, rfl, rfl, hi1, hi2, hC, hB⟩ := hrel
    have C := Lib.hid hC
    have BR := Lib.hid hB
    have hk := hC.le
    have VR := Lib.hid (rd_below V.out hB)
    have V1R := Lib.hid (rd_below V1.out hB)
    have V2R := Lib.hid (rd_below V2.out hB)
    clear hC hB
    by_cases hend : i < l1.length ∧ i < l2.length
    · obtain ⟨he1, he2⟩ := hend
      cases a1 with
      | none => have := rd_none V1.out; omega
      | some d1 =>
      cases a2 with
      | none => have := rd_none V2.out; omega
      | some d2 =>
      have x1 := rd_at V1R.out i he1
      have x2 := rd_at V2R.out i he2
      have g2 := G2.out (l2.getD i 0) (by simp [List.getD, List.getElem?_eq_getElem he2])
      obtain ⟨q, hq⟩ : ∃ q, q = l1.getD i 0 := ⟨_, rfl⟩
      obtain ⟨m, hm⟩ : ∃ m, m = l2.getD i 0 := ⟨_, rfl⟩
      rw [← hq] at x1
      rw [← hm] at x2 g2
      obtain ⟨g20, g21⟩ := g2
      have HM := Lib.hid hm
      clear hq hm
      have hz := V.out
      have hz := V.out
      have hz := V.out
      have hz := V.out
      have hz := V.out
      have hz := V.out
      by_cases q1 : q = 1
      · as_aux_lemma =>
          subst q1
          by_cases hk1 : k < l.length
          · cases ao with
            | none => have := rd_none hz; omega
            | some d =>
            clear hz
            go_wp2_with fail
            refine (byte_ok C.out hk1).mono ?_
            rintro e w3 ⟨rfl, C3, g3⟩
            have B3 := below_of_gb BR.out g3 BR.out.size hBw
            have x3 := rd_at (rd_below V.out B3) k hk1
            have C3' := Lib.hid C3
            have B3' := Lib.hid B3
            clear C3 g3 B3
            obtain ⟨x, hx⟩ : ∃ x, x = l.getD k 0 := ⟨_, rfl⟩
            rw [← hx] at x3 ⊢
            clear hx
            have hk2 := C3'.out.le
            go_wp2_with fail
            refine (at_any C3'.out).mono ?_
            rintro e w' ⟨rfl, rfl⟩
            try rw [show ((k + 1 : Nat) : Int) = (k : Int) + 1 from rfl]
            go_wp2_with fail
            refine (left_any C3'.out).mono ?_
            rintro e w' ⟨rfl, nq, rfl⟩
            try rw [show ((k + 1 : Nat) : Int) = (k : Int) + 1 from rfl]
            go_wp2_with fail
            go_roundw
            case rel => exact ⟨k + 1, i + 1, by first | rfl | (congr 1; omega), by go_num, by omega, by omega, by first | exact C3'.out.drewN _ | exact C.out.drewN _, by first | exact bd_of _ B3'.out | exact bd_of _ BR.out⟩
            case measure => simp [intOf]; omega
          · have hke : k = l.length := by omega
            clear hz
            go_wp2_with fail
            refine (byte_end C.out hke).mono ?_
            rintro e w3 ⟨rfl, nq0, rfl⟩
            have C3' := Lib.hid (C.out.drewN nq0)
            have B3' := Lib.hid (bd_of nq0 BR.out)
            clear hke
            have hk2 := C3'.out.le
            go_wp2_with fail
            refine (at_any C3'.out).mono ?_
            rintro e w' ⟨rfl, rfl⟩
            go_wp2_with fail
            refine (left_any C3'.out).mono ?_
            rintro e w' ⟨rfl, nq, rfl⟩
            go_wp2_with fail
            go_roundw
            case rel => exact ⟨k, i + 1, by first | rfl | (congr 1; omega), by go_num, by omega, by omega, by first | exact C3'.out.drewN _ | exact C.out.drewN _, by first | exact bd_of _ B3'.out | exact bd_of _ BR.out⟩
            case measure => simp [intOf]; omega
      · have n1 : (q == 1) = false := beq_eq_false_iff_ne.2 q1
        obtain ⟨r1, r2, r3, hrd⟩ : ∃ r1 r2 r3, rdn (l.drop k) = (r1, r2, r3) := ⟨_, _, _, rfl⟩
        have hrr := rdn_rng (l.drop k) (fun x hx => G.out x (List.mem_of_mem_drop hx))
        have hre := rdn_e (l.drop k)
        rw [hrd] at hrr hre
        obtain ⟨hr0, hr1⟩ := hrr
        obtain ⟨he0, he4⟩ := hre
        simp only at hr0 hr1 he0 he4
        have HR := Lib.hid hrd
        clear hrd hz
        by_cases q2 : q = 2
        · as_aux_lemma =>
            subst q2
            go_wp2_with fail
            refine (uv_any C.out r1 r2 r3 HR.out).mono ?_
            rintro e w3 ⟨rfl, C3, g3⟩
            have B3 := below_of_gb BR.out g3 BR.out.size hBw
            have C3' := Lib.hid C3
            have B3' := Lib.hid B3
            clear C3 g3 B3
            go_wp2_with fail
            refine (get_any _ ao c l k (rd_below V.out B3'.out) (by omega) hk G.out r1 r2 r3 HR.out).mono ?_
            rintro e w' ⟨rfl, rfl⟩
            have hk2 := C3'.out.le
            go_wp2_with fail
            refine (at_any C3'.out).mono ?_
            rintro e w' ⟨rfl, rfl⟩
            rw [Int.natCast_add]
            go_wp2_with fail
            refine (left_any C3'.out).mono ?_
            rintro e w' ⟨rfl, nq, rfl⟩
            rw [Int.natCast_add]
            go_wp2_with fail
            go_roundw
            case rel => exact ⟨k + r2, i + 1, by first | rfl | (congr 1; omega), by go_num, by omega, by omega, by first | exact C3'.out.drewN _ | exact C.out.drewN _, by first | exact bd_of _ B3'.out | exact bd_of _ BR.out⟩
            case measure => simp [intOf]; omega
        · have n2 : (q == 2) = false := beq_eq_false_iff_ne.2 q2
          by_cases q3 : q = 3
          · as_aux_lemma =>
              subst q3
              have hzr := zigR_eq (l.drop k) r1 r2 r3 HR.out
              have HZ := Lib.hid hzr
              clear hzr
              go_wp2_with fail
              refine (zig_any C.out r1 r2 r3 HR.out).mono ?_
              rintro e w3 ⟨rfl, C3, g3⟩
              rw [HZ.out]
              have B3 := below_of_gb BR.out g3 BR.out.size hBw
              have C3' := Lib.hid C3
              have B3' := Lib.hid B3
              clear C3 g3 B3
              go_wp2_with fail
              refine (get_any _ ao c l k (rd_below V.out B3'.out) (by omega) hk G.out r1 r2 r3 HR.out).mono ?_
              rintro e w' ⟨rfl, rfl⟩
              go_wp2_with fail
              refine (unsigned_any r1 _ hr0 hr1).mono ?_
              rintro e w' ⟨rfl, rfl⟩
              have hk2 := C3'.out.le
              go_wp2_with fail
              refine (at_any C3'.out).mono ?_
              rintro e w' ⟨rfl, rfl⟩
              rw [Int.natCast_add]
              go_wp2_with fail
              refine (left_any C3'.out).mono ?_
              rintro e w' ⟨rfl, nq, rfl⟩
              rw [Int.natCast_add]
              go_wp2_with fail
              go_roundw
              case rel => exact ⟨k + r2, i + 1, by first | rfl | (congr 1; omega), by go_num, by omega, by omega, by first | exact C3'.out.drewN _ | exact C.out.drewN _, by first | exact bd_of _ B3'.out | exact bd_of _ BR.out⟩
              case measure => simp [intOf]; omega
          · have n3 : (q == 3) = false := beq_eq_false_iff_ne.2 q3
            by_cases q4 : q = 4
            · as_aux_lemma =>
                subst q4
                obtain ⟨e1, e2, e3, hbk⟩ : ∃ e1 e2 e3, blk (l.drop k) m = (e1, e2, e3) := ⟨_, _, _, rfl⟩
                have hbe := blk_e (l.drop k) m
                have hbr := blk_rng (l.drop k) m (fun x hx => G.out x (List.mem_of_mem_drop hx))
                rw [hbk] at hbe hbr
                obtain ⟨hb0, hb14⟩ := hbe
                simp only at hb0 hb14 hbr
                have HK := Lib.hid hbk
                have HKR := Lib.hid hbr
                clear hbk hbr
                go_wp2_with fail
                refine (block_any C.out m g20 g21 e1 e2 e3 HK.out).mono ?_
                rintro e w3 ⟨v, rfl, R3, C3, g3⟩
                have B3 := below_of_gb BR.out g3 BR.out.size hBw
                have y2 := rd_at (rd_below V2.out B3) i he2
                rw [← HM.out] at y2
                have R3' := Lib.hid R3
                have C3' := Lib.hid C3
                have B3' := Lib.hid B3
                clear C3 g3 B3 R3 x2
                go_wp2_with fail
                refine (rblock_any _ ao c l k m (rd_below V.out B3'.out) (by omega) hk G.out g20 g21 e1 e2 e3 HK.out).mono ?_
                rintro e w' ⟨v', n2', rfl, rfl, R4, rfl⟩
                have R4' := Lib.hid R4
                clear R4
                go_wp2_with fail
                refine (same_true _ _ _ _ e1 _ R3'.out R4'.out HKR.out).mono ?_
                rintro e w' ⟨rfl, rfl⟩
                have hk2 := C3'.out.le
                go_wp2_with fail
                refine (at_any C3'.out).mono ?_
                rintro e w' ⟨rfl, rfl⟩
                rw [Int.natCast_add]
                go_wp2_with fail
                refine (left_any C3'.out).mono ?_
                rintro e w' ⟨rfl, nq, rfl⟩
                rw [Int.natCast_add]
                go_wp2_with fail
                go_roundw
                case rel => exact ⟨k + e2, i + 1, by first | rfl | (congr 1; omega), by go_num, by omega, by omega, by first | exact C3'.out.drewN _ | exact C.out.drewN _, by first | exact bd_of _ B3'.out | exact bd_of _ BR.out⟩
                case measure => simp [intOf]; omega
            · have n4 : (q == 4) = false := beq_eq_false_iff_ne.2 q4
              by_cases q5 : q = 5
              · as_aux_lemma =>
                  subst q5
                  by_cases hbad : m < 0 ∨ (l.length : Int) - k < m
                  · have R := rd_cut (rd_below V.out BR.out) k k (Nat.le_refl _) hk
                    rw [by8_cut, Nat.sub_self, List.take_zero] at R
                    have hkc : k ≤ c := by omega
                    by_cases hck : c ≤ k
                    · as_aux_lemma =>
                        rw [if_pos (show c = k from by omega), show c - k = 0 from by omega] at R
                        have HP := Lib.hid R
                        clear R
                        rcases hbad with hneg | hshort
                        · go_wp2_with fail
                          refine (take_neg m _ hneg).mono ?_
                          rintro e w3 ⟨rfl, rfl⟩
                          go_wp2_with fail
                          refine (same_true _ _ 0 0 [] _ (rd_nil _ _) HP.out (by simp)).mono ?_
                          rintro e w' ⟨rfl, rfl⟩
                          have C3' := Lib.hid C.out
                          have B3' := Lib.hid BR.out
                          have hk2 := C3'.out.le
                          go_wp2_with fail
                          refine (at_any C3'.out).mono ?_
                          rintro e w' ⟨rfl, rfl⟩
                          go_wp2_with fail
                          refine (left_any C3'.out).mono ?_
                          rintro e w' ⟨rfl, nq, rfl⟩
                          go_wp2_with fail
                          go_roundw
                          case rel => exact ⟨k, i + 1, by first | rfl | (congr 1; omega), by go_num, by omega, by omega, by first | exact C3'.out.drewN _ | exact C.out.drewN _, by first | exact bd_of _ B3'.out | exact bd_of _ BR.out⟩
                          case measure => simp [intOf]; omega
                        · have hn0 : 0 ≤ m := by omega
                          go_wp2_with fail
                          refine (take_short C.out m hn0 hshort).mono ?_
                          rintro e w3 ⟨rfl, nq0, rfl⟩
                          go_wp2_with fail
                          refine (same_true _ _ 0 0 [] (wr.drewN nq0) (rd_nil _ _) (rd_kept HP.out (fun a u h => h)) (by simp)).mono ?_
                          rintro e w' ⟨rfl, rfl⟩
                          have C3' := Lib.hid (C.out.drewN nq0)
                          have B3' := Lib.hid (bd_of nq0 BR.out)
                          have hk2 := C3'.out.le
                          go_wp2_with fail
                          refine (at_any C3'.out).mono ?_
                          rintro e w' ⟨rfl, rfl⟩
                          go_wp2_with fail
                          refine (left_any C3'.out).mono ?_
                          rintro e w' ⟨rfl, nq, rfl⟩
                          go_wp2_with fail
                          go_roundw
                          case rel => exact ⟨k, i + 1, by first | rfl | (congr 1; omega), by go_num, by omega, by omega, by first | exact C3'.out.drewN _ | exact C.out.drewN _, by first | exact bd_of _ B3'.out | exact bd_of _ BR.out⟩
                          case measure => simp [intOf]; omega
                    · as_aux_lemma =>
                        rw [if_neg (show ¬ c = k from by omega)] at R
                        have HP := Lib.hid R
                        clear R
                        rcases hbad with hneg | hshort
                        · go_wp2_with fail
                          refine (take_neg m _ hneg).mono ?_
                          rintro e w3 ⟨rfl, rfl⟩
                          go_wp2_with fail
                          refine (same_true _ _ 0 0 [] _ (rd_nil _ _) HP.out (by simp)).mono ?_
                          rintro e w' ⟨rfl, rfl⟩
                          have C3' := Lib.hid C.out
                          have B3' := Lib.hid BR.out
                          have hk2 := C3'.out.le
                          go_wp2_with fail
                          refine (at_any C3'.out).mono ?_
                          rintro e w' ⟨rfl, rfl⟩
                          go_wp2_with fail
                          refine (left_any C3'.out).mono ?_
                          rintro e w' ⟨rfl, nq, rfl⟩
                          go_wp2_with fail
                          go_roundw
                          case rel => exact ⟨k, i + 1, by first | rfl | (congr 1; omega), by go_num, by omega, by omega, by first | exact C3'.out.drewN _ | exact C.out.drewN _, by first | exact bd_of _ B3'.out | exact bd_of _ BR.out⟩
                          case measure => simp [intOf]; omega
                        · have hn0 : 0 ≤ m := by omega
                          go_wp2_with fail
                          refine (take_short C.out m hn0 hshort).mono ?_
                          rintro e w3 ⟨rfl, nq0, rfl⟩
                          go_wp2_with fail
                          refine (same_true _ _ 0 0 [] (wr.drewN nq0) (rd_nil _ _) (rd_kept HP.out (fun a u h => h)) (by simp)).mono ?_
                          rintro e w' ⟨rfl, rfl⟩
                          have C3' := Lib.hid (C.out.drewN nq0)
                          have B3' := Lib.hid (bd_of nq0 BR.out)
                          have hk2 := C3'.out.le
                          go_wp2_with fail
                          refine (at_any C3'.out).mono ?_
                          rintro e w' ⟨rfl, rfl⟩
                          go_wp2_with fail
                          refine (left_any C3'.out).mono ?_
                          rintro e w' ⟨rfl, nq, rfl⟩
                          go_wp2_with fail
                          go_roundw
                          case rel => exact ⟨k, i + 1, by first | rfl | (congr 1; omega), by go_num, by omega, by omega, by first | exact C3'.out.drewN _ | exact C.out.drewN _, by first | exact bd_of _ B3'.out | exact bd_of _ BR.out⟩
                          case measure => simp [intOf]; omega
                  · have hn0 : 0 ≤ m := by omega
                    have hn1 : m ≤ (l.length : Int) - k := by omega
                    have R := rd_cut (rd_below V.out BR.out) k (k + m.toNat) (by omega) (by omega)
                    rw [by8_cut, Nat.add_sub_cancel_left] at R
                    have ht : ((k : Int) + m).toNat - k = m.toNat := by omega
                    have hkc : (k : Int) + m ≤ c := by omega
                    by_cases hck : c ≤ k
                    · as_aux_lemma =>
                        rw [if_pos (show c = k from by omega), show c - k = 0 from by omega] at R
                        have HP := Lib.hid R
                        have HT := Lib.hid ht
                        clear R ht hbad
                        go_wp2_with fail
                        refine (take_ok' C.out m hn0 hn1).mono ?_
                        rintro e w3 ⟨v, rfl, o3, C3, g3⟩
                        have B3 := below_of_gb BR.out g3 BR.out.size hBw
                        have R3' := Lib.hid (rd_own o3)
                        have C3' := Lib.hid C3
                        have B3' := Lib.hid B3
                        have y2 := rd_at (rd_below V2.out B3) i he2
                        rw [← HM.out] at y2
                        have R2 := rd_cut (rd_below V.out B3) k (k + m.toNat) (by omega) (by omega)
                        rw [by8_cut, Nat.add_sub_cancel_left] at R2
                        rw [if_pos (show c = k from by omega), show c - k = 0 from by omega] at R2
                        have hl : ((l.drop k).take m.toNat).length = m.toNat := by simp; omega
                        have HP2 := Lib.hid R2
                        clear C3 g3 B3 o3 R2 x2 hl
                        go_wp2_with fail
                        refine (same_true _ _ _ _ ((l.drop k).take m.toNat) _ R3'.out (by rw [HT.out]; exact HP2.out) (fun x hx => G.out x (List.mem_of_mem_drop (List.mem_of_mem_take hx)))).mono ?_
                        rintro e w' ⟨rfl, rfl⟩
                        have hk2 := C3'.out.le
                        go_wp2_with fail
                        refine (at_any C3'.out).mono ?_
                        rintro e w' ⟨rfl, rfl⟩
                        try rw [show ((k + m.toNat : Nat) : Int) = (k : Int) + m from by omega]
                        go_wp2_with fail
                        refine (left_any C3'.out).mono ?_
                        rintro e w' ⟨rfl, nq, rfl⟩
                        try rw [show ((k + m.toNat : Nat) : Int) = (k : Int) + m from by omega]
                        go_wp2_with fail
                        go_roundw
                        case rel => exact ⟨k + m.toNat, i + 1, by first | rfl | (congr 1; omega), by go_num, by omega, by omega, by first | exact C3'.out.drewN _ | exact C.out.drewN _, by first | exact bd_of _ B3'.out | exact bd_of _ BR.out⟩
                        case measure => simp [intOf]; omega
                    · as_aux_lemma =>
                        rw [if_neg (show ¬ c = k from by omega)] at R
                        have HP := Lib.hid R
                        have HT := Lib.hid ht
                        clear R ht hbad
                        go_wp2_with fail
                        refine (take_ok' C.out m hn0 hn1).mono ?_
                        rintro e w3 ⟨v, rfl, o3, C3, g3⟩
                        have B3 := below_of_gb BR.out g3 BR.out.size hBw
                        have R3' := Lib.hid (rd_own o3)
                        have C3' := Lib.hid C3
                        have B3' := Lib.hid B3
                        have y2 := rd_at (rd_below V2.out B3) i he2
                        rw [← HM.out] at y2
                        have R2 := rd_cut (rd_below V.out B3) k (k + m.toNat) (by omega) (by omega)
                        rw [by8_cut, Nat.add_sub_cancel_left] at R2
                        rw [if_neg (show ¬ c = k from by omega)] at R2
                        have hl : ((l.drop k).take m.toNat).length = m.toNat := by simp; omega
                        have HP2 := Lib.hid R2
                        clear C3 g3 B3 o3 R2 x2 hl
                        go_wp2_with fail
                        refine (same_true _ _ _ _ ((l.drop k).take m.toNat) _ R3'.out (by rw [HT.out]; exact HP2.out) (fun x hx => G.out x (List.mem_of_mem_drop (List.mem_of_mem_take hx)))).mono ?_
                        rintro e w' ⟨rfl, rfl⟩
                        have hk2 := C3'.out.le
                        go_wp2_with fail
                        refine (at_any C3'.out).mono ?_
                        rintro e w' ⟨rfl, rfl⟩
                        try rw [show ((k + m.toNat : Nat) : Int) = (k : Int) + m from by omega]
                        go_wp2_with fail
                        refine (left_any C3'.out).mono ?_
                        rintro e w' ⟨rfl, nq, rfl⟩
                        try rw [show ((k + m.toNat : Nat) : Int) = (k : Int) + m from by omega]
                        go_wp2_with fail
                        go_roundw
                        case rel => exact ⟨k + m.toNat, i + 1, by first | rfl | (congr 1; omega), by go_num, by omega, by omega, by first | exact C3'.out.drewN _ | exact C.out.drewN _, by first | exact bd_of _ B3'.out | exact bd_of _ BR.out⟩
                        case measure => simp [intOf]; omega
              · have n5 : (q == 5) = false := beq_eq_false_iff_ne.2 q5
                by_cases hk1 : k < l.length
                all_goals
                  go_wp2_with fail
                  refine (end_any C.out).mono ?_
                  rintro e w3 ⟨rfl, nq0, rfl⟩
                  have C3' := Lib.hid (C.out.drewN nq0)
                  have B3' := Lib.hid (bd_of nq0 BR.out)
                  first
                  | rw [show endE k l.length = 5 from by unfold endE; rw [if_pos hk1]]
                  | rw [show endE k l.length = 0 from by unfold endE; rw [if_neg hk1]]
                  have hk2 := C3'.out.le
                  go_wp2_with fail
                  refine (at_any C3'.out).mono ?_
                  rintro e w' ⟨rfl, rfl⟩
                  go_wp2_with fail
                  refine (left_any C3'.out).mono ?_
                  rintro e w' ⟨rfl, nq, rfl⟩
                  go_wp2_with fail
                  go_roundw
                  case rel => exact ⟨k, i + 1, by first | rfl | (congr 1; omega), by go_num, by omega, by omega, by first | exact C3'.out.drewN _ | exact C.out.drewN _, by first | exact bd_of _ B3'.out | exact bd_of _ BR.out⟩
                  case measure => simp [intOf]; omega
    · have hend' : l1.length ≤ i ∨ (i < l1.length ∧ l2.length ≤ i) := by omega
      clear hend
      rcases hend' with hx | ⟨hy, hx⟩
      all_goals
        go_wp2_with fail
        refine (known_any _).mono ?_
        rintro e w9 ⟨rfl, b9⟩
        go_wp2
        go_ret
        exact ⟨rfl, bt BR.out b9⟩
end Go.Proofs.Ytngajmiakakakaa
