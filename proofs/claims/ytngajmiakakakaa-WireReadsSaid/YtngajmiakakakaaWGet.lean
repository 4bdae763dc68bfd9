/- The document's reading of a number: the law on what it computes, and its walk. -/
import Derived.Test.YtngajmiakakakaaWLaw3
namespace Go.Proofs.Ytngajmiakakakaa
open Go.RowKit

/-- how many of the first bytes are 128 or more, up to f -/
def cnt : Nat → List Int → Nat
  | 0, _ => 0
  | _ + 1, [] => 0
  | f + 1, x :: r => if 128 ≤ x then cnt f r + 1 else 0
/-- the number of a list of digits by 128, the least first -/
def hor : List Int → Int
  | [] => 0
  | x :: r => x % 128 + 128 * hor r

theorem cnt_le (f : Nat) : ∀ l, cnt f l ≤ f := by
  induction f with
  | zero => intro l; simp [cnt]
  | succ f ih =>
    intro l
    cases l with
    | nil => simp [cnt]
    | cons x r => have := ih r; simp only [cnt]; split <;> omega
theorem cnt_len (f : Nat) : ∀ l, cnt f l ≤ l.length := by
  induction f with
  | zero => intro l; simp [cnt]
  | succ f ih =>
    intro l
    cases l with
    | nil => simp [cnt]
    | cons x r => have := ih r; simp only [cnt, List.length_cons]; split <;> omega
theorem cnt_in (f : Nat) : ∀ l k, k < cnt f l → 128 ≤ l.getD k 0 := by
  induction f with
  | zero => intro l k h; simp [cnt] at h
  | succ f ih =>
    intro l k h
    cases l with
    | nil => simp [cnt] at h
    | cons x r =>
      simp only [cnt] at h
      split at h
      · cases k with
        | zero => simpa
        | succ k => have := ih r k (by omega); simpa using this
      · omega
theorem cnt_end (f : Nat) : ∀ l, cnt f l < f → cnt f l < l.length → l.getD (cnt f l) 0 < 128 := by
  induction f with
  | zero => intro l h; omega
  | succ f ih =>
    intro l h h2
    cases l with
    | nil => simp at h2
    | cons x r =>
      simp only [cnt, List.length_cons] at h h2 ⊢
      split
      · rename_i hx
        rw [if_pos hx] at h h2
        have := ih r (by omega) (by omega)
        simpa using this
      · simp; omega

theorem uv_cnt (f : Nat) : ∀ i l acc, (∀ x ∈ l, 0 ≤ x ∧ x < 256) → uv f i l acc =
    if cnt f l = f then (0, 0, 4) else if l.length ≤ cnt f l then (0, 0, 3)
    else if (l.getD (cnt f l) 0 = 0 ∧ 0 < i + cnt f l) ∨ (1 < l.getD (cnt f l) 0 ∧ i + cnt f l = 9) then (0, 0, 4)
    else (acc + hor (l.take (cnt f l + 1)) * 128 ^ i, i + cnt f l + 1, 0) := by
  induction f with
  | zero => intro i l acc _; simp [uv, cnt]
  | succ f ih =>
    intro i l acc hl
    cases l with
    | nil => simp [uv, cnt]
    | cons x r =>
      have hx := hl x (by simp)
      by_cases c : 128 ≤ x
      · have ec : cnt (f + 1) (x :: r) = cnt f r + 1 := by simp only [cnt]; rw [if_pos c]
        simp only [ec]
        show (if 128 ≤ x then uv f (i + 1) r (acc + (x - 128) * 128 ^ i) else _) = _
        rw [if_pos c, ih (i + 1) r _ (fun y hy => hl y (by simp [hy]))]
        have e3 : (x :: r).getD (cnt f r + 1) 0 = r.getD (cnt f r) 0 := by simp
        have e4 : i + 1 + cnt f r = i + (cnt f r + 1) := by omega
        have e5 : (x :: r).take (cnt f r + 1 + 1) = x :: r.take (cnt f r + 1) := rfl
        have e6 : x % 128 = x - 128 := by omega
        have e7 : acc + (x - 128) * 128 ^ i + hor (r.take (cnt f r + 1)) * 128 ^ (i + 1) = acc + (x % 128 + 128 * hor (r.take (cnt f r + 1))) * 128 ^ i := by
          rw [e6, Int.pow_succ, Int.add_mul, Int.add_assoc, Int.mul_comm (128 ^ i) 128, Int.mul_comm 128 (hor _), Int.mul_assoc]
        simp only [e3, e4, e5, hor, e7, List.length_cons]
        simp only [Nat.add_right_cancel_iff, Nat.add_le_add_iff_right]
      · have ec : cnt (f + 1) (x :: r) = 0 := by simp only [cnt]; rw [if_neg c]
        simp only [ec]
        show (if 128 ≤ x then uv f (i + 1) r (acc + (x - 128) * 128 ^ i) else if (x = 0 ∧ 0 < i) ∨ (1 < x ∧ i = 9) then (0, 0, 4) else (acc + x * 128 ^ i, i + 1, 0)) = _
        rw [if_neg c]
        have h1 : ¬ (0 = f + 1) := by omega
        have h2 : ¬ ((x :: r).length ≤ 0) := by simp
        have e6 : x % 128 = x := by omega
        simp only [List.getD_cons_zero, Nat.add_zero, Nat.zero_add, List.take_succ_cons, List.take_zero, hor, Int.mul_zero, Int.add_zero, e6, h1, h2, if_false]

theorem hor_rng : ∀ l : List Int, 0 ≤ hor l ∧ hor l < 128 ^ l.length := by
  intro l
  induction l with
  | nil => simp [hor]
  | cons x r ih =>
    simp only [hor, List.length_cons, Int.pow_succ]
    omega
theorem hor_step (l : List Int) (i : Nat) (h : i < l.length) : hor (l.drop i) = l.getD i 0 % 128 + 128 * hor (l.drop (i + 1)) := by
  rw [List.drop_eq_getElem_cons h, hor]
  simp [List.getD, List.getElem?_eq_getElem h]

theorem by8_get (l : List Int) (j : Nat) (hj : j < l.length) : (by8 l)[j]? = some (.int .u8 (l.getD j 0)) := by
  unfold by8
  rw [List.getElem?_map, List.getElem?_eq_getElem hj]
  simp [List.getD, List.getElem?_eq_getElem hj]
theorem hor_drop_le (l : List Int) (j : Nat) : hor (l.drop j) ≤ hor l := by
  induction l generalizing j with
  | nil => simp
  | cons x r ih =>
    cases j with
    | zero => simp
    | succ j =>
      have := ih j
      have := (hor_rng r).1
      simp only [List.drop_succ_cons, hor]
      omega
set_option maxHeartbeats 2000000 in
theorem get_any (w : World) (ao : Option Addr) (c : Nat) (l : List Int) (at_ : Nat) (h : Rd w (.slice ao l.length c) l.length (by8 l) 1) (hb : l.length ≤ 140737488355328) (hat : at_ ≤ l.length) (hr : ∀ x ∈ l, 0 ≤ x ∧ x < 256) (r1 : Int) (r2 : Nat) (r3 : Int) (hR : rdn (l.drop at_) = (r1, r2, r3)) :
    Calls Try.prog 25 #[.slice ao l.length c, .int .i64 at_] w fun e w' => e = .returned (.tuple #[.int .u64 r1, .int .i64 (at_ + r2 : Nat), .int .i64 r3]) ∧ w = w' := by
  obtain ⟨C, hC⟩ : ∃ C, C = cnt 10 (l.drop at_) := ⟨_, rfl⟩
  have hC10 : C ≤ 10 := by rw [hC]; exact cnt_le _ _
  have hCl : at_ + C ≤ l.length := by have := cnt_len 10 (l.drop at_); rw [hC]; simp at this; omega
  have hgd : ∀ j, (l.drop at_).getD j 0 = l.getD (at_ + j) 0 := fun j => by simp [List.getD, List.getElem?_drop]
  have hin : ∀ j, j < C → 128 ≤ l.getD (at_ + j) 0 := fun j hj => by rw [← hgd]; exact cnt_in 10 _ j (by rw [← hC]; exact hj)
  have hout : C < 10 → at_ + C < l.length → l.getD (at_ + C) 0 < 128 := fun h1 h2 => by rw [← hgd, hC]; exact cnt_end 10 _ (by rw [← hC]; exact h1) (by rw [← hC]; simp; omega)
  have huv := uv_cnt 10 0 (l.drop at_) 0 (fun x hx => hr x (List.mem_of_mem_drop hx))
  rw [show uv 10 0 (l.drop at_) 0 = rdn (l.drop at_) from rfl, hR, ← hC, hgd C, List.length_drop] at huv
  have hrr := rdn_rng (l.drop at_) (fun x hx => hr x (List.mem_of_mem_drop hx))
  rw [hR] at hrr
  have HRR := Lib.hid hrr
  clear hrr
  have hlc : l.length ≤ c := by obtain ⟨_, _, he, hh, _⟩ := h; cases he; exact hh
  -- the bytes' cells
  have hcell : l = [] ∨ ∃ b off, ao = some ⟨b, off, none⟩ ∧ ∀ j, j < l.length → w.cell? ⟨b, off + j, none⟩ = some (.int .u8 (l.getD j 0)) := by
    obtain ⟨ao', c', he, h1, h2, h3, h4⟩ := h
    cases he
    rcases l with _ | ⟨x, r⟩
    · exact .inl rfl
    · right
      cases ao with
      | none => have := h3 rfl; simp at hlc; omega
      | some ad =>
        have h0 := h4 ad rfl 0 (.int .u8 x) (by simp [by8])
        have hs : ad.spot = none := by
          by_cases h' : ad.spot = none
          · exact h'
          · simp [Addr.add, World.cell?] at h0
            split at h0
            · split at h0
              · simp at h0
              · rename_i hh; simp at hh; exact hh
            · simp at h0
        obtain ⟨b, off, sp⟩ := ad
        simp only at hs
        subst hs
        refine ⟨b, off, rfl, fun j hj => ?_⟩
        have := h4 _ rfl j (.int .u8 ((x :: r).getD j 0)) (by8_get _ j hj)
        rwa [Addr.add_lit] at this
  have HR := Lib.hid hR
  have HU := Lib.hid huv
  have HI := Lib.hid hin
  have HO := Lib.hid hout
  have HG := Lib.hid hr
  clear hR huv hin hout hr h hgd hC
  rcases hcell with rfl | ⟨b, off, rfl, hcell⟩
  · obtain rfl : at_ = 0 := by simpa using hat
    obtain rfl : C = 0 := by simpa using hCl
    have hu := HU.out
    simp at hu
    obtain ⟨rfl, rfl, rfl⟩ := hu
    clear hlc hat hb hCl hC10
    go_enter Try.func25, Try.ntmps25
    go_wp2_with fail
    refine wp_loop_rounds 1 ?_
    rw [rounds_succ]
    go_wp2
    go_ret3
    exact ⟨rfl, rfl⟩
  · have HCL := Lib.hid hcell
    clear hcell
    go_enter Try.func25, Try.ntmps25
    go_wp2_with fail
    go_loop [7] (fun x => ∃ k : Nat, x = .int .i64 k ∧ k ≤ C) (fun x => C - (intOf x).toNat)
    case atStart => exact ⟨0, rfl, Nat.zero_le _⟩
    case round =>
      obtain ⟨k, rfl, hk⟩ := hrel
      by_cases hkC : k < C
      · have hb1 := HI.out k hkC
        have hx := HCL.out (at_ + k) (by omega)
        obtain ⟨x, hxx⟩ : ∃ x, x = l.getD (at_ + k) 0 := ⟨_, rfl⟩
        rw [← hxx] at hb1 hx
        clear hxx
        go_wp2_with fail
        go_round
        case rel => exact ⟨k + 1, by go_num, hkC⟩
        case measure => simp [intOf]; omega
      · obtain rfl : k = C := by omega
        clear hkC hk
        have hu := HU.out
        by_cases h10 : k = 10
        · rw [if_pos h10] at hu
          simp only [Prod.mk.injEq] at hu
          obtain ⟨rfl, rfl, rfl⟩ := hu
          have e10 : ((k : Int) == 10) = true := beq_iff_eq.2 (by omega)
          have h10' : ¬ ((k : Int) < 10) := by omega
          clear h10
          go_wp2
          go_ret3
          exact ⟨rfl, rfl⟩
        · rw [if_neg h10] at hu
          have e10 : ((k : Int) == 10) = false := beq_eq_false_iff_ne.2 (by omega)
          have h10' : k < 10 := by omega
          clear h10
          by_cases hend : l.length - at_ ≤ k
          · rw [if_pos hend] at hu
            simp only [Prod.mk.injEq] at hu
            obtain ⟨rfl, rfl, rfl⟩ := hu
            go_wp2
            go_ret3
            exact ⟨rfl, rfl⟩
          · rw [if_neg hend] at hu
            have hlt : at_ + k < l.length := by omega
            have hx := HCL.out (at_ + k) hlt
            have hx1 := HO.out h10' hlt
            have hx0 : 0 ≤ l.getD (at_ + k) 0 := (HG.out _ (by simp [List.getD, List.getElem?_eq_getElem hlt])).1
            have hxl : at_ + (k + 1) ≤ l.length := by omega
            obtain ⟨T, hT⟩ : ∃ T, T = (l.drop at_).take (k + 1) := ⟨_, rfl⟩
            rw [← hT] at hu
            have hTl : T.length = k + 1 := by rw [hT]; simp; omega
            have hTg : ∀ j, j < k + 1 → T.getD j 0 = l.getD (at_ + j) 0 := fun j hj => by rw [hT]; simp [List.getD, hj, List.getElem?_drop]
            obtain ⟨x, hxx⟩ : ∃ x, x = l.getD (at_ + k) 0 := ⟨_, rfl⟩
            rw [← hxx] at hx hx1 hx0 hu
            have HTG := Lib.hid hTg
            have HTL := Lib.hid hTl
            clear hxx hT hTg hTl hend
            by_cases hbad : (x = 0 ∧ 0 < 0 + k) ∨ (1 < x ∧ 0 + k = 9)
            · rw [if_pos hbad] at hu
              simp only [Prod.mk.injEq] at hu
              obtain ⟨rfl, rfl, rfl⟩ := hu
              have h4 : ((x == 0) = true ∧ 0 < k) ∨ ((x == 0) = false ∧ 1 < x ∧ ((k : Int) == 9) = true) := by
                rcases hbad with ⟨h, h'⟩ | ⟨h, h'⟩
                · exact .inl ⟨beq_iff_eq.2 h, by omega⟩
                · exact .inr ⟨beq_eq_false_iff_ne.2 (by omega), h, beq_iff_eq.2 (by omega)⟩
              clear hbad
              rcases h4 with ⟨t1, t2⟩ | ⟨t1, t2, t3⟩
              all_goals
                go_wp2
                go_ret3
                exact ⟨rfl, rfl⟩
            · rw [if_neg hbad] at hu
              simp only [Prod.mk.injEq, Int.pow_zero, Int.mul_one, Int.zero_add] at hu
              obtain ⟨hu1, rfl, rfl⟩ := hu
              have h4 : ((x == 0) = true ∧ k ≤ 0 ∧ ¬ 1 < x ∧ ((k : Int) == 9) = false) ∨ ((x == 0) = false ∧ ¬ 1 < x ∧ ((k : Int) == 9) = true) ∨ ((x == 0) = false ∧ ((k : Int) == 9) = false) := by
                by_cases h0 : x = 0
                · exact .inl ⟨beq_iff_eq.2 h0, by omega, by omega, beq_eq_false_iff_ne.2 (by omega)⟩
                · by_cases h1 : k = 9
                  · exact .inr (.inl ⟨beq_eq_false_iff_ne.2 h0, by omega, beq_iff_eq.2 (by omega)⟩)
                  · exact .inr (.inr ⟨beq_eq_false_iff_ne.2 h0, beq_eq_false_iff_ne.2 (by omega)⟩)
              clear hbad
              have HU1 := Lib.hid hu1
              clear hu1
              rcases h4 with ⟨t1, t2, t3, t4⟩ | ⟨t1, t2, t3⟩ | ⟨t1, t2⟩
              all_goals
                go_wp2_with fail
                go_loop [8, 9] (fun y z => ∃ j : Nat, z = .int .i64 ((j : Int) - 1) ∧ j ≤ k + 1 ∧ y = .int .u64 (hor (T.drop j))) (fun _ z => (intOf z + 1).toNat)
                case atStart => exact ⟨k + 1, by congr 1; omega, Nat.le_refl _, by rw [List.drop_of_length_le (by rw [HTL.out]; exact Nat.le_refl _)]; rfl⟩
                case round =>
                  obtain ⟨j, rfl, hj, rfl⟩ := hrel
                  by_cases hj0 : j = 0
                  · subst hj0
                    go_wp2
                    go_ret3
                    exact ⟨by rw [HU1.out]; simp; omega, rfl⟩
                  · obtain ⟨i, rfl⟩ : ∃ i, j = i + 1 := ⟨j - 1, by omega⟩
                    have hs := hor_step T i (by rw [HTL.out]; omega)
                    have hle := hor_drop_le T i
                    have hn0 := (hor_rng (T.drop (i + 1))).1
                    have hx := HCL.out (at_ + i) (by omega)
                    rw [HTG.out i (by omega)] at hs
                    have hy0 := HG.out (l.getD (at_ + i) 0) (by simp [List.getD, List.getElem?_eq_getElem (show at_ + i < l.length by omega)])
                    have hr1 := HRR.out.2
                    rw [HU1.out] at hr1
                    obtain ⟨y, hyy⟩ : ∃ y, y = l.getD (at_ + i) 0 := ⟨_, rfl⟩
                    rw [← hyy] at hs hx hy0
                    obtain ⟨M, hM⟩ : ∃ M, M = hor (T.drop (i + 1)) := ⟨_, rfl⟩
                    rw [← hM] at hs hn0 ⊢
                    have hm1 : 128 * M ≤ 18446744073709551615 := by omega
                    have hm2 : 128 * M + y % 128 ≤ 18446744073709551615 := by omega
                    obtain ⟨hy0, hy1⟩ := hy0
                    have HS := Lib.hid hs
                    clear hyy hM hs hle hr1 hj0
                    go_wp2_with fail
                    go_round
                    case rel => exact ⟨i, by first | rfl | (congr 1; omega), by omega, by rw [HS.out]; first | rfl | (congr 1; omega)⟩
                    case measure => simp [intOf]

set_option maxHeartbeats 400000 in
theorem unsigned_any (n : Int) (w : World) (h0 : 0 ≤ n) (h1 : n < 18446744073709551616) :
    Calls Try.prog 26 #[.int .u64 n] w fun e w' => e = .returned (.int .i64 (uz n)) ∧ w = w' := by
  have h2 : n / 2 ≤ 9223372036854775807 := by omega
  have h3 : 0 ≤ n / 2 := by omega
  by_cases hn : n % 2 = 1
  · have hb : (n % 2 == 1) = true := beq_iff_eq.2 hn
    have HN := Lib.hid hn
    clear hn
    go_enter Try.func26, Try.ntmps26
    go_wp2
    go_ret
    exact ⟨by unfold uz; rw [if_neg (by have := HN.out; omega)]; rfl, rfl⟩
  · have hb : (n % 2 == 1) = false := beq_eq_false_iff_ne.2 hn
    have HN := Lib.hid hn
    clear hn
    go_enter Try.func26, Try.ntmps26
    go_wp2
    go_ret
    exact ⟨by unfold uz; rw [if_pos (by have := HN.out; omega)]; rfl, rfl⟩

/-- what the document's Block ends in -/
def RBl (w : World) (at_ : Nat) (b1 : List Int) (b2 : Nat) (b3 : Int) (e : Ending) (w' : World) : Prop :=
  ∃ v n2, e = .returned (.tuple #[v, .int .i64 n2, .int .i64 b3]) ∧ n2 = (at_ + b2 : Nat) ∧ Rd w v b1.length (by8 b1) 1 ∧ w = w'
set_option maxHeartbeats 1000000 in
theorem rblock_any (w : World) (ao : Option Addr) (c : Nat) (l : List Int) (at_ : Nat) (most : Int) (h : Rd w (.slice ao l.length c) l.length (by8 l) 1) (hb : l.length ≤ 140737488355328) (hat : at_ ≤ l.length) (hr : ∀ x ∈ l, 0 ≤ x ∧ x < 256)
    (hm0 : -9223372036854775808 ≤ most) (hm1 : most ≤ 9223372036854775807) (b1 : List Int) (b2 : Nat) (b3 : Int) (hR : blk (l.drop at_) most = (b1, b2, b3)) :
    Calls Try.prog 28 #[.slice ao l.length c, .int .i64 at_, .int .i64 most] w (RBl w at_ b1 b2 b3) := by
  obtain ⟨r1, r2, r3, hrd⟩ : ∃ r1 r2 r3, rdn (l.drop at_) = (r1, r2, r3) := ⟨_, _, _, rfl⟩
  have hrr := rdn_rng (l.drop at_) (fun x hx => hr x (List.mem_of_mem_drop hx))
  rw [hrd] at hrr
  obtain ⟨hr0, hr1⟩ := hrr
  simp only at hr0 hr1
  have hlc : l.length ≤ c := by obtain ⟨_, _, he, hh, _⟩ := h; cases he; exact hh
  have HV := Lib.hid h
  have HG := Lib.hid hr
  have HB := Lib.hid hR
  have HR := Lib.hid hrd
  have hr2 : at_ + r2 ≤ l.length := by
    by_cases h3 : r3 = 0
    · have e := HR.out
      obtain ⟨m, -, -, g2, g3, -⟩ := uv_enc 10 0 (l.drop at_) 0 rfl (fun x hx => hr x (List.mem_of_mem_drop hx)) (by decide) (by decide) (by unfold rdn at e; rw [e]; exact h3)
      unfold rdn at e
      rw [e] at g2
      have := congrArg List.length g3
      rw [List.length_take, List.length_drop] at this
      simp only at g2
      omega
    · have := uv_err 10 0 (l.drop at_) 0 (by have e := HR.out; unfold rdn at e; rw [e]; exact h3)
      have e := HR.out
      unfold rdn at e
      rw [e] at this
      simp only at this
      omega
  clear h hr hR hrd
  have hb' := HB.out
  unfold blk at hb'
  rw [HR.out] at hb'
  by_cases h3 : r3 = 0
  · subst h3
    simp only [ne_eq, not_true, if_false] at hb'
    have hm63 : r1 ≤ 9223372036854775807 ∨ 9223372036854775807 < r1 := by omega
    by_cases hmx : max most 0 < r1
    · rw [if_pos hmx] at hb'
      simp only [Prod.mk.injEq] at hb'
      obtain ⟨rfl, rfl, rfl⟩ := hb'
      have hr1p : 0 < r1 := by omega
      by_cases hmn : most < 0
      all_goals
        have hmr : most < r1 := by omega
        clear hmx hm63
        go_enter Try.func28, Try.ntmps28
        go_wp2_with fail
        refine (get_any w ao c l at_ HV.out hb hat HG.out r1 r2 0 HR.out).mono ?_
        rintro e w' ⟨rfl, rfl⟩
        go_wp2
        go_ret3
        exact ⟨_, _, rfl, by omega, rd_nil _ _, rfl⟩
    · rw [if_neg hmx] at hb'
      have hr63 : r1 ≤ 9223372036854775807 := by omega
      have hcase : r1 ≤ 0 ∨ (0 < r1 ∧ ¬ most < 0 ∧ r1 ≤ most) := by omega
      by_cases hsh : (((l.drop at_).length : Nat) : Int) - r2 < r1
      · rw [if_pos hsh] at hb'
        simp only [Prod.mk.injEq] at hb'
        obtain ⟨rfl, rfl, rfl⟩ := hb'
        have hsh' : (l.length : Int) - ((at_ : Int) + r2) < r1 := by simp at hsh; omega
        have hp : 0 < r1 := by omega
        have hcase' : ¬ most < 0 ∧ r1 ≤ most := by omega
        obtain ⟨q1, q2⟩ := hcase'
        have hlo : 0 ≤ (l.length : Int) - ((at_ : Int) + r2) := by omega
        clear hsh hmx hm63 hcase
        go_enter Try.func28, Try.ntmps28
        go_wp2_with fail
        refine (get_any w ao c l at_ HV.out hb hat HG.out r1 r2 0 HR.out).mono ?_
        rintro e w' ⟨rfl, rfl⟩
        go_wp2
        go_ret3
        exact ⟨_, _, rfl, by omega, rd_nil _ _, rfl⟩
      · rw [if_neg hsh] at hb'
        simp only [Prod.mk.injEq] at hb'
        obtain ⟨hb1, rfl, rfl⟩ := hb'
        have hsh' : r1 ≤ (l.length : Int) - ((at_ : Int) + r2) := by simp at hsh; omega
        have R := rd_cut HV.out (at_ + r2) (at_ + r2 + r1.toNat) (by omega) (by omega)
        rw [Nat.add_sub_cancel_left, by8_cut, ← List.drop_drop, hb1] at R
        have hl : b1.length = r1.toNat := by rw [← hb1]; simp; omega
        have ht : ((at_ : Int) + r2 + r1).toNat - (at_ + r2) = r1.toNat := by omega
        rw [← ht] at R hl
        have HLL := Lib.hid hl
        clear hsh hmx hm63 hb1 hl ht HB
        by_cases hck : c = at_ + r2
        · subst hck
          rw [if_pos rfl, Nat.sub_self] at R
          have R' := Lib.hid R
          clear R
          have hc0 : r1 ≤ 0 := by omega
          clear hcase
          all_goals
            go_enter Try.func28, Try.ntmps28
            go_wp2_with fail
            refine (get_any w ao _ l at_ HV.out hb hat HG.out r1 r2 0 HR.out).mono ?_
            rintro e w' ⟨rfl, rfl⟩
            go_wp2
            go_ret3
            exact ⟨_, _, rfl, by omega, by rw [HLL.out]; exact R'.out, rfl⟩
        · rw [if_neg hck] at R
          have R' := Lib.hid R
          clear R
          rcases hcase with hc0 | ⟨hc0, q1, q2⟩
          all_goals
            go_enter Try.func28, Try.ntmps28
            go_wp2_with fail
            refine (get_any w ao _ l at_ HV.out hb hat HG.out r1 r2 0 HR.out).mono ?_
            rintro e w' ⟨rfl, rfl⟩
            go_wp2
            go_ret3
            exact ⟨_, _, rfl, by omega, by rw [HLL.out]; exact R'.out, rfl⟩
  · have e3 : (r3 != 0) = true := by simp [h3]
    simp only [ne_eq, h3, not_false_eq_true, if_true, Prod.mk.injEq] at hb'
    obtain ⟨rfl, rfl, rfl⟩ := hb'
    clear h3
    go_enter Try.func28, Try.ntmps28
    go_wp2_with fail
    refine (get_any w ao c l at_ HV.out hb hat HG.out r1 r2 r3 HR.out).mono ?_
    rintro e w' ⟨rfl, rfl⟩
    go_wp2
    go_ret3
    exact ⟨_, _, rfl, by omega, rd_nil _ _, rfl⟩
end Go.Proofs.Ytngajmiakakakaa
