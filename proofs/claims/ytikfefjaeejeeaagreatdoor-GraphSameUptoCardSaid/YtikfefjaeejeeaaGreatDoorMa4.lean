/- Walks and laws, laid together: GMath2 WdD WdE KDiv WaB WdF WdG. -/
import Derived.Test.YtikfefjaeejeeaaGreatDoorMa3
import Derived.Test.YtikfefjaeejeeaaGreatDoorAeU
import Derived.Test.YtikfefjaeejeeaaGreatDoorShelf
import Derived.Lib.ItoaNum
/- Limbs: shifts, digit by digit. Plain Lean, no program. -/
namespace Go.Proofs.YtikfefjaeejeeaaGreatDoor

def lm (l : List Int) (i : Int) : Int := if 0 ≤ i ∧ i < l.length then l.getD i.toNat 0 else 0
theorem lm_range {l : List Int} (h : Dig l) (i : Int) : 0 ≤ lm l i ∧ lm l i < 4294967296 := by
  unfold lm
  split
  · exact h.getD _
  · omega
def tot (f : Nat → Int) : Nat → Nat
  | 0 => 0
  | n + 1 => tot f n + (f n).toNat * 4294967296 ^ n
def shlD (x y : Int) (n : Nat) : Int := (x * 4294967296 + y) * 2 ^ n / 4294967296 % 4294967296
theorem shl_digit (a b m d M : Nat) (hmd : m * d = M) (hM : 0 < M) (hb : b < M) : (a * M + b) * m / M % M = a % d * m + b / d := by
  have hm : 0 < m := by rcases Nat.eq_zero_or_pos m with h | h; (subst h; omega); exact h
  have hd : 0 < d := by rcases Nat.eq_zero_or_pos d with h | h; (subst h; omega); exact h
  have e1 : (a * M + b) * m = b * m + a * m * M := by
    rw [Nat.add_mul, Nat.mul_right_comm]; omega
  have e2 : b * m / M = b / d := by rw [← hmd, Nat.mul_comm b m]; exact Nat.mul_div_mul_left _ _ hm
  rw [e1, Nat.add_mul_div_right _ _ hM, e2]
  have e3 : a * m = a % d * m + a / d * M := by
    have h := Nat.mod_add_div a d
    have h2 : (a % d + d * (a / d)) * m = a * m := by rw [h]
    rw [Nat.add_mul] at h2
    have h3 : d * (a / d) * m = a / d * M := by rw [← hmd, Nat.mul_comm d, Nat.mul_assoc, Nat.mul_comm d m]
    omega
  rw [e3, ← Nat.add_assoc, Nat.add_mul_mod_self_right]
  have h4 : b / d < m := by rw [Nat.div_lt_iff_lt_mul hd, hmd]; exact hb
  have h5 : a % d + 1 ≤ d := Nat.mod_lt _ hd
  have h6 : (a % d + 1) * m ≤ d * m := Nat.mul_le_mul_right _ h5
  rw [Nat.mul_comm d m, hmd, Nat.add_mul] at h6
  rw [Nat.mod_eq_of_lt (by omega)]
  omega
theorem val_take_succ (l : List Int) (k : Nat) : val (l.take (k + 1)) = val (l.take k) + 4294967296 ^ k * (lm l (k : Int)).toNat := by
  by_cases h : k < l.length
  · rw [List.take_add_one, List.getElem?_eq_getElem h]
    show val (l.take k ++ [l[k]]) = _
    rw [val_snoc, List.length_take, Nat.min_eq_left (by omega)]
    unfold lm
    rw [if_pos ⟨by omega, by omega⟩]
    simp [h]
  · unfold lm
    rw [if_neg (by omega), List.take_of_length_le (by omega), List.take_of_length_le (by omega)]
    simp
theorem tot_shl (l : List Int) (hd : Dig l) (m d : Nat) (hmd : m * d = 4294967296) :
    ∀ k : Nat, tot (fun i => (lm l i * 4294967296 + lm l ((i : Int) - 1)) * (m : Int) / 4294967296 % 4294967296) k + (lm l ((k : Int) - 1)).toNat / d * 4294967296 ^ k = val (l.take k) * m := by
  intro k
  induction k with
  | zero =>
    have : lm l (((0 : Nat) : Int) - 1) = 0 := by unfold lm; rw [if_neg (by omega)]
    rw [this]
    simp [tot, val]
  | succ k ih =>
    rw [val_take_succ, tot]
    have hk : ((k + 1 : Nat) : Int) - 1 = k := by omega
    rw [hk]
    have ha := lm_range hd (k : Int)
    have hb := lm_range hd ((k : Int) - 1)
    generalize lm l ((k : Int) - 1) = y at *
    generalize lm l (k : Int) = x at *
    generalize tot _ k = t at *
    generalize val (l.take k) = v at *
    obtain ⟨a, rfl⟩ : ∃ a : Nat, x = a := ⟨x.toNat, by omega⟩
    obtain ⟨b, rfl⟩ : ∃ b : Nat, y = b := ⟨y.toNat, by omega⟩
    have hdg := shl_digit a b m d 4294967296 hmd (by omega) (by omega)
    have e : ((a : Int) * 4294967296 + b) * m / 4294967296 % 4294967296 = (((a * 4294967296 + b) * m / 4294967296 % 4294967296 : Nat) : Int) := by rw [Int.natCast_emod, Int.natCast_ediv, Int.natCast_mul, Int.natCast_add, Int.natCast_mul]; rfl
    rw [e, hdg]
    simp only [Int.toNat_natCast] at *
    rw [Nat.pow_succ]
    generalize 4294967296 ^ k = P at *
    have h := Nat.mod_add_div a d
    have h2 : (a % d + d * (a / d)) * m * P = a * m * P := by rw [h]
    have h3 : d * (a / d) * m * P = a / d * (P * 4294967296) := by
      rw [← hmd, Nat.mul_comm d, Nat.mul_assoc, Nat.mul_assoc, Nat.mul_comm P, Nat.mul_comm m d, Nat.mul_assoc]
    rw [Nat.add_mul, Nat.add_mul] at h2
    rw [Nat.add_mul, Nat.add_mul]
    have h4 : P * a * m = a * m * P := by rw [Nat.mul_assoc, Nat.mul_comm]
    omega
theorem tot_shl_all (l : List Int) (hd : Dig l) (n : Nat) (hn : n < 32) : tot (fun i => shlD (lm l i) (lm l ((i : Int) - 1)) n) (l.length + 1) = val l * 2 ^ n := by
  have hmd : 2 ^ n * 2 ^ (32 - n) = 4294967296 := by
    rw [← Nat.pow_add, show n + (32 - n) = 32 by omega]
  have h := tot_shl l hd (2 ^ n) (2 ^ (32 - n)) hmd (l.length + 1)
  have h0 : lm l (((l.length + 1 : Nat) : Int) - 1) = 0 := by unfold lm; rw [if_neg (by omega)]
  rw [h0, List.take_of_length_le (by omega)] at h
  simp only [Int.toNat_zero, Nat.zero_div, Nat.zero_mul, Nat.add_zero] at h
  rw [← h]
  unfold shlD
  simp
def shrD (x y : Int) (n : Nat) : Int := (x * 4294967296 + y) / 2 ^ n % 4294967296
theorem shr_digit (a b m d M : Nat) (hmd : m * d = M) (hM : 0 < M) (hb : b < M) : (a * M + b) / m % M = a % m * d + b / m := by
  have hm : 0 < m := by rcases Nat.eq_zero_or_pos m with h | h; (subst h; omega); exact h
  have hd : 0 < d := by rcases Nat.eq_zero_or_pos d with h | h; (subst h; omega); exact h
  have e1 : (a * M + b) / m = b / m + a * d := by
    rw [← hmd, Nat.add_comm, show a * (m * d) = a * d * m by rw [Nat.mul_comm m d, Nat.mul_assoc], Nat.add_mul_div_right _ _ hm]
  have e3 : a * d = a % m * d + a / m * M := by
    have h := Nat.mod_add_div a m
    have h2 : (a % m + m * (a / m)) * d = a * d := by rw [h]
    rw [Nat.add_mul] at h2
    have h3 : m * (a / m) * d = a / m * M := by rw [← hmd, Nat.mul_comm m, Nat.mul_assoc]
    omega
  rw [e1, e3, ← Nat.add_assoc, Nat.add_mul_mod_self_right]
  have h4 : b / m < d := by rw [Nat.div_lt_iff_lt_mul hm, Nat.mul_comm, hmd]; exact hb
  have h5 : a % m + 1 ≤ m := Nat.mod_lt _ hm
  have h6 : (a % m + 1) * d ≤ m * d := Nat.mul_le_mul_right _ h5
  rw [hmd, Nat.add_mul] at h6
  rw [Nat.mod_eq_of_lt (by omega)]
  omega
theorem tot_shr (l : List Int) (hd : Dig l) (m d : Nat) (hmd : m * d = 4294967296) :
    ∀ k : Nat, tot (fun i => (lm l ((i : Int) + 1) * 4294967296 + lm l i) / (m : Int) % 4294967296) (k + 1) = val (l.take (k + 1)) / m + (lm l ((k : Int) + 1)).toNat % m * d * 4294967296 ^ k := by
  have hm : 0 < m := by rcases Nat.eq_zero_or_pos m with h | h; (subst h; omega); exact h
  have dig : ∀ k : Nat, ((lm l ((k : Int) + 1) * 4294967296 + lm l k) / (m : Int) % 4294967296).toNat = (lm l ((k : Int) + 1)).toNat % m * d + (lm l k).toNat / m := by
    intro k
    have ha := lm_range hd ((k : Int) + 1)
    have hb := lm_range hd (k : Int)
    generalize lm l (k : Int) = y at *
    generalize lm l ((k : Int) + 1) = x at *
    obtain ⟨a, rfl⟩ : ∃ a : Nat, x = a := ⟨x.toNat, by omega⟩
    obtain ⟨b, rfl⟩ : ∃ b : Nat, y = b := ⟨y.toNat, by omega⟩
    have hdg := shr_digit a b m d 4294967296 hmd (by omega) (by omega)
    have e : ((a : Int) * 4294967296 + b) / m % 4294967296 = (((a * 4294967296 + b) / m % 4294967296 : Nat) : Int) := by rw [Int.natCast_emod, Int.natCast_ediv, Int.natCast_add, Int.natCast_mul]; rfl
    rw [e, hdg]
    simp only [Int.toNat_natCast]
  intro k
  induction k with
  | zero =>
    have h1 := dig 0
    simp only [tot]
    rw [h1, val_take_succ]
    simp [val]
    omega
  | succ k ih =>
    rw [tot, ih, dig (k + 1), val_take_succ l (k + 1)]
    have hk : ((k + 1 : Nat) : Int) = (k : Int) + 1 := by omega
    rw [hk]
    generalize (lm l ((k : Int) + 1)).toNat = a
    generalize (lm l ((k : Int) + 1 + 1)).toNat = z
    generalize val (l.take (k + 1)) = v
    rw [Nat.pow_succ]
    generalize 4294967296 ^ k = P
    have e1 : (v + P * 4294967296 * a) / m = v / m + P * d * a := by
      rw [← hmd, show P * (m * d) * a = P * d * a * m by rw [Nat.mul_comm m d, ← Nat.mul_assoc, Nat.mul_right_comm], Nat.add_mul_div_right _ _ hm]
    rw [e1]
    have h := Nat.mod_add_div a m
    have h2 : (a % m + m * (a / m)) * d * P = a * d * P := by rw [h]
    have h3 : m * (a / m) * d * P = a / m * (P * 4294967296) := by
      rw [← hmd, Nat.mul_comm m, Nat.mul_assoc, Nat.mul_assoc, Nat.mul_comm P, Nat.mul_assoc m d P]
    rw [Nat.add_mul, Nat.add_mul] at h2
    rw [Nat.add_mul]
    have h4 : P * d * a = a * d * P := by rw [Nat.mul_comm P d, Nat.mul_comm, Nat.mul_assoc]
    omega
theorem tot_shr_all (l : List Int) (hd : Dig l) (n : Nat) (hn : n < 32) (h0 : 0 < l.length) : tot (fun i => shrD (lm l ((i : Int) + 1)) (lm l i) n) l.length = val l / 2 ^ n := by
  have hmd : 2 ^ n * 2 ^ (32 - n) = 4294967296 := by
    rw [← Nat.pow_add, show n + (32 - n) = 32 by omega]
  have h := tot_shr l hd (2 ^ n) (2 ^ (32 - n)) hmd (l.length - 1)
  rw [show l.length - 1 + 1 = l.length by omega, List.take_of_length_le (Nat.le_refl _)] at h
  have h1 : lm l (((l.length - 1 : Nat) : Int) + 1) = 0 := by unfold lm; rw [if_neg (by omega)]
  rw [h1] at h
  simp only [Int.toNat_zero, Nat.zero_mod, Nat.zero_mul, Nat.add_zero] at h
  rw [← h]
  unfold shrD
  simp
def digL (f : Nat → Int) (k : Nat) : List Int := (List.range k).map f
theorem digL_len (f : Nat → Int) (k : Nat) : (digL f k).length = k := by simp [digL]
theorem digL_succ (f : Nat → Int) (k : Nat) : digL f (k + 1) = digL f k ++ [f k] := by simp [digL, List.range_succ]
theorem digL_dig {f : Nat → Int} (h : ∀ i, 0 ≤ f i ∧ f i < 4294967296) (k : Nat) : Dig (digL f k) := fun x hx => by
  simp only [digL, List.mem_map] at hx
  obtain ⟨i, _, rfl⟩ := hx
  exact h i
theorem digL_val (f : Nat → Int) : ∀ k, val (digL f k) = tot f k
  | 0 => rfl
  | k + 1 => by rw [digL_succ, val_snoc, digL_val f k, digL_len, tot, Nat.mul_comm]
theorem digL_limbs {f : Nat → Int} (h : ∀ i, 0 ≤ f i ∧ f i < 4294967296) (k : Nat) : trimmed (digL f k) = limbs (tot f k) := by rw [← limbs_val (digL_dig h k), digL_val]
end Go.Proofs.YtikfefjaeejeeaaGreatDoor
/- Walks: shifts up. -/
namespace Go.Proofs.YtikfefjaeejeeaaGreatDoor
open Go.RowKit
set_option maxRecDepth 100000
theorem limb_neg (a : List Int) (i : Int) (hi : i < 0) : Pure Tryz.prog 154 [natL a, intP i] (.ret (.v (.int .u64 0))) := by
  refine pure_eq (prun [] [(9, .b true)] (e := AEnd.ret (PD.v (Value.int IntKind.u64 0))) (.c (dT hi) .n) (by kernel_rfl)) ?_
  rfl
theorem limbI (a : List Int) (hd : Dig a) (i : Int) (hl : a.length ≤ 9223372036854775807) (hi : i ≤ 9223372036854775807) : Pure Tryz.prog 154 [natL a, intP i] (.ret (.v (.int .u64 (lm a i)))) := by
  by_cases h : i < 0
  · have e : lm a i = 0 := by unfold lm; rw [if_neg (by omega)]
    rw [e]; exact limb_neg a i h
  · obtain ⟨j, rfl⟩ := Int.eq_ofNat_of_zero_le (show 0 ≤ i by omega)
    have e : lm a (j : Int) = limbM a j := by
      unfold lm limbM
      by_cases hj : j < a.length
      · rw [if_pos ⟨by omega, by omega⟩, List.getElem?_eq_getElem hj]
        have hx := hd a[j] (List.getElem_mem hj)
        simp only [Int.toNat_natCast, List.getD, List.getElem?_eq_getElem hj, Option.getD_some]
        exact (wrapu64_id hx.1 (by omega)).symm
      · rw [if_neg (by omega), List.getElem?_eq_none (by omega)]
    rw [e]; exact limb_pure a j hl (by omega)
def sD (l : List Int) (n : Nat) : Nat → Int := fun i => shlD (lm l i) (lm l ((i : Int) - 1)) n
theorem sD_dig (l : List Int) (n i : Nat) : 0 ≤ sD l n i ∧ sD l n i < 4294967296 := ⟨Int.emod_nonneg _ (by decide), Int.emod_lt_of_pos _ (by decide)⟩
def gaS (c1 c2 : Box) (fn : FuncId) (f : Nat → Int) (N k : Nat) : St := ⟨mkT 31 [(0, .p (intP N)), (1, .fn fn [.loc 1 0, .loc 0 0]), (5, .loc 2 0), (6, .loc 3 0), (7, .fn 215 [.loc 2 0, .loc 3 0]), (10, .p (intP N)), (11, .p (intP k))], ⟨[c1, c2, ⟨82, [rowC k (nums .u32 (digL f k))], false⟩, ⟨183, [.p (.v (.int .u64 0))], false⟩], tokC 86 1 k, []⟩⟩
set_option maxHeartbeats 4000000 in
theorem shl_loop (l : List Int) (n : Nat) (hd : Dig l) (hl : l.length ≤ 1073741824) (hn : n < 32) : LoopOK Tryz.prog (loopB Tryz.prog 187 0) (gaS ⟨82, [.p (natL l)], false⟩ ⟨3, [.p (intP n)], false⟩ 233 (sD l n) (l.length + 1) 0) (.exit 0) ⟨mkT 31 [(5, .loc 2 0), (6, .loc 3 0), (7, .fn 215 [.loc 2 0, .loc 3 0])], ⟨[⟨82, [.p (natL l)], false⟩, ⟨3, [.p (intP n)], false⟩, ⟨82, [rowC (l.length + 1) (nums .u32 (digL (sD l n) (l.length + 1)))], false⟩, ⟨183, [.p (.v (.int .u64 0))], false⟩], tokC 86 1 (l.length + 1), []⟩⟩ := by
  refine loop_ix [0, 1, 5, 6, 7, 10, 11] (gaS ⟨82, [.p (natL l)], false⟩ ⟨3, [.p (intP n)], false⟩ 233 (sD l n) (l.length + 1)) (l.length + 1) (fun _ => True) trivial (fun _ => rfl) ?_
  intro k hk _ ro K Q hQ hK
  by_cases hlt : k < l.length + 1
  · have hw := wrap64_succ (k := k) (by omega)
    obtain ⟨x0, x1⟩ := lm_range hd (k : Int)
    obtain ⟨y0, y1⟩ := lm_range hd ((k : Int) - 1)
    obtain ⟨D0, D1⟩ := sD_dig l n k
    have hD : sD l n k = (lm l (k : Int) * 4294967296 + lm l ((k : Int) - 1)) * 2 ^ n / 4294967296 % 4294967296 := rfl
    have c1 := limbI l hd (k : Int) (by omega) (by omega)
    have c2 := limbI l hd ((k : Int) - 1) (by omega) (by omega)
    generalize lm l (k : Int) = x at *
    generalize lm l ((k : Int) - 1) = y at *
    have rwq : IntKind.i64.wrap ((n : Int).tdiv 32) = 0 := by rw [Int.tdiv_eq_ediv_of_nonneg (by omega), Int.ediv_eq_zero_of_lt (by omega) (by omega)]; rfl
    have rwr : (n : Int).tmod 32 = (n : Int) := by rw [Int.tmod_eq_emod_of_nonneg (by omega)]; exact Int.emod_eq_of_lt (by omega) (by omega)
    have rwk : IntKind.i64.wrap ((k : Int) - 0) = (k : Int) := wrap64_id (by omega) (by omega)
    have rwk1 : IntKind.i64.wrap ((k : Int) - 1) = (k : Int) - 1 := wrap64_id (by omega) (by omega)
    have rw1 : IntKind.u64.wrap (x * 2 ^ min (Int.toNat 32) IntKind.u64.bits) = x * 4294967296 := by show (x * 4294967296) % 18446744073709551616 = _; omega
    have rw3 := or_low (x := x) (y := y) x0 x1 y0 y1
    obtain ⟨W, hW⟩ : ∃ W, W = IntKind.u64.wrap ((x * 4294967296 + y) * 2 ^ min ((n : Int).toNat) IntKind.u64.bits) := ⟨_, rfl⟩
    have rw4 := hW.symm
    have hW2 : W = ((x * 4294967296 + y) * 2 ^ n) % 18446744073709551616 := by
      rw [hW]
      have : min ((n : Int).toNat) IntKind.u64.bits = n := by show min ((n : Int).toNat) 64 = n; simp; omega
      rw [this]; rfl
    have W0 : 0 ≤ W := by rw [hW2]; exact Int.emod_nonneg _ (by decide)
    have W1 : W < 18446744073709551616 := by rw [hW2]; exact Int.emod_lt_of_pos _ (by decide)
    have rw5 : W.fdiv (2 ^ min (Int.toNat 32) IntKind.u64.bits) = sD l n k := by
      show W.fdiv 4294967296 = _
      rw [Int.fdiv_eq_ediv_of_nonneg _ (by omega), hD, hW2]
      generalize (x * 4294967296 + y) * 2 ^ n = m
      omega
    generalize hDD : sD l n k = D at *
    have rw6 := mask_low D0 D1
    have rw7 : IntKind.u64.wrap (D + 0) = D := by rw [Int.add_zero]; exact wrapu64_id D0 (by omega)
    have rw8 : IntKind.u32.wrap D = D := by show D % 4294967296 = D; exact Int.emod_eq_of_lt D0 D1
    have rw9 : D.fdiv (2 ^ min (Int.toNat 32) IntKind.u64.bits) = 0 := by
      show D.fdiv 4294967296 = 0
      rw [Int.fdiv_eq_ediv_of_nonneg _ (by omega)]
      exact Int.ediv_eq_zero_of_lt D0 D1
    have hsh : evBinD Tryz.prog .shl 183 (.tmp 21) (.p (.v (.int .u64 (x * 4294967296 + y)))) (.p (.v (.int .i64 (n : Int)))) = some (.p (.v (.int .u64 W))) := by
      unfold evBinD
      have : evEq Tryz.prog 183 (.tmp 21) (.p (.v (.int .u64 (x * 4294967296 + y)))) (.p (.v (.int .i64 (n : Int)))) = none := by kernel_rfl
      simp only [evBinD.evEqOp, evBin, if_pos (show (0 : Int) ≤ (n : Int) by omega), hW]
    clear hW hW2 hD
    have sn : sized 1 [PD.v (.int .u32 D)] := sized_one rfl
    have hN : ((l.length + 1 : Nat) : Int) = (l.length : Int) + 1 := by omega
    have hkN : (k : Int) < ((l.length + 1 : Nat) : Int) := by omega
    by_cases h0 : k = 0
    · subst h0
      have s0 := sized_nil 1
      have e : gaS ⟨82, [.p (natL l)], false⟩ ⟨3, [.p (intP n)], false⟩ 233 (sD l n) (l.length + 1) (0 + 1) = ⟨mkT 31 [(0, .p (intP (l.length + 1 : Nat))), (1, .fn 233 [.loc 1 0, .loc 0 0]), (5, .loc 2 0), (6, .loc 3 0), (7, .fn 215 [.loc 2 0, .loc 3 0]), (10, .p (intP (l.length + 1 : Nat))), (11, .p (intP (1 : Nat)))], ⟨[⟨82, [.p (natL l)], false⟩, ⟨3, [.p (intP n)], false⟩, ⟨82, [.row 0 [.v (.int .u32 D)]], false⟩, ⟨183, [.p (.v (.int .u64 0))], false⟩], [some (86, 1, 1)], []⟩⟩ := by
        rw [← hDD]; rfl
      rw [e] at hK
      unfold gaS rowC tokC
      generalize l.length + 1 = N at *
      refine crun [] ⟨[0, 1, 5, 6, 7, 10, 11], [], [], (some (4, 1, 0))⟩ [(2, .b true), (14, .xc), (27, .w (DV.p (PD.v (Value.int IntKind.i64 0)))), (43, .call (AEnd.ret (PD.v (Value.int IntKind.u64 x)))), (44, .w (DV.p (PD.v (Value.int IntKind.u64 (x * 4294967296))))), (48, .call (AEnd.ret (PD.v (Value.int IntKind.u64 y)))), (49, .w (DV.p (PD.v (Value.int IntKind.u64 (x * 4294967296 + y))))), (51, .w (DV.p (PD.v (Value.int IntKind.i64 (↑n : Int))))), (52, .w (DV.p (PD.v (Value.int IntKind.u64 W)))), (53, .w (DV.p (PD.v (Value.int IntKind.u64 D)))), (54, .w (DV.p (PD.v (Value.int IntKind.u64 D)))), (59, .w (DV.p (PD.v (Value.int IntKind.u64 D)))), (65, .w (DV.p (PD.v (Value.int IntKind.u32 D)))), (72, .w (DV.p (PD.v (Value.int IntKind.u64 0))))] (AX.norm) (St.mk (mkT 31 [(0, DV.p (PD.v (Value.int IntKind.i64 (↑N : Int)))), (1, DV.fn 233 [DV.loc 1 0, DV.loc 0 0]), (5, DV.loc 2 0), (6, DV.loc 3 0), (7, DV.fn 215 [DV.loc 2 0, DV.loc 3 0]), (10, DV.p (PD.v (Value.int IntKind.i64 (↑N : Int)))), (11, DV.p (PD.v (Value.int IntKind.i64 1)))]) (Mem.mk [Box.mk 82 [DV.p (PD.sl (nums IntKind.u32 l))] false, Box.mk 3 [DV.p (PD.v (Value.int IntKind.i64 (↑n : Int)))] false, Box.mk 82 [DV.row 0 [PD.v (Value.int IntKind.u32 D)]] false, Box.mk 183 [DV.p (PD.v (Value.int IntKind.u64 0))] false] [some (86, 1, 1)] [])) (.c (congrArg (fun z => DV.p (PD.v (Go.Value.int IntKind.u64 z))) rw9) (.c (congrArg (fun z => DV.p (PD.v (Go.Value.int IntKind.u32 z))) rw8) (.c (congrArg (fun z => DV.p (PD.v (Go.Value.int IntKind.u64 z))) rw7) (.c (@rfl Mem (Mem.mk [Box.mk 82 [DV.p (PD.sl (nums IntKind.u32 l))] false, Box.mk 3 [DV.p (PD.v (Value.int IntKind.i64 (↑n : Int)))] false, Box.mk 82 [DV.p (PD.v (Value.slice none 0 0))] false, Box.mk 183 [DV.p (PD.v (Value.int IntKind.u64 0))] false] [] [])) (.c (congrArg (fun z => DV.p (PD.v (Go.Value.int IntKind.u64 z))) rw6) (.c (congrArg (fun z => DV.p (PD.v (Go.Value.int IntKind.u64 z))) rw5) (.c (congrArg (fun z => DV.p (PD.v (Go.Value.int IntKind.u64 z))) rw4) (.c (congrArg (fun z => DV.p (PD.v (Go.Value.int IntKind.i64 z))) rwr) (.c (congrArg (fun z => DV.p (PD.v (Go.Value.int IntKind.u64 z))) rw3) (.c (c2) (.c (congrArg (fun z => DV.p (PD.v (Go.Value.int IntKind.u64 z))) rw1) (.c (c1) (.c (congrArg (fun z => DV.p (PD.v (Go.Value.int IntKind.i64 z))) rwq) (.c (dT (show (0 : Int) < (↑N : Int) by omega)) .n)))))))))))))) (by kernel_rfl) ?_
      exact hK _ hlt rfl trivial
    · have hl2 : (nums .u32 (digL (sD l n) k)).length = k := by rw [nums_length, digL_len]
      have s0 := nums_sized .u32 (digL (sD l n) k)
      have e : gaS ⟨82, [.p (natL l)], false⟩ ⟨3, [.p (intP n)], false⟩ 233 (sD l n) (l.length + 1) (k + 1) = ⟨mkT 31 [(0, .p (intP (l.length + 1 : Nat))), (1, .fn 233 [.loc 1 0, .loc 0 0]), (5, .loc 2 0), (6, .loc 3 0), (7, .fn 215 [.loc 2 0, .loc 3 0]), (10, .p (intP (l.length + 1 : Nat))), (11, .p (intP (k + 1 : Nat)))], ⟨[⟨82, [.p (natL l)], false⟩, ⟨3, [.p (intP n)], false⟩, ⟨82, [.row 0 (nums .u32 (digL (sD l n) k) ++ [.v (.int .u32 D)])], false⟩, ⟨183, [.p (.v (.int .u64 0))], false⟩], [some (86, 1, (nums .u32 (digL (sD l n) k)).length + 1)], []⟩⟩ := by
        unfold gaS
        rw [rowC_pos (by omega), tokC_pos (by omega), digL_succ, hl2, ← nums_snoc, hDD]
      rw [e] at hK
      clear e
      unfold gaS
      rw [rowC_pos h0, tokC_pos h0]
      generalize nums .u32 (digL (sD l n) k) = L at hl2 s0 hK ⊢
      generalize l.length + 1 = N at *
      subst hl2
      refine crun [] ⟨[0, 1, 5, 6, 7, 10, 11], [], [], (some (4, 1, 0))⟩ [(2, .b true), (14, .xc), (27, .w (DV.p (PD.v (Value.int IntKind.i64 0)))), (28, .w (DV.p (PD.v (Value.int IntKind.i64 (↑L.length : Int))))), (43, .call (AEnd.ret (PD.v (Value.int IntKind.u64 x)))), (44, .w (DV.p (PD.v (Value.int IntKind.u64 (x * 4294967296))))), (47, .w (DV.p (PD.v (Value.int IntKind.i64 ((↑L.length : Int) - 1))))), (48, .call (AEnd.ret (PD.v (Value.int IntKind.u64 y)))), (49, .w (DV.p (PD.v (Value.int IntKind.u64 (x * 4294967296 + y))))), (51, .w (DV.p (PD.v (Value.int IntKind.i64 (↑n : Int))))), (52, .w (DV.p (PD.v (Value.int IntKind.u64 W)))), (53, .w (DV.p (PD.v (Value.int IntKind.u64 D)))), (54, .w (DV.p (PD.v (Value.int IntKind.u64 D)))), (59, .w (DV.p (PD.v (Value.int IntKind.u64 D)))), (65, .w (DV.p (PD.v (Value.int IntKind.u32 D)))), (67, .m), (72, .w (DV.p (PD.v (Value.int IntKind.u64 0))))] (AX.norm) (St.mk (mkT 31 [(0, DV.p (PD.v (Value.int IntKind.i64 (↑N : Int)))), (1, DV.fn 233 [DV.loc 1 0, DV.loc 0 0]), (5, DV.loc 2 0), (6, DV.loc 3 0), (7, DV.fn 215 [DV.loc 2 0, DV.loc 3 0]), (10, DV.p (PD.v (Value.int IntKind.i64 (↑N : Int)))), (11, DV.p (PD.v (Value.int IntKind.i64 (IntKind.i64.wrap ((↑L.length : Int) + 1)))))]) (Mem.mk [Box.mk 82 [DV.p (PD.sl (nums IntKind.u32 l))] false, Box.mk 3 [DV.p (PD.v (Value.int IntKind.i64 (↑n : Int)))] false, Box.mk 82 [DV.row 0 (L ++ [PD.v (Value.int IntKind.u32 D)])] false, Box.mk 183 [DV.p (PD.v (Value.int IntKind.u64 0))] false] [some (86, 1, L.length + [PD.v (Value.int IntKind.u32 D)].length)] [])) (.c (congrArg (fun z => DV.p (PD.v (Go.Value.int IntKind.u64 z))) rw9) (.c (show AppOK (1 : Nat) (4 : Nat) L.length L [PD.v (Value.int IntKind.u32 D)] by exact ⟨by first | rfl | omega | (simp; done) | (simp; omega), by first | assumption | exact nums_sized _ _ | simp [sized_nil, sized_one, sized_append, sized_map, nums_sized, nums_append], by first | assumption | exact nums_sized _ _ | simp [sized_nil, sized_one, sized_append, sized_map, nums_sized, nums_append], by first | omega | (simp <;> omega), by first | omega | (simp <;> omega)⟩) (.c (congrArg (fun z => DV.p (PD.v (Go.Value.int IntKind.u32 z))) rw8) (.c (congrArg (fun z => DV.p (PD.v (Go.Value.int IntKind.u64 z))) rw7) (.c (@rfl Mem (Mem.mk [Box.mk 82 [DV.p (PD.sl (nums IntKind.u32 l))] false, Box.mk 3 [DV.p (PD.v (Value.int IntKind.i64 (↑n : Int)))] false, Box.mk 82 [DV.row 0 L] false, Box.mk 183 [DV.p (PD.v (Value.int IntKind.u64 0))] false] [some (86, 1, L.length)] [])) (.c (congrArg (fun z => DV.p (PD.v (Go.Value.int IntKind.u64 z))) rw6) (.c (congrArg (fun z => DV.p (PD.v (Go.Value.int IntKind.u64 z))) rw5) (.c (congrArg (fun z => DV.p (PD.v (Go.Value.int IntKind.u64 z))) rw4) (.c (congrArg (fun z => DV.p (PD.v (Go.Value.int IntKind.i64 z))) rwr) (.c (congrArg (fun z => DV.p (PD.v (Go.Value.int IntKind.u64 z))) rw3) (.c (c2) (.c (congrArg (fun z => DV.p (PD.v (Go.Value.int IntKind.i64 z))) rwk1) (.c (congrArg (fun z => DV.p (PD.v (Go.Value.int IntKind.u64 z))) rw1) (.c (c1) (.c (congrArg (fun z => DV.p (PD.v (Go.Value.int IntKind.i64 z))) rwk) (.c (congrArg (fun z => DV.p (PD.v (Go.Value.int IntKind.i64 z))) rwq) (.c (dT hkN) .n))))))))))))))))) (by kernel_rfl) ?_
      exact hK _ hlt (by simp only [hw]; rfl) trivial
  · obtain rfl : k = l.length + 1 := by omega
    unfold gaS
    rw [rowC_pos (by omega), tokC_pos (by omega)] at hQ ⊢
    generalize nums .u32 (digL (sD l n) (l.length + 1)) = L at hQ ⊢
    generalize l.length + 1 = N at *
    refine crun [] ⟨[5, 6, 7], [], [], none⟩ [(2, .b false)] (AX.exit 0) (St.mk (mkT 31 [(5, DV.loc 2 0), (6, DV.loc 3 0), (7, DV.fn 215 [DV.loc 2 0, DV.loc 3 0])]) (Mem.mk [Box.mk 82 [DV.p (PD.sl (nums IntKind.u32 l))] false, Box.mk 3 [DV.p (PD.v (Value.int IntKind.i64 (↑n : Int)))] false, Box.mk 82 [DV.row 0 L] false, Box.mk 183 [DV.p (PD.v (Value.int IntKind.u64 0))] false] [some (86, 1, N)] [])) (.c (dF (show ¬ (↑N : Int) < (↑N : Int) by omega)) .n) (by kernel_rfl) ?_
    exact hQ
theorem limbs_mul_zero {l : List Int} (h : topN l = 0) (k : Nat) : limbs (val l * k) = [] := by
  have : trimmed l = [] := List.eq_nil_of_length_eq_zero h
  rw [val_nil_of l this, Nat.zero_mul, limbs_zero]
set_option maxHeartbeats 4000000 in
theorem shl_pure (l : List Int) (n : Nat) (hd : Dig l) (hl : l.length ≤ 1073741823) (hn : n < 32) : Pure Tryz.prog 210 [natL l, intP n] (.ret (natL (limbs (val l * 2 ^ n)))) := by
  have ht := top_pure l (by omega)
  have rwm : (if true = true then if (n : Int) < 0 then 0 else (n : Int) else if (0 : Int) < (n : Int) then 0 else (n : Int)) = (n : Int) := by rw [if_pos rfl, if_neg (by omega)]
  by_cases hz : topW l = 0
  · rw [topW_eq] at hz
    rw [limbs_mul_zero hz]
    rw [topW_eq, hz] at ht
    refine pure_eq (prun [] [(10, .w (DV.p (PD.v (Value.int IntKind.i64 (↑n : Int))))), (17, .call (AEnd.ret (PD.v (Value.int IntKind.i64 0))))] (e := AEnd.ret (PD.sl [])) (.c (ht) (.c (congrArg (fun z => DV.p (PD.v (Go.Value.int IntKind.i64 z))) rwm) .n)) (by kernel_rfl)) ?_
    rfl
  · have hlo := shl_loop l n hd (by omega) hn
    have hlen : (nums .u32 l).length = l.length := nums_length _ _
    have rwq : IntKind.i64.wrap ((n : Int).tdiv 32) = 0 := by rw [Int.tdiv_eq_ediv_of_nonneg (by omega), Int.ediv_eq_zero_of_lt (by omega) (by omega)]; rfl
    have rwa : IntKind.i64.wrap (((nums .u32 l).length : Int) + 0) = (l.length : Int) := by rw [hlen, Int.add_zero]; exact wrap64_id (by omega) (by omega)
    have rwb : IntKind.i64.wrap ((l.length : Int) + 1) = ((l.length + 1 : Nat) : Int) := wrap64_succ (by omega)
    have htd := top_pure (digL (sD l n) (l.length + 1)) (by rw [digL_len]; omega)
    have hle := topW_le (digL (sD l n) (l.length + 1))
    have hres : natL (limbs (val l * 2 ^ n)) = .sl (((nums .u32 (digL (sD l n) (l.length + 1))).drop 0).take (((topW (digL (sD l n) (l.length + 1)) : Nat) : Int).toNat - 0)) := by
      have h1 := tot_shl_all l hd n hn
      have h2 := digL_limbs (f := sD l n) (sD_dig l n) (l.length + 1)
      have h3 : tot (sD l n) (l.length + 1) = val l * 2 ^ n := h1
      rw [← h3, ← h2, ← take_topN, ← topW_eq]
      simp [natL, nums, List.map_take]
    rw [hres]
    have hdl : (nums .u32 (digL (sD l n) (l.length + 1))).length = l.length + 1 := by rw [nums_length, digL_len]
    have hs := nums_sized .u32 (digL (sD l n) (l.length + 1))
    rw [digL_len] at hle
    unfold gaS at hlo
    rw [rowC_pos (k := l.length + 1) (by omega), tokC_pos (k := l.length + 1) (by omega)] at hlo
    have e1 : rowC 0 (nums .u32 (digL (sD l n) 0)) = .p (.v (.slice none 0 0)) := rfl
    have e2 : tokC 86 1 0 = [] := rfl
    rw [e1, e2] at hlo
    clear hres e1 e2
    have htd2 : Pure Tryz.prog 183 [.sl (nums .u32 (digL (sD l n) (l.length + 1)))] (.ret (intP (topW (digL (sD l n) (l.length + 1))))) := htd
    clear htd
    generalize topW (digL (sD l n) (l.length + 1)) = T at *
    generalize nums .u32 (digL (sD l n) (l.length + 1)) = L at *
    have hz2 : ¬ ((topW l : Nat) : Int) = 0 := by omega
    refine pure_eq (prun [] [(10, .w (DV.p (PD.v (Value.int IntKind.i64 (↑n : Int))))), (17, .call (AEnd.ret (PD.v (Value.int IntKind.i64 (↑(topW l) : Int))))), (18, .b false), (27, .w (DV.p (PD.v (Value.int IntKind.i64 0)))), (28, .w (DV.p (PD.v (Value.int IntKind.i64 (↑l.length : Int))))), (29, .w (DV.p (PD.v (Value.int IntKind.i64 (↑(l.length + 1) : Int))))), (57, .code [0, 1, 5, 6, 7, 10, 11] (AX.exit 0) (St.mk (mkT 31 [(5, DV.loc 2 0), (6, DV.loc 3 0), (7, DV.fn 215 [DV.loc 2 0, DV.loc 3 0])]) (Mem.mk [Box.mk 82 [DV.p (natL l)] false, Box.mk 3 [DV.p (intP (↑n : Int))] false, Box.mk 82 [DV.row 0 L] false, Box.mk 183 [DV.p (PD.v (Value.int IntKind.u64 0))] false] [some (86, 1, l.length + 1)] []))), (73, .call (AEnd.ret (PD.v (Value.int IntKind.i64 (↑T : Int))))), (74, .sc)] (e := AEnd.ret (PD.sl (List.take ((↑T : Int).toNat - 0) (List.drop 0 L)))) (.c (show SlOK (0 : Nat) (↑T : Int).toNat L.length True ((0 : Int) ≤ (↑T : Int)) ∧ sized ((fun x => x.size) Tryz.prog.types[(86 : Nat)]) L by first | exact ⟨by first | trivial | omega, by first | trivial | omega, by first | omega | (simp <;> omega), by first | omega | (simp <;> omega)⟩ | exact ⟨⟨by first | trivial | omega, by first | trivial | omega, by first | omega | (simp <;> omega), by first | omega | (simp <;> omega)⟩, by first | assumption | exact nums_sized _ _ | simp [sized_nil, sized_one, sized_append, sized_map, nums_sized, nums_append]⟩ | exact ⟨⟨by first | trivial | omega, by first | trivial | omega, by first | omega | (simp <;> omega), by first | omega | (simp <;> omega)⟩, by first | omega | (simp <;> omega)⟩) (.c (htd2) (.c (hlo) (.c (congrArg (fun z => DV.p (PD.v (Go.Value.int IntKind.i64 z))) rwb) (.c (congrArg (fun z => DV.p (PD.v (Go.Value.int IntKind.i64 z))) rwa) (.c (congrArg (fun z => DV.p (PD.v (Go.Value.int IntKind.i64 z))) rwq) (.c (eF hz2) (.c (ht) (.c (congrArg (fun z => DV.p (PD.v (Go.Value.int IntKind.i64 z))) rwm) .n))))))))) (by kernel_rfl)) ?_
    rfl
end Go.Proofs.YtikfefjaeejeeaaGreatDoor
/- Walks: shifts down. -/
namespace Go.Proofs.YtikfefjaeejeeaaGreatDoor
open Go.RowKit
set_option maxRecDepth 100000
theorem mask_any {n : Int} (h0 : 0 ≤ n) (h1 : n < 18446744073709551616) : IntKind.u64.wrap ((BitVec.ofInt IntKind.u64.bits n &&& BitVec.ofInt IntKind.u64.bits 4294967295).toNat : Nat) = n % 4294967296 := by
  obtain ⟨b, rfl⟩ := Int.eq_ofNat_of_zero_le h0
  have e1 : (BitVec.ofInt IntKind.u64.bits (b : Int)).toNat = b := by
    show (BitVec.ofInt 64 (b : Int)).toNat = _
    rw [BitVec.toNat_ofInt]
    omega
  have e2 : (BitVec.ofInt IntKind.u64.bits 4294967295).toNat = 2 ^ 32 - 1 := by decide
  rw [BitVec.toNat_and, e1, e2, Nat.and_two_pow_sub_one_eq_mod]
  show (((b % 2 ^ 32 : Nat) : Int)) % 18446744073709551616 = _
  omega
def rD (l : List Int) (n : Nat) : Nat → Int := fun i => shrD (lm l ((i : Int) + 1)) (lm l i) n
theorem rD_dig (l : List Int) (n i : Nat) : 0 ≤ rD l n i ∧ rD l n i < 4294967296 := ⟨Int.emod_nonneg _ (by decide), Int.emod_lt_of_pos _ (by decide)⟩
set_option maxHeartbeats 4000000 in
theorem shr_loop (l : List Int) (n : Nat) (hd : Dig l) (hl : l.length ≤ 1073741824) (hn : n < 32) (hp : 0 < l.length) : LoopOK Tryz.prog (loopB Tryz.prog 187 0) (gaS ⟨82, [.p (natL l)], false⟩ ⟨3, [.p (intP n)], false⟩ 236 (rD l n) l.length 0) (.exit 0) ⟨mkT 31 [(5, .loc 2 0), (6, .loc 3 0), (7, .fn 215 [.loc 2 0, .loc 3 0])], ⟨[⟨82, [.p (natL l)], false⟩, ⟨3, [.p (intP n)], false⟩, ⟨82, [rowC l.length (nums .u32 (digL (rD l n) l.length))], false⟩, ⟨183, [.p (.v (.int .u64 0))], false⟩], tokC 86 1 l.length, []⟩⟩ := by
  refine loop_ix [0, 1, 5, 6, 7, 10, 11] (gaS ⟨82, [.p (natL l)], false⟩ ⟨3, [.p (intP n)], false⟩ 236 (rD l n) l.length) l.length (fun _ => True) trivial (fun _ => rfl) ?_
  intro k hk _ ro K Q hQ hK
  by_cases hlt : k < l.length
  · have hw := wrap64_succ (k := k) (by omega)
    obtain ⟨x0, x1⟩ := lm_range hd ((k : Int) + 1)
    obtain ⟨y0, y1⟩ := lm_range hd (k : Int)
    obtain ⟨D0, D1⟩ := rD_dig l n k
    have hD : rD l n k = (lm l ((k : Int) + 1) * 4294967296 + lm l (k : Int)) / 2 ^ n % 4294967296 := rfl
    have c1 := limbI l hd ((k : Int) + 1) (by omega) (by omega)
    have c2 := limbI l hd (k : Int) (by omega) (by omega)
    generalize lm l ((k : Int) + 1) = x at *
    generalize lm l (k : Int) = y at *
    have rwq : IntKind.i64.wrap ((n : Int).tdiv 32) = 0 := by rw [Int.tdiv_eq_ediv_of_nonneg (by omega), Int.ediv_eq_zero_of_lt (by omega) (by omega)]; rfl
    have rwr : (n : Int).tmod 32 = (n : Int) := by rw [Int.tmod_eq_emod_of_nonneg (by omega)]; exact Int.emod_eq_of_lt (by omega) (by omega)
    have rwk : IntKind.i64.wrap ((k : Int) + 0) = (k : Int) := wrap64_id (by omega) (by omega)
    have rwk1 : IntKind.i64.wrap ((k : Int) + 1) = (k : Int) + 1 := wrap64_id (by omega) (by omega)
    have rw1 : IntKind.u64.wrap (x * 2 ^ min (Int.toNat 32) IntKind.u64.bits) = x * 4294967296 := by show (x * 4294967296) % 18446744073709551616 = _; omega
    have rw3 := or_low (x := x) (y := y) x0 x1 y0 y1
    obtain ⟨W, hW⟩ : ∃ W, W = (x * 4294967296 + y).fdiv (2 ^ min ((n : Int).toNat) IntKind.u64.bits) := ⟨_, rfl⟩
    have rw4 := hW.symm
    have hW2 : W = (x * 4294967296 + y) / 2 ^ n := by
      rw [hW]
      have : min ((n : Int).toNat) IntKind.u64.bits = n := by show min ((n : Int).toNat) 64 = n; simp; omega
      rw [this, Int.fdiv_eq_ediv_of_nonneg _ (Int.le_of_lt (Int.pow_pos (by decide)))]
    have W0 : 0 ≤ W := by rw [hW2]; exact Int.ediv_nonneg (by omega) (Int.le_of_lt (Int.pow_pos (by decide)))
    have W1 : W < 18446744073709551616 := by
      have : W ≤ x * 4294967296 + y := by rw [hW2]; exact Int.ediv_le_self _ (by omega)
      omega
    rw [← hW2] at hD
    have rw6 := mask_any W0 W1
    rw [← hD] at rw6
    generalize hDD : rD l n k = D at *
    have rw7 : IntKind.u64.wrap (D + 0) = D := by rw [Int.add_zero]; exact wrapu64_id D0 (by omega)
    have rw8 : IntKind.u32.wrap D = D := by show D % 4294967296 = D; exact Int.emod_eq_of_lt D0 D1
    have rw9 : D.fdiv (2 ^ min (Int.toNat 32) IntKind.u64.bits) = 0 := by
      show D.fdiv 4294967296 = 0
      rw [Int.fdiv_eq_ediv_of_nonneg _ (by omega)]
      exact Int.ediv_eq_zero_of_lt D0 D1
    have hsh : evBinD Tryz.prog .shr 183 (.tmp 19) (.p (.v (.int .u64 (x * 4294967296 + y)))) (.p (.v (.int .i64 (n : Int)))) = some (.p (.v (.int .u64 W))) := by
      unfold evBinD
      have : evEq Tryz.prog 183 (.tmp 19) (.p (.v (.int .u64 (x * 4294967296 + y)))) (.p (.v (.int .i64 (n : Int)))) = none := by kernel_rfl
      simp only [evBinD.evEqOp, evBin, if_pos (show (0 : Int) ≤ (n : Int) by omega), hW]
    clear hW hW2 hD
    have sn : sized 1 [PD.v (.int .u32 D)] := sized_one rfl
    have hkN : (k : Int) < ((l.length : Nat) : Int) := by omega
    by_cases h0 : k = 0
    · subst h0
      have s0 := sized_nil 1
      have e : gaS ⟨82, [.p (natL l)], false⟩ ⟨3, [.p (intP n)], false⟩ 236 (rD l n) l.length (0 + 1) = ⟨mkT 31 [(0, .p (intP (l.length : Nat))), (1, .fn 236 [.loc 1 0, .loc 0 0]), (5, .loc 2 0), (6, .loc 3 0), (7, .fn 215 [.loc 2 0, .loc 3 0]), (10, .p (intP (l.length : Nat))), (11, .p (intP (1 : Nat)))], ⟨[⟨82, [.p (natL l)], false⟩, ⟨3, [.p (intP n)], false⟩, ⟨82, [.row 0 [.v (.int .u32 D)]], false⟩, ⟨183, [.p (.v (.int .u64 0))], false⟩], [some (86, 1, 1)], []⟩⟩ := by
        rw [← hDD]; rfl
      rw [e] at hK
      unfold gaS rowC tokC
      refine crun [] ⟨[0, 1, 5, 6, 7, 10, 11], [], [], (some (4, 1, 0))⟩ [(2, .b true), (14, .xc), (27, .w (DV.p (PD.v (Value.int IntKind.i64 0)))), (36, .call (AEnd.ret (PD.v (Value.int IntKind.u64 x)))), (37, .w (DV.p (PD.v (Value.int IntKind.u64 (x * 4294967296))))), (40, .call (AEnd.ret (PD.v (Value.int IntKind.u64 y)))), (41, .w (DV.p (PD.v (Value.int IntKind.u64 (x * 4294967296 + y))))), (43, .w (DV.p (PD.v (Value.int IntKind.i64 (↑n : Int))))), (44, .w (DV.p (PD.v (Value.int IntKind.u64 W)))), (45, .w (DV.p (PD.v (Value.int IntKind.u64 D)))), (50, .w (DV.p (PD.v (Value.int IntKind.u64 D)))), (56, .w (DV.p (PD.v (Value.int IntKind.u32 D)))), (63, .w (DV.p (PD.v (Value.int IntKind.u64 0))))] (AX.norm) (St.mk (mkT 31 [(0, DV.p (PD.v (Value.int IntKind.i64 (↑l.length : Int)))), (1, DV.fn 236 [DV.loc 1 0, DV.loc 0 0]), (5, DV.loc 2 0), (6, DV.loc 3 0), (7, DV.fn 215 [DV.loc 2 0, DV.loc 3 0]), (10, DV.p (PD.v (Value.int IntKind.i64 (↑l.length : Int)))), (11, DV.p (PD.v (Value.int IntKind.i64 1)))]) (Mem.mk [Box.mk 82 [DV.p (PD.sl (nums IntKind.u32 l))] false, Box.mk 3 [DV.p (PD.v (Value.int IntKind.i64 (↑n : Int)))] false, Box.mk 82 [DV.row 0 [PD.v (Value.int IntKind.u32 D)]] false, Box.mk 183 [DV.p (PD.v (Value.int IntKind.u64 0))] false] [some (86, 1, 1)] [])) (.c (congrArg (fun z => DV.p (PD.v (Go.Value.int IntKind.u64 z))) rw9) (.c (congrArg (fun z => DV.p (PD.v (Go.Value.int IntKind.u32 z))) rw8) (.c (congrArg (fun z => DV.p (PD.v (Go.Value.int IntKind.u64 z))) rw7) (.c (@rfl Mem (Mem.mk [Box.mk 82 [DV.p (PD.sl (nums IntKind.u32 l))] false, Box.mk 3 [DV.p (PD.v (Value.int IntKind.i64 (↑n : Int)))] false, Box.mk 82 [DV.p (PD.v (Value.slice none 0 0))] false, Box.mk 183 [DV.p (PD.v (Value.int IntKind.u64 0))] false] [] [])) (.c (congrArg (fun z => DV.p (PD.v (Go.Value.int IntKind.u64 z))) rw6) (.c (congrArg (fun z => DV.p (PD.v (Go.Value.int IntKind.u64 z))) rw4) (.c (congrArg (fun z => DV.p (PD.v (Go.Value.int IntKind.i64 z))) rwr) (.c (congrArg (fun z => DV.p (PD.v (Go.Value.int IntKind.u64 z))) rw3) (.c (c2) (.c (congrArg (fun z => DV.p (PD.v (Go.Value.int IntKind.u64 z))) rw1) (.c (c1) (.c (congrArg (fun z => DV.p (PD.v (Go.Value.int IntKind.i64 z))) rwq) (.c (dT (show (0 : Int) < (↑l.length : Int) by omega)) .n))))))))))))) (by kernel_rfl) ?_
      exact hK _ hlt rfl trivial
    · have hl2 : (nums .u32 (digL (rD l n) k)).length = k := by rw [nums_length, digL_len]
      have s0 := nums_sized .u32 (digL (rD l n) k)
      have e : gaS ⟨82, [.p (natL l)], false⟩ ⟨3, [.p (intP n)], false⟩ 236 (rD l n) l.length (k + 1) = ⟨mkT 31 [(0, .p (intP (l.length : Nat))), (1, .fn 236 [.loc 1 0, .loc 0 0]), (5, .loc 2 0), (6, .loc 3 0), (7, .fn 215 [.loc 2 0, .loc 3 0]), (10, .p (intP (l.length : Nat))), (11, .p (intP (k + 1 : Nat)))], ⟨[⟨82, [.p (natL l)], false⟩, ⟨3, [.p (intP n)], false⟩, ⟨82, [.row 0 (nums .u32 (digL (rD l n) k) ++ [.v (.int .u32 D)])], false⟩, ⟨183, [.p (.v (.int .u64 0))], false⟩], [some (86, 1, (nums .u32 (digL (rD l n) k)).length + 1)], []⟩⟩ := by
        unfold gaS
        rw [rowC_pos (by omega), tokC_pos (by omega), digL_succ, hl2, ← nums_snoc, hDD]
      rw [e] at hK
      clear e
      unfold gaS
      rw [rowC_pos h0, tokC_pos h0]
      generalize nums .u32 (digL (rD l n) k) = L at hl2 s0 hK ⊢
      subst hl2
      refine crun [] ⟨[0, 1, 5, 6, 7, 10, 11], [], [], (some (4, 1, 0))⟩ [(2, .b true), (14, .xc), (27, .w (DV.p (PD.v (Value.int IntKind.i64 0)))), (28, .w (DV.p (PD.v (Value.int IntKind.i64 (↑L.length : Int))))), (35, .w (DV.p (PD.v (Value.int IntKind.i64 ((↑L.length : Int) + 1))))), (36, .call (AEnd.ret (PD.v (Value.int IntKind.u64 x)))), (37, .w (DV.p (PD.v (Value.int IntKind.u64 (x * 4294967296))))), (40, .call (AEnd.ret (PD.v (Value.int IntKind.u64 y)))), (41, .w (DV.p (PD.v (Value.int IntKind.u64 (x * 4294967296 + y))))), (43, .w (DV.p (PD.v (Value.int IntKind.i64 (↑n : Int))))), (44, .w (DV.p (PD.v (Value.int IntKind.u64 W)))), (45, .w (DV.p (PD.v (Value.int IntKind.u64 D)))), (50, .w (DV.p (PD.v (Value.int IntKind.u64 D)))), (56, .w (DV.p (PD.v (Value.int IntKind.u32 D)))), (58, .m), (63, .w (DV.p (PD.v (Value.int IntKind.u64 0)))), (68, .w (DV.p (PD.v (Value.int IntKind.i64 ((↑L.length : Int) + 1)))))] (AX.norm) (St.mk (mkT 31 [(0, DV.p (PD.v (Value.int IntKind.i64 (↑l.length : Int)))), (1, DV.fn 236 [DV.loc 1 0, DV.loc 0 0]), (5, DV.loc 2 0), (6, DV.loc 3 0), (7, DV.fn 215 [DV.loc 2 0, DV.loc 3 0]), (10, DV.p (PD.v (Value.int IntKind.i64 (↑l.length : Int)))), (11, DV.p (PD.v (Value.int IntKind.i64 ((↑L.length : Int) + 1))))]) (Mem.mk [Box.mk 82 [DV.p (PD.sl (nums IntKind.u32 l))] false, Box.mk 3 [DV.p (PD.v (Value.int IntKind.i64 (↑n : Int)))] false, Box.mk 82 [DV.row 0 (L ++ [PD.v (Value.int IntKind.u32 D)])] false, Box.mk 183 [DV.p (PD.v (Value.int IntKind.u64 0))] false] [some (86, 1, L.length + [PD.v (Value.int IntKind.u32 D)].length)] [])) (.c (congrArg (fun z => DV.p (PD.v (Go.Value.int IntKind.i64 z))) rwk1) (.c (congrArg (fun z => DV.p (PD.v (Go.Value.int IntKind.u64 z))) rw9) (.c (show AppOK (1 : Nat) (4 : Nat) L.length L [PD.v (Value.int IntKind.u32 D)] by exact ⟨by first | rfl | omega | (simp; done) | (simp; omega), by first | assumption | exact nums_sized _ _ | simp [sized_nil, sized_one, sized_append, sized_map, nums_sized, nums_append], by first | assumption | exact nums_sized _ _ | simp [sized_nil, sized_one, sized_append, sized_map, nums_sized, nums_append], by first | omega | (simp <;> omega), by first | omega | (simp <;> omega)⟩) (.c (congrArg (fun z => DV.p (PD.v (Go.Value.int IntKind.u32 z))) rw8) (.c (congrArg (fun z => DV.p (PD.v (Go.Value.int IntKind.u64 z))) rw7) (.c (@rfl Mem (Mem.mk [Box.mk 82 [DV.p (PD.sl (nums IntKind.u32 l))] false, Box.mk 3 [DV.p (PD.v (Value.int IntKind.i64 (↑n : Int)))] false, Box.mk 82 [DV.row 0 L] false, Box.mk 183 [DV.p (PD.v (Value.int IntKind.u64 0))] false] [some (86, 1, L.length)] [])) (.c (congrArg (fun z => DV.p (PD.v (Go.Value.int IntKind.u64 z))) rw6) (.c (congrArg (fun z => DV.p (PD.v (Go.Value.int IntKind.u64 z))) rw4) (.c (congrArg (fun z => DV.p (PD.v (Go.Value.int IntKind.i64 z))) rwr) (.c (congrArg (fun z => DV.p (PD.v (Go.Value.int IntKind.u64 z))) rw3) (.c (c2) (.c (congrArg (fun z => DV.p (PD.v (Go.Value.int IntKind.u64 z))) rw1) (.c (c1) (.c (congrArg (fun z => DV.p (PD.v (Go.Value.int IntKind.i64 z))) rwk1) (.c (congrArg (fun z => DV.p (PD.v (Go.Value.int IntKind.i64 z))) rwk) (.c (congrArg (fun z => DV.p (PD.v (Go.Value.int IntKind.i64 z))) rwq) (.c (dT hkN) .n))))))))))))))))) (by kernel_rfl) ?_
      exact hK _ hlt (by first | rfl | (simp only [hw]; rfl)) trivial
  · obtain rfl : k = l.length := by omega
    unfold gaS
    rw [rowC_pos (by omega), tokC_pos (by omega)] at hQ ⊢
    generalize nums .u32 (digL (rD l n) l.length) = L at hQ ⊢
    refine crun [] ⟨[5, 6, 7], [], [], none⟩ [(2, .b false)] (AX.exit 0) (St.mk (mkT 31 [(5, DV.loc 2 0), (6, DV.loc 3 0), (7, DV.fn 215 [DV.loc 2 0, DV.loc 3 0])]) (Mem.mk [Box.mk 82 [DV.p (PD.sl (nums IntKind.u32 l))] false, Box.mk 3 [DV.p (PD.v (Value.int IntKind.i64 (↑n : Int)))] false, Box.mk 82 [DV.row 0 L] false, Box.mk 183 [DV.p (PD.v (Value.int IntKind.u64 0))] false] [some (86, 1, l.length)] [])) (.c (dF (show ¬ (↑l.length : Int) < (↑l.length : Int) by omega)) .n) (by kernel_rfl) ?_
    exact hQ
set_option maxHeartbeats 4000000 in
theorem shr_pure (l : List Int) (n : Nat) (hd : Dig l) (hl : l.length ≤ 1073741823) (hn : n < 32) : Pure Tryz.prog 214 [natL l, intP n] (.ret (natL (limbs (val l / 2 ^ n)))) := by
  have rwm : (if true = true then if (n : Int) < 0 then 0 else (n : Int) else if (0 : Int) < (n : Int) then 0 else (n : Int)) = (n : Int) := by rw [if_pos rfl, if_neg (by omega)]
  by_cases hz : l.length = 0
  · obtain rfl : l = [] := List.length_eq_zero_iff.1 hz
    have rwq : IntKind.i64.wrap ((n : Int).tdiv 32) = 0 := by rw [Int.tdiv_eq_ediv_of_nonneg (by omega), Int.ediv_eq_zero_of_lt (by omega) (by omega)]; rfl
    have e : limbs (val [] / 2 ^ n) = [] := by rw [show val [] = 0 from rfl, Nat.zero_div, limbs_zero]
    rw [e]
    refine pure_eq (prun [] [(10, .w (DV.p (PD.v (Value.int IntKind.i64 (↑n : Int))))), (17, .w (DV.p (PD.v (Value.int IntKind.i64 0))))] (e := AEnd.ret (PD.sl [])) (.c (congrArg (fun z => DV.p (PD.v (Go.Value.int IntKind.i64 z))) rwq) (.c (congrArg (fun z => DV.p (PD.v (Go.Value.int IntKind.i64 z))) rwm) .n)) (by kernel_rfl)) ?_
    rfl
  · have hp : 0 < l.length := by omega
    have hlo := shr_loop l n hd (by omega) hn hp
    have hlen : (nums .u32 l).length = l.length := nums_length _ _
    have rwq : IntKind.i64.wrap ((n : Int).tdiv 32) = 0 := by rw [Int.tdiv_eq_ediv_of_nonneg (by omega), Int.ediv_eq_zero_of_lt (by omega) (by omega)]; rfl
    have htd := top_pure (digL (rD l n) l.length) (by rw [digL_len]; omega)
    have hle := topW_le (digL (rD l n) l.length)
    have hres : natL (limbs (val l / 2 ^ n)) = .sl (((nums .u32 (digL (rD l n) l.length)).drop 0).take (((topW (digL (rD l n) l.length) : Nat) : Int).toNat - 0)) := by
      have h1 := tot_shr_all l hd n hn hp
      have h2 := digL_limbs (f := rD l n) (rD_dig l n) l.length
      have h3 : tot (rD l n) l.length = val l / 2 ^ n := h1
      rw [← h3, ← h2, ← take_topN, ← topW_eq]
      simp [natL, nums, List.map_take]
    rw [hres]
    have hdl : (nums .u32 (digL (rD l n) l.length)).length = l.length := by rw [nums_length, digL_len]
    have hs := nums_sized .u32 (digL (rD l n) l.length)
    rw [digL_len] at hle
    unfold gaS at hlo
    rw [rowC_pos (k := l.length) (by omega), tokC_pos (k := l.length) (by omega)] at hlo
    have e1 : rowC 0 (nums .u32 (digL (rD l n) 0)) = .p (.v (.slice none 0 0)) := rfl
    have e2 : tokC 86 1 0 = [] := rfl
    rw [e1, e2] at hlo
    clear hres e1 e2
    have htd2 : Pure Tryz.prog 183 [.sl (nums .u32 (digL (rD l n) l.length))] (.ret (intP (topW (digL (rD l n) l.length)))) := htd
    clear htd
    generalize topW (digL (rD l n) l.length) = T at *
    generalize nums .u32 (digL (rD l n) l.length) = L at *
    rw [← hlen] at hlo
    refine pure_eq (prun [] [(10, .w (DV.p (PD.v (Value.int IntKind.i64 (↑n : Int))))), (17, .w (DV.p (PD.v (Value.int IntKind.i64 0)))), (20, .b false), (55, .code [0, 1, 5, 6, 7, 10, 11] (AX.exit 0) (St.mk (mkT 31 [(5, DV.loc 2 0), (6, DV.loc 3 0), (7, DV.fn 215 [DV.loc 2 0, DV.loc 3 0])]) (Mem.mk [Box.mk 82 [DV.p (natL l)] false, Box.mk 3 [DV.p (intP (↑n : Int))] false, Box.mk 82 [DV.row 0 L] false, Box.mk 183 [DV.p (PD.v (Value.int IntKind.u64 0))] false] [some (86, 1, (nums IntKind.u32 l).length)] []))), (71, .call (AEnd.ret (PD.v (Value.int IntKind.i64 (↑T : Int))))), (72, .sc)] (e := AEnd.ret (PD.sl (List.take ((↑T : Int).toNat - 0) (List.drop 0 L)))) (.c (show SlOK (0 : Nat) (↑T : Int).toNat L.length True ((0 : Int) ≤ (↑T : Int)) ∧ sized ((fun x => x.size) Tryz.prog.types[(86 : Nat)]) L by first | exact ⟨by first | trivial | omega, by first | trivial | omega, by first | omega | (simp <;> omega), by first | omega | (simp <;> omega)⟩ | exact ⟨⟨by first | trivial | omega, by first | trivial | omega, by first | omega | (simp <;> omega), by first | omega | (simp <;> omega)⟩, by first | assumption | exact nums_sized _ _ | simp [sized_nil, sized_one, sized_append, sized_map, nums_sized, nums_append]⟩ | exact ⟨⟨by first | trivial | omega, by first | trivial | omega, by first | omega | (simp <;> omega), by first | omega | (simp <;> omega)⟩, by first | omega | (simp <;> omega)⟩) (.c (htd2) (.c (hlo) (.c (dF (show ¬ (↑(nums IntKind.u32 l).length : Int) ≤ (0 : Int) by omega)) (.c (congrArg (fun z => DV.p (PD.v (Go.Value.int IntKind.i64 z))) rwq) (.c (congrArg (fun z => DV.p (PD.v (Go.Value.int IntKind.i64 z))) rwm) .n)))))) (by kernel_rfl)) ?_
    rfl
end Go.Proofs.YtikfefjaeejeeaaGreatDoor
/- Limbs: sums, products, quotients, digit by digit. Plain Lean, no program. -/
namespace Go.Proofs.YtikfefjaeejeeaaGreatDoor

theorem limbs_drop : ∀ (k n : Nat), (limbs n).drop k = limbs (n / 4294967296 ^ k)
  | 0, n => by simp
  | k + 1, n => by
    by_cases h : n = 0
    · subst h; simp [limbs_zero]
    · rw [limbs_pos h, List.drop_succ_cons, limbs_drop k, Nat.div_div_eq_div_mul, Nat.pow_succ, Nat.mul_comm]
theorem limbs_len_le (n k : Nat) : (limbs n).length ≤ k ↔ n / 4294967296 ^ k = 0 := by
  have h := limbs_drop k n
  constructor
  · intro hk
    rw [List.drop_eq_nil_of_le hk] at h
    exact limbs_nil.1 h.symm
  · intro hz
    rw [hz, limbs_zero] at h
    have := congrArg List.length h
    simp at this
    omega
theorem limbs_lt (n k : Nat) : k < (limbs n).length ↔ n / 4294967296 ^ k ≠ 0 := by
  have := limbs_len_le n k
  omega
theorem limbs_get {n k : Nat} (h : n / 4294967296 ^ k ≠ 0) : (limbs n)[k]? = some ((n / 4294967296 ^ k % 4294967296 : Nat) : Int) := by
  have hdr := limbs_drop k n
  rw [limbs_pos h] at hdr
  have : ((limbs n).drop k)[0]? = some ((n / 4294967296 ^ k % 4294967296 : Nat) : Int) := by rw [hdr]; rfl
  simpa using this
theorem limbs_getD (n k : Nat) : (limbs n).getD k 0 = ((n / 4294967296 ^ k % 4294967296 : Nat) : Int) := by
  by_cases h : n / 4294967296 ^ k = 0
  · rw [h]
    have := (limbs_len_le n k).2 h
    simp [List.getD, List.getElem?_eq_none this]
  · simp [List.getD, limbs_get h]
def cyB (x y k : Nat) : Nat := (x + y) / 4294967296 ^ k - x / 4294967296 ^ k - y / 4294967296 ^ k
theorem cyB_spec (x y : Nat) : ∀ k, (x + y) / 4294967296 ^ k = x / 4294967296 ^ k + y / 4294967296 ^ k + cyB x y k ∧ cyB x y k ≤ 1 := by
  intro k
  have hP : 0 < 4294967296 ^ k := Nat.pow_pos (by decide)
  unfold cyB
  generalize 4294967296 ^ k = P at *
  have h1 := Nat.div_add_mod x P
  have h2 := Nat.div_add_mod y P
  have h3 := Nat.mod_lt x hP
  have h4 := Nat.mod_lt y hP
  have e : x + y = (x % P + y % P) + P * (x / P + y / P) := by rw [Nat.mul_add]; omega
  have e2 : (x + y) / P = (x % P + y % P) / P + (x / P + y / P) := by rw [e, Nat.add_mul_div_left _ _ hP]
  have h5 : (x % P + y % P) / P ≤ 1 := by
    have : (x % P + y % P) / P < 2 := (Nat.div_lt_iff_lt_mul hP).2 (by omega)
    omega
  rw [e2]
  clear e e2 h1 h2 h3 h4
  generalize (x % P + y % P) / P = q at *
  generalize x / P = X
  generalize y / P = Y
  omega
theorem cyB_next (x y k : Nat) : x / 4294967296 ^ k % 4294967296 + y / 4294967296 ^ k % 4294967296 + cyB x y k = (x + y) / 4294967296 ^ k % 4294967296 + 4294967296 * cyB x y (k + 1) := by
  obtain ⟨h1, h2⟩ := cyB_spec x y k
  obtain ⟨h3, h4⟩ := cyB_spec x y (k + 1)
  rw [Nat.pow_succ, ← Nat.div_div_eq_div_mul, ← Nat.div_div_eq_div_mul, ← Nat.div_div_eq_div_mul] at h3
  omega
def cyM (x d k : Nat) : Nat := x * d / 4294967296 ^ k - x / 4294967296 ^ k * d
theorem cyM_spec (x d k : Nat) : x * d / 4294967296 ^ k = x / 4294967296 ^ k * d + cyM x d k ∧ cyM x d k ≤ d := by
  have hP : 0 < 4294967296 ^ k := Nat.pow_pos (by decide)
  unfold cyM
  generalize 4294967296 ^ k = P at *
  have h1 := Nat.div_add_mod x P
  have h3 := Nat.mod_lt x hP
  have e2 : x * d / P = x % P * d / P + x / P * d := by
    have : x * d = x % P * d + P * (x / P * d) := by
      have : x * d = (P * (x / P) + x % P) * d := by rw [h1]
      rw [this, Nat.add_mul, Nat.mul_assoc]; omega
    rw [this, Nat.add_mul_div_left _ _ hP]
  have h5 : x % P * d / P ≤ d := by
    have : x % P * d ≤ d * P := by rw [Nat.mul_comm d P]; exact Nat.mul_le_mul_right _ (by omega)
    exact Nat.div_le_of_le_mul (by rw [Nat.mul_comm P d]; exact this)
  rw [e2]
  generalize x % P * d / P = q at *
  generalize x / P * d = X
  omega
theorem cyM_next (x d k : Nat) : x / 4294967296 ^ k % 4294967296 * d + cyM x d k = x * d / 4294967296 ^ k % 4294967296 + 4294967296 * cyM x d (k + 1) := by
  obtain ⟨h1, _⟩ := cyM_spec x d k
  obtain ⟨h3, _⟩ := cyM_spec x d (k + 1)
  rw [Nat.pow_succ, ← Nat.div_div_eq_div_mul, ← Nat.div_div_eq_div_mul] at h3
  generalize cyM x d (k + 1) = c2 at *
  generalize cyM x d k = c at *
  generalize x * d / 4294967296 ^ k = S at *
  generalize x / 4294967296 ^ k = X at *
  have e : X * d = 4294967296 * (X / 4294967296 * d) + X % 4294967296 * d := by
    have : X * d = (4294967296 * (X / 4294967296) + X % 4294967296) * d := by rw [Nat.div_add_mod]
    rw [this, Nat.add_mul, Nat.mul_assoc]
  rw [e] at h1
  generalize X / 4294967296 * d = u at *
  generalize X % 4294967296 * d = v at *
  omega

/-- a number's digit -/
def dg (n i : Nat) : Nat := n / 4294967296 ^ i % 4294967296
theorem dg_lt (n i : Nat) : dg n i < 4294967296 := Nat.mod_lt _ (by decide)
def dgI (n i : Nat) : Int := (dg n i : Nat)
theorem limbs_dg (n i : Nat) : (limbs n).getD i 0 = dgI n i := limbs_getD n i
theorem pw_pos (k : Nat) : 0 < 4294967296 ^ k := Nat.pow_pos (by decide)
theorem limbs_len_lt {n k : Nat} : (limbs n).length ≤ k ↔ n < 4294967296 ^ k := by
  rw [limbs_len_le]
  constructor
  · intro h
    rcases Nat.lt_or_ge n (4294967296 ^ k) with h1 | h1
    · exact h1
    · have := Nat.div_pos h1 (pw_pos k); omega
  · exact Nat.div_eq_of_lt
theorem dg_high {n k i : Nat} (h : n < 4294967296 ^ k) (hi : k ≤ i) : dg n i = 0 := by
  unfold dg
  rw [Nat.div_eq_of_lt (Nat.lt_of_lt_of_le h (Nat.pow_le_pow_right (by decide) hi))]
theorem dg_mod {n j i : Nat} (h : i < j) : dg (n % 4294967296 ^ j) i = dg n i := by
  unfold dg
  obtain ⟨d, rfl⟩ : ∃ d, j = i + 1 + d := ⟨j - (i + 1), by omega⟩
  have e : 4294967296 ^ (i + 1 + d) = 4294967296 ^ i * (4294967296 * 4294967296 ^ d) := by rw [Nat.pow_add, Nat.pow_succ, Nat.mul_assoc]
  rw [e, Nat.mod_mul_right_div_self, Nat.mod_mul_right_mod]
theorem dg_div (n j i : Nat) : dg (n / 4294967296 ^ j) i = dg n (j + i) := by
  unfold dg
  rw [Nat.div_div_eq_div_mul, ← Nat.pow_add]
theorem dg_low {a b j i : Nat} (h : i < j) : dg (a * 4294967296 ^ j + b) i = dg b i := by
  rw [← dg_mod h, Nat.add_comm, Nat.add_mul_mod_self_right, dg_mod h]
theorem dg_up {a b j i : Nat} (hb : b < 4294967296 ^ j) : dg (a * 4294967296 ^ j + b) (j + i) = dg a i := by
  rw [← dg_div, Nat.add_comm, Nat.add_mul_div_right _ _ (pw_pos j), Nat.div_eq_of_lt hb, Nat.zero_add]
theorem limbs_digL {n N : Nat} (h : n < 4294967296 ^ N) : trimmed (digL (dgI n) N) = limbs n := by
  have hd : Dig (digL (dgI n) N) := digL_dig (fun i => ⟨by unfold dgI; omega, by have := dg_lt n i; unfold dgI; omega⟩) N
  rw [← limbs_val hd, digL_val]
  congr 1
  have key : ∀ k, tot (dgI n) k = n % 4294967296 ^ k := by
    intro k
    induction k with
    | zero => simp [tot, Nat.mod_one]
    | succ k ih =>
      rw [tot, ih, Nat.pow_succ, Nat.mod_mul]
      unfold dgI dg
      rw [Int.toNat_natCast, Nat.mul_comm (4294967296 ^ k)]
  rw [key, Nat.mod_eq_of_lt h]
theorem limbs_pad {n N : Nat} (h : n < 4294967296 ^ N) : digL (dgI n) N = limbs n ++ List.replicate (N - (limbs n).length) 0 := by
  have hl := limbs_len_lt.2 h
  refine List.ext_getElem (by rw [digL_len, List.length_append, List.length_replicate]; omega) fun i h1 h2 => ?_
  have hi : i < N := by rw [digL_len] at h1; exact h1
  have e1 : (digL (dgI n) N)[i] = dgI n i := by simp [digL]
  rw [e1, ← limbs_dg]
  rcases Nat.lt_or_ge i (limbs n).length with hh | hh
  · rw [List.getElem_append_left hh]; simp [List.getD, hh]
  · rw [List.getElem_append_right hh]; simp [List.getD, List.getElem?_eq_none hh]
/-- a segment in other words -/
def seg (f : Nat → Int) (j n : Nat) (h : Nat → Int) : Nat → Int := fun i => if j ≤ i ∧ i < j + n then h (i - j) else f i
theorem seg_zero (f : Nat → Int) (j : Nat) (h : Nat → Int) : seg f j 0 h = f := by
  funext i; unfold seg; rw [if_neg (by omega)]
theorem digL_get {f : Nat → Int} {N i : Nat} (h : i < N) : (digL f N)[i]? = some (f i) := by
  unfold digL; rw [List.getElem?_map, List.getElem?_range h]; rfl
theorem digL_set {f : Nat → Int} {N j : Nat} {x : Int} : (digL f N).set j x = digL (fun i => if i = j then x else f i) N := by
  refine List.ext_getElem? fun i => ?_
  by_cases hi : i < N
  · rw [digL_get hi]
    by_cases hij : i = j
    · subst hij
      rw [List.getElem?_set_self (by rw [digL_len]; exact hi), if_pos rfl]
    · rw [List.getElem?_set_ne (Ne.symm hij), digL_get hi, if_neg hij]
  · rw [List.getElem?_eq_none (by rw [List.length_set, digL_len]; omega), List.getElem?_eq_none (by rw [digL_len]; omega)]
theorem digL_seg {f h : Nat → Int} {N j n : Nat} {x : Int} (hx : x = h n) : (digL (seg f j n h) N).set (j + n) x = digL (seg f j (n + 1) h) N := by
  rw [digL_set]
  congr 1
  funext i
  unfold seg
  by_cases h1 : i = j + n
  · subst h1
    rw [if_pos rfl, if_pos ⟨by omega, by omega⟩, hx, Nat.add_sub_cancel_left]
  · rw [if_neg h1]
    by_cases h2 : j ≤ i ∧ i < j + n
    · rw [if_pos h2, if_pos ⟨h2.1, by omega⟩]
    · rw [if_neg h2, if_neg (by omega)]
theorem digL_ext {f h : Nat → Int} {N : Nat} (e : ∀ i, i < N → f i = h i) : digL f N = digL h N := by
  unfold digL
  exact List.map_congr_left fun i hi => e i (List.mem_range.1 hi)

/-! ### a guess -/
def gU (top u2 v1 v2 : Nat) : Nat := min 4294967295 ((top * 4294967296 + u2) / (v1 * 4294967296 + v2))
theorem gU_le {top u2 v1 v2 q : Nat} (hv : 0 < v1 * 4294967296 + v2) (hq : q * v1 ≤ top) : (q < 4294967296 ∧ q * v2 ≤ (top - q * v1) * 4294967296 + u2) ↔ q ≤ gU top u2 v1 v2 := by
  unfold gU
  rw [Nat.le_min, Nat.le_div_iff_mul_le hv]
  have e : q * (v1 * 4294967296 + v2) = q * v1 * 4294967296 + q * v2 := by rw [Nat.mul_add, Nat.mul_assoc]
  rw [e]
  generalize q * v1 = a at *
  generalize q * v2 = b at *
  constructor
  · rintro ⟨h1, h2⟩; exact ⟨by omega, by omega⟩
  · rintro ⟨h1, h2⟩; exact ⟨by omega, by omega⟩
theorem gU_top {top u2 v1 v2 : Nat} (hv : 0 < v1) : gU top u2 v1 v2 ≤ (top + u2 / 4294967296) / v1 := by
  unfold gU
  refine Nat.le_trans (Nat.min_le_right _ _) ?_
  rw [Nat.le_div_iff_mul_le hv]
  have h1 := Nat.div_mul_le_self (top * 4294967296 + u2) (v1 * 4294967296 + v2)
  generalize (top * 4294967296 + u2) / (v1 * 4294967296 + v2) = q at *
  have e : q * (v1 * 4294967296 + v2) = q * v1 * 4294967296 + q * v2 := by rw [Nat.mul_add, Nat.mul_assoc]
  rw [e] at h1
  generalize q * v1 = a at *
  generalize q * v2 = b at *
  omega
theorem gU_brk {top u2 v1 v2 q : Nat} (hv : 0 < v1) (hv2 : v2 < 4294967296) (ht : top < (v1 + 1) * 4294967296) (hq : q * v1 + 4294967296 ≤ top) : q ≤ gU top u2 v1 v2 := by
  have hq1 : q < 4294967296 := by
    rcases Nat.lt_or_ge q 4294967296 with h | h
    · exact h
    · have := Nat.mul_le_mul_right v1 h
      rw [Nat.add_mul] at ht
      rw [Nat.mul_comm v1] at ht
      omega
  refine (gU_le (by omega) (by omega)).1 ⟨hq1, ?_⟩
  have h1 : q * v2 ≤ 4294967296 * 4294967296 := Nat.mul_le_mul (by omega) (by omega)
  have h2 : 4294967296 ≤ top - q * v1 := by omega
  have h3 := Nat.mul_le_mul_right 4294967296 h2
  omega
/-- Knuth's guess is the digit, or one above it -/
theorem gU_ok {P V n : Nat} (hP : P < V * 4294967296) (hV : V < 4294967296 ^ (n + 2)) (hv1 : 0 < V / 4294967296 ^ (n + 1)) : P / V ≤ gU (P / 4294967296 ^ (n + 1)) (dg P n) (V / 4294967296 ^ (n + 1)) (dg V n) ∧ gU (P / 4294967296 ^ (n + 1)) (dg P n) (V / 4294967296 ^ (n + 1)) (dg V n) ≤ P / V + 1 := by
  have hK : 0 < 4294967296 ^ n := pw_pos n
  have hs : 4294967296 ^ (n + 1) = 4294967296 ^ n * 4294967296 := Nat.pow_succ ..
  have e3 : ∀ X, X / 4294967296 ^ (n + 1) * 4294967296 + dg X n = X / 4294967296 ^ n := by
    intro X
    unfold dg
    rw [hs, ← Nat.div_div_eq_div_mul]
    have := Nat.div_add_mod (X / 4294967296 ^ n) 4294967296
    omega
  unfold gU
  rw [e3, e3]
  have hV0 : 0 < V := by
    rcases Nat.eq_zero_or_pos V with h | h
    · rw [h] at hP; omega
    · exact h
  have hVl : 4294967296 * 4294967296 ^ n ≤ V := by
    have h1 := Nat.div_mul_le_self V (4294967296 ^ (n + 1))
    have h2 := Nat.mul_le_mul_right (4294967296 ^ (n + 1)) hv1
    rw [hs] at h1 h2
    have h3 : 4294967296 * 4294967296 ^ n = (0 + 1) * (4294967296 ^ n * 4294967296) := by rw [Nat.zero_add, Nat.one_mul, Nat.mul_comm]
    omega
  clear hv1 e3 hs hV
  generalize 4294967296 ^ n = K at *
  have hV3 : 0 < V / K := Nat.div_pos (by omega) hK
  have hq : P / V ≤ 4294967295 := by
    have : P / V < 4294967296 := (Nat.div_lt_iff_lt_mul hV0).2 (by rw [Nat.mul_comm]; exact hP)
    omega
  constructor
  · rw [Nat.le_min]
    refine ⟨hq, (Nat.le_div_iff_mul_le hV3).2 ((Nat.le_div_iff_mul_le hK).2 ?_)⟩
    calc P / V * (V / K) * K = P / V * (V / K * K) := Nat.mul_assoc ..
      _ ≤ P / V * V := Nat.mul_le_mul_left _ (Nat.div_mul_le_self V K)
      _ ≤ P := Nat.div_mul_le_self P V
  · have hg1 : min 4294967295 (P / K / (V / K)) ≤ 4294967295 := Nat.min_le_left _ _
    have hg2 : min 4294967295 (P / K / (V / K)) * (V / K) ≤ P / K := Nat.le_trans (Nat.mul_le_mul_right _ (Nat.min_le_right _ _)) (Nat.div_mul_le_self _ _)
    generalize min 4294967295 (P / K / (V / K)) = g at *
    rcases Nat.eq_zero_or_pos g with h0 | h0
    · rw [h0]; exact Nat.zero_le _
    · have h : g - 1 ≤ P / V := by
        rw [Nat.le_div_iff_mul_le hV0]
        have h1 := Nat.mul_le_mul_right K hg2
        have h2 := Nat.div_mul_le_self P K
        have h3 := Nat.div_add_mod V K
        have h4 := Nat.mod_lt V hK
        have h5 : V < (V / K + 1) * K := by rw [Nat.add_mul, Nat.mul_comm (V / K)]; omega
        have h6 : g * V ≤ g * ((V / K + 1) * K) := Nat.mul_le_mul_left _ (Nat.le_of_lt h5)
        have h7 : g * ((V / K + 1) * K) = g * (V / K) * K + g * K := by rw [Nat.add_mul, Nat.one_mul, Nat.mul_add, Nat.mul_assoc]
        have h8 : g * K ≤ 4294967296 * K := Nat.mul_le_mul_right _ (by omega)
        have h9 : (g - 1) * V = g * V - V := by rw [Nat.sub_mul, Nat.one_mul]
        rw [h9]
        clear h3 h4 h5 hg2 hP hq h9
        generalize g * V = a at *
        generalize g * (V / K) * K = b at *
        generalize g * K = c at *
        generalize g * ((V / K + 1) * K) = d at *
        generalize P / K * K = e at *
        generalize 4294967296 * K = f at *
        omega
      omega

/-! ### the rounds -/
/-- what is left when the places from j on are done -/
def dvU (N V j : Nat) : Nat := N / 4294967296 ^ j % V * 4294967296 ^ j + N % 4294967296 ^ j
theorem dvU_zero (N V : Nat) : dvU N V 0 = N % V := by simp [dvU, Nat.mod_one]
theorem dvU_top {N V j : Nat} (h : N / 4294967296 ^ j < V) : dvU N V j = N := by
  unfold dvU
  rw [Nat.mod_eq_of_lt h, Nat.mul_comm, Nat.div_add_mod]
/-- the part that is looked at -/
def dvP (N V j : Nat) : Nat := N / 4294967296 ^ (j + 1) % V * 4294967296 + dg N j
theorem dvU_part (N V j : Nat) : dvU N V (j + 1) / 4294967296 ^ j = dvP N V j := by
  have hs : 4294967296 ^ (j + 1) = 4294967296 ^ j * 4294967296 := Nat.pow_succ ..
  unfold dvU dvP dg
  rw [hs, ← Nat.mul_assoc, Nat.mul_right_comm, Nat.add_comm, Nat.add_mul_div_right _ _ (pw_pos j), Nat.mod_mul_right_div_self, Nat.add_comm]
theorem dvP_lt {N V j : Nat} (hV : 0 < V) : dvP N V j < V * 4294967296 := by
  unfold dvP
  have h1 := Nat.mod_lt (N / 4294967296 ^ (j + 1)) hV
  have h2 := dg_lt N j
  have h3 := Nat.mul_le_mul_right 4294967296 h1
  rw [Nat.succ_mul] at h3
  omega
theorem dvP_eq (N V j : Nat) : N / 4294967296 ^ j = N / 4294967296 ^ (j + 1) / V * 4294967296 * V + dvP N V j := by
  have hs : 4294967296 ^ (j + 1) = 4294967296 ^ j * 4294967296 := Nat.pow_succ ..
  unfold dvP dg
  have h1 := Nat.div_add_mod (N / 4294967296 ^ j) 4294967296
  have h2 := Nat.div_add_mod (N / 4294967296 ^ (j + 1)) V
  rw [hs, ← Nat.div_div_eq_div_mul] at *
  generalize N / 4294967296 ^ j / 4294967296 = X at *
  have h3 : X / V * 4294967296 * V = V * (X / V) * 4294967296 := by rw [Nat.mul_right_comm, Nat.mul_comm (X / V)]
  rw [h3]
  omega
theorem dvP_mod (N V j : Nat) : dvP N V j % V = N / 4294967296 ^ j % V := by
  rw [dvP_eq N V j, Nat.add_comm, Nat.add_mul_mod_self_right]
theorem dvP_div {N V j : Nat} (hV : 0 < V) : dvP N V j / V = dg (N / V) j := by
  have h := dvP_eq N V j
  have hlt : dvP N V j / V < 4294967296 := (Nat.div_lt_iff_lt_mul hV).2 (by rw [Nat.mul_comm]; exact dvP_lt hV)
  unfold dg
  rw [Nat.div_div_eq_div_mul, Nat.mul_comm V, ← Nat.div_div_eq_div_mul, h, Nat.add_comm, Nat.add_mul_div_right _ _ hV, Nat.add_mul_mod_self_right, Nat.mod_eq_of_lt hlt]
/-- the cells behind a round -/
theorem dv_cells {N V j n X : Nat} (hV : V < 4294967296 ^ n) (hV0 : 0 < V) (hX : ∀ i, i < n + 1 → dg X i = dg (dvP N V j % V) i) (m : Nat) : digL (seg (dgI (dvU N V (j + 1))) j (n + 1) (dgI X)) m = digL (dgI (dvU N V j)) m := by
  refine digL_ext fun i _ => ?_
  have hlt1 : N % 4294967296 ^ (j + 1) < 4294967296 ^ (j + 1) := Nat.mod_lt _ (pw_pos _)
  have hlt : N % 4294967296 ^ j < 4294967296 ^ j := Nat.mod_lt _ (pw_pos _)
  unfold seg
  by_cases h1 : j ≤ i ∧ i < j + (n + 1)
  · rw [if_pos h1]
    obtain ⟨d, rfl⟩ : ∃ d, i = j + d := ⟨i - j, by omega⟩
    unfold dgI dvU
    rw [Nat.add_sub_cancel_left, hX d (by omega), dg_up hlt, dvP_mod]
  · rw [if_neg h1]
    unfold dgI dvU
    rcases Nat.lt_or_ge i j with h2 | h2
    · rw [dg_low (by omega), dg_low h2, dg_mod (by omega), dg_mod h2]
    · obtain ⟨d, rfl⟩ : ∃ d, i = j + d := ⟨i - j, by omega⟩
      have hr : ∀ x, dg (x % V) d = 0 := fun x => dg_high (Nat.lt_trans (Nat.mod_lt x hV0) hV) (by omega)
      have hr1 : ∀ x, dg (x % V) (d - 1) = 0 := fun x => dg_high (Nat.lt_trans (Nat.mod_lt x hV0) hV) (by omega)
      rw [dg_up hlt, hr, show j + d = j + 1 + (d - 1) by omega, dg_up hlt1, hr1]
/-- the first one -/
theorem dv_first {A b s m n : Nat} (hA : A < 4294967296 ^ m) (hs : s ≤ 31) (hn : n ≤ m) (hb : 4294967296 ^ n ≤ b * 2) : A * 2 ^ s / 4294967296 ^ (m - n + 1) < b := by
  have h0 : A * 2 ^ s < 4294967296 ^ m * 2 ^ 31 := by
    have h1 : A * 2 ^ s ≤ A * 2 ^ 31 := Nat.mul_le_mul_left _ (Nat.pow_le_pow_right (by decide) hs)
    have h2 : A * 2 ^ 31 < 4294967296 ^ m * 2 ^ 31 := Nat.mul_lt_mul_of_pos_right hA (by decide)
    omega
  rw [Nat.div_lt_iff_lt_mul (pw_pos _)]
  have e : 4294967296 ^ m = 4294967296 ^ (m - n) * 4294967296 ^ n := by rw [← Nat.pow_add]; congr 1; omega
  have e2 : 4294967296 ^ (m - n + 1) = 4294967296 ^ (m - n) * 4294967296 := Nat.pow_succ ..
  rw [e] at h0
  rw [e2]
  generalize 4294967296 ^ (m - n) = K at *
  generalize 4294967296 ^ n = C at *
  have h3 : K * C ≤ K * (b * 2) := Nat.mul_le_mul_left _ hb
  have h4 : K * (b * 2) * 2 ^ 31 = b * (K * 4294967296) := by
    rw [show (4294967296 : Nat) = 2 * 2 ^ 31 by decide, Nat.mul_left_comm K b 2, Nat.mul_assoc b (K * 2), Nat.mul_assoc K 2]
  have h5 : K * C * 2 ^ 31 ≤ K * (b * 2) * 2 ^ 31 := Nat.mul_le_mul_right _ h3
  omega
/-- the quotient's cells: those from j on -/
def dvQ (Q j : Nat) : Nat → Int := fun i => if i < j then 0 else dgI Q i
theorem dvQ_set {Q j m : Nat} : (digL (dvQ Q (j + 1)) m).set j (dgI Q j) = digL (dvQ Q j) m := by
  rw [digL_set]
  congr 1
  funext i
  unfold dvQ
  by_cases h : i = j
  · subst h; rw [if_pos rfl, if_neg (by omega)]
  · rw [if_neg h]
    by_cases h2 : i < j
    · rw [if_pos h2, if_pos (by omega)]
    · rw [if_neg h2, if_neg (by omega)]
theorem dvQ_zero (Q : Nat) : dvQ Q 0 = dgI Q := by funext i; unfold dvQ; rw [if_neg (by omega)]
theorem dvQ_all {Q j m : Nat} (h : m ≤ j) : digL (dvQ Q j) m = List.replicate m 0 := by
  refine List.ext_getElem (by rw [digL_len, List.length_replicate]) fun i h1 h2 => ?_
  have hi : i < m := by rw [digL_len] at h1; exact h1
  simp [digL, dvQ]
  omega
/-- what is taken: too much, or not -/
theorem dv_take {P V g n : Nat} (hV : V < 4294967296 ^ n) (h : P / V = g) (hV0 : 0 < V) : P + 4294967296 ^ (n + 1) - g * V = P % V + 4294967296 ^ (n + 1) := by
  have := Nat.div_add_mod P V
  rw [h, Nat.mul_comm] at this
  omega
end Go.Proofs.YtikfefjaeejeeaaGreatDoor
/- Contracts of calls and contracts of the machine: plain values. -/
namespace Go.Proofs.YtikfefjaeejeeaaGreatDoor
open Go.RowKit
/-- a value with nothing behind it -/
def plainD : PD → Option Value
  | .v x => some x
  | .tup l => some (.tuple (l.map fun d => match d with | .v x => x | _ => .nilIface).toArray)
  | _ => none
def flat : PD → Bool
  | .v _ => true
  | .tup l => l.all fun d => match d with | .v _ => true | _ => false
  | _ => false
theorem plain_rel {Z : Nat → Nat → Prop} {w : World} {d : PD} {x v : Value} (h : PRel Z w d x) (hf : flat d = true) (hv : plainD d = some v) : x = v := by
  cases h with
  | v x => injection hv
  | agg cs vs hl h => cases hv
  | tup cs vs hl h =>
    injection hv with hv
    subst hv
    congr 1
    apply Array.ext
    · simp [hl]
    · intro i h1 h2
      have hi : i < cs.length := by rw [← hl]; exact h1
      have := h i cs[i] vs[i] (List.getElem?_eq_getElem hi) (Array.getElem?_eq_getElem h1)
      simp only [flat, List.all_eq_true] at hf
      have hfi := hf _ (List.getElem_mem hi)
      simp only [List.getElem_toArray, List.getElem_map]
      generalize cs[i] = c at this hfi
      generalize vs[i] = y at this
      cases this <;> first | rfl | cases hfi
  | sl els A c sz val hc hm hs hA hr => cases hv
theorem plain_is {Z : Nat → Nat → Prop} {w : World} {d : PD} {v : Value} (hf : flat d = true) (hv : plainD d = some v) : PRel Z w d v := by
  cases d with
  | v x => injection hv with hv; subst hv; exact .v x
  | agg cs => cases hv
  | sl els => cases hv
  | tup cs =>
    injection hv with hv
    subst hv
    refine .tup _ _ (by simp) fun i d x hd hx => ?_
    simp only [flat, List.all_eq_true] at hf
    have hfi := hf _ (List.mem_of_getElem? hd)
    simp only [List.getElem?_toArray, List.getElem?_map, hd, Option.map_some, Option.some.injEq] at hx
    cases d <;> first | (subst hx; exact .v _) | cases hfi
def plainL (l : List PD) : Option (List Value) := match l with
  | [] => some []
  | d :: r => match plainD d, plainL r with
    | some v, some vs => some (v :: vs)
    | _, _ => none
theorem plainL_rel {Z : Nat → Nat → Prop} {w : World} : ∀ {ds : List PD} {xs vs : List Value}, xs.length = ds.length → (∀ (i : Nat) (d : PD) (x : Value), ds[i]? = some d → xs[i]? = some x → PRel Z w d x) → ds.all flat = true → plainL ds = some vs → xs = vs
  | [], [], vs, _, _, _, h => by injection h
  | [], _ :: _, vs, hl, _, _, _ => by simp at hl
  | _ :: _, [], vs, hl, _, _, _ => by simp at hl
  | d :: r, x :: xs, vs, hl, hx, hf, h => by
    simp only [plainL] at h
    split at h
    · rename_i v vs' hv hvs
      injection h with h; subst h
      simp only [List.all_cons, Bool.and_eq_true] at hf
      have e1 := plain_rel (hx 0 d x rfl rfl) hf.1 hv
      have e2 : xs = vs' := plainL_rel (by simpa using hl) (fun i d x hd hx' => hx (i + 1) d x (by simpa using hd) (by simpa using hx')) hf.2 hvs
      rw [e1, e2]
    · cases h
/-- out of a contract of calls -/
theorem pure_of_calls {P : Program} {f : FuncId} {args : List PD} {d : PD} {vs : List Value} {v : Value} (hc : ∃ fn c, Callable P f fn c) (ha : args.all flat = true) (hv : plainL args = some vs) (hd : flat d = true) (hdv : plainD d = some v)
    (h : ∀ w, LaidW w.heap.size w → Calls P f vs.toArray w fun e w' => e = .returned v ∧ Below w.heap.size w w') : Pure P f args (.ret d) := by
  refine ⟨hc, fun Z w xs hlw hz hx => ?_⟩
  have : xs.toList = vs := plainL_rel (by rw [Array.length_toList]; exact hx.1) (fun i d x hd hx' => hx.2 i d x hd (by rwa [Array.getElem?_toList] at hx')) ha hv
  obtain rfl : xs = vs.toArray := by rw [← this]
  refine (h w hlw).mono ?_
  rintro e w' ⟨rfl, hb⟩
  exact ⟨plain_is hd hdv, hb⟩
/-- into one -/
theorem calls_of_pure {P : Program} {f : FuncId} {args : List PD} {d : PD} {vs : List Value} {v : Value} (h : Pure P f args (.ret d)) (ha : args.all flat = true) (hv : plainL args = some vs) (hd : flat d = true) (hdv : plainD d = some v) (w : World) (hlw : LaidW w.heap.size w) :
    Calls P f vs.toArray w fun e w' => e = .returned v ∧ Below w.heap.size w w' := by
  have hlen : ∀ {ds : List PD} {vs : List Value}, plainL ds = some vs → vs.length = ds.length := by
    intro ds
    induction ds with
    | nil => intro vs h; injection h with h; subst h; rfl
    | cons d r ih =>
      intro vs h
      simp only [plainL] at h
      split at h
      · rename_i v vs' _ hvs
        injection h with h; subst h
        simp [ih hvs]
      · cases h
  have hrel : ∀ {ds : List PD} {vs : List Value}, plainL ds = some vs → ds.all flat = true → ∀ (i : Nat) (d : PD) (x : Value), ds[i]? = some d → vs[i]? = some x → PRel (fun _ _ => False) w d x := by
    intro ds
    induction ds with
    | nil => intro vs _ _ i d x hd; simp at hd
    | cons d r ih =>
      intro vs h hf i e x he hx
      simp only [plainL] at h
      split at h
      · rename_i v vs' hv hvs
        injection h with h; subst h
        simp only [List.all_cons, Bool.and_eq_true] at hf
        cases i with
        | zero =>
          simp at he hx
          subst he; subst hx
          exact plain_is hf.1 hv
        | succ i => exact ih hvs hf.2 i e x (by simpa using he) (by simpa using hx)
      · cases h
  refine (h.2 (fun _ _ => False) w vs.toArray hlw (fun _ _ h => h.elim) ⟨by simpa using hlen hv, fun i d x hd hx => hrel hv ha i d x hd (by simpa using hx)⟩).mono ?_
  intro e w' he
  cases e with
  | returned x => exact ⟨by rw [plain_rel he.1 hd hdv], he.2⟩
  | panicked ch => exact he.elim
  | outgrown => exact he.elim
end Go.Proofs.YtikfefjaeejeeaaGreatDoor
/- Walks: sums and differences of limbs, noughts ahead of a limb. -/
namespace Go.Proofs.YtikfefjaeejeeaaGreatDoor
open Go.RowKit
set_option maxRecDepth 100000
theorem lz_pure (x : Int) (h0 : 0 ≤ x) (h1 : x < 4294967296) : Pure Tryz.prog 209 [.v (.int .u32 x)] (.ret (intP (32 - (Lib.bitLen x.toNat : Int)))) :=
  pure_of_calls ⟨_, _, Callable.mk Tryz.func209 rfl rfl⟩ rfl rfl rfl rfl fun w _ => (Tryz.bits_LeadingZeros32 x w h0 (by omega)).mono fun _ w' h => ⟨h.1, by rw [h.2]; exact Below.refl _ _⟩
theorem len32_pure (x : Int) (h0 : 0 ≤ x) (h1 : x < 4294967296) : Pure Tryz.prog 184 [.v (.int .u32 x)] (.ret (intP (Lib.bitLen x.toNat : Nat))) :=
  pure_of_calls ⟨_, _, Callable.mk Tryz.func184 rfl rfl⟩ rfl rfl rfl rfl fun w _ => (Tryz.bits_Len32 x w h0 (by omega)).mono fun _ w' h => ⟨h.1, by rw [h.2]; exact Below.refl _ _⟩
theorem lz_spec {x : Nat} (h0 : x ≠ 0) (h1 : x < 4294967296) : ∃ s : Nat, s ≤ 31 ∧ Lib.bitLen x = 32 - s ∧ 2147483648 ≤ x * 2 ^ s ∧ x * 2 ^ s < 4294967296 := by
  obtain ⟨k1, k2, k3⟩ := Lib.bitLenAux_bounds 64 x (by omega) h0
  have e : Lib.bitLen x = Lib.bitLenAux 64 x := rfl
  rw [e]
  generalize Lib.bitLenAux 64 x = b at *
  have hb : b ≤ 32 := by
    rcases Nat.lt_or_ge 32 b with h | h
    · have h2 : 2 ^ 32 ≤ 2 ^ (b - 1) := Nat.pow_le_pow_right (by decide) (by omega)
      omega
    · exact h
  refine ⟨32 - b, by omega, by omega, ?_, ?_⟩
  · have : 2 ^ (b - 1) * 2 ^ (32 - b) = 2147483648 := by rw [← Nat.pow_add, show b - 1 + (32 - b) = 31 by omega]
    rw [← this]; exact Nat.mul_le_mul_right _ k2
  · have : 2 ^ b * 2 ^ (32 - b) = 4294967296 := by rw [← Nat.pow_add, show b + (32 - b) = 32 by omega]
    rw [← this]; exact Nat.mul_lt_mul_of_pos_right k3 (Nat.pow_pos (by decide))
theorem add32_pure (x y c D b : Nat) (hx : x < 4294967296) (hy : y < 4294967296) (hc : c ≤ 1) (hD : D < 4294967296) (hb : b ≤ 1) (he : x + y + c = D + 4294967296 * b) : Pure Tryz.prog 235 [.v (.int .u32 (x : Nat)), .v (.int .u32 (y : Nat)), .v (.int .u32 (c : Nat))] (.ret (.tup [.v (.int .u32 (D : Nat)), .v (.int .u32 (b : Nat))])) := by
  have rw1 : IntKind.u64.wrap (x : Int) = x := wrapu64_id (by omega) (by omega)
  have rw2 : IntKind.u64.wrap (y : Int) = y := wrapu64_id (by omega) (by omega)
  have rw3 : IntKind.u64.wrap (c : Int) = c := wrapu64_id (by omega) (by omega)
  have rw4 : IntKind.u64.wrap ((x : Int) + y) = (x : Int) + y := wrapu64_id (by omega) (by omega)
  have rw5 : IntKind.u64.wrap ((x : Int) + y + c) = (x : Int) + y + c := wrapu64_id (by omega) (by omega)
  have rw6 : IntKind.u32.wrap ((x : Int) + y + c) = (D : Int) := by show ((x : Int) + y + c) % 4294967296 = _; omega
  have rw7 : ((x : Int) + y + c).fdiv (2 ^ min (Int.toNat 32) IntKind.u64.bits) = (b : Int) := by
    show ((x : Int) + y + c).fdiv 4294967296 = _
    rw [Int.fdiv_eq_ediv_of_nonneg _ (by omega)]
    omega
  have rw8 : IntKind.u32.wrap (b : Int) = (b : Int) := by show (b : Int) % 4294967296 = _; omega
  refine pure_eq (prun [] [(9, .w (DV.p (PD.v (Value.int IntKind.u64 (↑x : Int))))), (11, .w (DV.p (PD.v (Value.int IntKind.u64 (↑y : Int))))), (12, .w (DV.p (PD.v (Value.int IntKind.u64 ((↑x : Int) + (↑y : Int)))))), (14, .w (DV.p (PD.v (Value.int IntKind.u64 (↑c : Int))))), (15, .w (DV.p (PD.v (Value.int IntKind.u64 ((↑x : Int) + (↑y : Int) + (↑c : Int)))))), (21, .w (DV.p (PD.v (Value.int IntKind.u32 (↑D : Int))))), (27, .w (DV.p (PD.v (Value.int IntKind.u64 (↑b : Int))))), (28, .w (DV.p (PD.v (Value.int IntKind.u32 (↑b : Int)))))] (e := AEnd.ret (PD.tup [PD.v (Value.int IntKind.u32 (↑D : Int)), PD.v (Value.int IntKind.u32 (↑b : Int))])) (.c (congrArg (fun z => DV.p (PD.v (Go.Value.int IntKind.u32 z))) rw8) (.c (congrArg (fun z => DV.p (PD.v (Go.Value.int IntKind.u64 z))) rw7) (.c (congrArg (fun z => DV.p (PD.v (Go.Value.int IntKind.u32 z))) rw6) (.c (congrArg (fun z => DV.p (PD.v (Go.Value.int IntKind.u64 z))) rw5) (.c (congrArg (fun z => DV.p (PD.v (Go.Value.int IntKind.u64 z))) rw3) (.c (congrArg (fun z => DV.p (PD.v (Go.Value.int IntKind.u64 z))) rw4) (.c (congrArg (fun z => DV.p (PD.v (Go.Value.int IntKind.u64 z))) rw2) (.c (congrArg (fun z => DV.p (PD.v (Go.Value.int IntKind.u64 z))) rw1) .n)))))))) (by kernel_rfl)) ?_
  rfl
theorem ofI32 {n : Nat} (h : n < 4294967296) : (BitVec.ofInt IntKind.u32.bits (n : Int)).toNat = n := by
  show (BitVec.ofInt 32 (n : Int)).toNat = _
  rw [BitVec.toNat_ofInt]
  omega
theorem w32 {n : Nat} (h : n < 4294967296) : IntKind.u32.wrap (n : Int) = (n : Int) := by show (n : Int) % 4294967296 = _; omega
theorem xor32 {a b : Nat} (ha : a < 4294967296) (hb : b < 4294967296) : IntKind.u32.wrap (((BitVec.ofInt IntKind.u32.bits (a : Int) ^^^ BitVec.ofInt IntKind.u32.bits (b : Int)).toNat : Nat) : Int) = ((a ^^^ b : Nat) : Int) := by
  rw [BitVec.toNat_xor, ofI32 ha, ofI32 hb]; exact w32 (Nat.xor_lt_two_pow (n := 32) ha hb)
theorem and32 {a b : Nat} (ha : a < 4294967296) (hb : b < 4294967296) : IntKind.u32.wrap (((BitVec.ofInt IntKind.u32.bits (a : Int) &&& BitVec.ofInt IntKind.u32.bits (b : Int)).toNat : Nat) : Int) = ((a &&& b : Nat) : Int) := by
  rw [BitVec.toNat_and, ofI32 ha, ofI32 hb]; exact w32 (Nat.and_lt_two_pow (n := 32) a hb)
theorem or32 {a b : Nat} (ha : a < 4294967296) (hb : b < 4294967296) : IntKind.u32.wrap (((BitVec.ofInt IntKind.u32.bits (a : Int) ||| BitVec.ofInt IntKind.u32.bits (b : Int)).toNat : Nat) : Int) = ((a ||| b : Nat) : Int) := by
  rw [BitVec.toNat_or, ofI32 ha, ofI32 hb]; exact w32 (Nat.or_lt_two_pow (n := 32) ha hb)
theorem not32 {b : Nat} (hb : b < 4294967296) : IntKind.u32.wrap (((BitVec.ofInt IntKind.u32.bits (if IntKind.u32.signed = true then -1 else IntKind.u32.max) ^^^ BitVec.ofInt IntKind.u32.bits (b : Int)).toNat : Nat) : Int) = ((4294967295 ^^^ b : Nat) : Int) := xor32 (a := 4294967295) (by omega) hb
theorem top_bit {n : Nat} (h : n < 4294967296) : n.testBit 31 = decide (2147483648 ≤ n) := by
  rw [Nat.testBit_eq_decide_div_mod_eq]
  have : n / 2 ^ 31 % 2 = 1 ↔ 2147483648 ≤ n := by omega
  simp only [this]
theorem borrow32 {x y c D b : Nat} (hx : x < 4294967296) (hy : y < 4294967296) (hc : c ≤ 1) (hD : D < 4294967296) (hb : b ≤ 1) (he : x + 4294967296 * b = y + c + D) : (((4294967295 ^^^ x) &&& y) ||| ((4294967295 ^^^ (x ^^^ y)) &&& D)) / 2147483648 = b := by
  have h1 : 4294967295 ^^^ x < 4294967296 := Nat.xor_lt_two_pow (n := 32) (by omega) hx
  have h2 : x ^^^ y < 4294967296 := Nat.xor_lt_two_pow (n := 32) hx hy
  have h3 : (4294967295 ^^^ x) &&& y < 4294967296 := Nat.and_lt_two_pow (n := 32) _ hy
  have h4 : (4294967295 ^^^ (x ^^^ y)) &&& D < 4294967296 := Nat.and_lt_two_pow (n := 32) _ hD
  have h5 : ((4294967295 ^^^ x) &&& y) ||| ((4294967295 ^^^ (x ^^^ y)) &&& D) < 4294967296 := Nat.or_lt_two_pow (n := 32) h3 h4
  have h6 := top_bit h5
  have hm : Nat.testBit 4294967295 31 = true := by decide
  rw [Nat.testBit_or, Nat.testBit_and, Nat.testBit_and, Nat.testBit_xor, Nat.testBit_xor, Nat.testBit_xor, hm, top_bit hx, top_bit hy, top_bit hD] at h6
  generalize ((4294967295 ^^^ x) &&& y) ||| ((4294967295 ^^^ (x ^^^ y)) &&& D) = T at *
  clear h1 h2 h3 h4
  by_cases q1 : 2147483648 ≤ x <;> by_cases q2 : 2147483648 ≤ y <;> by_cases q3 : 2147483648 ≤ D <;> simp [q1, q2, q3] at h6 <;> omega
theorem sub32_pure (x y c D b : Nat) (hx : x < 4294967296) (hy : y < 4294967296) (hc : c ≤ 1) (hD : D < 4294967296) (hb : b ≤ 1) (he : x + 4294967296 * b = y + c + D) : Pure Tryz.prog 234 [.v (.int .u32 (x : Nat)), .v (.int .u32 (y : Nat)), .v (.int .u32 (c : Nat))] (.ret (.tup [.v (.int .u32 (D : Nat)), .v (.int .u32 (b : Nat))])) := by
  obtain ⟨E, hE⟩ : ∃ E, E = IntKind.u32.wrap ((x : Int) - (y : Int)) := ⟨_, rfl⟩
  have rw1 := hE.symm
  have rw2 : IntKind.u32.wrap (E - (c : Int)) = (D : Int) := by rw [hE]; show ((((x : Int) - (y : Int)) % 4294967296) - (c : Int)) % 4294967296 = _; omega
  clear hE
  have h1 : 4294967295 ^^^ x < 4294967296 := Nat.xor_lt_two_pow (n := 32) (by omega) hx
  have h2 : x ^^^ y < 4294967296 := Nat.xor_lt_two_pow (n := 32) hx hy
  have h2' : 4294967295 ^^^ (x ^^^ y) < 4294967296 := Nat.xor_lt_two_pow (n := 32) (by omega) h2
  have h3 : (4294967295 ^^^ x) &&& y < 4294967296 := Nat.and_lt_two_pow (n := 32) _ hy
  have h4 : (4294967295 ^^^ (x ^^^ y)) &&& D < 4294967296 := Nat.and_lt_two_pow (n := 32) _ hD
  have rw3 := not32 hx
  have rw4 := and32 h1 hy
  have rw5 := xor32 hx hy
  have rw6 := not32 h2
  have rw7 := and32 h2' hD
  have rw8 := or32 h3 h4
  have hbig : (((((4294967295 ^^^ x) &&& y) ||| ((4294967295 ^^^ (x ^^^ y)) &&& D) : Nat) : Int)).fdiv (2 ^ min (Int.toNat 31) IntKind.u32.bits) = (b : Int) := by
    show (_ : Int).fdiv 2147483648 = _
    rw [Int.fdiv_eq_ediv_of_nonneg _ (by omega), ← borrow32 hx hy hc hD hb he]
    rfl
  have rw9 := hbig
  refine pure_eq (prun [] [(10, .w (DV.p (PD.v (Value.int IntKind.u32 E)))), (12, .w (DV.p (PD.v (Value.int IntKind.u32 (↑D : Int))))), (18, .w (DV.p (PD.v (Value.int IntKind.u32 (↑(4294967295 ^^^ x) : Int))))), (20, .w (DV.p (PD.v (Value.int IntKind.u32 (↑((4294967295 ^^^ x) &&& y) : Int))))), (23, .w (DV.p (PD.v (Value.int IntKind.u32 (↑(x ^^^ y) : Int))))), (24, .w (DV.p (PD.v (Value.int IntKind.u32 (↑(4294967295 ^^^ (x ^^^ y)) : Int))))), (26, .w (DV.p (PD.v (Value.int IntKind.u32 (↑((4294967295 ^^^ (x ^^^ y)) &&& D) : Int))))), (27, .w (DV.p (PD.v (Value.int IntKind.u32 (↑((4294967295 ^^^ x) &&& y ||| (4294967295 ^^^ (x ^^^ y)) &&& D) : Int))))), (28, .w (DV.p (PD.v (Value.int IntKind.u32 (↑b : Int)))))] (e := AEnd.ret (PD.tup [PD.v (Value.int IntKind.u32 (↑D : Int)), PD.v (Value.int IntKind.u32 (↑b : Int))])) (.c (congrArg (fun z => DV.p (PD.v (Go.Value.int IntKind.u32 z))) rw9) (.c (congrArg (fun z => DV.p (PD.v (Go.Value.int IntKind.u32 z))) rw8) (.c (congrArg (fun z => DV.p (PD.v (Go.Value.int IntKind.u32 z))) rw7) (.c (congrArg (fun z => DV.p (PD.v (Go.Value.int IntKind.u32 z))) rw6) (.c (congrArg (fun z => DV.p (PD.v (Go.Value.int IntKind.u32 z))) rw5) (.c (congrArg (fun z => DV.p (PD.v (Go.Value.int IntKind.u32 z))) rw4) (.c (congrArg (fun z => DV.p (PD.v (Go.Value.int IntKind.u32 z))) rw3) (.c (congrArg (fun z => DV.p (PD.v (Go.Value.int IntKind.u32 z))) rw2) (.c (congrArg (fun z => DV.p (PD.v (Go.Value.int IntKind.u32 z))) rw1) .n))))))))) (by kernel_rfl)) ?_
  rfl
end Go.Proofs.YtikfefjaeejeeaaGreatDoor
/- Walks: a guess at a limb of a quotient; a product is taken, a number is given back. -/
namespace Go.Proofs.YtikfefjaeejeeaaGreatDoor
open Go.RowKit
set_option maxRecDepth 100000
theorem limbs_at {V k n : Nat} (hn : (limbs V).length = n) (hk : k < n) : (nums .u32 (limbs V))[k]? = some (.v (.int .u32 ((V / 4294967296 ^ k % 4294967296 : Nat) : Int))) :=
  nums_at (limbs_get ((limbs_lt V k).1 (by omega)))
theorem numsD_get {k : IntKind} {l : List Int} {i : Nat} {x : Int} (h : l[i]? = some x) : (numsD k l)[i]? = some (.p (.v (.int k x))) := by
  unfold numsD; rw [List.getElem?_map, h]; rfl
theorem numsD_set {k : IntKind} {l : List Int} {i : Nat} {x : Int} : (numsD k l).set i (.p (.v (.int k x))) = numsD k (l.set i x) := by
  unfold numsD; rw [List.map_set]
/-- the cells of the part, k of them new -/
def sgC (F : Nat → Int) (j k L X : Nat) : List DV := numsD .u32 (digL (seg F j k (dgI X)) L)
theorem sgC_len (F : Nat → Int) (j k L X : Nat) : (sgC F j k L X).length = L := by unfold sgC; rw [numsD_len, digL_len]
theorem sgC_get {F : Nat → Int} {j k L X Y : Nat} (h : j + k < L) (hF : F (j + k) = dgI Y k) : (sgC F j k L X)[j + k]? = some (.p (.v (.int .u32 ((Y / 4294967296 ^ k % 4294967296 : Nat) : Int)))) := by
  refine numsD_get ?_
  rw [digL_get h]
  unfold seg
  rw [if_neg (by omega), hF]
  rfl
theorem sgC_set {F : Nat → Int} {j k L X : Nat} : (sgC F j k L X).set (j + k) (.p (.v (.int .u32 ((X / 4294967296 ^ k % 4294967296 : Nat) : Int)))) = sgC F j (k + 1) L X := by
  unfold sgC
  rw [numsD_set]
  exact congrArg (numsD .u32) (digL_seg rfl)
def tkS (F : Nat → Int) (Q : List DV) (j n L cap V g X k : Nat) : St := ⟨mkT 60 [(0, .bsl 0 j 1 (n + 1) cap), (1, .p (natL (limbs V))), (2, .p (.v (.int .u64 (g : Nat)))), (7, .p (.v (.int .u64 (cyM V g k : Nat)))), (8, .p (.v (.int .u32 (cyB X (V * g) k : Nat)))), (12, .p (natL (limbs V))), (13, .p (intP (n : Nat))), (14, .p (intP (k : Nat)))], ⟨[⟨86, sgC F j k L X, false⟩, ⟨86, Q, false⟩], [], []⟩⟩
set_option maxHeartbeats 4000000 in
theorem take_loop (F : Nat → Int) (Q : List DV) (j n L cap V g X : Nat) (hn : (limbs V).length = n) (hg : g < 4294967296) (hL : j + n + 1 ≤ L) (hL2 : L ≤ 1073741825) (hF : ∀ k, k ≤ n → F (j + k) = dgI (X + V * g) k) :
    LoopOK Tryz.prog (loopB Tryz.prog 212 0) (tkS F Q j n L cap V g X 0) (.exit 0) ⟨mkT 60 [(0, .bsl 0 j 1 (n + 1) cap), (1, .p (natL (limbs V))), (7, .p (.v (.int .u64 (cyM V g n : Nat)))), (8, .p (.v (.int .u32 (cyB X (V * g) n : Nat))))], ⟨[⟨86, sgC F j n L X, false⟩, ⟨86, Q, false⟩], [], []⟩⟩ := by
  refine loop_ix [0, 1, 2, 7, 8, 12, 13, 14] (tkS F Q j n L cap V g X) n (fun _ => True) trivial (fun _ => rfl) ?_
  intro k hk _ ro K Q1 hQ hK
  by_cases hlt : k < n
  · have hw := wrap64_succ (k := k) (by omega)
    have gx : (nums .u32 (limbs V))[(k : Int).toNat]? = some (.v (.int .u32 ((V / 4294967296 ^ k % 4294967296 : Nat) : Int))) := limbs_at hn hlt
    have hlen : (nums .u32 (limbs V)).length = n := by rw [nums_length, hn]
    have gu : (sgC F j k L X)[j + (k : Int).toNat * 1]? = some (.p (.v (.int .u32 (((X + V * g) / 4294967296 ^ k % 4294967296 : Nat) : Int)))) := by
      rw [Int.toNat_natCast, Nat.mul_one]; exact sgC_get (by omega) (hF k (by omega))
    have hset := sgC_set (F := F) (j := j) (k := k) (L := L) (X := X)
    have hcl := sgC_len F j k L X
    have n1 := cyM_next V g k
    have n2 := cyB_next X (V * g) k
    obtain ⟨_, c1⟩ := cyM_spec V g k
    obtain ⟨_, c2⟩ := cyM_spec V g (k + 1)
    obtain ⟨_, c3⟩ := cyB_spec X (V * g) k
    obtain ⟨_, c4⟩ := cyB_spec X (V * g) (k + 1)
    have b1 : V / 4294967296 ^ k % 4294967296 < 4294967296 := Nat.mod_lt _ (by decide)
    have b2 : V * g / 4294967296 ^ k % 4294967296 < 4294967296 := Nat.mod_lt _ (by decide)
    have b3 : X / 4294967296 ^ k % 4294967296 < 4294967296 := Nat.mod_lt _ (by decide)
    have b4 : (X + V * g) / 4294967296 ^ k % 4294967296 < 4294967296 := Nat.mod_lt _ (by decide)
    unfold tkS at hK ⊢
    generalize V / 4294967296 ^ k % 4294967296 = x at *
    generalize V * g / 4294967296 ^ k % 4294967296 = m at *
    generalize X / 4294967296 ^ k % 4294967296 = D at *
    generalize (X + V * g) / 4294967296 ^ k % 4294967296 = u at *
    generalize cyM V g (k + 1) = e2 at *
    generalize cyM V g k = e1 at *
    generalize cyB X (V * g) (k + 1) = f2 at *
    generalize cyB X (V * g) k = f1 at *
    generalize sgC F j (k + 1) L X = C2 at *
    generalize sgC F j k L X = C at *
    have hxg : x * g ≤ 4294967295 * 4294967295 := Nat.mul_le_mul (by omega) (by omega)
    have hs := sub32_pure u m f1 D f2 b4 b2 c3 b3 c4 (by omega)
    have rwx : IntKind.u64.wrap (x : Int) = (x : Int) := wrapu64_id (by omega) (by omega)
    have hgx : (g : Int) * (x : Int) = ((x * g : Nat) : Int) := by rw [Nat.mul_comm, Int.natCast_mul]
    have rwp : IntKind.u64.wrap ((g : Int) * (x : Int)) = ((x * g : Nat) : Int) := by rw [hgx]; exact wrapu64_id (by omega) (by omega)
    generalize x * g = y at *
    have rwq : IntKind.u64.wrap ((y : Int) + (e1 : Int)) = ((m + 4294967296 * e2 : Nat) : Int) := by rw [wrapu64_id (by omega) (by omega)]; omega
    have rws : ((m + 4294967296 * e2 : Nat) : Int).fdiv (2 ^ min (Int.toNat 32) IntKind.u64.bits) = (e2 : Int) := by
      show ((m + 4294967296 * e2 : Nat) : Int).fdiv 4294967296 = _
      rw [Int.fdiv_eq_ediv_of_nonneg _ (by omega)]
      omega
    have rwt : IntKind.u32.wrap ((m + 4294967296 * e2 : Nat) : Int) = (m : Int) := by show ((m + 4294967296 * e2 : Nat) : Int) % 4294967296 = _; omega
    have hlN : (k : Int) < (n : Int) := by omega
    have hlN2 : (k : Int) < ((n + 1 : Nat) : Int) := by omega
    clear n1 n2 hF hgx
    generalize limbs V = W at *
    refine crun [] ⟨[0, 1, 2, 7, 8, 12, 13, 14], [], [], none⟩ [(2, .b true), (12, .el (PD.v (Value.int IntKind.u32 (↑x : Int)))), (13, .el (PD.v (Value.int IntKind.u32 (↑x : Int)))), (21, .w (DV.p (PD.v (Value.int IntKind.u64 (↑x : Int))))), (22, .w (DV.p (PD.v (Value.int IntKind.u64 (↑y : Int))))), (24, .w (DV.p (PD.v (Value.int IntKind.u64 (↑(m + 4294967296 * e2) : Int))))), (30, .w (DV.p (PD.v (Value.int IntKind.u64 (↑e2 : Int))))), (38, .bi), (39, .lb (DV.p (PD.v (Value.int IntKind.u32 (↑u : Int))))), (41, .w (DV.p (PD.v (Value.int IntKind.u32 (↑m : Int))))), (43, .call (AEnd.ret (PD.tup [PD.v (Value.int IntKind.u32 (↑D : Int)), PD.v (Value.int IntKind.u32 (↑f2 : Int))]))), (47, .bi), (48, .sb)] (AX.norm) (St.mk (mkT 60 [(0, DV.bsl 0 j 1 (n + 1) cap), (1, DV.p (PD.sl (nums IntKind.u32 W))), (2, DV.p (PD.v (Value.int IntKind.u64 (↑g : Int)))), (7, DV.p (PD.v (Value.int IntKind.u64 (↑e2 : Int)))), (8, DV.p (PD.v (Value.int IntKind.u32 (↑f2 : Int)))), (12, DV.p (PD.sl (nums IntKind.u32 W))), (13, DV.p (PD.v (Value.int IntKind.i64 (↑n : Int)))), (14, DV.p (PD.v (Value.int IntKind.i64 (IntKind.i64.wrap ((↑k : Int) + 1)))))]) (Mem.mk [Box.mk 86 ((Box.mk 86 C false).cells.set (j + (↑k : Int).toNat * 1) (DV.p (PD.v (Value.int IntKind.u32 (↑D : Int))))) false, Box.mk 86 Q false] [] [])) (.c (show j + (↑k : Int).toNat * (1 : Nat) < C.length by first | omega | (simp; done) | (simp; omega)) (.c (And.intro (nn0 (k)) hlN2) (.c (hs) (.c (congrArg (fun z => DV.p (PD.v (Go.Value.int IntKind.u32 z))) rwt) (.c gu (.c (And.intro (nn0 (k)) hlN2) (.c (congrArg (fun z => DV.p (PD.v (Go.Value.int IntKind.u64 z))) rws) (.c (congrArg (fun z => DV.p (PD.v (Go.Value.int IntKind.u64 z))) rwq) (.c (congrArg (fun z => DV.p (PD.v (Go.Value.int IntKind.u64 z))) rwp) (.c (congrArg (fun z => DV.p (PD.v (Go.Value.int IntKind.u64 z))) rwx) (.c gx (.c (And.intro gx (nn0 (k))) (.c (dT hlN) .n))))))))))))) (by kernel_rfl) ?_
    exact hK _ hlt (by rw [← hset]; simp only [hw, Int.toNat_natCast, Nat.mul_one]; rfl) trivial
  · obtain rfl : k = n := by omega
    unfold tkS
    generalize sgC F j k L X = C at *
    generalize cyM V g k = e1 at *
    generalize cyB X (V * g) k = f1 at *
    generalize limbs V = W at *
    clear hF
    refine crun [] ⟨[0, 1, 7, 8], [], [], none⟩ [(2, .b false)] (AX.exit 0) (St.mk (mkT 60 [(0, DV.bsl 0 j 1 (k + 1) cap), (1, DV.p (PD.sl (nums IntKind.u32 W))), (7, DV.p (PD.v (Value.int IntKind.u64 (↑e1 : Int)))), (8, DV.p (PD.v (Value.int IntKind.u32 (↑f1 : Int))))]) (Mem.mk [Box.mk 86 C false, Box.mk 86 Q false] [] [])) (.c (dF (show ¬ (↑k : Int) < (↑k : Int) by omega)) .n) (by kernel_rfl) ?_
    exact hQ
end Go.Proofs.YtikfefjaeejeeaaGreatDoor
