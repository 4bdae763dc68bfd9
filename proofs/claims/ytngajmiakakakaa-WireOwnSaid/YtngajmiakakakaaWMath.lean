/- Plain laws on the bytes of numbers: what is put for a number, and what bytes are read as. -/
import Derived.WalkKit
open Go Go.RowKit
namespace Go.Proofs.Ytngajmiakakakaa

/-- a number's bytes -/
def enc (n : Nat) : List Int := if n < 128 then [(n : Int)] else ((n % 128 + 128 : Nat) : Int) :: enc (n / 128)
termination_by n
decreasing_by omega

theorem enc_small {n : Nat} (h : n < 128) : enc n = [(n : Int)] := by rw [enc, if_pos h]
theorem enc_big {n : Nat} (h : ¬ n < 128) : enc n = ((n % 128 + 128 : Nat) : Int) :: enc (n / 128) := by rw [enc, if_neg h]

theorem enc_len (k : Nat) : ∀ n, n < 128 ^ (k + 1) → (enc n).length ≤ k + 1 := by
  induction k with
  | zero => intro n h; rw [enc_small (by simpa using h)]; simp
  | succ k ih =>
    intro n h
    by_cases hn : n < 128
    · rw [enc_small hn]; simp
    · rw [enc_big hn]
      have := ih (n / 128) (by rw [Nat.pow_succ] at h; omega)
      simp only [List.length_cons]; omega
theorem enc_pos (n : Nat) : 1 ≤ (enc n).length := by
  by_cases hn : n < 128
  · rw [enc_small hn]; simp
  · rw [enc_big hn]; simp
theorem enc_len64 {n : Nat} (h : n < 18446744073709551616) : (enc n).length ≤ 10 := enc_len 9 n (by omega)

theorem enc_range (k : Nat) : ∀ n, n < 128 ^ (k + 1) → ∀ x ∈ enc n, 0 ≤ x ∧ x < 256 := by
  induction k with
  | zero => intro n h x hx; rw [enc_small (by simpa using h)] at hx; simp at hx; omega
  | succ k ih =>
    intro n h x hx
    by_cases hn : n < 128
    · rw [enc_small hn] at hx; simp at hx; omega
    · rw [enc_big hn] at hx
      simp only [List.mem_cons] at hx
      rcases hx with rfl | hx
      · omega
      · exact ih _ (by rw [Nat.pow_succ] at h; omega) x hx
theorem enc_rng {n : Nat} (h : n < 18446744073709551616) : ∀ x ∈ enc n, 0 ≤ x ∧ x < 256 := enc_range 9 n (by omega)

/-- what the bytes l are read as, i bytes of the number being behind (they tell acc): the number, how many bytes in all, the error -/
def uv : Nat → Nat → List Int → Int → Int × Nat × Int
  | 0, _, _, _ => (0, 0, 4)
  | f + 1, i, l, acc =>
    match l with
    | [] => (0, 0, 3)
    | x :: r =>
      if 128 ≤ x then uv f (i + 1) r (acc + (x - 128) * 128 ^ i)
      else if (x = 0 ∧ 0 < i) ∨ (1 < x ∧ i = 9) then (0, 0, 4)
      else (acc + x * 128 ^ i, i + 1, 0)

/-- what bytes are read as: the number, how many bytes, the error -/
def rdn (l : List Int) : Int × Nat × Int := uv 10 0 l 0

theorem uv_err (f : Nat) : ∀ i l acc, (uv f i l acc).2.2 ≠ 0 → (uv f i l acc).1 = 0 ∧ (uv f i l acc).2.1 = 0 := by
  induction f with
  | zero => intro i l acc _; simp [uv]
  | succ f ih =>
    intro i l acc h
    cases l with
    | nil => simp [uv]
    | cons x r =>
      simp only [uv] at h ⊢
      split
      · rw [if_pos (by assumption)] at h; exact ih _ _ _ h
      · rw [if_neg (by assumption)] at h
        split
        · simp
        · rw [if_neg (by assumption)] at h; simp at h

/-- bytes that are read have the form of what is put -/
theorem uv_enc (f : Nat) : ∀ i l acc, i + f = 10 → (∀ x ∈ l, 0 ≤ x ∧ x < 256) → 0 ≤ acc → acc < 128 ^ i → (uv f i l acc).2.2 = 0 →
    ∃ m : Nat, (i = 0 ∨ 0 < m) ∧ (uv f i l acc).1 = acc + m * 128 ^ i ∧ (uv f i l acc).2.1 = i + (enc m).length ∧ l.take (enc m).length = enc m ∧ (uv f i l acc).1 < 18446744073709551616 := by
  induction f with
  | zero => intro i l acc _ _ _ _ h; simp [uv] at h
  | succ f ih =>
    intro i l acc hi hl h0 h1 h
    cases l with
    | nil => simp [uv] at h
    | cons x r =>
      have hx := hl x (by simp)
      have hr : ∀ y ∈ r, 0 ≤ y ∧ y < 256 := fun y hy => hl y (by simp [hy])
      simp only [uv] at h ⊢
      have hp : (0 : Int) < 128 ^ i := by exact Int.pow_pos (by decide)
      by_cases c1 : 128 ≤ x
      · rw [if_pos c1] at h ⊢
        obtain ⟨y, rfl⟩ : ∃ y : Nat, x = 128 + y := ⟨(x - 128).toNat, by omega⟩
        have hy : y < 128 := by omega
        have e1 : (128 : Int) + y - 128 = y := by omega
        rw [e1] at h ⊢
        have hm : (y : Int) * 128 ^ i ≤ 127 * 128 ^ i := Int.mul_le_mul_of_nonneg_right (by omega) (by omega)
        have hm0 : (0 : Int) ≤ (y : Int) * 128 ^ i := Int.mul_nonneg (by omega) (by omega)
        obtain ⟨m, g1, g2, g3, g4, g5⟩ := ih (i + 1) r _ (by omega) hr (by omega) (by rw [Int.pow_succ]; omega) h
        have hmpos : 0 < m := by omega
        refine ⟨y + 128 * m, .inr (by omega), ?_, ?_, ?_, g5⟩
        · rw [g2, Int.pow_succ]
          push_cast
          rw [Int.add_mul, Int.add_assoc, ← Int.mul_assoc]
          congr 2
          rw [Int.mul_comm (m : Int) _, Int.mul_comm 128 (m : Int), Int.mul_assoc, Int.mul_comm (128 ^ i), Int.mul_assoc]
        · rw [g3, enc_big (n := y + 128 * m) (by omega), show (y + 128 * m) / 128 = m from by omega]; simp only [List.length_cons]; omega
        · rw [enc_big (n := y + 128 * m) (by omega), show (y + 128 * m) / 128 = m from by omega, show (y + 128 * m) % 128 = y from by omega]
          simp only [List.length_cons, List.take_succ_cons, g4]
          congr 1; omega
      · rw [if_neg c1] at h ⊢
        by_cases c2 : (x = 0 ∧ 0 < i) ∨ (1 < x ∧ i = 9)
        · rw [if_pos c2] at h; simp at h
        · rw [if_neg c2] at h ⊢
          obtain ⟨y, rfl⟩ : ∃ y : Nat, x = y := ⟨x.toNat, by omega⟩
          refine ⟨y, by omega, rfl, by rw [enc_small (by omega)]; simp, by rw [enc_small (by omega)]; simp, ?_⟩
          simp only
          by_cases h9 : i = 9
          · subst h9
            have : (y : Int) ≤ 1 := by omega
            have : (y : Int) * 128 ^ 9 ≤ 1 * 128 ^ 9 := Int.mul_le_mul_of_nonneg_right this (by decide)
            omega
          · have : (y : Int) * 128 ^ i ≤ 127 * 128 ^ i := Int.mul_le_mul_of_nonneg_right (by omega) (by omega)
            have h8 : (128 : Int) ^ i ≤ 128 ^ 8 := by
              have : 128 ^ i ≤ 128 ^ 8 := Nat.pow_le_pow_right (by decide) (show i ≤ 8 by omega)
              exact_mod_cast this
            omega

/-- what is put is read again -/
theorem uv_put (f : Nat) : ∀ (i m : Nat) (rest : List Int) (acc : Int), i + f = 10 → (i = 0 ∨ 0 < m) → m < 128 ^ f → (f ≤ 9 → m * 128 ^ i < 18446744073709551616) → m < 18446744073709551616 → 1 ≤ f → uv f i (enc m ++ rest) acc = (acc + m * 128 ^ i, i + (enc m).length, 0) := by
  induction f with
  | zero => intro i m rest acc _ _ _ _ _ h; omega
  | succ f ih =>
    intro i m rest acc hi hm hf hb hb0 _
    by_cases c : m < 128
    · rw [enc_small c]
      simp only [List.cons_append, List.nil_append, uv]
      rw [if_neg (by omega), if_neg]
      · simp
      · rintro (⟨h1, h2⟩ | ⟨h1, h2⟩)
        · omega
        · subst h2
          have := hb (by omega)
          omega
    · rw [enc_big c]
      simp only [List.cons_append, uv]
      rw [if_pos (by omega)]
      have hf1 : 1 ≤ f := by
        rcases Nat.eq_zero_or_pos f with rfl | h
        · simp at hf; omega
        · exact h
      have hq : m / 128 * 128 ^ (i + 1) ≤ m * 128 ^ i := by
        rw [Nat.pow_succ, Nat.mul_comm (128 ^ i), ← Nat.mul_assoc]
        exact Nat.mul_le_mul_right _ (by omega)
      rw [ih (i + 1) (m / 128) rest _ (by omega) (.inr (by omega)) (by rw [Nat.pow_succ] at hf; omega) (fun h => by
        rcases Nat.lt_or_ge 8 f with h8 | h8
        · obtain rfl : i = 0 := by omega
          simp at hq ⊢; omega
        · have := hb (by omega)
          omega) (by omega) hf1]
      have e : ((m % 128 + 128 : Nat) : Int) - 128 = (m % 128 : Nat) := by omega
      rw [e]
      refine Prod.ext ?_ (Prod.ext ?_ rfl)
      · simp only
        have h4 : (m : Int) * 128 ^ i = ((m % 128 : Nat) : Int) * 128 ^ i + ((m / 128 : Nat) : Int) * 128 ^ (i + 1) := by
          rw [Int.pow_succ, Int.mul_comm (128 ^ i) 128, ← Int.mul_assoc, ← Int.add_mul, show ((m % 128 : Nat) : Int) + ((m / 128 : Nat) : Int) * 128 = (m : Int) from by omega]
        rw [h4, Int.add_assoc]
      · simp only [List.length_cons]; omega
theorem uv_put' (f i m : Nat) (rest : List Int) (acc : Int) (h1 : i + f = 10) (h2 : i = 0 ∨ 0 < m) (h3 : m < 128 ^ f) (h4 : f ≤ 9 → m * 128 ^ i < 18446744073709551616) (h5 : m < 18446744073709551616) (h6 : 1 ≤ f) : uv f i (enc m ++ rest) acc = (acc + m * 128 ^ i, i + (enc m).length, 0) :=
  uv_put f i m rest acc h1 h2 h3 h4 h5 h6
theorem rdn_put {m : Nat} (h : m < 18446744073709551616) (rest : List Int) : rdn (enc m ++ rest) = ((m : Int), (enc m).length, 0) := by
  have key : ∀ f : Nat, f = 10 → uv f 0 (enc m ++ rest) 0 = ((m : Int), (enc m).length, 0) := by
    intro f hf
    have hp : m < 128 ^ f := by
      rw [hf]
      exact Nat.lt_of_lt_of_le h (by decide)
    have e := uv_put f 0 m rest 0 (by omega) (.inl rfl) hp (fun h => by omega) h (by omega)
    rw [e]
    simp
  exact key 10 rfl
theorem or128_nat : ∀ a : Fin 256, a.1 ||| 128 = a.1 % 128 + 128 := by decide +kernel
theorem and127_nat : ∀ a : Fin 256, a.1 &&& 127 = a.1 % 128 := by decide +kernel
/-- byte(n)|128 -/
theorem or128 (m : Nat) : bits .or .u8 ((m : Int) % 256) 128 = ((m % 128 + 128 : Nat) : Int) := by
  have h : ((m : Int) % 256) = ((m % 256 : Nat) : Int) := by omega
  rw [h]
  have := u8_or_nat (m % 256) 128 (by omega) (by omega)
  rw [show ((128 : Nat) : Int) = 128 from rfl] at this
  rw [this, or128_nat ⟨m % 256, by omega⟩]
  simp only
  congr 1
  omega
/-- x&127 -/
theorem and127 (x : Int) (h0 : 0 ≤ x) (h1 : x < 256) : bits .and .u8 x 127 = x % 128 := by
  obtain ⟨a, rfl⟩ : ∃ a : Nat, x = a := ⟨x.toNat, by omega⟩
  have := u8_and_nat a 127 (by omega) (by omega)
  rw [show ((127 : Nat) : Int) = 127 from rfl] at this
  rw [this, and127_nat ⟨a, by omega⟩]
  simp

/-- a signed number's number -/
def zz (k : Int) : Nat := if 0 ≤ k then (2 * k).toNat else (-2 * k - 1).toNat
theorem zz_lt {k : Int} (h0 : -9223372036854775808 ≤ k) (h1 : k ≤ 9223372036854775807) : zz k < 18446744073709551616 := by unfold zz; split <;> omega
/-- the signed number of a number -/
def uz (n : Int) : Int := if n % 2 = 0 then n / 2 else -(n / 2) - 1
theorem uz_zz (k : Int) : uz (zz k) = k := by unfold uz zz; split <;> split <;> omega
theorem zz_uz {n : Int} (h : 0 ≤ n) : (zz (uz n) : Int) = n := by unfold zz uz; split <;> split <;> omega
theorem uz_rng {n : Int} (h : 0 ≤ n) (h1 : n < 18446744073709551616) : -9223372036854775808 ≤ uz n ∧ uz n ≤ 9223372036854775807 := by unfold uz; split <;> omega
theorem xor_ones (a : Nat) (h : a < 18446744073709551616) : a ^^^ 18446744073709551615 = 18446744073709551615 - a := by
  have e := congrArg BitVec.toNat (BitVec.xor_allOnes (x := BitVec.ofNat 64 a))
  rw [BitVec.toNat_xor, BitVec.toNat_not, BitVec.toNat_allOnes, BitVec.toNat_ofNat, Nat.mod_eq_of_lt h] at e
  exact e
theorem zig {k : Int} (h0 : -9223372036854775808 ≤ k) (h1 : k ≤ 9223372036854775807) :
    bits .xor .u64 (IntKind.u64.wrap (IntKind.u64.wrap k * 2)) (IntKind.u64.wrap (k / 9223372036854775808)) = (zz k : Int) := by
  simp only [IntKind.wrap_u64]
  by_cases h : 0 ≤ k
  · have e1 : k / 9223372036854775808 % 18446744073709551616 = ((0 : Nat) : Int) := by omega
    have e2 : k % 18446744073709551616 * 2 % 18446744073709551616 = ((2 * k).toNat : Nat) := by omega
    rw [e1, e2, u64_xor_nat _ _ (by omega) (by omega), Nat.xor_zero]
    unfold zz
    rw [if_pos h]
  · have e1 : k / 9223372036854775808 % 18446744073709551616 = ((18446744073709551615 : Nat) : Int) := by omega
    have e2 : k % 18446744073709551616 * 2 % 18446744073709551616 = ((2 * k + 18446744073709551616).toNat : Nat) := by omega
    rw [e1, e2, u64_xor_nat _ _ (by omega) (by omega), xor_ones _ (by omega)]
    unfold zz
    rw [if_neg h]
    omega
theorem neg_and1 {n : Int} (h0 : 0 ≤ n) (h1 : n < 18446744073709551616) : bits .and .u64 n 1 = n % 2 := by
  obtain ⟨a, rfl⟩ : ∃ a : Nat, n = a := ⟨n.toNat, by omega⟩
  have := u64_and_nat a 1 (by omega) (by omega)
  rw [show ((1 : Nat) : Int) = 1 from rfl] at this
  rw [this, Nat.and_one_is_mod]
  omega
theorem pow128 (i : Nat) : (2 : Int) ^ (7 * i) = 128 ^ i := by rw [Int.pow_mul]; rfl
/-- n | y << (7 i) -/
theorem ors (i : Nat) (acc y : Int) (h0 : 0 ≤ acc) (h1 : acc < 128 ^ i) (y0 : 0 ≤ y) (y1 : y < 128) (hi : i ≤ 8 ∨ (i = 9 ∧ y ≤ 1)) :
    bits .or .u64 acc (IntKind.u64.wrap (IntKind.u64.wrap y * 2 ^ (7 * i))) = acc + y * 128 ^ i := by
  simp only [IntKind.wrap_u64]
  rw [pow128, Int.emod_eq_of_lt y0 (by omega)]
  have hp : (0 : Int) < 128 ^ i := Int.pow_pos (by decide)
  have hy0 : 0 ≤ y * 128 ^ i := Int.mul_nonneg y0 (by omega)
  have hy1 : y * 128 ^ i < 18446744073709551616 ∧ (128 : Int) ^ i < 18446744073709551616 := by
    rcases hi with hi | ⟨rfl, hi⟩
    · have h8 : (128 : Int) ^ i ≤ 128 ^ 8 := by
        have : 128 ^ i ≤ 128 ^ 8 := Nat.pow_le_pow_right (by decide) hi
        exact_mod_cast this
      have : y * 128 ^ i ≤ 127 * 128 ^ i := Int.mul_le_mul_of_nonneg_right (by omega) (by omega)
      omega
    · have : y * 128 ^ 9 ≤ 1 * 128 ^ 9 := Int.mul_le_mul_of_nonneg_right hi (by decide)
      omega
  rw [Int.emod_eq_of_lt hy0 hy1.1]
  obtain ⟨a, rfl⟩ : ∃ a : Nat, acc = a := ⟨acc.toNat, by omega⟩
  obtain ⟨b, rfl⟩ : ∃ b : Nat, y = b := ⟨y.toNat, by omega⟩
  have e : (b : Int) * 128 ^ i = ((b * 128 ^ i : Nat) : Int) := by push_cast; rfl
  have hp2 : (128 : Nat) ^ i = 2 ^ (7 * i) := by rw [Nat.pow_mul]
  have ha : a < 2 ^ (7 * i) := by
    rw [← hp2]
    exact_mod_cast h1
  rw [e] at hy1 ⊢
  rw [u64_or_nat _ _ (by omega) (by omega), Nat.or_comm, nat_join (7 * i) _ _ (by rw [hp2]; exact Nat.mul_mod_left _ _) ha]
  omega
/-- int64(n>>1) ^ -int64(n&1) -/
theorem zag {n : Int} (h0 : 0 ≤ n) (h1 : n < 18446744073709551616) : bits .xor .i64 (n / 2) (wrap64 (-wrap64 (bits .and .u64 n 1))) = uz n := by
  rw [neg_and1 h0 h1]
  unfold uz
  by_cases h : n % 2 = 0
  · rw [h, if_pos rfl]
    obtain ⟨a, ha⟩ : ∃ a : Nat, n / 2 = a := ⟨(n / 2).toNat, by omega⟩
    rw [ha]
    have : wrap64 (-wrap64 0) = 0 := by simp [wrap64]
    rw [this]
    show IntKind.i64.wrap ((BitVec.ofInt 64 (a : Int)) ^^^ (BitVec.ofInt 64 0)).toNat = _
    rw [show BitVec.ofInt 64 0 = 0#64 from by decide, BitVec.xor_zero, BitVec.toNat_ofInt, IntKind.wrap_i64]
    omega
  · have h2 : n % 2 = 1 := by omega
    rw [h2, if_neg (by omega)]
    obtain ⟨a, ha⟩ : ∃ a : Nat, n / 2 = a := ⟨(n / 2).toNat, by omega⟩
    rw [ha]
    have : wrap64 (-wrap64 1) = -1 := by simp [wrap64]
    rw [this]
    show IntKind.i64.wrap ((BitVec.ofInt 64 (a : Int)) ^^^ (BitVec.ofInt 64 (-1))).toNat = _
    rw [show BitVec.ofInt 64 (-1) = BitVec.allOnes 64 from by decide, BitVec.xor_allOnes, BitVec.toNat_not, BitVec.toNat_ofInt, IntKind.wrap_i64]
    omega
end Go.Proofs.Ytngajmiakakakaa
