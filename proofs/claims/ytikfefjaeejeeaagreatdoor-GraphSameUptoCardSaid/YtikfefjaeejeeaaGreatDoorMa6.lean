/- Walks and laws, laid together: WdM WdN WeJ WeK WfC WfE WfF. -/
import Derived.Test.YtikfefjaeejeeaaGreatDoorMa5
import Derived.Test.YtikfefjaeejeeaaGreatDoorMa2
/- Walks: a rational made, as it may be; the same number? -/
namespace Go.Proofs.YtikfefjaeejeeaaGreatDoor
open Go.RowKit
set_option maxRecDepth 100000
theorem dg_val : ∀ (l : List Int), Dig l → ∀ k, l.getD k 0 = dgI (val l) k
  | [], _, k => by simp [dgI, dg, val]
  | x :: xs, h, 0 => by
    have := h.head
    simp [dgI, dg, val]
    omega
  | x :: xs, h, k + 1 => by
    have ih := dg_val xs h.tail k
    have h1 := h.head
    have e : dg (val (x :: xs)) (k + 1) = dg (val xs) k := by
      unfold dg
      rw [Nat.pow_succ, Nat.mul_comm, ← Nat.div_div_eq_div_mul]
      congr 2
      show (x.toNat + 4294967296 * val xs) / 4294967296 = _
      omega
    unfold dgI at ih ⊢
    rw [e, ← ih]
    rfl
theorem limbM_val (l : List Int) (h : Dig l) (k : Nat) : limbM l k = dgI (val l) k := by
  rw [← dg_val l h]
  unfold limbM
  cases hk : l[k]? with
  | none => simp [List.getD, hk]
  | some x =>
    have := h x (List.mem_of_getElem? hk)
    simp only [List.getD, hk, Option.getD_some]
    exact wrapu64_id this.1 (by omega)
theorem cmp_dig (a b : List Int) (da : Dig a) (db : Dig b) (n : Nat) : cmpAt a b n = cmpAt (limbs (val a)) (limbs (val b)) n := by
  induction n with
  | zero => rfl
  | succ n ih => unfold cmpAt; rw [limbM_val a da, limbM_val b db, limbM_limbs, limbM_limbs, ih]
theorem cmpD_pure (a b : List Int) (da : Dig a) (db : Dig b) (ha : a.length ≤ 9223372036854775807) (hb : b.length ≤ 9223372036854775807) : ∃ c, (c < 0 ↔ val a < val b) ∧ (0 < c ↔ val b < val a) ∧ Pure Tryz.prog 127 [natL a, natL b] (.ret (intP c)) := by
  obtain ⟨h1, h2⟩ := cmp_limbs (val a) (val b) (max a.length b.length)
  have l1 := Nat.lt_of_lt_of_le (val_lt da) (Nat.pow_le_pow_right (n := 4294967296) (by decide) (Nat.le_max_left a.length b.length))
  have l2 := Nat.lt_of_lt_of_le (val_lt db) (Nat.pow_le_pow_right (n := 4294967296) (by decide) (Nat.le_max_right a.length b.length))
  rw [← cmp_dig a b da db, Nat.mod_eq_of_lt l1, Nat.mod_eq_of_lt l2] at h1 h2
  exact ⟨_, h1, h2, cmp_pure a b ha hb⟩
theorem val_inj : ∀ {a b : List Int}, Dig a → Dig b → a.length = b.length → val a = val b → a = b
  | [], [], _, _, _, _ => rfl
  | [], _ :: _, _, _, h, _ => by simp at h
  | _ :: _, [], _, _, h, _ => by simp at h
  | x :: xs, y :: ys, ha, hb, hl, hv => by
    have h1 := ha.head
    have h2 := hb.head
    have hv : x.toNat + 4294967296 * val xs = y.toNat + 4294967296 * val ys := hv
    rw [val_inj ha.tail hb.tail (by simpa using hl) (by omega)]
    congr 1
    omega
theorem limbsE_pure (a b : List Int) (da : Dig a) (db : Dig b) (ha : a.length ≤ 1073741824) (hb : b.length ≤ 1073741824) : Pure Tryz.prog 98 [natL a, natL b] (.ret (boolP (decide (a = b)))) := by
  obtain ⟨c, c1, c2, hc⟩ := cmpD_pure a b da db (by omega) (by omega)
  have la : (nums .u32 a).length = a.length := nums_length _ _
  have lb : (nums .u32 b).length = b.length := nums_length _ _
  by_cases hl : a.length = b.length
  · by_cases hv : val a = val b
    · have e := val_inj da db hl hv
      have hc0 : c = 0 := by omega
      rw [decide_eq_true e]
      clear c1 c2 hv e da db
      unfold natL at *
      generalize nums .u32 a = A at *
      generalize nums .u32 b = B at *
      subst hc0
      refine pure_eq (prun [] [(11, .b true), (15, .call (AEnd.ret (PD.v (Value.int IntKind.i64 0))))] (e := AEnd.ret (PD.v (Value.bool true))) (.c (hc) (.c (eT (show (↑A.length : Int) = (↑B.length : Int) by omega)) .n)) (by kernel_rfl)) ?_
      rfl
    · have hc0 : ¬ c = 0 := by omega
      rw [decide_eq_false (fun e => hv (by rw [e]))]
      clear c1 c2 hv da db
      unfold natL at *
      generalize nums .u32 a = A at *
      generalize nums .u32 b = B at *
      refine pure_eq (prun [] [(11, .b true), (15, .call (AEnd.ret (PD.v (Value.int IntKind.i64 c)))), (16, .b false)] (e := AEnd.ret (PD.v (Value.bool false))) (.c (eF hc0) (.c (hc) (.c (eT (show (↑A.length : Int) = (↑B.length : Int) by omega)) .n))) (by kernel_rfl)) ?_
      rfl
  · rw [decide_eq_false (fun e => hl (by rw [e]))]
    clear c1 c2 da db
    unfold natL at *
    generalize nums .u32 a = A at *
    generalize nums .u32 b = B at *
    refine pure_eq (prun [] [(11, .b false)] (e := AEnd.ret (PD.v (Value.bool false))) (.c (eF (show ¬ (↑A.length : Int) = (↑B.length : Int) by omega)) .n) (by kernel_rfl)) ?_
    rfl
theorem by_pure (la lb : List Int) (ha : la.length ≤ 1073741800) (hb : lb.length ≤ 1073741800) (da : Dig la) (db : Dig lb) (h0 : val lb ≠ 0) : Pure Tryz.prog 151 [natL la, natL lb] (.ret (natL (limbs (val la / val lb)))) := by
  have h := divmod_pure la lb ha hb da db h0
  unfold natL at *
  generalize limbs (val la / val lb) = LQ at *
  generalize limbs (val la % val lb) = LR at *
  refine pure_eq (prun [] [(9, .call (AEnd.ret (PD.tup [PD.sl (nums IntKind.u32 LQ), PD.sl (nums IntKind.u32 LR), PD.v (Value.int IntKind.i64 0)])))] (e := AEnd.ret (PD.sl (nums IntKind.u32 LQ))) (.c (h) .n) (by kernel_rfl)) ?_
  rfl
theorem one_pure : Pure Tryz.prog 126 [] (.ret (natL [1])) := by
  have h := of_small 1 (by omega) (by omega)
  rw [show limbs (Int.toNat 1) = [1] from limbs_one (by decide) (by decide)] at h
  refine pure_eq (prun [] [(7, .call (AEnd.ret (PD.sl [PD.v (Value.int IntKind.u32 1)])))] (e := AEnd.ret (PD.sl [PD.v (Value.int IntKind.u32 1)])) (.c (h) .n) (by kernel_rfl)) ?_
  rfl
theorem make_z (neg : Bool) (n d : List Int) (hd : d.length ≤ 1073741800) (dd : Dig d) (h : val d = 0) : Pure Tryz.prog 125 [.v (.bool neg), natL n, natL d] (.ret (.tup [encRat ⟨false, [], []⟩, intP 17])) := by
  have h1 := bits_zero d (by omega) dd h
  unfold natL at *
  generalize nums .u32 n = N at *
  generalize nums .u32 d = D at *
  refine pure_eq (prun [] [(10, .call (AEnd.ret (PD.v (Value.int IntKind.i64 0))))] (e := AEnd.ret (PD.tup [PD.agg [PD.v (Value.bool false), PD.sl [], PD.sl []], PD.v (Value.int IntKind.i64 17)])) (.c (h1) .n) (by kernel_rfl)) ?_
  rfl
theorem make_0 (neg : Bool) (n d : List Int) (hn : n.length ≤ 1073741800) (hd : d.length ≤ 1073741800) (dn : Dig n) (dd : Dig d) (h : val d ≠ 0) (h0 : val n = 0) : Pure Tryz.prog 125 [.v (.bool neg), natL n, natL d] (.ret (.tup [encRat ⟨false, [], [1]⟩, intP 0])) := by
  obtain ⟨k, k0, h1⟩ := bits_pos d (by omega) dd h
  have h2 := bits_zero n (by omega) dn h0
  have h3 := one_pure
  have hk : ¬ k = 0 := by omega
  unfold natL at *
  generalize nums .u32 n = N at *
  generalize nums .u32 d = D at *
  refine pure_eq (prun [] [(10, .call (AEnd.ret (PD.v (Value.int IntKind.i64 k)))), (11, .b false), (19, .call (AEnd.ret (PD.v (Value.int IntKind.i64 0)))), (25, .call (AEnd.ret (PD.sl [PD.v (Value.int IntKind.u32 1)])))] (e := AEnd.ret (PD.tup [PD.agg [PD.v (Value.bool false), PD.sl [], PD.sl [PD.v (Value.int IntKind.u32 1)]], PD.v (Value.int IntKind.i64 0)])) (.c (h3) (.c (h2) (.c (eF hk) (.c (h1) .n)))) (by kernel_rfl)) ?_
  rfl
theorem make_ok (neg : Bool) (n d : List Int) (hn : n.length ≤ 1073741800) (hd : d.length ≤ 1073741800) (dn : Dig n) (dd : Dig d) (h : val d ≠ 0) (h0 : val n ≠ 0) : Pure Tryz.prog 125 [.v (.bool neg), natL n, natL d] (.ret (.tup [encRat ⟨neg, limbs (val n / Nat.gcd (val n) (val d)), limbs (val d / Nat.gcd (val n) (val d))⟩, intP 0])) := by
  obtain ⟨k, k0, h1⟩ := bits_pos d (by omega) dd h
  obtain ⟨k', k0', h2⟩ := bits_pos n (by omega) dn h0
  have hg := gcd_pure n d hn hd dn dd
  have hgl : (limbs (Nat.gcd (val n) (val d))).length ≤ n.length := limbs_len_lt.2 (Nat.lt_of_le_of_lt (Nat.gcd_le_left _ (Nat.pos_of_ne_zero h0)) (val_lt dn))
  have hg0 : Nat.gcd (val n) (val d) ≠ 0 := fun e => h0 (Nat.eq_zero_of_gcd_eq_zero_left e)
  have b1 := by_pure n (limbs (Nat.gcd (val n) (val d))) hn (by omega) dn (dig_limbs _) (by rw [val_limbs]; exact hg0)
  have b2 := by_pure d (limbs (Nat.gcd (val n) (val d))) hd (by omega) dd (dig_limbs _) (by rw [val_limbs]; exact hg0)
  rw [val_limbs] at b1 b2
  have hk : ¬ k = 0 := by omega
  have hk' : ¬ k' = 0 := by omega
  unfold encRat natL at *
  generalize limbs (val n / Nat.gcd (val n) (val d)) = LN at *
  generalize limbs (val d / Nat.gcd (val n) (val d)) = LD at *
  generalize limbs (Nat.gcd (val n) (val d)) = LG at *
  generalize nums .u32 n = N at *
  generalize nums .u32 d = D at *
  refine pure_eq (prun [] [(10, .call (AEnd.ret (PD.v (Value.int IntKind.i64 k)))), (11, .b false), (19, .call (AEnd.ret (PD.v (Value.int IntKind.i64 k')))), (20, .b false), (28, .call (AEnd.ret (PD.sl (nums IntKind.u32 LG)))), (51, .call (AEnd.ret (PD.sl (nums IntKind.u32 LN)))), (66, .call (AEnd.ret (PD.sl (nums IntKind.u32 LD))))] (e := AEnd.ret (PD.tup [PD.agg [PD.v (Value.bool neg), PD.sl (nums IntKind.u32 LN), PD.sl (nums IntKind.u32 LD)], PD.v (Value.int IntKind.i64 0)])) (.c (b2) (.c (b1) (.c (hg) (.c (eF hk') (.c (h2) (.c (eF hk) (.c (h1) .n))))))) (by kernel_rfl)) ?_
  rfl
end Go.Proofs.YtikfefjaeejeeaaGreatDoor
/- Walks: a rational as it may be, the same one, may it be. -/
namespace Go.Proofs.YtikfefjaeejeeaaGreatDoor
open Go.RowKit
set_option maxRecDepth 100000
structure RatOK (r : RatM) : Prop where
  n : Dig r.num
  d : Dig r.den
  ln : r.num.length ≤ 1073741800
  ld : r.den.length ≤ 1073741800
/-- as it may be -/
def nrmL (r : RatM) : RatM := if val r.den = 0 ∨ val r.num = 0 then ⟨false, [], [1]⟩ else ⟨r.neg, limbs (val r.num / Nat.gcd (val r.num) (val r.den)), limbs (val r.den / Nat.gcd (val r.num) (val r.den))⟩
theorem norm_pure (r : RatM) (h : RatOK r) : Pure Tryz.prog 97 [encRat r] (.ret (encRat (nrmL r))) := by
  obtain ⟨neg, n, d⟩ := r
  obtain ⟨dn, dd, ln, ld⟩ := h
  unfold nrmL
  simp only at dn dd ln ld ⊢
  by_cases h1 : val d = 0
  · rw [if_pos (.inl h1)]
    have hm := make_z neg n d ld dd h1
    have ho := one_pure
    clear dn dd
    unfold encRat natL at *
    simp only at *
    generalize nums .u32 n = N at *
    generalize nums .u32 d = D at *
    refine pure_eq (prun [] [(14, .call (AEnd.ret (PD.tup [PD.agg [PD.v (Value.bool false), PD.sl [], PD.sl []], PD.v (Value.int IntKind.i64 17)]))), (31, .call (AEnd.ret (PD.sl [PD.v (Value.int IntKind.u32 1)])))] (e := AEnd.ret (PD.agg [PD.v (Value.bool false), PD.sl [], PD.sl [PD.v (Value.int IntKind.u32 1)]])) (.c (ho) (.c (hm) .n)) (by kernel_rfl)) ?_
    rfl
  · by_cases h2 : val n = 0
    · rw [if_pos (.inr h2)]
      have hm := make_0 neg n d ln ld dn dd h1 h2
      clear dn dd
      unfold encRat natL at *
      simp only at *
      generalize nums .u32 n = N at *
      generalize nums .u32 d = D at *
      refine pure_eq (prun [] [(14, .call (AEnd.ret (PD.tup [PD.agg [PD.v (Value.bool false), PD.sl [], PD.sl [PD.v (Value.int IntKind.u32 1)]], PD.v (Value.int IntKind.i64 0)])))] (e := AEnd.ret (PD.agg [PD.v (Value.bool false), PD.sl [], PD.sl [PD.v (Value.int IntKind.u32 1)]])) (.c (hm) .n) (by kernel_rfl)) ?_
      rfl
    · rw [if_neg (by rintro (h | h); exact h1 h; exact h2 h)]
      have hm := make_ok neg n d ln ld dn dd h1 h2
      clear dn dd
      unfold encRat natL at *
      simp only at *
      generalize limbs (val n / Nat.gcd (val n) (val d)) = LN at *
      generalize limbs (val d / Nat.gcd (val n) (val d)) = LD at *
      generalize nums .u32 n = N at *
      generalize nums .u32 d = D at *
      refine pure_eq (prun [] [(14, .call (AEnd.ret (PD.tup [PD.agg [PD.v (Value.bool neg), PD.sl (nums IntKind.u32 LN), PD.sl (nums IntKind.u32 LD)], PD.v (Value.int IntKind.i64 0)])))] (e := AEnd.ret (PD.agg [PD.v (Value.bool neg), PD.sl (nums IntKind.u32 LN), PD.sl (nums IntKind.u32 LD)])) (.c (hm) .n) (by kernel_rfl)) ?_
      rfl
theorem div_len {l : List Int} (hd : Dig l) (g : Nat) : (limbs (val l / g)).length ≤ l.length := limbs_len_lt.2 (Nat.lt_of_le_of_lt (Nat.div_le_self _ _) (val_lt hd))
theorem nrmL_ok (r : RatM) (h : RatOK r) : RatOK (nrmL r) := by
  obtain ⟨dn, dd, ln, ld⟩ := h
  unfold nrmL
  split
  · exact ⟨Dig.nil, Dig.cons (by omega) (by omega) Dig.nil, by simp, by simp⟩
  · exact ⟨dig_limbs _, dig_limbs _, Nat.le_trans (div_len dn _) ln, Nat.le_trans (div_len dd _) ld⟩
def sameR (x y : RatM) : Bool := if x.neg = y.neg then if x.num = y.num then decide (x.den = y.den) else false else false
theorem rsame_pure (a b : RatM) (ha : RatOK a) (hb : RatOK b) : Pure Tryz.prog 63 [encRat a, encRat b] (.ret (boolP (sameR (nrmL a) (nrmL b)))) := by
  have n1 := norm_pure a ha
  have n2 := norm_pure b hb
  obtain ⟨dn, dd, ln, ld⟩ := nrmL_ok a ha
  obtain ⟨dn', dd', ln', ld'⟩ := nrmL_ok b hb
  have e1 := limbsE_pure (nrmL a).num (nrmL b).num dn dn' (by omega) (by omega)
  have e2 := limbsE_pure (nrmL a).den (nrmL b).den dd dd' (by omega) (by omega)
  unfold sameR
  generalize nrmL a = X at *
  generalize nrmL b = Y at *
  obtain ⟨x1, x2, x3⟩ := X
  obtain ⟨y1, y2, y3⟩ := Y
  obtain ⟨a1, a2, a3⟩ := a
  obtain ⟨b1, b2, b3⟩ := b
  simp only at e1 e2 ⊢
  clear dn dd dn' dd' ha hb
  by_cases h1 : x1 = y1
  · rw [if_pos h1]
    by_cases h2 : x2 = y2
    · rw [if_pos h2]
      rw [decide_eq_true h2] at e1
      subst h1
      unfold encRat natL at *
      simp only at *
      generalize decide (x3 = y3) = q at *
      generalize nums .u32 x2 = X2 at *
      generalize nums .u32 x3 = X3 at *
      generalize nums .u32 y2 = Y2 at *
      generalize nums .u32 y3 = Y3 at *
      generalize nums .u32 a2 = A2 at *
      generalize nums .u32 a3 = A3 at *
      generalize nums .u32 b2 = B2 at *
      generalize nums .u32 b3 = B3 at *
      have hx : id (x1 == x1) = true := by simp
      cases q with
      | true =>
        refine pure_eq (prun [] [(10, .call (AEnd.ret (PD.agg [PD.v (Value.bool x1), PD.sl X2, PD.sl X3]))), (12, .call (AEnd.ret (PD.agg [PD.v (Value.bool x1), PD.sl Y2, PD.sl Y3]))), (22, .b true), (28, .call (AEnd.ret (PD.v (Value.bool true)))), (35, .call (AEnd.ret (PD.v (Value.bool true))))] (e := AEnd.ret (PD.v (Value.bool true))) (.c (e2) (.c (e1) (.c hx (.c (n2) (.c (n1) .n))))) (by kernel_rfl)) ?_
        rfl
      | false =>
        refine pure_eq (prun [] [(10, .call (AEnd.ret (PD.agg [PD.v (Value.bool x1), PD.sl X2, PD.sl X3]))), (12, .call (AEnd.ret (PD.agg [PD.v (Value.bool x1), PD.sl Y2, PD.sl Y3]))), (22, .b true), (28, .call (AEnd.ret (PD.v (Value.bool true)))), (35, .call (AEnd.ret (PD.v (Value.bool false))))] (e := AEnd.ret (PD.v (Value.bool false))) (.c (e2) (.c (e1) (.c hx (.c (n2) (.c (n1) .n))))) (by kernel_rfl)) ?_
        rfl
    · rw [if_neg h2]
      rw [decide_eq_false h2] at e1
      subst h1
      unfold encRat natL at *
      simp only at *
      clear e2
      generalize nums .u32 x2 = X2 at *
      generalize nums .u32 x3 = X3 at *
      generalize nums .u32 y2 = Y2 at *
      generalize nums .u32 y3 = Y3 at *
      generalize nums .u32 a2 = A2 at *
      generalize nums .u32 a3 = A3 at *
      generalize nums .u32 b2 = B2 at *
      generalize nums .u32 b3 = B3 at *
      have hx : id (x1 == x1) = true := by simp
      refine pure_eq (prun [] [(10, .call (AEnd.ret (PD.agg [PD.v (Value.bool x1), PD.sl X2, PD.sl X3]))), (12, .call (AEnd.ret (PD.agg [PD.v (Value.bool x1), PD.sl Y2, PD.sl Y3]))), (22, .b true), (28, .call (AEnd.ret (PD.v (Value.bool false))))] (e := AEnd.ret (PD.v (Value.bool false))) (.c (e1) (.c hx (.c (n2) (.c (n1) .n)))) (by kernel_rfl)) ?_
      rfl
  · rw [if_neg h1]
    clear e1 e2
    unfold encRat natL at *
    simp only at *
    generalize nums .u32 x2 = X2 at *
    generalize nums .u32 x3 = X3 at *
    generalize nums .u32 y2 = Y2 at *
    generalize nums .u32 y3 = Y3 at *
    generalize nums .u32 a2 = A2 at *
    generalize nums .u32 a3 = A3 at *
    generalize nums .u32 b2 = B2 at *
    generalize nums .u32 b3 = B3 at *
    have hx : id (x1 == y1) = false := by simpa using h1
    refine pure_eq (prun [] [(10, .call (AEnd.ret (PD.agg [PD.v (Value.bool x1), PD.sl X2, PD.sl X3]))), (12, .call (AEnd.ret (PD.agg [PD.v (Value.bool y1), PD.sl Y2, PD.sl Y3]))), (22, .b false)] (e := AEnd.ret (PD.v (Value.bool false))) (.c hx (.c (n2) (.c (n1) .n))) (by kernel_rfl)) ?_
    rfl
theorem rmay_pure (r : RatM) (h : RatOK r) : Pure Tryz.prog 132 [encRat r] (.ret (intP (if sameR (nrmL r) r = true then 0 else 6))) := by
  have n1 := norm_pure r h
  obtain ⟨dn, dd, ln, ld⟩ := nrmL_ok r h
  obtain ⟨dn', dd', ln', ld'⟩ := h
  have e1 := limbsE_pure (nrmL r).num r.num dn dn' (by omega) (by omega)
  have e2 := limbsE_pure (nrmL r).den r.den dd dd' (by omega) (by omega)
  unfold sameR
  generalize nrmL r = X at *
  obtain ⟨x1, x2, x3⟩ := X
  obtain ⟨y1, y2, y3⟩ := r
  simp only at e1 e2 ⊢
  clear dn dd dn' dd' ln ld ln' ld'
  by_cases h1 : x1 = y1
  · rw [if_pos h1]
    by_cases h2 : x2 = y2
    · rw [if_pos h2]
      rw [decide_eq_true h2] at e1
      subst h1
      unfold encRat natL at *
      simp only at *
      generalize nums .u32 x2 = X2 at *
      generalize nums .u32 y2 = Y2 at *
      have hx : (x1 == x1) = true := by simp
      by_cases h3 : x3 = y3
      · rw [decide_eq_true h3] at e2 ⊢
        rw [if_pos rfl]
        generalize nums .u32 x3 = X3 at *
        generalize nums .u32 y3 = Y3 at *
        refine pure_eq (prun [] [(9, .call (AEnd.ret (PD.agg [PD.v (Value.bool x1), PD.sl X2, PD.sl X3]))), (20, .b false), (26, .call (AEnd.ret (PD.v (Value.bool true)))), (34, .call (AEnd.ret (PD.v (Value.bool true))))] (e := AEnd.ret (PD.v (Value.int IntKind.i64 0))) (.c (e2) (.c (e1) (.c (nF hx) (.c (n1) .n)))) (by kernel_rfl)) ?_
        rfl
      · rw [decide_eq_false h3] at e2 ⊢
        rw [if_neg (by decide)]
        generalize nums .u32 x3 = X3 at *
        generalize nums .u32 y3 = Y3 at *
        refine pure_eq (prun [] [(9, .call (AEnd.ret (PD.agg [PD.v (Value.bool x1), PD.sl X2, PD.sl X3]))), (20, .b false), (26, .call (AEnd.ret (PD.v (Value.bool true)))), (34, .call (AEnd.ret (PD.v (Value.bool false))))] (e := AEnd.ret (PD.v (Value.int IntKind.i64 6))) (.c (e2) (.c (e1) (.c (nF hx) (.c (n1) .n)))) (by kernel_rfl)) ?_
        rfl
    · rw [if_neg h2]
      rw [if_neg (by decide)]
      rw [decide_eq_false h2] at e1
      subst h1
      unfold encRat natL at *
      simp only at *
      clear e2
      generalize nums .u32 x2 = X2 at *
      generalize nums .u32 x3 = X3 at *
      generalize nums .u32 y2 = Y2 at *
      generalize nums .u32 y3 = Y3 at *
      have hx : (x1 == x1) = true := by simp
      refine pure_eq (prun [] [(9, .call (AEnd.ret (PD.agg [PD.v (Value.bool x1), PD.sl X2, PD.sl X3]))), (20, .b false), (26, .call (AEnd.ret (PD.v (Value.bool false))))] (e := AEnd.ret (PD.v (Value.int IntKind.i64 6))) (.c (e1) (.c (nF hx) (.c (n1) .n))) (by kernel_rfl)) ?_
      rfl
  · rw [if_neg h1]
    rw [if_neg (by decide)]
    clear e1 e2
    unfold encRat natL at *
    simp only at *
    generalize nums .u32 x2 = X2 at *
    generalize nums .u32 x3 = X3 at *
    generalize nums .u32 y2 = Y2 at *
    generalize nums .u32 y3 = Y3 at *
    have hx : (x1 == y1) = false := by simpa using h1
    refine pure_eq (prun [] [(9, .call (AEnd.ret (PD.agg [PD.v (Value.bool x1), PD.sl X2, PD.sl X3]))), (20, .b true)] (e := AEnd.ret (PD.v (Value.int IntKind.i64 6))) (.c (nT hx) (.c (n1) .n)) (by kernel_rfl)) ?_
    rfl
end Go.Proofs.YtikfefjaeejeeaaGreatDoor
/- Walks: the document's rationals. -/
namespace Go.Proofs.YtikfefjaeejeeaaGreatDoor
open Go.RowKit
set_option maxRecDepth 100000
theorem divmod2_pure (N V L : Nat) (hL : L ≤ 1073741790) (hV0 : 0 < V) (hV : V < 10000 ^ L) (hN : (decs N).length ≤ 1073741790) : Pure Tryz.prog 143 [intL (decs N), intL (decs V)] (.ret (.tup [intL (decs (N / V)), intL (decs (N % V))])) := by
  obtain ⟨len, hlen⟩ : ∃ len, (decs N).length = len := ⟨_, rfl⟩
  rw [hlen] at hN
  have hlo := td_loop N V L len hL hV0 hV hlen hN
  have hQ : (decs (N / V)).length ≤ len := by
    rw [decs_len_le, Nat.div_div_eq_div_mul, Nat.mul_comm, ← Nat.div_div_eq_div_mul, (decs_len_le N len).1 (Nat.le_of_eq hlen), Nat.zero_div]
  have ht := trim2_pure (digL (dvS (N / V) 0) len) (by rw [digL_len]; omega)
  have e1 : trimT (digL (dvS (N / V) 0) len) = decs (N / V) := by rw [dvS_zero]; exact digZ_trim hQ
  rw [e1] at ht
  have hf := frz_box2 .i64 ⟨[⟨3, numsD .i64 (digL (dvS (N / V) 0) len), false⟩], [], []⟩ 0 len len 3 (digL (dvS (N / V) 0) len) (digL_len _ _) rfl
  have rwl : ((nums .i64 (decs N)).length : Int) = (len : Int) := by rw [nums_length, hlen]
  have rwt : (((len : Int).toNat : Nat) : Int) = (len : Int) := by rw [Int.toNat_natCast]
  have rw6 : IntKind.i64.wrap ((len : Int) - 1) = (len : Int) - 1 := wrap64_id (by omega) (by omega)
  have e0 : numsD .i64 (digL (dvS (N / V) len) len) = List.replicate len (.p (.v (.int .i64 0))) := by rw [dvS_all (Nat.le_refl _), replD]
  unfold tdS at hlo
  have er : rI N V len len = .p (.v (.slice none 0 0)) := if_pos rfl
  rw [e0, er] at hlo
  by_cases h0 : 0 = len
  · have er2 : rI N V 0 len = .p (.v (.slice none 0 0)) := if_pos h0
    rw [er2] at hlo
    have hN0 : N = 0 := decs_nil.1 (List.eq_nil_of_length_eq_zero (by omega))
    have em : decs (N % V) = [] := by rw [hN0, Nat.zero_mod, decs_zero]
    rw [em]
    clear e1 hQ e0 er er2 em hN0
    unfold intL at *
    generalize numsD .i64 (digL (dvS (N / V) 0) len) = C at *
    generalize nums .i64 (digL (dvS (N / V) 0) len) = C2 at *
    generalize decs (N / V) = LQ at *
    generalize decs N = LN at *
    generalize decs V = LV at *
    refine pure_eq (prun [200174] [(9, .w (DV.p (PD.v (Value.int IntKind.i64 (↑len : Int))))), (10, .m), (21, .w (DV.p (PD.v (Value.int IntKind.i64 (↑len : Int))))), (22, .w (DV.p (PD.v (Value.int IntKind.i64 ((↑len : Int) - 1))))), (26, .code [0, 1, 6, 7, 8] (AX.exit 0) (St.mk (mkT 49 [(6, DV.bsl 0 0 1 len len), (7, DV.p (PD.v (Value.slice none 0 0)))]) (Mem.mk [Box.mk 3 C false] [] []))), (30, .fzb 46 (PD.sl C2) (Mem.mk [Box.mk 3 C true] [] [])), (30, .call (AEnd.ret (PD.sl (nums IntKind.i64 LQ))))] (e := AEnd.ret (PD.tup [PD.sl (nums IntKind.i64 LQ), PD.sl []])) (.c (ht) (.c hf (.c (hlo) (.c (congrArg (fun z => DV.p (PD.v (Go.Value.int IntKind.i64 z))) rw6) (.c (congrArg (fun z => DV.p (PD.v (Go.Value.int IntKind.i64 z))) rwl) (.c (show (0 : Int) ≤ (↑len : Int) ∧ (↑len : Int) ≤ (↑len : Int) ∧ (↑len : Int) ≤ (1099511627776 : Int) by omega) (.c (congrArg (fun z => DV.p (PD.v (Go.Value.int IntKind.i64 z))) rwl) .n))))))) (by kernel_rfl)) ?_
    rfl
  · have er2 : rI N V 0 len = .p (intL (decs (N % V))) := by
      unfold rI; rw [if_neg h0, Nat.pow_zero, Nat.div_one]
    rw [er2] at hlo
    clear e1 hQ e0 er er2
    unfold intL at *
    generalize numsD .i64 (digL (dvS (N / V) 0) len) = C at *
    generalize nums .i64 (digL (dvS (N / V) 0) len) = C2 at *
    generalize decs (N / V) = LQ at *
    generalize decs (N % V) = LR at *
    generalize decs N = LN at *
    generalize decs V = LV at *
    refine pure_eq (prun [200174] [(9, .w (DV.p (PD.v (Value.int IntKind.i64 (↑len : Int))))), (10, .m), (21, .w (DV.p (PD.v (Value.int IntKind.i64 (↑len : Int))))), (22, .w (DV.p (PD.v (Value.int IntKind.i64 ((↑len : Int) - 1))))), (26, .code [0, 1, 6, 7, 8] (AX.exit 0) (St.mk (mkT 49 [(6, DV.bsl 0 0 1 len len), (7, DV.p (PD.sl (nums IntKind.i64 LR)))]) (Mem.mk [Box.mk 3 C false] [] []))), (30, .fzb 46 (PD.sl C2) (Mem.mk [Box.mk 3 C true] [] [])), (30, .call (AEnd.ret (PD.sl (nums IntKind.i64 LQ))))] (e := AEnd.ret (PD.tup [PD.sl (nums IntKind.i64 LQ), PD.sl (nums IntKind.i64 LR)])) (.c (ht) (.c hf (.c (hlo) (.c (congrArg (fun z => DV.p (PD.v (Go.Value.int IntKind.i64 z))) rw6) (.c (congrArg (fun z => DV.p (PD.v (Go.Value.int IntKind.i64 z))) rwl) (.c (show (0 : Int) ≤ (↑len : Int) ∧ (↑len : Int) ≤ (↑len : Int) ∧ (↑len : Int) ≤ (1099511627776 : Int) by omega) (.c (congrArg (fun z => DV.p (PD.v (Go.Value.int IntKind.i64 z))) rwl) .n))))))) (by kernel_rfl)) ?_
    rfl
def gtS (a b k : Nat) : St := ⟨mkT 19 [(0, .p (intL (decs (eu a b k).1))), (1, .p (intL (decs (eu a b k).2)))], ⟨[], [], []⟩⟩
theorem gcd2_loop (a b L : Nat) (hL : L ≤ 1073741790) (ha : a < 10000 ^ L) (hb : b < 10000 ^ L) : LoopOK Tryz.prog (loopB Tryz.prog 142 0) (gtS a b 0) (.exit 0) ⟨mkT 19 [(0, .p (intL (decs (Nat.gcd a b))))], ⟨[], [], []⟩⟩ := by
  refine loop_ix [0, 1] (gtS a b) b (fun k => (eu a b k).2 + k ≤ b ∧ Nat.gcd (eu a b k).1 (eu a b k).2 = Nat.gcd a b ∧ (eu a b k).1 < 10000 ^ L ∧ (eu a b k).2 < 10000 ^ L) ⟨by simp [eu], rfl, ha, hb⟩ (fun _ => rfl) ?_
  rintro k hk ⟨i1, i2, i3, i4⟩ ro K Q hQ hK
  have e1 : (eu a b (k + 1)).1 = (eu a b k).2 := rfl
  have e2 : (eu a b (k + 1)).2 = (eu a b k).1 % (eu a b k).2 := rfl
  unfold gtS at hK ⊢
  rw [e1, e2] at hK
  clear e1 e2
  generalize (eu a b k).1 = x at *
  generalize (eu a b k).2 = y at *
  have hl : (nums .i64 (decs y)).length = (decs y).length := nums_length _ _
  by_cases h0 : y = 0
  · subst h0
    rw [Nat.gcd_zero_right] at i2
    rw [← i2] at hQ
    rw [decs_zero]
    refine crun [] ⟨[0], [], [], none⟩ [] (AX.exit 0) (St.mk (mkT 19 [(0, DV.p (PD.sl (nums IntKind.i64 (decs x))))]) (Mem.mk [] [] [])) .n (by kernel_rfl) ?_
    exact hQ
  · have hlp : 0 < (decs y).length := by
      rcases Nat.eq_zero_or_pos (decs y).length with hh | hh
      · exact absurd (decs_nil.1 (List.eq_nil_of_length_eq_zero hh)) h0
      · exact hh
    have hdm := divmod2_pure x y L hL (Nat.pos_of_ne_zero h0) i4 (Nat.le_trans (decs_len_lt i3) hL)
    have hml := Nat.mod_lt x (Nat.pos_of_ne_zero h0)
    have hg : Nat.gcd y (x % y) = Nat.gcd a b := by rw [← i2, Nat.gcd_comm x y, Nat.gcd_rec y x, Nat.gcd_comm]
    have hnext := fun s1 h1 h2 => hK s1 h1 h2 ⟨by omega, hg, i4, Nat.lt_trans hml i4⟩
    clear hK i2 hg
    unfold intL at *
    generalize x % y = r at *
    generalize decs (x / y) = LQ at *
    generalize decs r = LR at *
    generalize decs x = LX at *
    generalize decs y = LY at *
    refine crun [] ⟨[0, 1], [], [], none⟩ [(5, .b true), (14, .call (AEnd.ret (PD.tup [PD.sl (nums IntKind.i64 LQ), PD.sl (nums IntKind.i64 LR)])))] (AX.norm) (St.mk (mkT 19 [(0, DV.p (PD.sl (nums IntKind.i64 LY))), (1, DV.p (PD.sl (nums IntKind.i64 LR)))]) (Mem.mk [] [] [])) (.c (hdm) (.c (dT (show (0 : Int) < (↑(nums IntKind.i64 LY).length : Int) by omega)) .n)) (by kernel_rfl) ?_
    exact hnext _ (by omega) rfl
theorem gcd2_pure (a b L : Nat) (hL : L ≤ 1073741790) (ha : a < 10000 ^ L) (hb : b < 10000 ^ L) : Pure Tryz.prog 142 [intL (decs a), intL (decs b)] (.ret (intL (decs (Nat.gcd a b)))) := by
  have hlo := gcd2_loop a b L hL ha hb
  have e : gtS a b 0 = ⟨mkT 19 [(0, .p (intL (decs a))), (1, .p (intL (decs b)))], ⟨[], [], []⟩⟩ := rfl
  rw [e] at hlo
  clear e
  unfold intL at *
  generalize decs (Nat.gcd a b) = LG at *
  generalize decs a = LA at *
  generalize decs b = LB at *
  refine pure_eq (prun [] [(7, .code [0, 1] (AX.exit 0) (St.mk (mkT 19 [(0, DV.p (PD.sl (nums IntKind.i64 LG)))]) (Mem.mk [] [] [])))] (e := AEnd.ret (PD.sl (nums IntKind.i64 LG))) (.c (hlo) .n) (by kernel_rfl)) ?_
  rfl
def encD (r : Bool × Nat × Nat) : PD := .agg [.v (.bool r.1), intL (decs r.2.1), intL (decs r.2.2)]
/-- as it may be, in numbers -/
def nrmV (neg : Bool) (a b : Nat) : Bool × Nat × Nat := if b = 0 ∨ a = 0 then (false, 0, 1) else (neg, a / Nat.gcd a b, b / Nat.gcd a b)
theorem decs_one : decs 1 = [1] := by rw [decs_pos (by decide), show 1 / 10000 = 0 by decide, decs_zero]; rfl
theorem make2_pure (neg : Bool) (a b L : Nat) (hL : L ≤ 1073741790) (ha : a < 10000 ^ L) (hb : b < 10000 ^ L) : Pure Tryz.prog 122 [.v (.bool neg), intL (decs a), intL (decs b)] (.ret (encD (nrmV neg a b))) := by
  have la : (nums .i64 (decs a)).length = (decs a).length := nums_length _ _
  have lb : (nums .i64 (decs b)).length = (decs b).length := nums_length _ _
  have za : (decs a).length = 0 ↔ a = 0 := ⟨fun h => decs_nil.1 (List.eq_nil_of_length_eq_zero h), fun h => by rw [h, decs_zero]; rfl⟩
  have zb : (decs b).length = 0 ↔ b = 0 := ⟨fun h => decs_nil.1 (List.eq_nil_of_length_eq_zero h), fun h => by rw [h, decs_zero]; rfl⟩
  by_cases h : b = 0 ∨ a = 0
  · have e : encD (nrmV neg a b) = .agg [.v (.bool false), .sl [], .sl [.v (.int .i64 1)]] := by
      unfold nrmV encD; rw [if_pos h]; simp only [decs_zero, decs_one]; rfl
    rw [e]
    by_cases h0 : a = 0
    · have z := za.2 h0
      clear za zb h e
      unfold intL at *
      generalize decs a = LA at *
      generalize decs b = LB at *
      refine pure_eq (prun [] [(10, .b true)] (e := AEnd.ret (PD.agg [PD.v (Value.bool false), PD.sl [], PD.sl [PD.v (Value.int IntKind.i64 1)]])) (.c (eT (show (↑(nums IntKind.i64 LA).length : Int) = (0 : Int) by omega)) .n) (by kernel_rfl)) ?_
      rfl
    · have z := zb.2 (h.resolve_right h0)
      have z2 : ¬ (decs a).length = 0 := fun hh => h0 (za.1 hh)
      clear za zb h e
      unfold intL at *
      generalize decs a = LA at *
      generalize decs b = LB at *
      refine pure_eq (prun [] [(10, .b false), (14, .b true)] (e := AEnd.ret (PD.agg [PD.v (Value.bool false), PD.sl [], PD.sl [PD.v (Value.int IntKind.i64 1)]])) (.c (eT (show (↑(nums IntKind.i64 LB).length : Int) = (0 : Int) by omega)) (.c (eF (show ¬ (↑(nums IntKind.i64 LA).length : Int) = (0 : Int) by omega)) .n)) (by kernel_rfl)) ?_
      rfl
  · have h1 : b ≠ 0 := fun hh => h (.inl hh)
    have h2 : a ≠ 0 := fun hh => h (.inr hh)
    have g0 : 0 < Nat.gcd a b := Nat.gcd_pos_of_pos_left _ (Nat.pos_of_ne_zero h2)
    have hg := gcd2_pure a b L hL ha hb
    have hgl : Nat.gcd a b < 10000 ^ L := Nat.lt_of_le_of_lt (Nat.gcd_le_left _ (Nat.pos_of_ne_zero h2)) ha
    have d1 := divmod2_pure a (Nat.gcd a b) L hL g0 hgl (Nat.le_trans (decs_len_lt ha) hL)
    have d2 := divmod2_pure b (Nat.gcd a b) L hL g0 hgl (Nat.le_trans (decs_len_lt hb) hL)
    have z1 : ¬ (decs a).length = 0 := fun hh => h2 (za.1 hh)
    have z2 : ¬ (decs b).length = 0 := fun hh => h1 (zb.1 hh)
    unfold nrmV encD
    rw [if_neg h]
    clear za zb h g0 hgl
    unfold intL at *
    simp only at *
    generalize decs (a / Nat.gcd a b) = LX at *
    generalize decs (b / Nat.gcd a b) = LY at *
    generalize decs (a % Nat.gcd a b) = LX2 at *
    generalize decs (b % Nat.gcd a b) = LY2 at *
    generalize decs (Nat.gcd a b) = LG at *
    generalize decs a = LA at *
    generalize decs b = LB at *
    refine pure_eq (prun [] [(10, .b false), (14, .b false), (23, .call (AEnd.ret (PD.sl (nums IntKind.i64 LG)))), (30, .call (AEnd.ret (PD.tup [PD.sl (nums IntKind.i64 LX), PD.sl (nums IntKind.i64 LX2)]))), (41, .call (AEnd.ret (PD.tup [PD.sl (nums IntKind.i64 LY), PD.sl (nums IntKind.i64 LY2)])))] (e := AEnd.ret (PD.agg [PD.v (Value.bool neg), PD.sl (nums IntKind.i64 LX), PD.sl (nums IntKind.i64 LY)])) (.c (d2) (.c (d1) (.c (hg) (.c (eF (show ¬ (↑(nums IntKind.i64 LB).length : Int) = (0 : Int) by omega)) (.c (eF (show ¬ (↑(nums IntKind.i64 LA).length : Int) = (0 : Int) by omega)) .n))))) (by kernel_rfl)) ?_
    rfl
structure RatSm (r : RatM) : Prop where
  n : Dig r.num
  d : Dig r.den
  ln : r.num.length ≤ 100000000
  ld : r.den.length ≤ 100000000
theorem RatSm.ok {r : RatM} (h : RatSm r) : RatOK r := ⟨h.n, h.d, Nat.le_trans h.ln (by decide), Nat.le_trans h.ld (by decide)⟩
def nrmD (r : RatM) : Bool × Nat × Nat := nrmV r.neg (val r.num) (val r.den)
theorem rof_pure (r : RatM) (h : RatSm r) : Pure Tryz.prog 93 [encRat r] (.ret (encD (nrmD r))) := by
  obtain ⟨neg, n, d⟩ := r
  obtain ⟨dn, dd, ln, ld⟩ := h
  simp only at dn dd ln ld
  have e1 := nOf_pure n dn ln
  have e2 := nOf_pure d dd ld
  have v1 := val_len dn
  have v2 := val_len dd
  have hm := make2_pure neg (val n) (val d) (max (3 * n.length) (3 * d.length)) (by omega) (Nat.lt_of_lt_of_le v1 (Nat.pow_le_pow_right (by decide) (Nat.le_max_left _ _))) (Nat.lt_of_lt_of_le v2 (Nat.pow_le_pow_right (by decide) (Nat.le_max_right _ _)))
  unfold nrmD encRat
  simp only
  generalize nrmV neg (val n) (val d) = r at *
  obtain ⟨x, a, b⟩ := r
  clear dn dd v1 v2
  unfold encD natL intL at *
  simp only at *
  generalize decs a = LX at *
  generalize decs b = LY at *
  generalize decs (val n) = LA at *
  generalize decs (val d) = LB at *
  generalize nums .u32 n = N at *
  generalize nums .u32 d = D at *
  refine pure_eq (prun [] [(12, .call (AEnd.ret (PD.sl (nums IntKind.i64 LA)))), (15, .call (AEnd.ret (PD.sl (nums IntKind.i64 LB)))), (16, .call (AEnd.ret (PD.agg [PD.v (Value.bool x), PD.sl (nums IntKind.i64 LX), PD.sl (nums IntKind.i64 LY)])))] (e := AEnd.ret (PD.agg [PD.v (Value.bool x), PD.sl (nums IntKind.i64 LX), PD.sl (nums IntKind.i64 LY)])) (.c (hm) (.c (e2) (.c (e1) .n))) (by kernel_rfl)) ?_
  rfl
end Go.Proofs.YtikfefjaeejeeaaGreatDoor
/- Walks: the document's rationals: the same one, may it be. -/
namespace Go.Proofs.YtikfefjaeejeeaaGreatDoor
open Go.RowKit
set_option maxRecDepth 100000
theorem limbs_onen : limbs 1 = [1] := limbs_one (by decide) (by decide)
theorem nrmL_eq (r : RatM) : nrmL r = ⟨(nrmD r).1, limbs (nrmD r).2.1, limbs (nrmD r).2.2⟩ := by
  unfold nrmL nrmD nrmV
  split
  · simp only [limbs_zero, limbs_onen]
  · rfl
theorem limbs_inj {a b : Nat} (h : limbs a = limbs b) : a = b := by rw [← val_limbs a, h, val_limbs]
theorem sameR_eq (a b : RatM) : sameR (nrmL a) (nrmL b) = decide (nrmD a = nrmD b) := by
  rw [nrmL_eq, nrmL_eq]
  obtain ⟨x1, x2, x3⟩ := nrmD a
  obtain ⟨y1, y2, y3⟩ := nrmD b
  unfold sameR
  simp only
  by_cases h1 : x1 = y1
  · rw [if_pos h1]
    by_cases h2 : x2 = y2
    · rw [if_pos (by rw [h2])]
      by_cases h3 : x3 = y3
      · rw [decide_eq_true (by rw [h3]), decide_eq_true (by rw [h1, h2, h3])]
      · rw [decide_eq_false (fun h => h3 (limbs_inj h)), decide_eq_false (fun h => h3 (by injection h with _ h; injection h))]
    · rw [if_neg (fun h => h2 (limbs_inj h)), decide_eq_false (fun h => h2 (by injection h with _ h; injection h))]
  · rw [if_neg h1, decide_eq_false (fun h => h1 (by injection h))]
theorem cmpV_zero (x y : Nat) : cmpV x y = 0 ↔ x = y := by
  unfold cmpV
  split
  · omega
  · split <;> omega
theorem nrm_len {r : RatM} (h : RatSm r) : (decs (nrmD r).2.1).length ≤ 300000000 ∧ (decs (nrmD r).2.2).length ≤ 300000000 := by
  obtain ⟨dn, dd, ln, ld⟩ := h
  have key : ∀ L, 1 ≤ L → L ≤ 300000000 → val r.num < 10000 ^ L → val r.den < 10000 ^ L → (decs (nrmD r).2.1).length ≤ 300000000 ∧ (decs (nrmD r).2.2).length ≤ 300000000 := by
    intro L hL hL2 h1 h2
    have h3 : (nrmD r).2.1 < 10000 ^ L ∧ (nrmD r).2.2 < 10000 ^ L := by
      unfold nrmD nrmV
      split
      · have : 10000 ^ 1 ≤ 10000 ^ L := Nat.pow_le_pow_right (by decide) hL
        simp only
        omega
      · exact ⟨Nat.lt_of_le_of_lt (Nat.div_le_self _ _) h1, Nat.lt_of_le_of_lt (Nat.div_le_self _ _) h2⟩
    exact ⟨Nat.le_trans (decs_len_lt h3.1) hL2, Nat.le_trans (decs_len_lt h3.2) hL2⟩
  exact key (max 1 (max (3 * r.num.length) (3 * r.den.length))) (by omega) (by omega) (Nat.lt_of_lt_of_le (val_len dn) (Nat.pow_le_pow_right (by decide) (by omega))) (Nat.lt_of_lt_of_le (val_len dd) (Nat.pow_le_pow_right (by decide) (by omega)))
set_option maxHeartbeats 1000000 in
theorem rsame2_pure (a b : RatM) (ha : RatSm a) (hb : RatSm b) : Pure Tryz.prog 50 [encRat a, encRat b] (.ret (boolP (decide (nrmD a = nrmD b)))) := by
  have n1 := rof_pure a ha
  have n2 := rof_pure b hb
  obtain ⟨p1, p2⟩ := nrm_len ha
  obtain ⟨q1, q2⟩ := nrm_len hb
  have e1 := rcmp_pure (nrmD a).2.1 (nrmD b).2.1 (by omega) (by omega)
  have e2 := rcmp_pure (nrmD a).2.2 (nrmD b).2.2 (by omega) (by omega)
  have z1 := cmpV_zero (nrmD a).2.1 (nrmD b).2.1
  have z2 := cmpV_zero (nrmD a).2.2 (nrmD b).2.2
  clear ha hb p1 p2 q1 q2
  generalize nrmD a = X at *
  generalize nrmD b = Y at *
  obtain ⟨x1, x2, x3⟩ := X
  obtain ⟨y1, y2, y3⟩ := Y
  obtain ⟨a1, a2, a3⟩ := a
  obtain ⟨b1, b2, b3⟩ := b
  simp only at e1 e2 z1 z2
  generalize cmpV x2 y2 = c at *
  generalize cmpV x3 y3 = d at *
  have hdec : decide ((x1, x2, x3) = (y1, y2, y3)) = (decide (x1 = y1) && (decide (c = 0) && decide (d = 0))) := by
    rw [Bool.eq_iff_iff]
    simp only [decide_eq_true_eq, Bool.and_eq_true, Prod.mk.injEq, z1, z2]
  rw [hdec]
  clear hdec z1 z2
  by_cases h1 : x1 = y1
  · subst h1
    rw [decide_eq_true rfl, Bool.true_and]
    have hx : id (x1 == x1) = true := by simp
    by_cases h2 : c = 0
    · rw [decide_eq_true h2, Bool.true_and]
      by_cases h3 : d = 0
      · rw [decide_eq_true h3]
        unfold encD encRat natL intL at *
        simp only at *
        generalize nums .i64 (decs x2) = X2 at *
        generalize nums .i64 (decs x3) = X3 at *
        generalize nums .i64 (decs y2) = Y2 at *
        generalize nums .i64 (decs y3) = Y3 at *
        generalize nums .u32 a2 = A2 at *
        generalize nums .u32 a3 = A3 at *
        generalize nums .u32 b2 = B2 at *
        generalize nums .u32 b3 = B3 at *
        refine pure_eq (prun [] [(8, .xp 4), (10, .call (AEnd.ret (PD.agg [PD.v (Value.bool x1), PD.sl X2, PD.sl X3]))), (12, .call (AEnd.ret (PD.agg [PD.v (Value.bool x1), PD.sl Y2, PD.sl Y3]))), (24, .b true), (30, .call (AEnd.ret (PD.v (Value.int IntKind.i64 c)))), (31, .b true), (38, .call (AEnd.ret (PD.v (Value.int IntKind.i64 d)))), (39, .b true)] (e := AEnd.ret (PD.v (Value.bool true))) (.c (eT h3) (.c (e2) (.c (eT h2) (.c (e1) (.c hx (.c (@rfl DV (DV.agg [DV.p (PD.v (Value.bool b1)), DV.p (PD.sl B2), DV.p (PD.sl B3)])) (.c (@rfl DV (DV.agg [DV.p (PD.v (Value.bool a1)), DV.p (PD.sl A2), DV.p (PD.sl A3)])) (.c (@rfl DV (DV.agg [DV.p (PD.v (Value.bool b1)), DV.p (PD.sl B2), DV.p (PD.sl B3)])) (.c (@rfl DV (DV.agg [DV.p (PD.v (Value.bool a1)), DV.p (PD.sl A2), DV.p (PD.sl A3)])) (.c (n2) (.c (n1) .n))))))))))) (by kernel_rfl)) ?_
        rfl
      · rw [decide_eq_false h3]
        unfold encD encRat natL intL at *
        simp only at *
        generalize nums .i64 (decs x2) = X2 at *
        generalize nums .i64 (decs x3) = X3 at *
        generalize nums .i64 (decs y2) = Y2 at *
        generalize nums .i64 (decs y3) = Y3 at *
        generalize nums .u32 a2 = A2 at *
        generalize nums .u32 a3 = A3 at *
        generalize nums .u32 b2 = B2 at *
        generalize nums .u32 b3 = B3 at *
        refine pure_eq (prun [] [(8, .xp 4), (10, .call (AEnd.ret (PD.agg [PD.v (Value.bool x1), PD.sl X2, PD.sl X3]))), (12, .call (AEnd.ret (PD.agg [PD.v (Value.bool x1), PD.sl Y2, PD.sl Y3]))), (24, .b true), (30, .call (AEnd.ret (PD.v (Value.int IntKind.i64 c)))), (31, .b true), (38, .call (AEnd.ret (PD.v (Value.int IntKind.i64 d)))), (39, .b false)] (e := AEnd.ret (PD.v (Value.bool false))) (.c (eF h3) (.c (e2) (.c (eT h2) (.c (e1) (.c hx (.c (@rfl DV (DV.agg [DV.p (PD.v (Value.bool b1)), DV.p (PD.sl B2), DV.p (PD.sl B3)])) (.c (@rfl DV (DV.agg [DV.p (PD.v (Value.bool a1)), DV.p (PD.sl A2), DV.p (PD.sl A3)])) (.c (@rfl DV (DV.agg [DV.p (PD.v (Value.bool b1)), DV.p (PD.sl B2), DV.p (PD.sl B3)])) (.c (@rfl DV (DV.agg [DV.p (PD.v (Value.bool a1)), DV.p (PD.sl A2), DV.p (PD.sl A3)])) (.c (n2) (.c (n1) .n))))))))))) (by kernel_rfl)) ?_
        rfl
    · rw [decide_eq_false h2, Bool.false_and]
      clear e2
      unfold encD encRat natL intL at *
      simp only at *
      generalize nums .i64 (decs x2) = X2 at *
      generalize nums .i64 (decs x3) = X3 at *
      generalize nums .i64 (decs y2) = Y2 at *
      generalize nums .i64 (decs y3) = Y3 at *
      generalize nums .u32 a2 = A2 at *
      generalize nums .u32 a3 = A3 at *
      generalize nums .u32 b2 = B2 at *
      generalize nums .u32 b3 = B3 at *
      refine pure_eq (prun [] [(8, .xp 4), (10, .call (AEnd.ret (PD.agg [PD.v (Value.bool x1), PD.sl X2, PD.sl X3]))), (12, .call (AEnd.ret (PD.agg [PD.v (Value.bool x1), PD.sl Y2, PD.sl Y3]))), (24, .b true), (30, .call (AEnd.ret (PD.v (Value.int IntKind.i64 c)))), (31, .b false)] (e := AEnd.ret (PD.v (Value.bool false))) (.c (eF h2) (.c (e1) (.c hx (.c (@rfl DV (DV.agg [DV.p (PD.v (Value.bool b1)), DV.p (PD.sl B2), DV.p (PD.sl B3)])) (.c (@rfl DV (DV.agg [DV.p (PD.v (Value.bool a1)), DV.p (PD.sl A2), DV.p (PD.sl A3)])) (.c (@rfl DV (DV.agg [DV.p (PD.v (Value.bool b1)), DV.p (PD.sl B2), DV.p (PD.sl B3)])) (.c (@rfl DV (DV.agg [DV.p (PD.v (Value.bool a1)), DV.p (PD.sl A2), DV.p (PD.sl A3)])) (.c (n2) (.c (n1) .n))))))))) (by kernel_rfl)) ?_
      rfl
  · rw [decide_eq_false h1, Bool.false_and]
    have hx : id (x1 == y1) = false := by simpa using h1
    clear e1 e2
    unfold encD encRat natL intL at *
    simp only at *
    generalize nums .i64 (decs x2) = X2 at *
    generalize nums .i64 (decs x3) = X3 at *
    generalize nums .i64 (decs y2) = Y2 at *
    generalize nums .i64 (decs y3) = Y3 at *
    generalize nums .u32 a2 = A2 at *
    generalize nums .u32 a3 = A3 at *
    generalize nums .u32 b2 = B2 at *
    generalize nums .u32 b3 = B3 at *
    refine pure_eq (prun [] [(8, .xp 4), (10, .call (AEnd.ret (PD.agg [PD.v (Value.bool x1), PD.sl X2, PD.sl X3]))), (12, .call (AEnd.ret (PD.agg [PD.v (Value.bool y1), PD.sl Y2, PD.sl Y3]))), (24, .b false)] (e := AEnd.ret (PD.v (Value.bool false))) (.c hx (.c (@rfl DV (DV.agg [DV.p (PD.v (Value.bool b1)), DV.p (PD.sl B2), DV.p (PD.sl B3)])) (.c (@rfl DV (DV.agg [DV.p (PD.v (Value.bool a1)), DV.p (PD.sl A2), DV.p (PD.sl A3)])) (.c (@rfl DV (DV.agg [DV.p (PD.v (Value.bool b1)), DV.p (PD.sl B2), DV.p (PD.sl B3)])) (.c (@rfl DV (DV.agg [DV.p (PD.v (Value.bool a1)), DV.p (PD.sl A2), DV.p (PD.sl A3)])) (.c (n2) (.c (n1) .n))))))) (by kernel_rfl)) ?_
    rfl
theorem canon_iff {l : List Int} (hd : Dig l) {n : Nat} (hl : l.length = n + 1) : l = limbs (val l) ↔ l.getD n 0 ≠ 0 := by
  constructor
  · intro h h0
    have h1 : n < (limbs (val l)).length := by rw [← h]; omega
    have h2 := (limbs_lt (val l) n).1 h1
    have h3 := dg_val l hd n
    rw [h0] at h3
    have h4 : val l / 4294967296 ^ n < 4294967296 := (Nat.div_lt_iff_lt_mul (pw_pos n)).2 (by rw [Nat.mul_comm, ← Nat.pow_succ]; have := val_lt hd; rw [hl] at this; exact this)
    unfold dgI dg at h3
    rw [Nat.mod_eq_of_lt h4] at h3
    omega
  · intro h
    rw [limbs_val hd, trimmed_take l (n + 1) (by omega) (fun j h1 h2 => by omega) (.inr (by rw [Nat.add_sub_cancel]; exact h)), ← hl, List.take_length]
theorem canon_pure (l : List Int) (hd : Dig l) (hl : l.length ≤ 1073741824) : Pure Tryz.prog 230 [natL l] (.ret (boolP (decide (l = limbs (val l))))) := by
  have hlen : (nums .u32 l).length = l.length := nums_length _ _
  by_cases h0 : l.length = 0
  · obtain rfl : l = [] := List.eq_nil_of_length_eq_zero h0
    have e : limbs (val []) = [] := limbs_zero
    rw [e]
    refine pure_eq (prun [] [] (e := AEnd.ret (PD.v (Value.bool true))) .n (by kernel_rfl)) ?_
    rfl
  · obtain ⟨n, hn⟩ : ∃ n, l.length = n + 1 := ⟨l.length - 1, by omega⟩
    have hc := canon_iff hd hn
    obtain ⟨x0, x1⟩ := hd.getD n
    have hx : (nums .u32 l)[(n : Int).toNat]? = some (.v (.int .u32 (l.getD n 0))) := nums_at (by
      rw [Int.toNat_natCast, List.getElem?_eq_getElem (by omega)]; simp [List.getD, show n < l.length by omega])
    have rwl : ((nums .u32 l).length : Int) = ((n + 1 : Nat) : Int) := by rw [hlen, hn]
    have rw1 : IntKind.i64.wrap (((n + 1 : Nat) : Int) - 1) = (n : Int) := by rw [wrap64_id (by omega) (by omega)]; omega
    have hnz : ¬ ((n + 1 : Nat) : Int) = 0 := by omega
    rw [show decide (l = limbs (val l)) = decide (l.getD n 0 ≠ 0) by simp only [hc]]
    clear hc
    generalize l.getD n 0 = x at *
    by_cases hx0 : x = 0
    · rw [decide_eq_false (by simpa using hx0)]
      unfold natL
      clear hd
      generalize nums .u32 l = L at *
      refine pure_eq (prun [] [(8, .w (DV.p (PD.v (Value.int IntKind.i64 (↑(n + 1) : Int))))), (13, .w (DV.p (PD.v (Value.int IntKind.i64 (↑(n + 1) : Int))))), (14, .w (DV.p (PD.v (Value.int IntKind.i64 (↑n : Int))))), (15, .el (PD.v (Value.int IntKind.u32 x))), (16, .el (PD.v (Value.int IntKind.u32 x))), (17, .b false)] (e := AEnd.ret (PD.v (Value.bool false))) (.c (neF hx0) (.c hx (.c (And.intro hx (nn0 (n))) (.c (congrArg (fun z => DV.p (PD.v (Go.Value.int IntKind.i64 z))) rw1) (.c (congrArg (fun z => DV.p (PD.v (Go.Value.int IntKind.i64 z))) rwl) (.c (congrArg (fun z => DV.p (PD.v (Go.Value.int IntKind.i64 z))) rwl) .n)))))) (by kernel_rfl)) ?_
      rfl
    · rw [decide_eq_true hx0]
      unfold natL
      clear hd
      generalize nums .u32 l = L at *
      refine pure_eq (prun [] [(8, .w (DV.p (PD.v (Value.int IntKind.i64 (↑(n + 1) : Int))))), (13, .w (DV.p (PD.v (Value.int IntKind.i64 (↑(n + 1) : Int))))), (14, .w (DV.p (PD.v (Value.int IntKind.i64 (↑n : Int))))), (15, .el (PD.v (Value.int IntKind.u32 x))), (16, .el (PD.v (Value.int IntKind.u32 x))), (17, .b true)] (e := AEnd.ret (PD.v (Value.bool true))) (.c (neT hx0) (.c hx (.c (And.intro hx (nn0 (n))) (.c (congrArg (fun z => DV.p (PD.v (Go.Value.int IntKind.i64 z))) rw1) (.c (congrArg (fun z => DV.p (PD.v (Go.Value.int IntKind.i64 z))) rwl) (.c (congrArg (fun z => DV.p (PD.v (Go.Value.int IntKind.i64 z))) rwl) .n)))))) (by kernel_rfl)) ?_
      rfl
theorem isN_pure (a : Nat) (l : List Int) (hd : Dig l) (hl : l.length ≤ 100000000) (ha : (decs a).length ≤ 300000000) : Pure Tryz.prog 202 [intL (decs a), natL l] (.ret (boolP (decide (l = limbs a)))) := by
  have hc := canon_pure l hd (by omega)
  have ho := nOf_pure l hd hl
  have hv : (decs (val l)).length ≤ 300000000 := by
    have := decs_len_lt (val_len hd)
    omega
  have hm := rcmp_pure (val l) a (by omega) (by omega)
  have hz := cmpV_zero (val l) a
  have hdec : decide (l = limbs a) = (decide (l = limbs (val l)) && decide (cmpV (val l) a = 0)) := by
    rw [Bool.eq_iff_iff]
    simp only [decide_eq_true_eq, Bool.and_eq_true, hz]
    constructor
    · intro h
      have : val l = a := by rw [h, val_limbs]
      exact ⟨by rw [this]; exact h, this⟩
    · rintro ⟨h1, h2⟩
      rw [h2] at h1; exact h1
  rw [hdec]
  clear hdec hz hv
  generalize cmpV (val l) a = c at *
  generalize decs (val l) = LV at *
  generalize decs a = LA at *
  by_cases h1 : l = limbs (val l)
  · rw [decide_eq_true h1] at hc ⊢
    rw [Bool.true_and]
    clear h1
    unfold natL intL at *
    generalize nums .u32 l = L at *
    by_cases h2 : c = 0
    · rw [decide_eq_true h2]
      refine pure_eq (prun [] [(8, .call (AEnd.ret (PD.v (Value.bool true)))), (11, .call (AEnd.ret (PD.sl (nums IntKind.i64 LV)))), (13, .call (AEnd.ret (PD.v (Value.int IntKind.i64 c)))), (14, .b true)] (e := AEnd.ret (PD.v (Value.bool true))) (.c (eT h2) (.c (hm) (.c (ho) (.c (hc) .n)))) (by kernel_rfl)) ?_
      rfl
    · rw [decide_eq_false h2]
      refine pure_eq (prun [] [(8, .call (AEnd.ret (PD.v (Value.bool true)))), (11, .call (AEnd.ret (PD.sl (nums IntKind.i64 LV)))), (13, .call (AEnd.ret (PD.v (Value.int IntKind.i64 c)))), (14, .b false)] (e := AEnd.ret (PD.v (Value.bool false))) (.c (eF h2) (.c (hm) (.c (ho) (.c (hc) .n)))) (by kernel_rfl)) ?_
      rfl
  · rw [decide_eq_false h1] at hc ⊢
    rw [Bool.false_and]
    clear h1
    unfold natL intL at *
    generalize nums .u32 l = L at *
    refine pure_eq (prun [] [(8, .call (AEnd.ret (PD.v (Value.bool false))))] (e := AEnd.ret (PD.v (Value.bool false))) (.c (hc) .n) (by kernel_rfl)) ?_
    rfl
end Go.Proofs.YtikfefjaeejeeaaGreatDoor
/- Walks: graph.Same. -/
namespace Go.Proofs.YtikfefjaeejeeaaGreatDoor
open Go.RowKit
set_option maxRecDepth 100000
def nodeE (x y : NodeM) : Bool := decide (x.op = y.op) && (eqL x.args y.args && eqL x.attrs y.attrs)
def portE (x y : PortM) : Bool := (x.name.toList == y.name.toList) && eqL x.shape y.shape
def ratE (x y : RatM) : Bool := decide (nrmD x = nrmD y)
def weightE (x y : WeightM) : Bool := (x.name.toList == y.name.toList) && (eqL x.shape y.shape && eqF ratE x.elems y.elems)
def bodyE (n : List NodeM) (o : List Int) (n' : List NodeM) (o' : List Int) : Bool := eqL o o' && eqF nodeE n n'
def graphE (a b : GraphM) : Bool := decide (a.ver = b.ver) && (decide (a.has = b.has) && (eqF portE a.ins b.ins && (eqF weightE a.ws b.ws && (bodyE a.bn a.bo b.bn b.bo && bodyE a.vn a.vo b.vn b.vo))))
/-- not too large -/
structure SmNode (n : NodeM) : Prop where
  a : n.args.length ≤ 100000000
  t : n.attrs.length ≤ 100000000
structure SmPort (p : PortM) : Prop where
  s : p.shape.length ≤ 100000000
structure SmWeight (p : WeightM) : Prop where
  s : p.shape.length ≤ 100000000
  el : p.elems.length ≤ 100000000
  e : ∀ r ∈ p.elems, RatSm r
structure SmG (g : GraphM) : Prop where
  il : g.ins.length ≤ 100000000
  i : ∀ p ∈ g.ins, SmPort p
  wl : g.ws.length ≤ 100000000
  w : ∀ p ∈ g.ws, SmWeight p
  bl : g.bn.length ≤ 100000000
  b : ∀ n ∈ g.bn, SmNode n
  bo : g.bo.length ≤ 100000000
  vl : g.vn.length ≤ 100000000
  v : ∀ n ∈ g.vn, SmNode n
  vo : g.vo.length ≤ 100000000
theorem node_pure (x y : NodeM) (hx : SmNode x) (hy : SmNode y) : Pure Tryz.prog 101 [encNode x, encNode y] (.ret (boolP (nodeE x y))) := by
  have e1 := slice99_pure x.args y.args (by have := hx.a; omega) (by have := hy.a; omega)
  have e2 := slice99_pure x.attrs y.attrs (by have := hx.t; omega) (by have := hy.t; omega)
  unfold nodeE
  clear hx hy
  obtain ⟨x1, x2, x3⟩ := x
  obtain ⟨y1, y2, y3⟩ := y
  simp only at e1 e2 ⊢
  generalize eqL x2 y2 = p at *
  generalize eqL x3 y3 = q at *
  unfold encNode intL at *
  simp only at *
  generalize nums .i64 x2 = X2 at *
  generalize nums .i64 x3 = X3 at *
  generalize nums .i64 y2 = Y2 at *
  generalize nums .i64 y3 = Y3 at *
  by_cases h1 : x1 = y1
  · rw [decide_eq_true h1, Bool.true_and]
    cases p with
    | true =>
      rw [Bool.true_and]
      cases q with
      | true =>
        refine pure_eq (prun [] [(13, .b true), (19, .call (AEnd.ret (PD.v (Value.bool true)))), (26, .call (AEnd.ret (PD.v (Value.bool true))))] (e := AEnd.ret (PD.v (Value.bool true))) (.c (e2) (.c (e1) (.c (eT h1) .n))) (by kernel_rfl)) ?_
        rfl
      | false =>
        refine pure_eq (prun [] [(13, .b true), (19, .call (AEnd.ret (PD.v (Value.bool true)))), (26, .call (AEnd.ret (PD.v (Value.bool false))))] (e := AEnd.ret (PD.v (Value.bool false))) (.c (e2) (.c (e1) (.c (eT h1) .n))) (by kernel_rfl)) ?_
        rfl
    | false =>
      rw [Bool.false_and]
      clear e2
      refine pure_eq (prun [] [(13, .b true), (19, .call (AEnd.ret (PD.v (Value.bool false))))] (e := AEnd.ret (PD.v (Value.bool false))) (.c (e1) (.c (eT h1) .n)) (by kernel_rfl)) ?_
      rfl
  · rw [decide_eq_false h1, Bool.false_and]
    clear e1 e2
    refine pure_eq (prun [] [(13, .b false)] (e := AEnd.ret (PD.v (Value.bool false))) (.c (eF h1) .n) (by kernel_rfl)) ?_
    rfl
theorem port_pure (x y : PortM) (hx : SmPort x) (hy : SmPort y) : Pure Tryz.prog 59 [encPort x, encPort y] (.ret (boolP (portE x y))) := by
  have e1 := slice60_pure x.shape y.shape (by have := hx.s; omega) (by have := hy.s; omega)
  unfold portE
  clear hx hy
  obtain ⟨x1, x2⟩ := x
  obtain ⟨y1, y2⟩ := y
  simp only at e1 ⊢
  generalize eqL x2 y2 = p at *
  unfold encPort strP intL at *
  simp only at *
  generalize nums .i64 x2 = X2 at *
  generalize nums .i64 y2 = Y2 at *
  cases h1 : (x1.toList == y1.toList) with
  | true =>
    rw [Bool.true_and]
    cases p with
    | true =>
      refine pure_eq (prun [] [(13, .b true), (19, .call (AEnd.ret (PD.v (Value.bool true))))] (e := AEnd.ret (PD.v (Value.bool true))) (.c (e1) (.c h1 .n)) (by kernel_rfl)) ?_
      rfl
    | false =>
      refine pure_eq (prun [] [(13, .b true), (19, .call (AEnd.ret (PD.v (Value.bool false))))] (e := AEnd.ret (PD.v (Value.bool false))) (.c (e1) (.c h1 .n)) (by kernel_rfl)) ?_
      rfl
  | false =>
    rw [Bool.false_and]
    clear e1
    refine pure_eq (prun [] [(13, .b false)] (e := AEnd.ret (PD.v (Value.bool false))) (.c h1 .n) (by kernel_rfl)) ?_
    rfl
theorem rat_pure (x y : RatM) (hx : RatSm x) (hy : RatSm y) : Pure Tryz.prog 63 [encRat x, encRat y] (.ret (boolP (ratE x y))) := by
  have := rsame_pure x y hx.ok hy.ok
  rw [sameR_eq] at this
  exact this
theorem weight_pure (x y : WeightM) (hx : SmWeight x) (hy : SmWeight y) : Pure Tryz.prog 61 [encWeight x, encWeight y] (.ret (boolP (weightE x y))) := by
  have e1 := slice60_pure x.shape y.shape (by have := hx.s; omega) (by have := hy.s; omega)
  have e2 := efR_pure ratE x.elems y.elems (by have := hx.el; omega) (by have := hy.el; omega) (fun a ha b hb => rat_pure a b (hx.e a ha) (hy.e b hb))
  unfold weightE
  clear hx hy
  obtain ⟨x1, x2, x3⟩ := x
  obtain ⟨y1, y2, y3⟩ := y
  simp only at e1 e2 ⊢
  generalize eqL x2 y2 = p at *
  generalize eqF ratE x3 y3 = q at *
  unfold encWeight strP intL at *
  simp only at *
  generalize nums .i64 x2 = X2 at *
  generalize nums .i64 y2 = Y2 at *
  generalize x3.map encRat = X3 at *
  generalize y3.map encRat = Y3 at *
  cases h1 : (x1.toList == y1.toList) with
  | true =>
    rw [Bool.true_and]
    cases p with
    | true =>
      rw [Bool.true_and]
      cases q with
      | true =>
        refine pure_eq (prun [] [(13, .b true), (21, .call (AEnd.ret (PD.v (Value.bool true)))), (30, .call (AEnd.ret (PD.v (Value.bool true))))] (e := AEnd.ret (PD.v (Value.bool true))) (.c (e2) (.c (e1) (.c h1 .n))) (by kernel_rfl)) ?_
        rfl
      | false =>
        refine pure_eq (prun [] [(13, .b true), (21, .call (AEnd.ret (PD.v (Value.bool true)))), (30, .call (AEnd.ret (PD.v (Value.bool false))))] (e := AEnd.ret (PD.v (Value.bool false))) (.c (e2) (.c (e1) (.c h1 .n))) (by kernel_rfl)) ?_
        rfl
    | false =>
      rw [Bool.false_and]
      clear e2
      refine pure_eq (prun [] [(13, .b true), (21, .call (AEnd.ret (PD.v (Value.bool false))))] (e := AEnd.ret (PD.v (Value.bool false))) (.c (e1) (.c h1 .n)) (by kernel_rfl)) ?_
      rfl
  | false =>
    rw [Bool.false_and]
    clear e1 e2
    refine pure_eq (prun [] [(13, .b false)] (e := AEnd.ret (PD.v (Value.bool false))) (.c h1 .n) (by kernel_rfl)) ?_
    rfl
theorem sbody_pure (n : List NodeM) (o : List Int) (n' : List NodeM) (o' : List Int) (h1 : n.length ≤ 100000000) (h2 : o.length ≤ 100000000) (h3 : n'.length ≤ 100000000) (h4 : o'.length ≤ 100000000) (hn : ∀ x ∈ n, SmNode x) (hn' : ∀ x ∈ n', SmNode x) : Pure Tryz.prog 66 [.agg [.sl (n.map encNode), intL o], .agg [.sl (n'.map encNode), intL o']] (.ret (boolP (bodyE n o n' o'))) := by
  have e1 := slice99_pure o o' (by omega) (by omega)
  have e2 := efN_pure nodeE n n' (by omega) (by omega) (fun a ha b hb => node_pure a b (hn a ha) (hn' b hb))
  unfold bodyE
  clear h1 h2 h3 h4 hn hn'
  generalize eqL o o' = p at *
  generalize eqF nodeE n n' = q at *
  unfold intL at *
  generalize nums .i64 o = X2 at *
  generalize nums .i64 o' = Y2 at *
  generalize n.map encNode = X3 at *
  generalize n'.map encNode = Y3 at *
  cases p with
  | true =>
    rw [Bool.true_and]
    cases q with
    | true =>
      refine pure_eq (prun [] [(13, .call (AEnd.ret (PD.v (Value.bool true)))), (19, .call (AEnd.ret (PD.v (Value.bool true))))] (e := AEnd.ret (PD.v (Value.bool true))) (.c (e2) (.c (e1) .n)) (by kernel_rfl)) ?_
      rfl
    | false =>
      refine pure_eq (prun [] [(13, .call (AEnd.ret (PD.v (Value.bool true)))), (19, .call (AEnd.ret (PD.v (Value.bool false))))] (e := AEnd.ret (PD.v (Value.bool false))) (.c (e2) (.c (e1) .n)) (by kernel_rfl)) ?_
      rfl
  | false =>
    rw [Bool.false_and]
    clear e2
    refine pure_eq (prun [] [(13, .call (AEnd.ret (PD.v (Value.bool false))))] (e := AEnd.ret (PD.v (Value.bool false))) (.c (e1) .n) (by kernel_rfl)) ?_
    rfl
end Go.Proofs.YtikfefjaeejeeaaGreatDoor
/- Walks: the document's Same: tensors. -/
namespace Go.Proofs.YtikfefjaeejeeaaGreatDoor
open Go.RowKit
set_option maxRecDepth 100000
theorem bool_tt {a b : Bool} (h : (a && b) = true) : a = true ∧ b = true := by cases a <;> cases b <;> simp_all
/-- a tensor in a box -/
def boxT (sh : List Int) (rs : List RatM) : Box := ⟨65, [.p (intL sh), .p (.sl (rs.map encRat))], false⟩
def tsS (sh sh' : List Int) (a b : List RatM) (k : Nat) : St := ⟨mkT 40 [(2, .loc 0 0), (3, .loc 1 0), (5, .p (intP (k : Nat)))], ⟨[boxT sh a, boxT sh' b], [], []⟩⟩
theorem ts_all (sh sh' : List Int) (a b : List RatM) (hl : a.length = b.length) (hm : a.length ≤ 1073741824) (h : ∀ (i : Nat) (x y : RatM), a[i]? = some x → b[i]? = some y → Pure Tryz.prog 50 [encRat x, encRat y] (.ret (boolP true))) : LoopOK Tryz.prog (loopB Tryz.prog 96 0) (tsS sh sh' a b 0) (.exit 0) ⟨mkT 40 [], ⟨[boxT sh a, boxT sh' b], [], []⟩⟩ := by
  refine loop_ix [2, 3, 5] (tsS sh sh' a b) a.length (fun _ => True) trivial (fun _ => rfl) ?_
  intro k hk _ ro K Q hQ hK
  have rwa : ((a.map encRat).length : Int) = (a.length : Int) := by rw [List.length_map]
  unfold tsS boxT at hK ⊢
  unfold boxT at hQ
  by_cases hlt : k < a.length
  · have hw := wrap64_succ (k := k) (by omega)
    obtain ⟨x, hx, _⟩ := get_of_lt hlt
    obtain ⟨y, hy, _⟩ := get_of_lt (show k < b.length by omega)
    have hc := h k x y hx hy
    have gx : (a.map encRat)[(k : Int).toNat]? = some (encRat x) := map_get hx
    have gy : (b.map encRat)[(k : Int).toNat]? = some (encRat y) := map_get hy
    clear h
    refine crun [] ⟨[2, 3, 5], [], [], none⟩ [(6, .w (DV.p (PD.v (Value.int IntKind.i64 (↑a.length : Int))))), (7, .b true), (18, .el (encRat x)), (19, .el (encRat x)), (23, .el (encRat y)), (24, .el (encRat y)), (25, .call (AEnd.ret (PD.v (Value.bool true))))] (AX.norm) (St.mk (mkT 40 [(2, DV.loc 0 0), (3, DV.loc 1 0), (5, DV.p (PD.v (Value.int IntKind.i64 (IntKind.i64.wrap ((↑k : Int) + 1)))))]) (Mem.mk [Box.mk 65 [DV.p (PD.sl (nums IntKind.i64 sh)), DV.p (PD.sl (List.map encRat a))] false, Box.mk 65 [DV.p (PD.sl (nums IntKind.i64 sh')), DV.p (PD.sl (List.map encRat b))] false] [] [])) (.c (hc) (.c gy (.c (And.intro gy (nn0 (k))) (.c gx (.c (And.intro gx (nn0 (k))) (.c (dT (show (↑k : Int) < (↑a.length : Int) by omega)) (.c (congrArg (fun z => DV.p (PD.v (Go.Value.int IntKind.i64 z))) rwa) .n))))))) (by kernel_rfl) ?_
    exact hK _ hlt (by simp only [hw]; rfl) trivial
  · obtain rfl : k = a.length := by omega
    clear h
    refine crun [] ⟨[], [], [], none⟩ [(6, .w (DV.p (PD.v (Value.int IntKind.i64 (↑a.length : Int))))), (7, .b false)] (AX.exit 0) (St.mk (mkT 40 []) (Mem.mk [Box.mk 65 [DV.p (PD.sl (nums IntKind.i64 sh)), DV.p (PD.sl (List.map encRat a))] false, Box.mk 65 [DV.p (PD.sl (nums IntKind.i64 sh')), DV.p (PD.sl (List.map encRat b))] false] [] [])) (.c (dF (show ¬ (↑a.length : Int) < (↑a.length : Int) by omega)) (.c (congrArg (fun z => DV.p (PD.v (Go.Value.int IntKind.i64 z))) rwa) .n)) (by kernel_rfl) ?_
    exact hQ
theorem ts_diff (sh sh' : List Int) (a b : List RatM) (hl : a.length = b.length) (hm : a.length ≤ 1073741824) (d : Nat) (u v : RatM) (hd : d < a.length) (hu : a[d]? = some u) (hv : b[d]? = some v) (hc2 : Pure Tryz.prog 50 [encRat u, encRat v] (.ret (boolP false))) (h : ∀ (i : Nat) (x y : RatM), i < d → a[i]? = some x → b[i]? = some y → Pure Tryz.prog 50 [encRat x, encRat y] (.ret (boolP true))) : LoopOK Tryz.prog (loopB Tryz.prog 96 0) (tsS sh sh' a b 0) .ret ⟨mkT 40 [(4, .p (boolP false))], ⟨[boxT sh a, boxT sh' b], [], []⟩⟩ := by
  refine loop_ix [2, 3, 5] (tsS sh sh' a b) d (fun _ => True) trivial (fun _ => rfl) ?_
  intro k hk _ ro K Q hQ hK
  have rwa : ((a.map encRat).length : Int) = (a.length : Int) := by rw [List.length_map]
  unfold tsS boxT at hK ⊢
  unfold boxT at hQ
  have hlt : k < a.length := by omega
  by_cases hkd : k < d
  · have hw := wrap64_succ (k := k) (by omega)
    obtain ⟨x, hx, _⟩ := get_of_lt hlt
    obtain ⟨y, hy, _⟩ := get_of_lt (show k < b.length by omega)
    have hc := h k x y hkd hx hy
    have gx : (a.map encRat)[(k : Int).toNat]? = some (encRat x) := map_get hx
    have gy : (b.map encRat)[(k : Int).toNat]? = some (encRat y) := map_get hy
    clear h hc2
    refine crun [] ⟨[2, 3, 5], [], [], none⟩ [(6, .w (DV.p (PD.v (Value.int IntKind.i64 (↑a.length : Int))))), (7, .b true), (18, .el (encRat x)), (19, .el (encRat x)), (23, .el (encRat y)), (24, .el (encRat y)), (25, .call (AEnd.ret (PD.v (Value.bool true))))] (AX.norm) (St.mk (mkT 40 [(2, DV.loc 0 0), (3, DV.loc 1 0), (5, DV.p (PD.v (Value.int IntKind.i64 (IntKind.i64.wrap ((↑k : Int) + 1)))))]) (Mem.mk [Box.mk 65 [DV.p (PD.sl (nums IntKind.i64 sh)), DV.p (PD.sl (List.map encRat a))] false, Box.mk 65 [DV.p (PD.sl (nums IntKind.i64 sh')), DV.p (PD.sl (List.map encRat b))] false] [] [])) (.c (hc) (.c gy (.c (And.intro gy (nn0 (k))) (.c gx (.c (And.intro gx (nn0 (k))) (.c (dT (show (↑k : Int) < (↑a.length : Int) by omega)) (.c (congrArg (fun z => DV.p (PD.v (Go.Value.int IntKind.i64 z))) rwa) .n))))))) (by kernel_rfl) ?_
    exact hK _ hkd (by simp only [hw]; rfl) trivial
  · obtain rfl : k = d := by omega
    have gx : (a.map encRat)[(k : Int).toNat]? = some (encRat u) := map_get hu
    have gy : (b.map encRat)[(k : Int).toNat]? = some (encRat v) := map_get hv
    clear h
    refine crun [] ⟨[4], [], [], none⟩ [(6, .w (DV.p (PD.v (Value.int IntKind.i64 (↑a.length : Int))))), (7, .b true), (18, .el (encRat u)), (19, .el (encRat u)), (23, .el (encRat v)), (24, .el (encRat v)), (25, .call (AEnd.ret (PD.v (Value.bool false))))] (AX.ret) (St.mk (mkT 40 [(4, DV.p (PD.v (Value.bool false)))]) (Mem.mk [Box.mk 65 [DV.p (PD.sl (nums IntKind.i64 sh)), DV.p (PD.sl (List.map encRat a))] false, Box.mk 65 [DV.p (PD.sl (nums IntKind.i64 sh')), DV.p (PD.sl (List.map encRat b))] false] [] [])) (.c (hc2) (.c gy (.c (And.intro gy (nn0 (k))) (.c gx (.c (And.intro gx (nn0 (k))) (.c (dT (show (↑k : Int) < (↑a.length : Int) by omega)) (.c (congrArg (fun z => DV.p (PD.v (Go.Value.int IntKind.i64 z))) rwa) .n))))))) (by kernel_rfl) ?_
    exact hQ
theorem tsame_pure (sh sh' : List Int) (a b : List RatM) (h1 : sh.length ≤ 100000000) (h2 : sh'.length ≤ 100000000) (ha : a.length ≤ 100000000) (hb : b.length ≤ 100000000) (hra : ∀ r ∈ a, RatSm r) (hrb : ∀ r ∈ b, RatSm r) : Pure Tryz.prog 96 [.agg [intL sh, .sl (a.map encRat)], .agg [intL sh', .sl (b.map encRat)]] (.ret (boolP (eqL sh sh' && eqF ratE a b))) := by
  have e1 := sl17_pure sh sh' (by omega) (by omega)
  have rwa : ((a.map encRat).length : Int) = (a.length : Int) := by rw [List.length_map]
  have rwb : ((b.map encRat).length : Int) = (b.length : Int) := by rw [List.length_map]
  generalize eqL sh sh' = p at *
  cases p with
  | false =>
    rw [Bool.false_and]
    clear hra hrb
    unfold intL at *
    refine pure_eq (prun [] [(14, .call (AEnd.ret (PD.v (Value.bool false))))] (e := AEnd.ret (PD.v (Value.bool false))) (.c (e1) .n) (by kernel_rfl)) ?_
    rfl
  | true =>
    rw [Bool.true_and]
    by_cases hl : a.length = b.length
    · rcases eqF_cases (g := ratE) hl with ⟨e, h⟩ | ⟨e, d, u, v, g1, g2, g3, g4, g5⟩
      · have hlo := ts_all sh sh' a b hl (by omega) (fun i x y hx hy => by
          have := rsame2_pure x y (hra x (List.mem_of_getElem? hx)) (hrb y (List.mem_of_getElem? hy))
          rwa [show decide (nrmD x = nrmD y) = true from h i x y hx hy] at this)
        rw [e]
        have e0 : tsS sh sh' a b 0 = ⟨mkT 40 [(2, .loc 0 0), (3, .loc 1 0), (5, .p (intP 0))], ⟨[boxT sh a, boxT sh' b], [], []⟩⟩ := rfl
        rw [e0] at hlo
        unfold boxT at hlo
        clear e0 h hra hrb
        unfold intL at *
        refine pure_eq (prun [] [(14, .call (AEnd.ret (PD.v (Value.bool true)))), (19, .w (DV.p (PD.v (Value.int IntKind.i64 (↑a.length : Int))))), (22, .w (DV.p (PD.v (Value.int IntKind.i64 (↑b.length : Int))))), (23, .b false), (34, .code [2, 3, 5] (AX.exit 0) (St.mk (mkT 40 []) (Mem.mk [Box.mk 65 [DV.p (PD.sl (nums IntKind.i64 sh)), DV.p (PD.sl (List.map encRat a))] false, Box.mk 65 [DV.p (PD.sl (nums IntKind.i64 sh')), DV.p (PD.sl (List.map encRat b))] false] [] [])))] (e := AEnd.ret (PD.v (Value.bool true))) (.c (hlo) (.c (neF (show (↑a.length : Int) = (↑b.length : Int) by omega)) (.c (congrArg (fun z => DV.p (PD.v (Go.Value.int IntKind.i64 z))) rwb) (.c (congrArg (fun z => DV.p (PD.v (Go.Value.int IntKind.i64 z))) rwa) (.c (e1) .n))))) (by kernel_rfl)) ?_
        rfl
      · have hlo := ts_diff sh sh' a b hl (by omega) d u v g1 g2 g3 (by
          have := rsame2_pure u v (hra u (List.mem_of_getElem? g2)) (hrb v (List.mem_of_getElem? g3))
          rwa [show decide (nrmD u = nrmD v) = false from g4] at this) (fun i x y hi hx hy => by
          have := rsame2_pure x y (hra x (List.mem_of_getElem? hx)) (hrb y (List.mem_of_getElem? hy))
          rwa [show decide (nrmD x = nrmD y) = true from g5 i x y hi hx hy] at this)
        rw [e]
        have e0 : tsS sh sh' a b 0 = ⟨mkT 40 [(2, .loc 0 0), (3, .loc 1 0), (5, .p (intP 0))], ⟨[boxT sh a, boxT sh' b], [], []⟩⟩ := rfl
        rw [e0] at hlo
        unfold boxT at hlo
        clear e0 g5 hra hrb
        unfold intL at *
        refine pure_eq (prun [] [(14, .call (AEnd.ret (PD.v (Value.bool true)))), (19, .w (DV.p (PD.v (Value.int IntKind.i64 (↑a.length : Int))))), (22, .w (DV.p (PD.v (Value.int IntKind.i64 (↑b.length : Int))))), (23, .b false), (34, .code [2, 3, 5] (AX.ret) (St.mk (mkT 40 [(4, DV.p (boolP false))]) (Mem.mk [Box.mk 65 [DV.p (PD.sl (nums IntKind.i64 sh)), DV.p (PD.sl (List.map encRat a))] false, Box.mk 65 [DV.p (PD.sl (nums IntKind.i64 sh')), DV.p (PD.sl (List.map encRat b))] false] [] [])))] (e := AEnd.ret (PD.v (Value.bool false))) (.c (hlo) (.c (neF (show (↑a.length : Int) = (↑b.length : Int) by omega)) (.c (congrArg (fun z => DV.p (PD.v (Go.Value.int IntKind.i64 z))) rwb) (.c (congrArg (fun z => DV.p (PD.v (Go.Value.int IntKind.i64 z))) rwa) (.c (e1) .n))))) (by kernel_rfl)) ?_
        rfl
    · rw [eqF_len hl]
      clear hra hrb
      unfold intL at *
      refine pure_eq (prun [] [(14, .call (AEnd.ret (PD.v (Value.bool true)))), (19, .w (DV.p (PD.v (Value.int IntKind.i64 (↑a.length : Int))))), (22, .w (DV.p (PD.v (Value.int IntKind.i64 (↑b.length : Int))))), (23, .b true)] (e := AEnd.ret (PD.v (Value.bool false))) (.c (neT (show ¬ (↑a.length : Int) = (↑b.length : Int) by omega)) (.c (congrArg (fun z => DV.p (PD.v (Go.Value.int IntKind.i64 z))) rwb) (.c (congrArg (fun z => DV.p (PD.v (Go.Value.int IntKind.i64 z))) rwa) (.c (e1) .n)))) (by kernel_rfl)) ?_
      rfl
end Go.Proofs.YtikfefjaeejeeaaGreatDoor
/- Walks: the document's Same: bodies. -/
namespace Go.Proofs.YtikfefjaeejeeaaGreatDoor
open Go.RowKit
set_option maxRecDepth 100000
/-- a body in a box -/
def boxB (ns : List NodeM) (os : List Int) : Box := ⟨27, [.p (.sl (ns.map encNode)), .p (intL os)], false⟩
def sbS (o o' : List Int) (a b : List NodeM) (k : Nat) : St := ⟨mkT 61 [(2, .loc 0 0), (3, .loc 1 0), (5, .p (intP (k : Nat)))], ⟨[boxB a o, boxB b o'], [], []⟩⟩
theorem nodeE_tt {x y : NodeM} (h : nodeE x y = true) : x.op = y.op ∧ eqL x.args y.args = true ∧ eqL x.attrs y.attrs = true := by
  obtain ⟨h1, h2⟩ := bool_tt h
  obtain ⟨h3, h4⟩ := bool_tt h2
  exact ⟨of_decide_eq_true h1, h3, h4⟩
set_option maxHeartbeats 1000000 in
theorem sb_round (o o' : List Int) (a b : List NodeM) (k : Nat) (x y : NodeM) (hm : a.length ≤ 1073741824) (hlt : k < a.length) (hx : a[k]? = some x) (hy : b[k]? = some y) (sx : SmNode x) (sy : SmNode y) (h : nodeE x y = true) (ro : Option Nat) (K : St → Prop) (Q : AX → St → Prop) (hK : ∀ s1, s1.keep [2, 3, 5] = sbS o o' a b (k + 1) → K s1) : AWP ro Tryz.prog (loopB Tryz.prog 58 0) (AX.next K Q) (sbS o o' a b k) := by
  have rwa : ((a.map encNode).length : Int) = (a.length : Int) := by rw [List.length_map]
  have hw := wrap64_succ (k := k) (by omega)
  obtain ⟨h1, h2, h3⟩ := nodeE_tt h
  have e1 := sl42_pure x.args y.args (by have := sx.a; omega) (by have := sy.a; omega)
  have e2 := sl42_pure x.attrs y.attrs (by have := sx.t; omega) (by have := sy.t; omega)
  rw [h2] at e1
  rw [h3] at e2
  have gx : (a.map encNode)[(k : Int).toNat]? = some (encNode x) := map_get hx
  have gy : (b.map encNode)[(k : Int).toNat]? = some (encNode y) := map_get hy
  clear h h2 h3 sx sy
  obtain ⟨x1, x2, x3⟩ := x
  obtain ⟨y1, y2, y3⟩ := y
  simp only at h1 e1 e2
  unfold sbS boxB at hK ⊢
  refine crun [] ⟨[2, 3, 5], [], [], (some (2, 0, 0))⟩ [(6, .w (DV.p (PD.v (Value.int IntKind.i64 (↑a.length : Int))))), (7, .b true), (14, .xp 10), (18, .el (encNode (NodeM.mk x1 x2 x3))), (19, .el (encNode (NodeM.mk x1 x2 x3))), (23, .el (encNode (NodeM.mk y1 y2 y3))), (24, .el (encNode (NodeM.mk y1 y2 y3))), (36, .b false), (42, .call (AEnd.ret (PD.v (Value.bool true)))), (50, .call (AEnd.ret (PD.v (Value.bool true))))] (AX.norm) (St.mk (mkT 61 [(2, DV.loc 0 0), (3, DV.loc 1 0), (5, DV.p (PD.v (Value.int IntKind.i64 (IntKind.i64.wrap ((↑k : Int) + 1)))))]) (Mem.mk [Box.mk 27 [DV.p (PD.sl (List.map encNode a)), DV.p (PD.sl (nums IntKind.i64 o))] false, Box.mk 27 [DV.p (PD.sl (List.map encNode b)), DV.p (PD.sl (nums IntKind.i64 o'))] false] [] [])) (.c (e2) (.c (e1) (.c (neF h1) (.c (@rfl DV (DV.p (PD.sl (List.map encNode b)))) (.c (@rfl DV (DV.p (PD.sl (List.map encNode b)))) (.c (@rfl DV (DV.p (PD.sl (List.map encNode a)))) (.c (@rfl DV (DV.p (PD.sl (List.map encNode b)))) (.c (@rfl DV (DV.p (PD.sl (List.map encNode a)))) (.c gy (.c (And.intro gy (nn0 (k))) (.c gx (.c (And.intro gx (nn0 (k))) (.c (dT (show (↑k : Int) < (↑a.length : Int) by omega)) (.c (congrArg (fun z => DV.p (PD.v (Go.Value.int IntKind.i64 z))) rwa) .n)))))))))))))) (by kernel_rfl) ?_
  refine hK _ ?_; first | rfl | (simp only [hw]; rfl)
theorem sb_all (o o' : List Int) (a b : List NodeM) (hl : a.length = b.length) (hm : a.length ≤ 1073741824) (ha : ∀ x ∈ a, SmNode x) (hb : ∀ x ∈ b, SmNode x) (h : ∀ (i : Nat) (x y : NodeM), a[i]? = some x → b[i]? = some y → nodeE x y = true) : LoopOK Tryz.prog (loopB Tryz.prog 58 0) (sbS o o' a b 0) (.exit 0) ⟨mkT 61 [], ⟨[boxB a o, boxB b o'], [], []⟩⟩ := by
  refine loop_ix [2, 3, 5] (sbS o o' a b) a.length (fun _ => True) trivial (fun _ => rfl) ?_
  intro k hk _ ro K Q hQ hK
  by_cases hlt : k < a.length
  · obtain ⟨x, hx, _⟩ := get_of_lt hlt
    obtain ⟨y, hy, _⟩ := get_of_lt (show k < b.length by omega)
    exact sb_round o o' a b k x y hm hlt hx hy (ha x (List.mem_of_getElem? hx)) (hb y (List.mem_of_getElem? hy)) (h k x y hx hy) ro K Q (fun s1 hs => hK s1 hlt hs trivial)
  · obtain rfl : k = a.length := by omega
    have rwa : ((a.map encNode).length : Int) = (a.length : Int) := by rw [List.length_map]
    clear h ha hb
    unfold sbS boxB
    unfold boxB at hQ
    refine crun [] ⟨[], [], [], none⟩ [(6, .w (DV.p (PD.v (Value.int IntKind.i64 (↑a.length : Int))))), (7, .b false)] (AX.exit 0) (St.mk (mkT 61 []) (Mem.mk [Box.mk 27 [DV.p (PD.sl (List.map encNode a)), DV.p (PD.sl (nums IntKind.i64 o))] false, Box.mk 27 [DV.p (PD.sl (List.map encNode b)), DV.p (PD.sl (nums IntKind.i64 o'))] false] [] [])) (.c (dF (show ¬ (↑a.length : Int) < (↑a.length : Int) by omega)) (.c (congrArg (fun z => DV.p (PD.v (Go.Value.int IntKind.i64 z))) rwa) .n)) (by kernel_rfl) ?_
    exact hQ
set_option maxHeartbeats 1000000 in
theorem sb_diff (o o' : List Int) (a b : List NodeM) (hl : a.length = b.length) (hm : a.length ≤ 1073741824) (ha : ∀ x ∈ a, SmNode x) (hb : ∀ x ∈ b, SmNode x) (d : Nat) (u v : NodeM) (hd : d < a.length) (hu : a[d]? = some u) (hv : b[d]? = some v) (huv : nodeE u v = false) (h : ∀ (i : Nat) (x y : NodeM), i < d → a[i]? = some x → b[i]? = some y → nodeE x y = true) : LoopOK Tryz.prog (loopB Tryz.prog 58 0) (sbS o o' a b 0) .ret ⟨mkT 61 [(4, .p (boolP false))], ⟨[boxB a o, boxB b o'], [], []⟩⟩ := by
  refine loop_ix [2, 3, 5] (sbS o o' a b) d (fun _ => True) trivial (fun _ => rfl) ?_
  intro k hk _ ro K Q hQ hK
  have hlt : k < a.length := by omega
  by_cases hkd : k < d
  · obtain ⟨x, hx, _⟩ := get_of_lt hlt
    obtain ⟨y, hy, _⟩ := get_of_lt (show k < b.length by omega)
    exact sb_round o o' a b k x y hm hlt hx hy (ha x (List.mem_of_getElem? hx)) (hb y (List.mem_of_getElem? hy)) (h k x y hkd hx hy) ro K Q (fun s1 hs => hK s1 hkd hs trivial)
  · obtain rfl : k = d := by omega
    have rwa : ((a.map encNode).length : Int) = (a.length : Int) := by rw [List.length_map]
    have sx := ha u (List.mem_of_getElem? hu)
    have sy := hb v (List.mem_of_getElem? hv)
    have e1 := sl42_pure u.args v.args (by have := sx.a; omega) (by have := sy.a; omega)
    have e2 := sl42_pure u.attrs v.attrs (by have := sx.t; omega) (by have := sy.t; omega)
    have gx : (a.map encNode)[(k : Int).toNat]? = some (encNode u) := map_get hu
    have gy : (b.map encNode)[(k : Int).toNat]? = some (encNode v) := map_get hv
    clear h sx sy ha hb
    unfold nodeE at huv
    obtain ⟨x1, x2, x3⟩ := u
    obtain ⟨y1, y2, y3⟩ := v
    simp only at huv e1 e2
    generalize eqL x2 y2 = p at *
    generalize eqL x3 y3 = q at *
    unfold sbS boxB at hK ⊢
    unfold boxB at hQ
    by_cases h1 : x1 = y1
    · rw [decide_eq_true h1, Bool.true_and] at huv
      cases p with
      | true =>
        rw [Bool.true_and] at huv
        subst huv
        refine crun [] ⟨[4], [], [], (some (2, 0, 0))⟩ [(6, .w (DV.p (PD.v (Value.int IntKind.i64 (↑a.length : Int))))), (7, .b true), (14, .xp 10), (18, .el (encNode (NodeM.mk x1 x2 x3))), (19, .el (encNode (NodeM.mk x1 x2 x3))), (23, .el (encNode (NodeM.mk y1 y2 y3))), (24, .el (encNode (NodeM.mk y1 y2 y3))), (36, .b false), (42, .call (AEnd.ret (PD.v (Value.bool true)))), (50, .call (AEnd.ret (PD.v (Value.bool false))))] (AX.ret) (St.mk (mkT 61 [(4, DV.p (PD.v (Value.bool false)))]) (Mem.mk [Box.mk 27 [DV.p (PD.sl (List.map encNode a)), DV.p (PD.sl (nums IntKind.i64 o))] false, Box.mk 27 [DV.p (PD.sl (List.map encNode b)), DV.p (PD.sl (nums IntKind.i64 o'))] false] [] [])) (.c (e2) (.c (e1) (.c (neF h1) (.c (@rfl DV (DV.p (PD.sl (List.map encNode b)))) (.c (@rfl DV (DV.p (PD.sl (List.map encNode b)))) (.c (@rfl DV (DV.p (PD.sl (List.map encNode a)))) (.c (@rfl DV (DV.p (PD.sl (List.map encNode b)))) (.c (@rfl DV (DV.p (PD.sl (List.map encNode a)))) (.c gy (.c (And.intro gy (nn0 (k))) (.c gx (.c (And.intro gx (nn0 (k))) (.c (dT (show (↑k : Int) < (↑a.length : Int) by omega)) (.c (congrArg (fun z => DV.p (PD.v (Go.Value.int IntKind.i64 z))) rwa) .n)))))))))))))) (by kernel_rfl) ?_
        exact hQ
      | false =>
        clear e2
        refine crun [] ⟨[4], [], [], (some (2, 0, 0))⟩ [(6, .w (DV.p (PD.v (Value.int IntKind.i64 (↑a.length : Int))))), (7, .b true), (14, .xp 10), (18, .el (encNode (NodeM.mk x1 x2 x3))), (19, .el (encNode (NodeM.mk x1 x2 x3))), (23, .el (encNode (NodeM.mk y1 y2 y3))), (24, .el (encNode (NodeM.mk y1 y2 y3))), (36, .b false), (42, .call (AEnd.ret (PD.v (Value.bool false))))] (AX.ret) (St.mk (mkT 61 [(4, DV.p (PD.v (Value.bool false)))]) (Mem.mk [Box.mk 27 [DV.p (PD.sl (List.map encNode a)), DV.p (PD.sl (nums IntKind.i64 o))] false, Box.mk 27 [DV.p (PD.sl (List.map encNode b)), DV.p (PD.sl (nums IntKind.i64 o'))] false] [] [])) (.c (e1) (.c (neF h1) (.c (@rfl DV (DV.p (PD.sl (List.map encNode b)))) (.c (@rfl DV (DV.p (PD.sl (List.map encNode b)))) (.c (@rfl DV (DV.p (PD.sl (List.map encNode a)))) (.c (@rfl DV (DV.p (PD.sl (List.map encNode b)))) (.c (@rfl DV (DV.p (PD.sl (List.map encNode a)))) (.c gy (.c (And.intro gy (nn0 (k))) (.c gx (.c (And.intro gx (nn0 (k))) (.c (dT (show (↑k : Int) < (↑a.length : Int) by omega)) (.c (congrArg (fun z => DV.p (PD.v (Go.Value.int IntKind.i64 z))) rwa) .n))))))))))))) (by kernel_rfl) ?_
        exact hQ
    · clear e1 e2
      refine crun [] ⟨[4], [], [], (some (2, 0, 0))⟩ [(6, .w (DV.p (PD.v (Value.int IntKind.i64 (↑a.length : Int))))), (7, .b true), (14, .xp 10), (18, .el (encNode (NodeM.mk x1 x2 x3))), (19, .el (encNode (NodeM.mk x1 x2 x3))), (23, .el (encNode (NodeM.mk y1 y2 y3))), (24, .el (encNode (NodeM.mk y1 y2 y3))), (36, .b true)] (AX.ret) (St.mk (mkT 61 [(4, DV.p (PD.v (Value.bool false)))]) (Mem.mk [Box.mk 27 [DV.p (PD.sl (List.map encNode a)), DV.p (PD.sl (nums IntKind.i64 o))] false, Box.mk 27 [DV.p (PD.sl (List.map encNode b)), DV.p (PD.sl (nums IntKind.i64 o'))] false] [] [])) (.c (neT h1) (.c (@rfl DV (DV.p (PD.sl (List.map encNode b)))) (.c (@rfl DV (DV.p (PD.sl (List.map encNode b)))) (.c (@rfl DV (DV.p (PD.sl (List.map encNode a)))) (.c (@rfl DV (DV.p (PD.sl (List.map encNode b)))) (.c (@rfl DV (DV.p (PD.sl (List.map encNode a)))) (.c gy (.c (And.intro gy (nn0 (k))) (.c gx (.c (And.intro gx (nn0 (k))) (.c (dT (show (↑k : Int) < (↑a.length : Int) by omega)) (.c (congrArg (fun z => DV.p (PD.v (Go.Value.int IntKind.i64 z))) rwa) .n)))))))))))) (by kernel_rfl) ?_
      exact hQ
theorem sbody2_pure (n : List NodeM) (o : List Int) (n' : List NodeM) (o' : List Int) (h1 : n.length ≤ 100000000) (h2 : o.length ≤ 100000000) (h3 : n'.length ≤ 100000000) (h4 : o'.length ≤ 100000000) (hn : ∀ x ∈ n, SmNode x) (hn' : ∀ x ∈ n', SmNode x) : Pure Tryz.prog 58 [.agg [.sl (n.map encNode), intL o], .agg [.sl (n'.map encNode), intL o']] (.ret (boolP (bodyE n o n' o'))) := by
  have e1 := sl42_pure o o' (by omega) (by omega)
  have rwa : ((n.map encNode).length : Int) = (n.length : Int) := by rw [List.length_map]
  have rwb : ((n'.map encNode).length : Int) = (n'.length : Int) := by rw [List.length_map]
  unfold bodyE
  generalize eqL o o' = p at *
  cases p with
  | false =>
    rw [Bool.false_and]
    clear hn hn'
    unfold intL at *
    refine pure_eq (prun [] [(14, .call (AEnd.ret (PD.v (Value.bool false))))] (e := AEnd.ret (PD.v (Value.bool false))) (.c (e1) .n) (by kernel_rfl)) ?_
    rfl
  | true =>
    rw [Bool.true_and]
    by_cases hl : n.length = n'.length
    · rcases eqF_cases (g := nodeE) hl with ⟨e, h⟩ | ⟨e, d, u, v, g1, g2, g3, g4, g5⟩
      · have hlo := sb_all o o' n n' hl (by omega) hn hn' h
        rw [e]
        have e0 : sbS o o' n n' 0 = ⟨mkT 61 [(2, .loc 0 0), (3, .loc 1 0), (5, .p (intP 0))], ⟨[boxB n o, boxB n' o'], [], []⟩⟩ := rfl
        rw [e0] at hlo
        unfold boxB at hlo
        clear e0 h hn hn'
        unfold intL at *
        refine pure_eq (prun [] [(14, .call (AEnd.ret (PD.v (Value.bool true)))), (19, .w (DV.p (PD.v (Value.int IntKind.i64 (↑n.length : Int))))), (22, .w (DV.p (PD.v (Value.int IntKind.i64 (↑n'.length : Int))))), (23, .b false), (34, .code [2, 3, 5] (AX.exit 0) (St.mk (mkT 61 []) (Mem.mk [Box.mk 27 [DV.p (PD.sl (List.map encNode n)), DV.p (PD.sl (nums IntKind.i64 o))] false, Box.mk 27 [DV.p (PD.sl (List.map encNode n')), DV.p (PD.sl (nums IntKind.i64 o'))] false] [] [])))] (e := AEnd.ret (PD.v (Value.bool true))) (.c (hlo) (.c (neF (show (↑n.length : Int) = (↑n'.length : Int) by omega)) (.c (congrArg (fun z => DV.p (PD.v (Go.Value.int IntKind.i64 z))) rwb) (.c (congrArg (fun z => DV.p (PD.v (Go.Value.int IntKind.i64 z))) rwa) (.c (e1) .n))))) (by kernel_rfl)) ?_
        rfl
      · have hlo := sb_diff o o' n n' hl (by omega) hn hn' d u v g1 g2 g3 g4 g5
        rw [e]
        have e0 : sbS o o' n n' 0 = ⟨mkT 61 [(2, .loc 0 0), (3, .loc 1 0), (5, .p (intP 0))], ⟨[boxB n o, boxB n' o'], [], []⟩⟩ := rfl
        rw [e0] at hlo
        unfold boxB at hlo
        clear e0 g5 hn hn'
        unfold intL at *
        refine pure_eq (prun [] [(14, .call (AEnd.ret (PD.v (Value.bool true)))), (19, .w (DV.p (PD.v (Value.int IntKind.i64 (↑n.length : Int))))), (22, .w (DV.p (PD.v (Value.int IntKind.i64 (↑n'.length : Int))))), (23, .b false), (34, .code [2, 3, 5] (AX.ret) (St.mk (mkT 61 [(4, DV.p (boolP false))]) (Mem.mk [Box.mk 27 [DV.p (PD.sl (List.map encNode n)), DV.p (PD.sl (nums IntKind.i64 o))] false, Box.mk 27 [DV.p (PD.sl (List.map encNode n')), DV.p (PD.sl (nums IntKind.i64 o'))] false] [] [])))] (e := AEnd.ret (PD.v (Value.bool false))) (.c (hlo) (.c (neF (show (↑n.length : Int) = (↑n'.length : Int) by omega)) (.c (congrArg (fun z => DV.p (PD.v (Go.Value.int IntKind.i64 z))) rwb) (.c (congrArg (fun z => DV.p (PD.v (Go.Value.int IntKind.i64 z))) rwa) (.c (e1) .n))))) (by kernel_rfl)) ?_
        rfl
    · rw [eqF_len hl]
      clear hn hn'
      unfold intL at *
      refine pure_eq (prun [] [(14, .call (AEnd.ret (PD.v (Value.bool true)))), (19, .w (DV.p (PD.v (Value.int IntKind.i64 (↑n.length : Int))))), (22, .w (DV.p (PD.v (Value.int IntKind.i64 (↑n'.length : Int))))), (23, .b true)] (e := AEnd.ret (PD.v (Value.bool false))) (.c (neT (show ¬ (↑n.length : Int) = (↑n'.length : Int) by omega)) (.c (congrArg (fun z => DV.p (PD.v (Go.Value.int IntKind.i64 z))) rwb) (.c (congrArg (fun z => DV.p (PD.v (Go.Value.int IntKind.i64 z))) rwa) (.c (e1) .n)))) (by kernel_rfl)) ?_
      rfl
end Go.Proofs.YtikfefjaeejeeaaGreatDoor
