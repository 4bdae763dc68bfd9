/- Walks and laws, laid together: WdH KDiv2 WdI WdJ WdK WeI WdL. -/
import Derived.Test.YtikfefjaeejeeaaGreatDoorMa4
import Derived.Test.YtikfefjaeejeeaaGreatDoorMa3
/- Walks: a number is given back; a guess. -/
namespace Go.Proofs.YtikfefjaeejeeaaGreatDoor
open Go.RowKit
set_option maxRecDepth 100000
def bkS (F : Nat → Int) (Q : List DV) (j n L cap V X k : Nat) : St := ⟨mkT 36 [(0, .bsl 0 j 1 (n + 1) cap), (1, .p (natL (limbs V))), (4, .p (.v (.int .u32 (cyB X V k : Nat)))), (7, .p (natL (limbs V))), (8, .p (intP (n : Nat))), (9, .p (intP (k : Nat)))], ⟨[⟨86, sgC F j k L (X + V), false⟩, ⟨86, Q, false⟩], [], []⟩⟩
set_option maxHeartbeats 4000000 in
theorem back_loop (F : Nat → Int) (Q : List DV) (j n L cap V X : Nat) (hn : (limbs V).length = n) (hL : j + n + 1 ≤ L) (hL2 : L ≤ 1073741825) (hF : ∀ k, k ≤ n → F (j + k) = dgI X k) :
    LoopOK Tryz.prog (loopB Tryz.prog 213 0) (bkS F Q j n L cap V X 0) (.exit 0) ⟨mkT 36 [(0, .bsl 0 j 1 (n + 1) cap), (1, .p (natL (limbs V))), (4, .p (.v (.int .u32 (cyB X V n : Nat))))], ⟨[⟨86, sgC F j n L (X + V), false⟩, ⟨86, Q, false⟩], [], []⟩⟩ := by
  refine loop_ix [0, 1, 4, 7, 8, 9] (bkS F Q j n L cap V X) n (fun _ => True) trivial (fun _ => rfl) ?_
  intro k hk _ ro K Q1 hQ hK
  by_cases hlt : k < n
  · have hw := wrap64_succ (k := k) (by omega)
    have gx : (nums .u32 (limbs V))[(k : Int).toNat]? = some (.v (.int .u32 ((V / 4294967296 ^ k % 4294967296 : Nat) : Int))) := limbs_at hn hlt
    have hlen : (nums .u32 (limbs V)).length = n := by rw [nums_length, hn]
    have gu : (sgC F j k L (X + V))[j + (k : Int).toNat * 1]? = some (.p (.v (.int .u32 ((X / 4294967296 ^ k % 4294967296 : Nat) : Int)))) := by
      rw [Int.toNat_natCast, Nat.mul_one]; exact sgC_get (by omega) (hF k (by omega))
    have hset := sgC_set (F := F) (j := j) (k := k) (L := L) (X := X + V)
    have hcl := sgC_len F j k L (X + V)
    have n2 := cyB_next X V k
    obtain ⟨_, c3⟩ := cyB_spec X V k
    obtain ⟨_, c4⟩ := cyB_spec X V (k + 1)
    have b1 : V / 4294967296 ^ k % 4294967296 < 4294967296 := Nat.mod_lt _ (by decide)
    have b3 : X / 4294967296 ^ k % 4294967296 < 4294967296 := Nat.mod_lt _ (by decide)
    have b4 : (X + V) / 4294967296 ^ k % 4294967296 < 4294967296 := Nat.mod_lt _ (by decide)
    unfold bkS at hK ⊢
    generalize V / 4294967296 ^ k % 4294967296 = x at *
    generalize X / 4294967296 ^ k % 4294967296 = u at *
    generalize (X + V) / 4294967296 ^ k % 4294967296 = D at *
    generalize cyB X V (k + 1) = f2 at *
    generalize cyB X V k = f1 at *
    generalize sgC F j (k + 1) L (X + V) = C2 at *
    generalize sgC F j k L (X + V) = C at *
    have hs := add32_pure u x f1 D f2 b3 b1 c3 b4 c4 (by omega)
    have hlN : (k : Int) < (n : Int) := by omega
    have hlN2 : (k : Int) < ((n + 1 : Nat) : Int) := by omega
    clear n2 hF
    generalize limbs V = W at *
    refine crun [] ⟨[0, 1, 4, 7, 8, 9], [], [], none⟩ [(2, .b true), (12, .el (PD.v (Value.int IntKind.u32 (↑x : Int)))), (13, .el (PD.v (Value.int IntKind.u32 (↑x : Int)))), (22, .bi), (23, .lb (DV.p (PD.v (Value.int IntKind.u32 (↑u : Int))))), (26, .call (AEnd.ret (PD.tup [PD.v (Value.int IntKind.u32 (↑D : Int)), PD.v (Value.int IntKind.u32 (↑f2 : Int))]))), (30, .bi), (31, .sb)] (AX.norm) (St.mk (mkT 36 [(0, DV.bsl 0 j 1 (n + 1) cap), (1, DV.p (PD.sl (nums IntKind.u32 W))), (4, DV.p (PD.v (Value.int IntKind.u32 (↑f2 : Int)))), (7, DV.p (PD.sl (nums IntKind.u32 W))), (8, DV.p (PD.v (Value.int IntKind.i64 (↑n : Int)))), (9, DV.p (PD.v (Value.int IntKind.i64 (IntKind.i64.wrap ((↑k : Int) + 1)))))]) (Mem.mk [Box.mk 86 ((Box.mk 86 C false).cells.set (j + (↑k : Int).toNat * 1) (DV.p (PD.v (Value.int IntKind.u32 (↑D : Int))))) false, Box.mk 86 Q false] [] [])) (.c (show j + (↑k : Int).toNat * (1 : Nat) < C.length by first | omega | (simp; done) | (simp; omega)) (.c (And.intro (nn0 (k)) hlN2) (.c (hs) (.c gu (.c (And.intro (nn0 (k)) hlN2) (.c gx (.c (And.intro gx (nn0 (k))) (.c (dT hlN) .n)))))))) (by kernel_rfl) ?_
    exact hK _ hlt (by rw [← hset]; simp only [hw, Int.toNat_natCast, Nat.mul_one]; rfl) trivial
  · obtain rfl : k = n := by omega
    unfold bkS
    generalize sgC F j k L (X + V) = C at *
    generalize cyB X V k = f1 at *
    generalize limbs V = W at *
    clear hF
    refine crun [] ⟨[0, 1, 4], [], [], none⟩ [(2, .b false)] (AX.exit 0) (St.mk (mkT 36 [(0, DV.bsl 0 j 1 (k + 1) cap), (1, DV.p (PD.sl (nums IntKind.u32 W))), (4, DV.p (PD.v (Value.int IntKind.u32 (↑f1 : Int))))]) (Mem.mk [Box.mk 86 C false, Box.mk 86 Q false] [] [])) (.c (dF (show ¬ (↑k : Int) < (↑k : Int) by omega)) .n) (by kernel_rfl) ?_
    exact hQ
def guS (C Q : List DV) (j n cap V q r v1 k : Nat) : St := ⟨mkT 77 [(0, .bsl 0 j 1 (n + 3) cap), (1, .p (natL (limbs V))), (5, .p (intP (n + 2 : Nat))), (7, .p (.v (.int .u64 (q - k : Nat)))), (8, .p (.v (.int .u64 (r + k * v1 : Nat))))], ⟨[⟨86, C, false⟩, ⟨86, Q, false⟩], [], []⟩⟩
set_option maxHeartbeats 4000000 in
theorem guess_loop (C Q : List DV) (j n cap V top u2 v1 v2 : Nat) (hn : (limbs V).length = n + 2) (hn2 : n ≤ 1073741823) (hj : j ≤ 1073741823)
    (h1 : (nums .u32 (limbs V))[n + 1]? = some (.v (.int .u32 (v1 : Nat)))) (h2 : (nums .u32 (limbs V))[n]? = some (.v (.int .u32 (v2 : Nat)))) (h3 : C[j + n]? = some (.p (.v (.int .u32 (u2 : Nat)))))
    (hv1 : 2147483648 ≤ v1) (hv1' : v1 < 4294967296) (hv2 : v2 < 4294967296) (hu2 : u2 < 4294967296) (ht : top < (v1 + 1) * 4294967296) :
    LoopOK Tryz.prog (loopB Tryz.prog 211 0) (guS C Q j n cap V (top / v1) (top % v1) v1 0) (.exit 0) ⟨mkT 77 [(7, .p (.v (.int .u64 (gU top u2 v1 v2 : Nat))))], ⟨[⟨86, C, false⟩, ⟨86, Q, false⟩], [], []⟩⟩ := by
  have hq0 : top / v1 ≤ 4294967297 := by
    have : top / v1 < 4294967298 := (Nat.div_lt_iff_lt_mul (by omega)).2 (by omega)
    omega
  have hr0 : top % v1 < v1 := Nat.mod_lt _ (by omega)
  have hdm := Nat.div_add_mod top v1
  have hgt : gU top u2 v1 v2 ≤ top / v1 := by
    have := gU_top (top := top) (u2 := u2) (v1 := v1) (v2 := v2) (by omega)
    rwa [Nat.div_eq_of_lt hu2, Nat.add_zero] at this
  refine loop_ix [0, 1, 5, 7, 8] (guS C Q j n cap V (top / v1) (top % v1) v1) 2 (fun k => top % v1 + k * v1 < 4294967296 ∧ gU top u2 v1 v2 ≤ top / v1 - k ∧ k ≤ top / v1) ⟨by omega, hgt, Nat.zero_le _⟩ (fun _ => rfl) ?_
  rintro k hk ⟨i1, i2, i3⟩ ro K Q1 hQ hK
  have hqr : (top / v1 - k) * v1 + (top % v1 + k * v1) = top := by
    rw [Nat.sub_mul, Nat.mul_comm (top / v1)]
    have : k * v1 ≤ v1 * (top / v1) := by rw [Nat.mul_comm v1]; exact Nat.mul_le_mul_right _ i3
    omega
  have hk1 : top / v1 - (k + 1) = top / v1 - k - 1 := by omega
  have hr1 : top % v1 + (k + 1) * v1 = top % v1 + k * v1 + v1 := by rw [Nat.add_mul, Nat.one_mul]; omega
  have hk2 : k < 2 := by
    rcases Nat.lt_or_ge k 2 with h | h
    · exact h
    · have := Nat.mul_le_mul_right v1 h
      omega
  rw [hk1, hr1] at hK
  have hle : top / v1 - k ≤ 4294967297 := by omega
  unfold guS at hK ⊢
  rw [hk1, hr1] at hK
  have hgle := gU_le (top := top) (u2 := u2) (v1 := v1) (v2 := v2) (q := top / v1 - k) (by omega) (by omega)
  have htr : top - (top / v1 - k) * v1 = top % v1 + k * v1 := by omega
  rw [htr] at hgle
  have hbrk : 4294967296 ≤ top % v1 + k * v1 + v1 → 0 < top / v1 - k → top / v1 - k - 1 ≤ gU top u2 v1 v2 := fun h h0 => gU_brk (by omega) hv2 ht (by
    rw [Nat.sub_mul, Nat.one_mul]
    have := Nat.mul_le_mul_right v1 h0
    omega)
  have hgt2 : gU top u2 v1 v2 < top / v1 - k → k + 1 ≤ top / v1 := fun h => by omega
  clear hqr htr hgt hdm hr0 hq0 hk1 hr1 i3
  generalize gU top u2 v1 v2 = g at *
  generalize top / v1 - k = q at *
  generalize top % v1 + k * v1 = r at *
  have hqv : q * v2 ≤ 4294967297 * 4294967295 := Nat.mul_le_mul hle (by omega)
  have hqm : (q : Int) * (v2 : Int) = ((q * v2 : Nat) : Int) := by rw [Int.natCast_mul]
  have rwm : IntKind.u64.wrap ((q : Int) * (v2 : Int)) = ((q * v2 : Nat) : Int) := by rw [hqm]; exact wrapu64_id (by omega) (by omega)
  have rwa : (q : Int).fdiv (2 ^ min (Int.toNat 32) IntKind.u64.bits) = ((q / 4294967296 : Nat) : Int) := by
    show (q : Int).fdiv 4294967296 = _
    rw [Int.fdiv_eq_ediv_of_nonneg _ (by omega)]; rfl
  have rwb : IntKind.i64.wrap (((n + 2 : Nat) : Int) - 2) = (n : Int) := by rw [wrap64_id (by omega) (by omega)]; omega
  have rwc : IntKind.i64.wrap (((n + 2 : Nat) : Int) - 1) = ((n + 1 : Nat) : Int) := by rw [wrap64_id (by omega) (by omega)]; omega
  have rwd : IntKind.u64.wrap (v2 : Int) = (v2 : Int) := wrapu64_id (by omega) (by omega)
  have rwe : IntKind.u64.wrap (u2 : Int) = (u2 : Int) := wrapu64_id (by omega) (by omega)
  have rwf : IntKind.u64.wrap (v1 : Int) = (v1 : Int) := wrapu64_id (by omega) (by omega)
  generalize hR : (r : Int) = R at *
  have rwg : IntKind.u64.wrap (R * 2 ^ min (Int.toNat 32) IntKind.u64.bits) = R * 4294967296 := by show (R * 4294967296) % 18446744073709551616 = _; omega
  have rwh := or_low (x := R) (y := (u2 : Int)) (by omega) (by omega) (by omega) (by omega)
  have g1 : (nums .u32 (limbs V))[((n + 1 : Nat) : Int).toNat]? = some (.v (.int .u32 (v1 : Nat))) := h1
  have g2 : (nums .u32 (limbs V))[(n : Int).toNat]? = some (.v (.int .u32 (v2 : Nat))) := h2
  have g3 : C[j + (n : Int).toNat * 1]? = some (.p (.v (.int .u32 (u2 : Nat)))) := by rw [Int.toNat_natCast, Nat.mul_one]; exact h3
  have hnN : (n : Int) < ((n + 3 : Nat) : Int) := by omega
  clear h1 h2 h3 hqm
  generalize q * v2 = m at *
  by_cases hq : q ≤ g
  · obtain ⟨t1, t2⟩ := hgle.2 hq
    obtain rfl : q = g := by omega
    have t1' : ¬ (0 : Int) < ((q / 4294967296 : Nat) : Int) := by omega
    have t2' : ¬ R * 4294967296 + (u2 : Int) < (m : Int) := by omega
    clear hbrk hgt2 hgle
    generalize limbs V = W at *
    refine crun [] ⟨[7], [], [], none⟩ [(4, .w (DV.p (PD.v (Value.int IntKind.u64 (↑(q / 4294967296) : Int))))), (5, .b false), (10, .w (DV.p (PD.v (Value.int IntKind.i64 (↑n : Int))))), (11, .el (PD.v (Value.int IntKind.u32 (↑v2 : Int)))), (12, .el (PD.v (Value.int IntKind.u32 (↑v2 : Int)))), (13, .w (DV.p (PD.v (Value.int IntKind.u64 (↑v2 : Int))))), (14, .w (DV.p (PD.v (Value.int IntKind.u64 (↑m : Int))))), (16, .w (DV.p (PD.v (Value.int IntKind.u64 (R * 4294967296))))), (19, .w (DV.p (PD.v (Value.int IntKind.i64 (↑n : Int))))), (20, .bi), (21, .lb (DV.p (PD.v (Value.int IntKind.u32 (↑u2 : Int))))), (22, .w (DV.p (PD.v (Value.int IntKind.u64 (↑u2 : Int))))), (23, .w (DV.p (PD.v (Value.int IntKind.u64 (R * 4294967296 + (↑u2 : Int)))))), (24, .b false)] (AX.exit 0) (St.mk (mkT 77 [(7, DV.p (PD.v (Value.int IntKind.u64 (↑q : Int))))]) (Mem.mk [Box.mk 86 C false, Box.mk 86 Q false] [] [])) (.c (dF t2') (.c (congrArg (fun z => DV.p (PD.v (Go.Value.int IntKind.u64 z))) rwh) (.c (congrArg (fun z => DV.p (PD.v (Go.Value.int IntKind.u64 z))) rwe) (.c g3 (.c (And.intro (nn0 (n)) hnN) (.c (congrArg (fun z => DV.p (PD.v (Go.Value.int IntKind.i64 z))) rwb) (.c (congrArg (fun z => DV.p (PD.v (Go.Value.int IntKind.u64 z))) rwg) (.c (congrArg (fun z => DV.p (PD.v (Go.Value.int IntKind.u64 z))) rwm) (.c (congrArg (fun z => DV.p (PD.v (Go.Value.int IntKind.u64 z))) rwd) (.c g2 (.c (And.intro g2 (nn0 (n))) (.c (congrArg (fun z => DV.p (PD.v (Go.Value.int IntKind.i64 z))) rwb) (.c (dF t1') (.c (congrArg (fun z => DV.p (PD.v (Go.Value.int IntKind.u64 z))) rwa) .n)))))))))))))) (by kernel_rfl) ?_
    exact hQ
  · have hlt : g < q := by omega
    have hk3 := hgt2 hlt
    have rwi : IntKind.u64.wrap ((q : Int) - 1) = ((q - 1 : Nat) : Int) := by rw [wrapu64_id (by omega) (by omega)]; omega
    have rwj : IntKind.u64.wrap (R + (v1 : Int)) = ((r + v1 : Nat) : Int) := by rw [wrapu64_id (by omega) (by omega)]; omega
    have rwk : ((r + v1 : Nat) : Int).fdiv (2 ^ min (Int.toNat 32) IntKind.u64.bits) = (((r + v1) / 4294967296 : Nat) : Int) := by
      show ((r + v1 : Nat) : Int).fdiv 4294967296 = _
      rw [Int.fdiv_eq_ediv_of_nonneg _ (by omega)]; rfl
    have hlenW : (nums .u32 (limbs V)).length = n + 2 := by rw [nums_length, hn]
    by_cases hb : 4294967296 ≤ r + v1
    · have hge := hbrk hb (by omega)
      obtain rfl : g = q - 1 := by omega
      have u1 : (0 : Int) < (((r + v1) / 4294967296 : Nat) : Int) := by omega
      by_cases hqB : q < 4294967296
      · have t1' : ¬ (0 : Int) < ((q / 4294967296 : Nat) : Int) := by omega
        have t2' : R * 4294967296 + (u2 : Int) < (m : Int) := by
          have : ¬ (m ≤ r * 4294967296 + u2) := fun h => hq (hgle.1 ⟨hqB, h⟩)
          omega
        clear hbrk hgt2 hgle
        generalize limbs V = W at *
        refine crun [] ⟨[7], [], [], none⟩ [(4, .w (DV.p (PD.v (Value.int IntKind.u64 (↑(q / 4294967296) : Int))))), (5, .b false), (10, .w (DV.p (PD.v (Value.int IntKind.i64 (↑n : Int))))), (11, .el (PD.v (Value.int IntKind.u32 (↑v2 : Int)))), (12, .el (PD.v (Value.int IntKind.u32 (↑v2 : Int)))), (13, .w (DV.p (PD.v (Value.int IntKind.u64 (↑v2 : Int))))), (14, .w (DV.p (PD.v (Value.int IntKind.u64 (↑m : Int))))), (16, .w (DV.p (PD.v (Value.int IntKind.u64 (R * 4294967296))))), (19, .w (DV.p (PD.v (Value.int IntKind.i64 (↑n : Int))))), (20, .bi), (21, .lb (DV.p (PD.v (Value.int IntKind.u32 (↑u2 : Int))))), (22, .w (DV.p (PD.v (Value.int IntKind.u64 (↑u2 : Int))))), (23, .w (DV.p (PD.v (Value.int IntKind.u64 (R * 4294967296 + (↑u2 : Int)))))), (24, .b true), (33, .w (DV.p (PD.v (Value.int IntKind.u64 (↑(q - 1) : Int))))), (41, .w (DV.p (PD.v (Value.int IntKind.i64 (↑(n + 1) : Int))))), (42, .el (PD.v (Value.int IntKind.u32 (↑v1 : Int)))), (43, .el (PD.v (Value.int IntKind.u32 (↑v1 : Int)))), (44, .w (DV.p (PD.v (Value.int IntKind.u64 (↑v1 : Int))))), (45, .w (DV.p (PD.v (Value.int IntKind.u64 (↑(r + v1) : Int))))), (51, .w (DV.p (PD.v (Value.int IntKind.u64 (↑((r + v1) / 4294967296) : Int))))), (52, .b true)] (AX.exit 0) (St.mk (mkT 77 [(7, DV.p (PD.v (Value.int IntKind.u64 (↑(q - 1) : Int))))]) (Mem.mk [Box.mk 86 C false, Box.mk 86 Q false] [] [])) (.c (dT u1) (.c (congrArg (fun z => DV.p (PD.v (Go.Value.int IntKind.u64 z))) rwk) (.c (congrArg (fun z => DV.p (PD.v (Go.Value.int IntKind.u64 z))) rwj) (.c (congrArg (fun z => DV.p (PD.v (Go.Value.int IntKind.u64 z))) rwf) (.c g1 (.c (And.intro g1 (nn0 (n + 1))) (.c (congrArg (fun z => DV.p (PD.v (Go.Value.int IntKind.i64 z))) rwc) (.c (congrArg (fun z => DV.p (PD.v (Go.Value.int IntKind.u64 z))) rwi) (.c (dT t2') (.c (congrArg (fun z => DV.p (PD.v (Go.Value.int IntKind.u64 z))) rwh) (.c (congrArg (fun z => DV.p (PD.v (Go.Value.int IntKind.u64 z))) rwe) (.c g3 (.c (And.intro (nn0 (n)) hnN) (.c (congrArg (fun z => DV.p (PD.v (Go.Value.int IntKind.i64 z))) rwb) (.c (congrArg (fun z => DV.p (PD.v (Go.Value.int IntKind.u64 z))) rwg) (.c (congrArg (fun z => DV.p (PD.v (Go.Value.int IntKind.u64 z))) rwm) (.c (congrArg (fun z => DV.p (PD.v (Go.Value.int IntKind.u64 z))) rwd) (.c g2 (.c (And.intro g2 (nn0 (n))) (.c (congrArg (fun z => DV.p (PD.v (Go.Value.int IntKind.i64 z))) rwb) (.c (dF t1') (.c (congrArg (fun z => DV.p (PD.v (Go.Value.int IntKind.u64 z))) rwa) .n)))))))))))))))))))))) (by kernel_rfl) ?_
        exact hQ
      · have t1' : (0 : Int) < ((q / 4294967296 : Nat) : Int) := by omega
        clear hbrk hgt2 hgle
        generalize limbs V = W at *
        refine crun [] ⟨[7], [], [], none⟩ [(4, .w (DV.p (PD.v (Value.int IntKind.u64 (↑(q / 4294967296) : Int))))), (5, .b true), (33, .w (DV.p (PD.v (Value.int IntKind.u64 (↑(q - 1) : Int))))), (41, .w (DV.p (PD.v (Value.int IntKind.i64 (↑(n + 1) : Int))))), (42, .el (PD.v (Value.int IntKind.u32 (↑v1 : Int)))), (43, .el (PD.v (Value.int IntKind.u32 (↑v1 : Int)))), (44, .w (DV.p (PD.v (Value.int IntKind.u64 (↑v1 : Int))))), (45, .w (DV.p (PD.v (Value.int IntKind.u64 (↑(r + v1) : Int))))), (51, .w (DV.p (PD.v (Value.int IntKind.u64 (↑((r + v1) / 4294967296) : Int))))), (52, .b true)] (AX.exit 0) (St.mk (mkT 77 [(7, DV.p (PD.v (Value.int IntKind.u64 (↑(q - 1) : Int))))]) (Mem.mk [Box.mk 86 C false, Box.mk 86 Q false] [] [])) (.c (dT u1) (.c (congrArg (fun z => DV.p (PD.v (Go.Value.int IntKind.u64 z))) rwk) (.c (congrArg (fun z => DV.p (PD.v (Go.Value.int IntKind.u64 z))) rwj) (.c (congrArg (fun z => DV.p (PD.v (Go.Value.int IntKind.u64 z))) rwf) (.c g1 (.c (And.intro g1 (nn0 (n + 1))) (.c (congrArg (fun z => DV.p (PD.v (Go.Value.int IntKind.i64 z))) rwc) (.c (congrArg (fun z => DV.p (PD.v (Go.Value.int IntKind.u64 z))) rwi) (.c (dT t1') (.c (congrArg (fun z => DV.p (PD.v (Go.Value.int IntKind.u64 z))) rwa) .n)))))))))) (by kernel_rfl) ?_
        exact hQ
    · have u1 : ¬ (0 : Int) < (((r + v1) / 4294967296 : Nat) : Int) := by omega
      by_cases hqB : q < 4294967296
      · have t1' : ¬ (0 : Int) < ((q / 4294967296 : Nat) : Int) := by omega
        have t2' : R * 4294967296 + (u2 : Int) < (m : Int) := by
          have : ¬ (m ≤ r * 4294967296 + u2) := fun h => hq (hgle.1 ⟨hqB, h⟩)
          omega
        clear hbrk hgt2 hgle
        generalize limbs V = W at *
        refine crun [] ⟨[0, 1, 5, 7, 8], [], [], none⟩ [(4, .w (DV.p (PD.v (Value.int IntKind.u64 (↑(q / 4294967296) : Int))))), (5, .b false), (10, .w (DV.p (PD.v (Value.int IntKind.i64 (↑n : Int))))), (11, .el (PD.v (Value.int IntKind.u32 (↑v2 : Int)))), (12, .el (PD.v (Value.int IntKind.u32 (↑v2 : Int)))), (13, .w (DV.p (PD.v (Value.int IntKind.u64 (↑v2 : Int))))), (14, .w (DV.p (PD.v (Value.int IntKind.u64 (↑m : Int))))), (16, .w (DV.p (PD.v (Value.int IntKind.u64 (R * 4294967296))))), (19, .w (DV.p (PD.v (Value.int IntKind.i64 (↑n : Int))))), (20, .bi), (21, .lb (DV.p (PD.v (Value.int IntKind.u32 (↑u2 : Int))))), (22, .w (DV.p (PD.v (Value.int IntKind.u64 (↑u2 : Int))))), (23, .w (DV.p (PD.v (Value.int IntKind.u64 (R * 4294967296 + (↑u2 : Int)))))), (24, .b true), (33, .w (DV.p (PD.v (Value.int IntKind.u64 (↑(q - 1) : Int))))), (41, .w (DV.p (PD.v (Value.int IntKind.i64 (↑(n + 1) : Int))))), (42, .el (PD.v (Value.int IntKind.u32 (↑v1 : Int)))), (43, .el (PD.v (Value.int IntKind.u32 (↑v1 : Int)))), (44, .w (DV.p (PD.v (Value.int IntKind.u64 (↑v1 : Int))))), (45, .w (DV.p (PD.v (Value.int IntKind.u64 (↑(r + v1) : Int))))), (51, .w (DV.p (PD.v (Value.int IntKind.u64 (↑((r + v1) / 4294967296) : Int))))), (52, .b false)] (AX.norm) (St.mk (mkT 77 [(0, DV.bsl 0 j 1 (n + 3) cap), (1, DV.p (PD.sl (nums IntKind.u32 W))), (5, DV.p (PD.v (Value.int IntKind.i64 (↑(n + 2) : Int)))), (7, DV.p (PD.v (Value.int IntKind.u64 (↑(q - 1) : Int)))), (8, DV.p (PD.v (Value.int IntKind.u64 (↑(r + v1) : Int))))]) (Mem.mk [Box.mk 86 C false, Box.mk 86 Q false] [] [])) (.c (dF u1) (.c (congrArg (fun z => DV.p (PD.v (Go.Value.int IntKind.u64 z))) rwk) (.c (congrArg (fun z => DV.p (PD.v (Go.Value.int IntKind.u64 z))) rwj) (.c (congrArg (fun z => DV.p (PD.v (Go.Value.int IntKind.u64 z))) rwf) (.c g1 (.c (And.intro g1 (nn0 (n + 1))) (.c (congrArg (fun z => DV.p (PD.v (Go.Value.int IntKind.i64 z))) rwc) (.c (congrArg (fun z => DV.p (PD.v (Go.Value.int IntKind.u64 z))) rwi) (.c (dT t2') (.c (congrArg (fun z => DV.p (PD.v (Go.Value.int IntKind.u64 z))) rwh) (.c (congrArg (fun z => DV.p (PD.v (Go.Value.int IntKind.u64 z))) rwe) (.c g3 (.c (And.intro (nn0 (n)) hnN) (.c (congrArg (fun z => DV.p (PD.v (Go.Value.int IntKind.i64 z))) rwb) (.c (congrArg (fun z => DV.p (PD.v (Go.Value.int IntKind.u64 z))) rwg) (.c (congrArg (fun z => DV.p (PD.v (Go.Value.int IntKind.u64 z))) rwm) (.c (congrArg (fun z => DV.p (PD.v (Go.Value.int IntKind.u64 z))) rwd) (.c g2 (.c (And.intro g2 (nn0 (n))) (.c (congrArg (fun z => DV.p (PD.v (Go.Value.int IntKind.i64 z))) rwb) (.c (dF t1') (.c (congrArg (fun z => DV.p (PD.v (Go.Value.int IntKind.u64 z))) rwa) .n)))))))))))))))))))))) (by kernel_rfl) ?_
        exact hK _ hk2 rfl ⟨by omega, by omega, hk3⟩
      · have t1' : (0 : Int) < ((q / 4294967296 : Nat) : Int) := by omega
        clear hbrk hgt2 hgle
        generalize limbs V = W at *
        refine crun [] ⟨[0, 1, 5, 7, 8], [], [], none⟩ [(4, .w (DV.p (PD.v (Value.int IntKind.u64 (↑(q / 4294967296) : Int))))), (5, .b true), (33, .w (DV.p (PD.v (Value.int IntKind.u64 (↑(q - 1) : Int))))), (41, .w (DV.p (PD.v (Value.int IntKind.i64 (↑(n + 1) : Int))))), (42, .el (PD.v (Value.int IntKind.u32 (↑v1 : Int)))), (43, .el (PD.v (Value.int IntKind.u32 (↑v1 : Int)))), (44, .w (DV.p (PD.v (Value.int IntKind.u64 (↑v1 : Int))))), (45, .w (DV.p (PD.v (Value.int IntKind.u64 (↑(r + v1) : Int))))), (51, .w (DV.p (PD.v (Value.int IntKind.u64 (↑((r + v1) / 4294967296) : Int))))), (52, .b false)] (AX.norm) (St.mk (mkT 77 [(0, DV.bsl 0 j 1 (n + 3) cap), (1, DV.p (PD.sl (nums IntKind.u32 W))), (5, DV.p (PD.v (Value.int IntKind.i64 (↑(n + 2) : Int)))), (7, DV.p (PD.v (Value.int IntKind.u64 (↑(q - 1) : Int)))), (8, DV.p (PD.v (Value.int IntKind.u64 (↑(r + v1) : Int))))]) (Mem.mk [Box.mk 86 C false, Box.mk 86 Q false] [] [])) (.c (dF u1) (.c (congrArg (fun z => DV.p (PD.v (Go.Value.int IntKind.u64 z))) rwk) (.c (congrArg (fun z => DV.p (PD.v (Go.Value.int IntKind.u64 z))) rwj) (.c (congrArg (fun z => DV.p (PD.v (Go.Value.int IntKind.u64 z))) rwf) (.c g1 (.c (And.intro g1 (nn0 (n + 1))) (.c (congrArg (fun z => DV.p (PD.v (Go.Value.int IntKind.i64 z))) rwc) (.c (congrArg (fun z => DV.p (PD.v (Go.Value.int IntKind.u64 z))) rwi) (.c (dT t1') (.c (congrArg (fun z => DV.p (PD.v (Go.Value.int IntKind.u64 z))) rwa) .n)))))))))) (by kernel_rfl) ?_
        exact hK _ hk2 rfl ⟨by omega, by omega, hk3⟩
end Go.Proofs.YtikfefjaeejeeaaGreatDoor
/- Limbs: a round of a long division. Plain Lean, no program. -/
namespace Go.Proofs.YtikfefjaeejeeaaGreatDoor
theorem cyM_zero (x d : Nat) : cyM x d 0 = 0 := by simp [cyM]
theorem cyB_zero (x y : Nat) : cyB x y 0 = 0 := by simp [cyB]
/-- the number guessed -/
def dvG (N V j n : Nat) : Nat := gU (dvP N V j / 4294967296 ^ (n + 1)) (dg (dvP N V j) n) (V / 4294967296 ^ (n + 1)) (dg V n)
/-- what is left when it is taken, one place longer -/
def dvX (N V j n : Nat) : Nat := dvP N V j + 4294967296 ^ (n + 3) - V * dvG N V j n
theorem dv_top {P n : Nat} (h : P < 4294967296 ^ (n + 3)) : P / 4294967296 ^ (n + 1) = dg P (n + 2) * 4294967296 + dg P (n + 1) := by
  have h1 : P / 4294967296 ^ (n + 2) < 4294967296 := (Nat.div_lt_iff_lt_mul (pw_pos _)).2 (by rw [Nat.mul_comm, ← Nat.pow_succ]; exact h)
  unfold dg
  rw [Nat.mod_eq_of_lt h1, Nat.pow_succ 4294967296 (n + 1), ← Nat.div_div_eq_div_mul]
  have := Nat.div_add_mod (P / 4294967296 ^ (n + 1)) 4294967296
  omega
theorem dv_v1 {V n : Nat} (h : V < 4294967296 ^ (n + 2)) : V / 4294967296 ^ (n + 1) = dg V (n + 1) := by
  unfold dg
  rw [Nat.mod_eq_of_lt]
  exact (Nat.div_lt_iff_lt_mul (pw_pos _)).2 (by rw [Nat.mul_comm, ← Nat.pow_succ]; exact h)
theorem dv_topLt {P V n : Nat} (hP : P < V * 4294967296) : P / 4294967296 ^ (n + 1) < (V / 4294967296 ^ (n + 1) + 1) * 4294967296 := by
  rw [Nat.div_lt_iff_lt_mul (pw_pos _)]
  have h1 := Nat.div_add_mod V (4294967296 ^ (n + 1))
  have h2 := Nat.mod_lt V (pw_pos (n + 1))
  generalize 4294967296 ^ (n + 1) = K at *
  have h3 : V < (V / K + 1) * K := by rw [Nat.add_mul, Nat.mul_comm (V / K)]; omega
  have h4 := Nat.mul_le_mul_right 4294967296 (Nat.succ_le_of_lt h3)
  have h5 : (V / K + 1) * K * 4294967296 = (V / K + 1) * 4294967296 * K := Nat.mul_right_comm ..
  rw [Nat.succ_mul] at h4
  omega
theorem dv_round {N V j n : Nat} (hV : V < 4294967296 ^ (n + 2)) (hv : 2147483648 ≤ V / 4294967296 ^ (n + 1)) :
    dvP N V j < 4294967296 ^ (n + 3) ∧ dvG N V j n < 4294967296 ∧ dvX N V j n + V * dvG N V j n = dvP N V j + 4294967296 ^ (n + 3) ∧ (∀ k, k ≤ n + 2 → dgI (dvU N V (j + 1)) (j + k) = dgI (dvX N V j n + V * dvG N V j n) k) ∧ cyM V (dvG N V j n) (n + 2) = dg (V * dvG N V j n) (n + 2) ∧
    ((dvG N V j n = dg (N / V) j ∧ cyB (dvX N V j n) (V * dvG N V j n) (n + 3) = 0 ∧ ∀ i, i < n + 3 → dg (dvX N V j n) i = dg (dvP N V j % V) i) ∨
     (dvG N V j n = dg (N / V) j + 1 ∧ cyB (dvX N V j n) (V * dvG N V j n) (n + 3) = 1 ∧ ∀ i, i < n + 3 → dg (dvX N V j n + V) i = dg (dvP N V j % V) i)) := by
  have hV0 : 0 < V := by
    rcases Nat.eq_zero_or_pos V with h | h
    · rw [h, Nat.zero_div] at hv; omega
    · exact h
  have hP := dvP_lt (N := N) (j := j) hV0
  obtain ⟨g1, g2⟩ := gU_ok hP hV (by omega)
  have hdq := dvP_div (N := N) (j := j) hV0
  have e0 : dvG N V j n = gU (dvP N V j / 4294967296 ^ (n + 1)) (dg (dvP N V j) n) (V / 4294967296 ^ (n + 1)) (dg V n) := rfl
  rw [← e0] at g1 g2
  have gB : dvG N V j n < 4294967296 := by
    rw [e0]; unfold gU
    have := Nat.min_le_left 4294967295 ((dvP N V j / 4294967296 ^ (n + 1) * 4294967296 + dg (dvP N V j) n) / (V / 4294967296 ^ (n + 1) * 4294967296 + dg V n))
    omega
  have hF : ∀ k, dgI (dvU N V (j + 1)) (j + k) = dgI (dvP N V j) k := fun k => by unfold dgI; rw [← dg_div, dvU_part]
  have hp3 : 4294967296 ^ (n + 3) = 4294967296 ^ (n + 2) * 4294967296 := Nat.pow_succ ..
  have hPlt : dvP N V j < 4294967296 ^ (n + 3) := by
    have := Nat.mul_lt_mul_of_pos_right hV (show 0 < 4294967296 by decide)
    omega
  have hX : dvX N V j n = dvP N V j + 4294967296 ^ (n + 3) - V * dvG N V j n := rfl
  have hlow : ∀ Y k, k < n + 3 → dg (Y + 4294967296 ^ (n + 3)) k = dg Y k := fun Y k hk => by
    rw [Nat.add_comm]
    have := dg_low (a := 1) (b := Y) hk
    rwa [Nat.one_mul] at this
  rw [hdq] at g1 g2
  have hdm := Nat.div_add_mod (dvP N V j) V
  rw [hdq] at hdm
  have hmod := Nat.mod_lt (dvP N V j) hV0
  generalize dvG N V j n = g at *
  generalize dvX N V j n = X at *
  generalize dg (N / V) j = q at *
  clear hdq e0
  have hMle : V * g ≤ V * q + V := by
    have := Nat.mul_le_mul_left V g2
    rwa [Nat.mul_add, Nat.mul_one] at this
  have hVlt : V < 4294967296 ^ (n + 3) := by omega
  have hsum : X + V * g = dvP N V j + 4294967296 ^ (n + 3) := by omega
  have hMlt : V * g < 4294967296 ^ (n + 3) := by
    have h1 : V * g ≤ V * 4294967296 := Nat.mul_le_mul_left _ (by omega)
    have := Nat.mul_lt_mul_of_pos_right hV (show 0 < 4294967296 by decide)
    omega
  refine ⟨hPlt, gB, hsum, fun k hk => ?_, ?_, ?_⟩
  · rw [hF, hsum]; unfold dgI; rw [hlow _ _ (by omega)]
  · obtain ⟨h1, h2⟩ := cyM_spec V g (n + 2)
    rw [Nat.div_eq_of_lt hV, Nat.zero_mul, Nat.zero_add] at h1
    unfold dg
    rw [h1, Nat.mod_eq_of_lt (by omega)]
  · obtain ⟨h1, h2⟩ := cyB_spec X (V * g) (n + 3)
    have e1 : (X + V * g) / 4294967296 ^ (n + 3) = 1 := by
      rw [hsum, Nat.add_div_right _ (pw_pos _), Nat.div_eq_of_lt hPlt]
    rw [e1, Nat.div_eq_of_lt hMlt] at h1
    rcases Nat.lt_or_ge q g with hg | hg
    · obtain rfl : g = q + 1 := by omega
      right
      have e2 : V * (q + 1) = V * q + V := by rw [Nat.mul_add, Nat.mul_one]
      have hXlt : X < 4294967296 ^ (n + 3) := by omega
      rw [Nat.div_eq_of_lt hXlt] at h1
      refine ⟨rfl, by omega, fun i hi => ?_⟩
      have : X + V = dvP N V j % V + 4294967296 ^ (n + 3) := by omega
      rw [this, hlow _ _ hi]
    · obtain rfl : g = q := by omega
      left
      have hXe : X = dvP N V j % V + 4294967296 ^ (n + 3) := by omega
      have hXd : X / 4294967296 ^ (n + 3) = 1 := by
        rw [hXe, Nat.add_div_right _ (pw_pos _), Nat.div_eq_of_lt (by omega)]
      rw [hXd] at h1
      refine ⟨rfl, by omega, fun i hi => ?_⟩
      rw [hXe, hlow _ _ hi]
end Go.Proofs.YtikfefjaeejeeaaGreatDoor
/- Walks: the rounds of a long division. -/
namespace Go.Proofs.YtikfefjaeejeeaaGreatDoor
open Go.RowKit
set_option maxRecDepth 100000
theorem slice_told {T e : TypeId} (hT : elT Tryz.prog T = some e) (hs : szT Tryz.prog e = some 1) (b len cap lo hi : Nat) (h1 : lo ≤ hi) (h2 : hi ≤ len) (h3 : lo < cap) :
    evSlice Tryz.prog T (.bsl b 0 1 len cap) (some (.p (.v (.int .i64 (lo : Nat))))) (some (.p (.v (.int .i64 (hi : Nat))))) none = some (.bsl b lo 1 (hi - lo) (cap - lo)) := by
  have n1 : natOf (.p (.v (.int .i64 (lo : Nat)))) = some lo := by simp [natOf]
  have n2 : natOf (.p (.v (.int .i64 (hi : Nat)))) = some hi := by simp [natOf]
  simp only [evSlice, bnd, n1, n2, hT]
  rw [if_pos ⟨h1, h2, h3, hs⟩, Nat.zero_add, Nat.mul_one]
theorem seg_seg (F G H : Nat → Int) (j n : Nat) : seg (seg F j n G) j n H = seg F j n H := by
  funext i
  unfold seg
  by_cases h : j ≤ i ∧ i < j + n
  · rw [if_pos h, if_pos h]
  · rw [if_neg h, if_neg h, if_neg h]
theorem seg_at {F H : Nat → Int} {j n k : Nat} (h : k < n) : seg F j n H (j + k) = H k := by
  unfold seg; rw [if_pos ⟨by omega, by omega⟩, Nat.add_sub_cancel_left]
theorem sgC_zero (F : Nat → Int) (j L X : Nat) : sgC F j 0 L X = numsD .u32 (digL F L) := by unfold sgC; rw [seg_zero]
/-- the state ahead of a round: i places are left -/
def dmS (s N V m n qn i : Nat) : St := ⟨mkT 113 [(10, .p (intP (s : Nat))), (11, .p (natL (limbs V))), (12, .bsl 0 0 1 (m + 1) (m + 1)), (13, .bsl 1 0 1 qn qn), (14, .p (intP ((i : Int) - 1)))], ⟨[⟨86, numsD .u32 (digL (dgI (dvU N V i)) (m + 1)), false⟩, ⟨86, numsD .u32 (digL (dvQ (N / V) i) qn), false⟩], [], []⟩⟩
set_option maxHeartbeats 8000000 in
theorem dm_loop (N V m n s qn : Nat) (hV : V < 4294967296 ^ (n + 2)) (hv : 2147483648 ≤ V / 4294967296 ^ (n + 1)) (hm : m ≤ 1073741800) (hqn : qn + n + 1 = m) :
    LoopOK Tryz.prog (loopB Tryz.prog 186 0) (dmS s N V m n qn qn) (.exit 1) ⟨mkT 113 [(10, .p (intP (s : Nat))), (12, .bsl 0 0 1 (m + 1) (m + 1)), (13, .bsl 1 0 1 qn qn)], ⟨[⟨86, numsD .u32 (digL (dgI (dvU N V 0)) (m + 1)), false⟩, ⟨86, numsD .u32 (digL (dvQ (N / V) 0) qn), false⟩], [], []⟩⟩ := by
  have hVl : (limbs V).length = n + 2 := by
    have h1 := limbs_len_lt.2 hV
    have h2 := (limbs_lt V (n + 1)).2 (by omega)
    omega
  refine loop_ix [10, 11, 12, 13, 14] (fun k => dmS s N V m n qn (qn - k)) qn (fun _ => True) trivial (fun _ => rfl) ?_
  intro k hk _ ro K Q1 hQ hK
  obtain ⟨i, hi⟩ : ∃ i, i = qn - k := ⟨_, rfl⟩
  simp only [← hi]
  cases i with
  | zero =>
    unfold dmS
    generalize numsD .u32 (digL (dgI (dvU N V 0)) (m + 1)) = C at *
    generalize numsD .u32 (digL (dvQ (N / V) 0) qn) = C2 at *
    generalize limbs V = W at *
    refine crun [] ⟨[10, 12, 13], [], [], none⟩ [] (AX.exit 1) (St.mk (mkT 113 [(10, DV.p (PD.v (Value.int IntKind.i64 (↑s : Int)))), (12, DV.bsl 0 0 1 (m + 1) (m + 1)), (13, DV.bsl 1 0 1 qn qn)]) (Mem.mk [Box.mk 86 C false, Box.mk 86 C2 false] [] [])) .n (by kernel_rfl) ?_
    exact hQ
  | succ j =>
    rw [show qn - (k + 1) = j by omega] at hK
    have hnj : ((j + 1 : Nat) : Int) - 1 = (j : Int) := by omega
    obtain ⟨hP3, gB, hsum, hF, hcm, hAB⟩ := dv_round (N := N) (j := j) hV hv
    have hV0 : 0 < V := by
      rcases Nat.eq_zero_or_pos V with h | h
      · rw [h, Nat.zero_div] at hv; omega
      · exact h
    have hcells := fun X hX => dv_cells (N := N) (V := V) (j := j) (n := n + 2) (X := X) hV hV0 hX (m + 1)
    have hq1 := dvQ_set (Q := N / V) (j := j) (m := qn)
    have htopL := dv_topLt (n := n) (dvP_lt (N := N) (j := j) hV0)
    have htop := dv_top hP3
    have hv1 := dv_v1 hV
    have hFP : ∀ k, dgI (dvU N V (j + 1)) (j + k) = dgI (dvP N V j) k := fun k => by unfold dgI; rw [← dg_div, dvU_part]
    -- the numbers' names
    have gU2 : numsD .u32 (digL (dgI (dvU N V (j + 1))) (m + 1)) = numsD .u32 (digL (dgI (dvU N V (j + 1))) (m + 1)) := rfl
    have cget : ∀ k, k ≤ n + 2 → (numsD .u32 (digL (dgI (dvU N V (j + 1))) (m + 1)))[j + (((k : Nat) : Int)).toNat * 1]? = some (.p (.v (.int .u32 (dgI (dvP N V j) k)))) := fun k hk => by
      rw [Int.toNat_natCast, Nat.mul_one]
      exact numsD_get (by rw [digL_get (by omega), hFP])
    have hg0 : dvG N V j n = gU (dvP N V j / 4294967296 ^ (n + 1)) (dg (dvP N V j) n) (V / 4294967296 ^ (n + 1)) (dg V n) := rfl
    have hgl := guess_loop (numsD .u32 (digL (dgI (dvU N V (j + 1))) (m + 1))) (numsD .u32 (digL (dvQ (N / V) (j + 1)) qn)) j n (m + 1 - j) V (dvP N V j / 4294967296 ^ (n + 1)) (dg (dvP N V j) n) (V / 4294967296 ^ (n + 1)) (dg V n) hVl (by omega) (by omega)
      (by rw [hv1]; exact limbs_at hVl (by omega)) (limbs_at hVl (by omega)) (by have := cget n (by omega); rw [Int.toNat_natCast, Nat.mul_one] at this; exact this) hv (by rw [hv1]; exact dg_lt _ _) (dg_lt _ _) (dg_lt _ _) htopL
    rw [← hg0] at hgl
    have htk := take_loop (dgI (dvU N V (j + 1))) (numsD .u32 (digL (dvQ (N / V) (j + 1)) qn)) j (n + 2) (m + 1) (m + 1 - j) V (dvG N V j n) (dvX N V j n) hVl gB (by omega) (by omega) hF
    unfold guS at hgl
    rw [Nat.zero_mul, Nat.add_zero, Nat.sub_zero] at hgl
    unfold tkS at htk
    rw [sgC_zero, cyM_zero, cyB_zero] at htk
    have hsl := slice_told (T := 81) (e := 86) (by kernel_rfl) (by kernel_rfl) 0 (m + 1) (m + 1) j (j + (n + 2) + 1) (by omega) (by omega) (by omega)
    rw [show j + (n + 2) + 1 - j = n + 3 by omega] at hsl
    have hn1 : _ = _ + 4294967296 * cyB (dvX N V j n) (V * dvG N V j n) (n + 3) := cyB_next (dvX N V j n) (V * dvG N V j n) (n + 2)
    obtain ⟨_, hn1a⟩ := cyB_spec (dvX N V j n) (V * dvG N V j n) (n + 2)
    obtain ⟨_, hn1b⟩ := cyB_spec (dvX N V j n) (V * dvG N V j n) (n + 3)
    have gC1 : (sgC (dgI (dvU N V (j + 1))) j (n + 2) (m + 1) (dvX N V j n))[j + (((n + 2 : Nat) : Int)).toNat * 1]? = some (.p (.v (.int .u32 (((dvX N V j n + V * dvG N V j n) / 4294967296 ^ (n + 2) % 4294967296 : Nat) : Int)))) := by
      rw [Int.toNat_natCast, Nat.mul_one]; exact sgC_get (by omega) (hF (n + 2) (by omega))
    have hset1 : _ = sgC (dgI (dvU N V (j + 1))) j (n + 3) (m + 1) (dvX N V j n) := sgC_set (F := dgI (dvU N V (j + 1))) (j := j) (k := n + 2) (L := m + 1) (X := dvX N V j n)
    have hC1l := sgC_len (dgI (dvU N V (j + 1))) j (n + 2) (m + 1) (dvX N V j n)
    have b1 : dvX N V j n / 4294967296 ^ (n + 2) % 4294967296 < 4294967296 := Nat.mod_lt _ (by decide)
    have b2 : (dvX N V j n + V * dvG N V j n) / 4294967296 ^ (n + 2) % 4294967296 < 4294967296 := Nat.mod_lt _ (by decide)
    have b3 := dg_lt (V * dvG N V j n) (n + 2)
    have e3 : V * dvG N V j n / 4294967296 ^ (n + 2) % 4294967296 = dg (V * dvG N V j n) (n + 2) := rfl
    rw [e3, ← hcm] at hn1
    rw [← hcm] at b3
    have g1 := cget (n + 2) (by omega)
    have g2 := cget (n + 1) (by omega)
    have gv : (nums .u32 (limbs V))[(((n + 1 : Nat) : Int)).toNat]? = some (.v (.int .u32 ((V / 4294967296 ^ (n + 1) : Nat) : Int))) := by
      rw [hv1]; exact limbs_at hVl (by omega)
    have hlenV : (nums .u32 (limbs V)).length = n + 2 := by rw [nums_length, hVl]
    have rwlen : ((nums .u32 (limbs V)).length : Int) = ((n + 2 : Nat) : Int) := by rw [hlenV]
    have bq : V / 4294967296 ^ (n + 1) < 4294967296 := by rw [hv1]; exact dg_lt _ _
    have bU1 := dg_lt (dvP N V j) (n + 2)
    have bU2 := dg_lt (dvP N V j) (n + 1)
    have hQl : (numsD .u32 (digL (dvQ (N / V) (j + 1)) qn)).length = qn := by rw [numsD_len, digL_len]
    have hQset : (numsD .u32 (digL (dvQ (N / V) (j + 1)) qn)).set j (.p (.v (.int .u32 (((dg (N / V) j : Nat) : Int))))) = numsD .u32 (digL (dvQ (N / V) j) qn) := by
      rw [numsD_set]; exact congrArg (numsD .u32) hq1
    have bq0 := dg_lt (N / V) j
    have hCA : (∀ i, i < n + 3 → dg (dvX N V j n) i = dg (dvP N V j % V) i) → sgC (dgI (dvU N V (j + 1))) j (n + 3) (m + 1) (dvX N V j n) = numsD .u32 (digL (dgI (dvU N V j)) (m + 1)) := fun h => congrArg (numsD .u32) (hcells _ h)
    have hCB : (∀ i, i < n + 3 → dg (dvX N V j n + V) i = dg (dvP N V j % V) i) → sgC (seg (dgI (dvU N V (j + 1))) j (n + 3) (dgI (dvX N V j n))) j (n + 3) (m + 1) (dvX N V j n + V) = numsD .u32 (digL (dgI (dvU N V j)) (m + 1)) := fun h => by
      unfold sgC; rw [seg_seg]; exact congrArg (numsD .u32) (hcells _ h)
    have hbk := back_loop (seg (dgI (dvU N V (j + 1))) j (n + 3) (dgI (dvX N V j n))) (numsD .u32 (digL (dvQ (N / V) (j + 1)) qn)) j (n + 2) (m + 1) (m + 1 - j) V (dvX N V j n) hVl (by omega) (by omega) (fun k hk => seg_at (by omega))
    unfold bkS at hbk
    rw [sgC_zero, cyB_zero] at hbk
    have hC2 : numsD .u32 (digL (seg (dgI (dvU N V (j + 1))) j (n + 3) (dgI (dvX N V j n))) (m + 1)) = sgC (dgI (dvU N V (j + 1))) j (n + 3) (m + 1) (dvX N V j n) := rfl
    rw [hC2] at hbk
    have hn2 : _ = _ + 4294967296 * cyB (dvX N V j n) V (n + 3) := cyB_next (dvX N V j n) V (n + 2)
    obtain ⟨_, hn2a⟩ := cyB_spec (dvX N V j n) V (n + 2)
    have gC3 : (sgC (seg (dgI (dvU N V (j + 1))) j (n + 3) (dgI (dvX N V j n))) j (n + 2) (m + 1) (dvX N V j n + V))[j + (((n + 2 : Nat) : Int)).toNat * 1]? = some (.p (.v (.int .u32 ((dvX N V j n / 4294967296 ^ (n + 2) % 4294967296 : Nat) : Int)))) := by
      rw [Int.toNat_natCast, Nat.mul_one]; exact sgC_get (by omega) (seg_at (by omega))
    have hset3 : _ = sgC (seg (dgI (dvU N V (j + 1))) j (n + 3) (dgI (dvX N V j n))) j (n + 3) (m + 1) (dvX N V j n + V) := sgC_set (F := seg (dgI (dvU N V (j + 1))) j (n + 3) (dgI (dvX N V j n))) (j := j) (k := n + 2) (L := m + 1) (X := dvX N V j n + V)
    have hC3l := sgC_len (seg (dgI (dvU N V (j + 1))) j (n + 3) (dgI (dvX N V j n))) j (n + 2) (m + 1) (dvX N V j n + V)
    have b4 : (dvX N V j n + V) / 4294967296 ^ (n + 2) % 4294967296 < 4294967296 := Nat.mod_lt _ (by decide)
    rw [Nat.div_eq_of_lt hV, Nat.zero_mod, Nat.add_zero] at hn2
    have htop2 : ((dvP N V j / 4294967296 ^ (n + 1) : Nat) : Int) = dgI (dvP N V j) (n + 2) * 4294967296 + dgI (dvP N V j) (n + 1) := by
      rw [htop]; unfold dgI; omega
    have hU1 : 0 ≤ dgI (dvP N V j) (n + 2) ∧ dgI (dvP N V j) (n + 2) < 4294967296 := by unfold dgI; omega
    have hU2 : 0 ≤ dgI (dvP N V j) (n + 1) ∧ dgI (dvP N V j) (n + 1) < 4294967296 := by unfold dgI; omega
    unfold dmS at hK ⊢
    rw [hnj]
    clear hcells hq1 htop hP3 hsum hF hcm hFP gU2 cget hg0 e3 hC2 bU1 bU2 hv1
    generalize hCe : numsD .u32 (digL (dgI (dvU N V j)) (m + 1)) = Ce at *
    generalize numsD .u32 (digL (dvQ (N / V) j) qn) = Qe at *
    generalize numsD .u32 (digL (dvQ (N / V) (j + 1)) qn) = Q0 at *
    generalize sgC (seg (dgI (dvU N V (j + 1))) j (n + 3) (dgI (dvX N V j n))) j (n + 2) (m + 1) (dvX N V j n + V) = C3 at *
    generalize sgC (seg (dgI (dvU N V (j + 1))) j (n + 3) (dgI (dvX N V j n))) j (n + 3) (m + 1) (dvX N V j n + V) = C4 at *
    generalize sgC (dgI (dvU N V (j + 1))) j (n + 3) (m + 1) (dvX N V j n) = C2 at *
    generalize sgC (dgI (dvU N V (j + 1))) j (n + 2) (m + 1) (dvX N V j n) = C1 at *
    generalize numsD .u32 (digL (dgI (dvU N V (j + 1))) (m + 1)) = C at *
    generalize (dvX N V j n + V * dvG N V j n) / 4294967296 ^ (n + 2) % 4294967296 = y at *
    generalize (dvX N V j n + V) / 4294967296 ^ (n + 2) % 4294967296 = D2 at *
    generalize dvX N V j n / 4294967296 ^ (n + 2) % 4294967296 = D at *
    generalize cyM V (dvG N V j n) (n + 2) = e1 at *
    generalize cyB (dvX N V j n) (V * dvG N V j n) (n + 3) = f2 at *
    generalize cyB (dvX N V j n) (V * dvG N V j n) (n + 2) = f1 at *
    generalize cyB (dvX N V j n) V (n + 3) = h2 at *
    generalize cyB (dvX N V j n) V (n + 2) = h1 at *
    generalize V / 4294967296 ^ (n + 1) = v1 at *
    generalize dvP N V j / 4294967296 ^ (n + 1) = top at *
    generalize dgI (dvP N V j) (n + 2) = U1 at *
    generalize dgI (dvP N V j) (n + 1) = U2 at *
    generalize dvG N V j n = g at *
    generalize dg (N / V) j = q at *
    have hs2 := sub32_pure y e1 f1 D f2 b2 b3 hn1a b1 hn1b (by omega)
    have htd : top / v1 ≤ top := Nat.div_le_self _ _
    have htm : top % v1 ≤ top := Nat.mod_le _ _
    have hq : evBinD Tryz.prog .quo 183 (.tmp 30) (.p (.v (.int .u64 (U1 * 4294967296 + U2)))) (.p (.v (.int .u64 (v1 : Nat)))) = some (.p (.v (.int .u64 (top / v1 : Nat)))) := quo_told (by omega) (by rw [← htop2, Int.tdiv_eq_ediv_of_nonneg (by omega), ← Int.natCast_ediv]; exact wrapu64_id (Int.natCast_nonneg _) (by omega)) (by kernel_rfl)
    have hm2 : evBinD Tryz.prog .rem 183 (.tmp 38) (.p (.v (.int .u64 (U1 * 4294967296 + U2)))) (.p (.v (.int .u64 (v1 : Nat)))) = some (.p (.v (.int .u64 (top % v1 : Nat)))) := rem_told (by omega) (by rw [← htop2, Int.tmod_eq_emod_of_nonneg (by omega), ← Int.natCast_emod])
    have rwj1 : IntKind.i64.wrap ((j : Int) + ((n + 2 : Nat) : Int)) = ((j + (n + 2) : Nat) : Int) := by rw [wrap64_id (by omega) (by omega)]; omega
    have rwj2 : IntKind.i64.wrap (((j + (n + 2) : Nat) : Int) + 1) = ((j + (n + 2) + 1 : Nat) : Int) := by rw [wrap64_id (by omega) (by omega)]; omega
    have rwj3 : IntKind.i64.wrap ((j : Int) - 1) = (j : Int) - 1 := wrap64_id (by omega) (by omega)
    have rwc : IntKind.i64.wrap (((n + 2 : Nat) : Int) - 1) = ((n + 1 : Nat) : Int) := by rw [wrap64_id (by omega) (by omega)]; omega
    have rwU1 : IntKind.u64.wrap U1 = U1 := wrapu64_id (by omega) (by omega)
    have rwU2 : IntKind.u64.wrap U2 = U2 := wrapu64_id (by omega) (by omega)
    have rwv1 : IntKind.u64.wrap (v1 : Int) = (v1 : Int) := wrapu64_id (by omega) (by omega)
    have rwsh : IntKind.u64.wrap (U1 * 2 ^ min (Int.toNat 32) IntKind.u64.bits) = U1 * 4294967296 := by show (U1 * 4294967296) % 18446744073709551616 = _; omega
    have rwor := or_low (x := U1) (y := U2) hU1.1 hU1.2 hU2.1 hU2.2
    have rwe1 : IntKind.u32.wrap (e1 : Int) = (e1 : Int) := w32 b3
    have rwq : IntKind.u32.wrap (q : Int) = (q : Int) := w32 bq0
    have rwgm : IntKind.u64.wrap (((q + 1 : Nat) : Int) - 1) = (q : Int) := by rw [wrapu64_id (by omega) (by omega)]; omega
    have rwy : IntKind.u32.wrap ((D : Int) + (h1 : Int)) = (D2 : Int) := by show ((D : Int) + (h1 : Int)) % 4294967296 = _; omega
    clear hn1 hn2 htop2 hn1a hn2a htd htm
    generalize top / v1 = tq at *
    generalize top % v1 = tm at *
    rcases hAB with ⟨hgq, hf2, hd⟩ | ⟨hgq, hf2, hd⟩
    · have hE := hset1.trans (hCA hd)
      clear hCA hCB hd hset1 hset3 hbk gC3 rwgm rwy
      subst hgq
      subst hf2
      generalize limbs V = W at *
      refine crun [211, 212, 213] ⟨[10, 11, 12, 13, 14], [], [], none⟩ [(16, .w (DV.p (PD.v (Value.int IntKind.i64 (↑(n + 2) : Int))))), (17, .w (DV.p (PD.v (Value.int IntKind.i64 (↑(j + (n + 2)) : Int))))), (18, .w (DV.p (PD.v (Value.int IntKind.i64 (↑(j + (n + 2) + 1) : Int))))), (19, .v (DV.bsl 0 j 1 (n + 3) (m + 1 - j))), (35, .w (DV.p (PD.v (Value.int IntKind.i64 (↑(n + 2) : Int))))), (42, .bi), (43, .lb (DV.p (PD.v (Value.int IntKind.u32 U1)))), (44, .w (DV.p (PD.v (Value.int IntKind.u64 U1)))), (45, .w (DV.p (PD.v (Value.int IntKind.u64 (U1 * 4294967296))))), (48, .w (DV.p (PD.v (Value.int IntKind.i64 (↑(n + 1) : Int))))), (49, .bi), (50, .lb (DV.p (PD.v (Value.int IntKind.u32 U2)))), (51, .w (DV.p (PD.v (Value.int IntKind.u64 U2)))), (52, .w (DV.p (PD.v (Value.int IntKind.u64 (U1 * 4294967296 + U2))))), (60, .w (DV.p (PD.v (Value.int IntKind.i64 (↑(n + 1) : Int))))), (61, .el (PD.v (Value.int IntKind.u32 (↑v1 : Int)))), (62, .el (PD.v (Value.int IntKind.u32 (↑v1 : Int)))), (63, .w (DV.p (PD.v (Value.int IntKind.u64 (↑v1 : Int))))), (64, .v (DV.p (PD.v (Value.int IntKind.u64 (↑tq : Int))))), (68, .w (DV.p (PD.v (Value.int IntKind.i64 (↑(n + 1) : Int))))), (69, .el (PD.v (Value.int IntKind.u32 (↑v1 : Int)))), (70, .el (PD.v (Value.int IntKind.u32 (↑v1 : Int)))), (71, .w (DV.p (PD.v (Value.int IntKind.u64 (↑v1 : Int))))), (72, .v (DV.p (PD.v (Value.int IntKind.u64 (↑tm : Int))))), (80, .code [0, 1, 5, 7, 8] (AX.exit 0) (St.mk (mkT 77 [(7, DV.p (PD.v (Value.int IntKind.u64 (↑g : Int))))]) (Mem.mk [Box.mk 86 C false, Box.mk 86 Q0 false] [] []))), (109, .w (DV.p (PD.v (Value.int IntKind.i64 (↑(n + 2) : Int))))), (113, .code [0, 1, 2, 7, 8, 12, 13, 14] (AX.exit 0) (St.mk (mkT 60 [(0, DV.bsl 0 j 1 (n + 2 + 1) (m + 1 - j)), (1, DV.p (natL W)), (7, DV.p (PD.v (Value.int IntKind.u64 (↑e1 : Int)))), (8, DV.p (PD.v (Value.int IntKind.u32 (↑f1 : Int))))]) (Mem.mk [Box.mk 86 C1 false, Box.mk 86 Q0 false] [] []))), (118, .w (DV.p (PD.v (Value.int IntKind.i64 (↑(n + 2) : Int))))), (121, .w (DV.p (PD.v (Value.int IntKind.i64 (↑(n + 2) : Int))))), (122, .bi), (123, .lb (DV.p (PD.v (Value.int IntKind.u32 (↑y : Int))))), (125, .w (DV.p (PD.v (Value.int IntKind.u32 (↑e1 : Int))))), (127, .call (AEnd.ret (PD.tup [PD.v (Value.int IntKind.u32 (↑D : Int)), PD.v (Value.int IntKind.u32 0)]))), (131, .bi), (132, .sb), (149, .w (DV.p (PD.v (Value.int IntKind.u32 (↑g : Int))))), (150, .bi), (151, .sb), (155, .w (DV.p (PD.v (Value.int IntKind.i64 ((↑j : Int) - 1)))))] (AX.norm) (St.mk (mkT 113 [(10, DV.p (PD.v (Value.int IntKind.i64 (↑s : Int)))), (11, DV.p (PD.sl (nums IntKind.u32 W))), (12, DV.bsl 0 0 1 (m + 1) (m + 1)), (13, DV.bsl 1 0 1 qn qn), (14, DV.p (PD.v (Value.int IntKind.i64 ((↑j : Int) - 1))))]) (Mem.mk [Box.mk 86 ((Box.mk 86 C1 false).cells.set (j + (↑(n + 2) : Int).toNat * 1) (DV.p (PD.v (Value.int IntKind.u32 (↑D : Int))))) false, Box.mk 86 ((Box.mk 86 Q0 false).cells.set (0 + (↑j : Int).toNat * 1) (DV.p (PD.v (Value.int IntKind.u32 (↑g : Int))))) false] [] [])) (.c (congrArg (fun z => DV.p (PD.v (Go.Value.int IntKind.i64 z))) rwj3) (.c (show (0 : Nat) + (↑j : Int).toNat * (1 : Nat) < Q0.length by first | omega | (simp; done) | (simp; omega)) (.c (And.intro (nn0 (j)) (show (↑j : Int) < (↑qn : Int) by omega)) (.c (congrArg (fun z => DV.p (PD.v (Go.Value.int IntKind.u32 z))) rwq) (.c (show j + (↑(n + (2 : Nat)) : Int).toNat * (1 : Nat) < C1.length by first | omega | (simp; done) | (simp; omega)) (.c (And.intro (nn0 (n + 2)) (show (↑(n + (2 : Nat)) : Int) < (↑(n + (2 : Nat) + (1 : Nat)) : Int) by omega)) (.c (hs2) (.c (congrArg (fun z => DV.p (PD.v (Go.Value.int IntKind.u32 z))) rwe1) (.c gC1 (.c (And.intro (nn0 (n + 2)) (show (↑(n + (2 : Nat)) : Int) < (↑(n + (2 : Nat) + (1 : Nat)) : Int) by omega)) (.c (congrArg (fun z => DV.p (PD.v (Go.Value.int IntKind.i64 z))) rwlen) (.c (congrArg (fun z => DV.p (PD.v (Go.Value.int IntKind.i64 z))) rwlen) (.c (htk) (.c (congrArg (fun z => DV.p (PD.v (Go.Value.int IntKind.i64 z))) rwlen) (.c (hgl) (.c hm2 (.c (congrArg (fun z => DV.p (PD.v (Go.Value.int IntKind.u64 z))) rwv1) (.c gv (.c (And.intro gv (nn0 (n + 1))) (.c (congrArg (fun z => DV.p (PD.v (Go.Value.int IntKind.i64 z))) rwc) (.c hq (.c (congrArg (fun z => DV.p (PD.v (Go.Value.int IntKind.u64 z))) rwv1) (.c gv (.c (And.intro gv (nn0 (n + 1))) (.c (congrArg (fun z => DV.p (PD.v (Go.Value.int IntKind.i64 z))) rwc) (.c (congrArg (fun z => DV.p (PD.v (Go.Value.int IntKind.u64 z))) rwor) (.c (congrArg (fun z => DV.p (PD.v (Go.Value.int IntKind.u64 z))) rwU2) (.c g2 (.c (And.intro (nn0 (n + 1)) (show (↑(n + (1 : Nat)) : Int) < (↑(n + (3 : Nat)) : Int) by omega)) (.c (congrArg (fun z => DV.p (PD.v (Go.Value.int IntKind.i64 z))) rwc) (.c (congrArg (fun z => DV.p (PD.v (Go.Value.int IntKind.u64 z))) rwsh) (.c (congrArg (fun z => DV.p (PD.v (Go.Value.int IntKind.u64 z))) rwU1) (.c g1 (.c (And.intro (nn0 (n + 2)) (show (↑(n + (2 : Nat)) : Int) < (↑(n + (3 : Nat)) : Int) by omega)) (.c (congrArg (fun z => DV.p (PD.v (Go.Value.int IntKind.i64 z))) rwlen) (.c hsl (.c (congrArg (fun z => DV.p (PD.v (Go.Value.int IntKind.i64 z))) rwj2) (.c (congrArg (fun z => DV.p (PD.v (Go.Value.int IntKind.i64 z))) rwj1) (.c (congrArg (fun z => DV.p (PD.v (Go.Value.int IntKind.i64 z))) rwlen) .n))))))))))))))))))))))))))))))))))))))) (by as_aux_lemma => kernel_rfl) ?_
      exact hK _ (by omega) (by rw [← hE, ← hQset]; simp only [Int.toNat_natCast, Nat.mul_one, Nat.zero_add]; rfl) trivial
    · have hE := hset3.trans (hCB hd)
      have hset1' : C1.set (j + (((n + 2 : Nat) : Int)).toNat * 1) (.p (.v (.int .u32 (D : Int)))) = C2 := by rw [Int.toNat_natCast, Nat.mul_one]; exact hset1
      rw [← hset1'] at hbk
      clear hset1'
      clear hCA hCB hd hset1 hset3
      subst hgq
      subst hf2
      generalize limbs V = W at *
      refine crun [211, 212, 213] ⟨[10, 11, 12, 13, 14], [], [], none⟩ [(16, .w (DV.p (PD.v (Value.int IntKind.i64 (↑(n + 2) : Int))))), (17, .w (DV.p (PD.v (Value.int IntKind.i64 (↑(j + (n + 2)) : Int))))), (18, .w (DV.p (PD.v (Value.int IntKind.i64 (↑(j + (n + 2) + 1) : Int))))), (19, .v (DV.bsl 0 j 1 (n + 3) (m + 1 - j))), (35, .w (DV.p (PD.v (Value.int IntKind.i64 (↑(n + 2) : Int))))), (42, .bi), (43, .lb (DV.p (PD.v (Value.int IntKind.u32 U1)))), (44, .w (DV.p (PD.v (Value.int IntKind.u64 U1)))), (45, .w (DV.p (PD.v (Value.int IntKind.u64 (U1 * 4294967296))))), (48, .w (DV.p (PD.v (Value.int IntKind.i64 (↑(n + 1) : Int))))), (49, .bi), (50, .lb (DV.p (PD.v (Value.int IntKind.u32 U2)))), (51, .w (DV.p (PD.v (Value.int IntKind.u64 U2)))), (52, .w (DV.p (PD.v (Value.int IntKind.u64 (U1 * 4294967296 + U2))))), (60, .w (DV.p (PD.v (Value.int IntKind.i64 (↑(n + 1) : Int))))), (61, .el (PD.v (Value.int IntKind.u32 (↑v1 : Int)))), (62, .el (PD.v (Value.int IntKind.u32 (↑v1 : Int)))), (63, .w (DV.p (PD.v (Value.int IntKind.u64 (↑v1 : Int))))), (64, .v (DV.p (PD.v (Value.int IntKind.u64 (↑tq : Int))))), (68, .w (DV.p (PD.v (Value.int IntKind.i64 (↑(n + 1) : Int))))), (69, .el (PD.v (Value.int IntKind.u32 (↑v1 : Int)))), (70, .el (PD.v (Value.int IntKind.u32 (↑v1 : Int)))), (71, .w (DV.p (PD.v (Value.int IntKind.u64 (↑v1 : Int))))), (72, .v (DV.p (PD.v (Value.int IntKind.u64 (↑tm : Int))))), (80, .code [0, 1, 5, 7, 8] (AX.exit 0) (St.mk (mkT 77 [(7, DV.p (PD.v (Value.int IntKind.u64 (↑(q + 1) : Int))))]) (Mem.mk [Box.mk 86 C false, Box.mk 86 Q0 false] [] []))), (109, .w (DV.p (PD.v (Value.int IntKind.i64 (↑(n + 2) : Int))))), (113, .code [0, 1, 2, 7, 8, 12, 13, 14] (AX.exit 0) (St.mk (mkT 60 [(0, DV.bsl 0 j 1 (n + 2 + 1) (m + 1 - j)), (1, DV.p (natL W)), (7, DV.p (PD.v (Value.int IntKind.u64 (↑e1 : Int)))), (8, DV.p (PD.v (Value.int IntKind.u32 (↑f1 : Int))))]) (Mem.mk [Box.mk 86 C1 false, Box.mk 86 Q0 false] [] []))), (118, .w (DV.p (PD.v (Value.int IntKind.i64 (↑(n + 2) : Int))))), (121, .w (DV.p (PD.v (Value.int IntKind.i64 (↑(n + 2) : Int))))), (122, .bi), (123, .lb (DV.p (PD.v (Value.int IntKind.u32 (↑y : Int))))), (125, .w (DV.p (PD.v (Value.int IntKind.u32 (↑e1 : Int))))), (127, .call (AEnd.ret (PD.tup [PD.v (Value.int IntKind.u32 (↑D : Int)), PD.v (Value.int IntKind.u32 1)]))), (131, .bi), (132, .sb), (147, .w (DV.p (PD.v (Value.int IntKind.u64 (↑q : Int))))), (162, .w (DV.p (PD.v (Value.int IntKind.i64 (↑(n + 2) : Int))))), (166, .code [0, 1, 4, 7, 8, 9] (AX.exit 0) (St.mk (mkT 36 [(0, DV.bsl 0 j 1 (n + 2 + 1) (m + 1 - j)), (1, DV.p (natL W)), (4, DV.p (PD.v (Value.int IntKind.u32 (↑h1 : Int))))]) (Mem.mk [Box.mk 86 C3 false, Box.mk 86 Q0 false] [] []))), (170, .w (DV.p (PD.v (Value.int IntKind.i64 (↑(n + 2) : Int))))), (171, .bi), (172, .lb (DV.p (PD.v (Value.int IntKind.u32 (↑D : Int))))), (174, .w (DV.p (PD.v (Value.int IntKind.u32 (↑D2 : Int))))), (175, .bi), (176, .sb), (183, .w (DV.p (PD.v (Value.int IntKind.u32 (↑q : Int))))), (184, .bi), (185, .sb), (189, .w (DV.p (PD.v (Value.int IntKind.i64 ((↑j : Int) - 1)))))] (AX.norm) (St.mk (mkT 113 [(10, DV.p (PD.v (Value.int IntKind.i64 (↑s : Int)))), (11, DV.p (PD.sl (nums IntKind.u32 W))), (12, DV.bsl 0 0 1 (m + 1) (m + 1)), (13, DV.bsl 1 0 1 qn qn), (14, DV.p (PD.v (Value.int IntKind.i64 ((↑j : Int) - 1))))]) (Mem.mk [Box.mk 86 ((Box.mk 86 C3 false).cells.set (j + (↑(n + 2) : Int).toNat * 1) (DV.p (PD.v (Value.int IntKind.u32 (↑D2 : Int))))) false, Box.mk 86 ((Box.mk 86 Q0 false).cells.set (0 + (↑j : Int).toNat * 1) (DV.p (PD.v (Value.int IntKind.u32 (↑q : Int))))) false] [] [])) (.c (congrArg (fun z => DV.p (PD.v (Go.Value.int IntKind.i64 z))) rwj3) (.c (show (0 : Nat) + (↑j : Int).toNat * (1 : Nat) < Q0.length by first | omega | (simp; done) | (simp; omega)) (.c (And.intro (nn0 (j)) (show (↑j : Int) < (↑qn : Int) by omega)) (.c (congrArg (fun z => DV.p (PD.v (Go.Value.int IntKind.u32 z))) rwq) (.c (show j + (↑(n + (2 : Nat)) : Int).toNat * (1 : Nat) < C3.length by first | omega | (simp; done) | (simp; omega)) (.c (And.intro (nn0 (n + 2)) (show (↑(n + (2 : Nat)) : Int) < (↑(n + (2 : Nat) + (1 : Nat)) : Int) by omega)) (.c (congrArg (fun z => DV.p (PD.v (Go.Value.int IntKind.u32 z))) rwy) (.c gC3 (.c (And.intro (nn0 (n + 2)) (show (↑(n + (2 : Nat)) : Int) < (↑(n + (2 : Nat) + (1 : Nat)) : Int) by omega)) (.c (congrArg (fun z => DV.p (PD.v (Go.Value.int IntKind.i64 z))) rwlen) (.c (hbk) (.c (congrArg (fun z => DV.p (PD.v (Go.Value.int IntKind.i64 z))) rwlen) (.c (congrArg (fun z => DV.p (PD.v (Go.Value.int IntKind.u64 z))) rwgm) (.c (show j + (↑(n + (2 : Nat)) : Int).toNat * (1 : Nat) < C1.length by first | omega | (simp; done) | (simp; omega)) (.c (And.intro (nn0 (n + 2)) (show (↑(n + (2 : Nat)) : Int) < (↑(n + (2 : Nat) + (1 : Nat)) : Int) by omega)) (.c (hs2) (.c (congrArg (fun z => DV.p (PD.v (Go.Value.int IntKind.u32 z))) rwe1) (.c gC1 (.c (And.intro (nn0 (n + 2)) (show (↑(n + (2 : Nat)) : Int) < (↑(n + (2 : Nat) + (1 : Nat)) : Int) by omega)) (.c (congrArg (fun z => DV.p (PD.v (Go.Value.int IntKind.i64 z))) rwlen) (.c (congrArg (fun z => DV.p (PD.v (Go.Value.int IntKind.i64 z))) rwlen) (.c (htk) (.c (congrArg (fun z => DV.p (PD.v (Go.Value.int IntKind.i64 z))) rwlen) (.c (hgl) (.c hm2 (.c (congrArg (fun z => DV.p (PD.v (Go.Value.int IntKind.u64 z))) rwv1) (.c gv (.c (And.intro gv (nn0 (n + 1))) (.c (congrArg (fun z => DV.p (PD.v (Go.Value.int IntKind.i64 z))) rwc) (.c hq (.c (congrArg (fun z => DV.p (PD.v (Go.Value.int IntKind.u64 z))) rwv1) (.c gv (.c (And.intro gv (nn0 (n + 1))) (.c (congrArg (fun z => DV.p (PD.v (Go.Value.int IntKind.i64 z))) rwc) (.c (congrArg (fun z => DV.p (PD.v (Go.Value.int IntKind.u64 z))) rwor) (.c (congrArg (fun z => DV.p (PD.v (Go.Value.int IntKind.u64 z))) rwU2) (.c g2 (.c (And.intro (nn0 (n + 1)) (show (↑(n + (1 : Nat)) : Int) < (↑(n + (3 : Nat)) : Int) by omega)) (.c (congrArg (fun z => DV.p (PD.v (Go.Value.int IntKind.i64 z))) rwc) (.c (congrArg (fun z => DV.p (PD.v (Go.Value.int IntKind.u64 z))) rwsh) (.c (congrArg (fun z => DV.p (PD.v (Go.Value.int IntKind.u64 z))) rwU1) (.c g1 (.c (And.intro (nn0 (n + 2)) (show (↑(n + (2 : Nat)) : Int) < (↑(n + (3 : Nat)) : Int) by omega)) (.c (congrArg (fun z => DV.p (PD.v (Go.Value.int IntKind.i64 z))) rwlen) (.c hsl (.c (congrArg (fun z => DV.p (PD.v (Go.Value.int IntKind.i64 z))) rwj2) (.c (congrArg (fun z => DV.p (PD.v (Go.Value.int IntKind.i64 z))) rwj1) (.c (congrArg (fun z => DV.p (PD.v (Go.Value.int IntKind.i64 z))) rwlen) .n)))))))))))))))))))))))))))))))))))))))))))))))) (by as_aux_lemma => kernel_rfl) ?_
      exact hK _ (by omega) (by rw [← hE, ← hQset]; simp only [Int.toNat_natCast, Nat.mul_one, Nat.zero_add]; rfl) trivial
end Go.Proofs.YtikfefjaeejeeaaGreatDoor
/- Walks: a quotient and a rest. -/
namespace Go.Proofs.YtikfefjaeejeeaaGreatDoor
open Go.RowKit
set_option maxRecDepth 100000
theorem limbM_limbs (A k : Nat) : limbM (limbs A) k = dgI A k := by
  rw [← limbs_dg]
  unfold limbM
  cases h : (limbs A)[k]? with
  | none => simp [List.getD, h]
  | some x =>
    have := dig_limbs A x (List.mem_of_getElem? h)
    simp only [List.getD, h, Option.getD_some]
    exact wrapu64_id this.1 (by omega)
theorem cmp_limbs (A B : Nat) : ∀ n, (cmpAt (limbs A) (limbs B) n < 0 ↔ A % 4294967296 ^ n < B % 4294967296 ^ n) ∧ (0 < cmpAt (limbs A) (limbs B) n ↔ B % 4294967296 ^ n < A % 4294967296 ^ n)
  | 0 => by simp [cmpAt, Nat.mod_one]
  | n + 1 => by
    obtain ⟨h1, h2⟩ := cmp_limbs A B n
    have e : ∀ X, X % 4294967296 ^ (n + 1) = X % 4294967296 ^ n + 4294967296 ^ n * dg X n := fun X => by rw [Nat.pow_succ, Nat.mod_mul]; rfl
    rw [e, e]
    unfold cmpAt
    rw [limbM_limbs, limbM_limbs]
    unfold dgI
    have l1 := Nat.mod_lt A (pw_pos n)
    have l2 := Nat.mod_lt B (pw_pos n)
    clear e
    generalize cmpAt (limbs A) (limbs B) n = c at *
    generalize A % 4294967296 ^ n = a at *
    generalize B % 4294967296 ^ n = b at *
    generalize dg A n = x
    generalize dg B n = y
    generalize 4294967296 ^ n = K at *
    rcases Nat.lt_trichotomy x y with h | h | h
    · have := Nat.mul_le_mul_left K (Nat.succ_le_of_lt h)
      rw [Nat.mul_succ] at this
      rw [if_pos (by omega)]
      constructor <;> omega
    · subst h
      rw [if_neg (by omega), if_neg (by omega)]
      constructor <;> omega
    · have := Nat.mul_le_mul_left K (Nat.succ_le_of_lt h)
      rw [Nat.mul_succ] at this
      rw [if_neg (by omega), if_pos (by omega)]
      constructor <;> omega
theorem cmpN_pure (A B : Nat) (ha : (limbs A).length ≤ 9223372036854775807) (hb : (limbs B).length ≤ 9223372036854775807) : ∃ c, (c < 0 ↔ A < B) ∧ (0 < c ↔ B < A) ∧ Pure Tryz.prog 127 [natL (limbs A), natL (limbs B)] (.ret (intP c)) := by
  obtain ⟨h1, h2⟩ := cmp_limbs A B (max (limbs A).length (limbs B).length)
  rw [Nat.mod_eq_of_lt (limbs_len_lt.1 (Nat.le_max_left _ _)), Nat.mod_eq_of_lt (limbs_len_lt.1 (Nat.le_max_right _ _))] at h1 h2
  exact ⟨_, h1, h2, cmp_pure (limbs A) (limbs B) ha hb⟩
theorem copy_told {T e : TypeId} (hT : elT Tryz.prog T = some e) (hs : szT Tryz.prog e = some 1) (q : IntKind) (t : TypeId) (cells : List DV) (N : Nat) (hc : cells.length = N) (l : List Int) (hl : l.length ≤ N) :
    evCopy Tryz.prog T (.bsl 0 0 1 N N) (.p (.sl (nums q l))) ⟨[⟨t, cells, false⟩], [], []⟩ = some (.p (.v (.int .i64 (l.length : Nat))), ⟨[⟨t, numsD q l ++ cells.drop l.length, false⟩], [], []⟩) := by
  have hf : frz 200 ⟨[⟨t, cells, false⟩], [], []⟩ (.p (.sl (nums q l))) = some (.sl (nums q l), ⟨[⟨t, cells, false⟩], [], []⟩) := by simp [frz, frzP]
  have hn : (nums q l).length = l.length := nums_length _ _
  have hall : (nums q l).all PD.single = true := by simp [nums, PD.single]
  have hc3 : 0 + min (nums q l).length N ≤ cells.length := by rw [hn]; omega
  have hcond : True ∧ (nums q l).all PD.single = true ∧ 0 + min (nums q l).length N ≤ cells.length := ⟨trivial, hall, hc3⟩
  simp only [evCopy, hT, hf, hs, List.getElem?_cons_zero]
  rw [if_pos hcond]
  have e1 : min (nums q l).length N = l.length := by rw [hn]; omega
  have e3 : (nums q l).take N = nums q l := List.take_of_length_le (by rw [hn]; exact hl)
  rw [e1, e3, List.take_zero, List.nil_append, Nat.zero_add]
  have e2 : (nums q l).map DV.p = numsD q l := by simp [nums, numsD]
  rw [e2]
  rfl
theorem divmod_zero (la lb : List Int) (ha : la.length ≤ 1073741800) (hb : lb.length ≤ 1073741800) (db : Dig lb) (h : val lb = 0) : Pure Tryz.prog 186 [natL la, natL lb] (.ret (.tup [natL [], natL [], intP 17])) := by
  have t1 := trim_pure la (by omega)
  have t2 := trim_pure lb (by omega)
  rw [← limbs_val db, h, limbs_zero] at t2
  unfold natL at *
  generalize nums .u32 (trimmed la) = A at *
  refine pure_eq (prun [] [(10, .call (AEnd.ret (PD.sl A))), (12, .call (AEnd.ret (PD.sl [])))] (e := AEnd.ret (PD.tup [PD.sl [], PD.sl [], PD.v (Value.int IntKind.i64 17)])) (.c (t2) (.c (t1) .n)) (by kernel_rfl)) ?_
  rfl
theorem divmod_less (la lb : List Int) (ha : la.length ≤ 1073741800) (hb : lb.length ≤ 1073741800) (da : Dig la) (db : Dig lb) (h : val la < val lb) : Pure Tryz.prog 186 [natL la, natL lb] (.ret (.tup [natL (limbs (val la / val lb)), natL (limbs (val la % val lb)), intP 0])) := by
  have t1 := trim_pure la (by omega)
  have t2 := trim_pure lb (by omega)
  have l1 := trimmed_length_le la
  have l2 := trimmed_length_le lb
  rw [← limbs_val da] at t1 l1
  rw [← limbs_val db] at t2 l2
  obtain ⟨c, c1, _, hc⟩ := cmpN_pure (val la) (val lb) (by omega) (by omega)
  have hcn : c < 0 := c1.2 h
  have hne : ¬ (limbs (val lb)).length = 0 := by
    intro h0
    have := limbs_nil.1 (List.eq_nil_of_length_eq_zero h0)
    omega
  rw [Nat.div_eq_of_lt h, Nat.mod_eq_of_lt h, limbs_zero]
  have hlen : (nums .u32 (limbs (val lb))).length = (limbs (val lb)).length := nums_length _ _
  unfold natL at *
  clear c1 l1 l2
  generalize limbs (val lb) = LB at *
  generalize limbs (val la) = LA at *
  refine pure_eq (prun [] [(10, .call (AEnd.ret (PD.sl (nums IntKind.u32 LA)))), (12, .call (AEnd.ret (PD.sl (nums IntKind.u32 LB)))), (22, .b false), (30, .call (AEnd.ret (PD.v (Value.int IntKind.i64 c)))), (31, .b true)] (e := AEnd.ret (PD.tup [PD.sl [], PD.sl (nums IntKind.u32 LA), PD.v (Value.int IntKind.i64 0)])) (.c (dT hcn) (.c (hc) (.c (eF (show ¬ (↑(nums IntKind.u32 LB).length : Int) = (0 : Int) by omega)) (.c (t2) (.c (t1) .n))))) (by kernel_rfl)) ?_
  rfl
theorem divmod_one (la lb : List Int) (ha : la.length ≤ 1073741800) (hb : lb.length ≤ 1073741800) (da : Dig la) (db : Dig lb) (h : val lb ≤ val la) (h1 : (limbs (val lb)).length = 1) : Pure Tryz.prog 186 [natL la, natL lb] (.ret (.tup [natL (limbs (val la / val lb)), natL (limbs (val la % val lb)), intP 0])) := by
  have t1 := trim_pure la (by omega)
  have t2 := trim_pure lb (by omega)
  have l1 := trimmed_length_le la
  have l2 := trimmed_length_le lb
  rw [← limbs_val da] at t1 l1
  rw [← limbs_val db] at t2 l2
  have hB0 : val lb ≠ 0 := fun h0 => by rw [h0, limbs_zero] at h1; simp at h1
  have hB1 : val lb < 4294967296 := by have := limbs_len_lt.1 (Nat.le_of_eq h1); rwa [Nat.pow_one] at this
  obtain ⟨c, c1, _, hc⟩ := cmpN_pure (val la) (val lb) (by omega) (by omega)
  have hcn : ¬ c < 0 := fun hh => by have := c1.1 hh; omega
  have e1 : limbs (val lb) = [((val lb : Nat) : Int)] := limbs_one hB0 hB1
  have hs := short_pure (limbs (val la)) ((val lb : Nat) : Int) (by omega) (dig_limbs _) (by omega) (by omega)
  obtain ⟨q1, q2⟩ := shortM_law (d := ((val lb : Nat) : Int)) (by omega) (by omega) (dig_limbs (val la))
  obtain ⟨r0, r1⟩ := shortM_rest (d := ((val lb : Nat) : Int)) (by omega) (limbs (val la))
  rw [← limbs_val q1] at hs
  rw [val_limbs] at q2
  have hof := of_small (shortM ((val lb : Nat) : Int) (limbs (val la))).2 r0 (by omega)
  generalize (shortM ((val lb : Nat) : Int) (limbs (val la))).2 = r at *
  generalize val (shortM ((val lb : Nat) : Int) (limbs (val la))).1 = Q at *
  have hmul : (Q : Int) * (val lb : Int) = ((Q * val lb : Nat) : Int) := by rw [Int.natCast_mul]
  rw [hmul] at q2
  have hdm : val la / val lb = Q ∧ val la % val lb = r.toNat := by
    have hpos : 0 < val lb := Nat.pos_of_ne_zero hB0
    have e : val la = r.toNat + Q * val lb := by omega
    rw [e, Nat.add_mul_div_right _ _ hpos, Nat.add_mul_mod_self_right, Nat.div_eq_of_lt (by omega), Nat.mod_eq_of_lt (by omega)]
    exact ⟨Nat.zero_add _, rfl⟩
  rw [hdm.1, hdm.2]
  have rwr : IntKind.u64.wrap r = r := wrapu64_id r0 (by omega)
  rw [e1] at t2 hc
  clear c1 l1 l2 hdm q1 q2 e1 hmul h1
  generalize val lb = B at *
  unfold natL at *
  generalize limbs (val la) = LA at *
  generalize limbs Q = LQ at *
  generalize limbs r.toNat = LR at *
  refine pure_eq (prun [] [(10, .call (AEnd.ret (PD.sl (nums IntKind.u32 LA)))), (12, .call (AEnd.ret (PD.sl [PD.v (Value.int IntKind.u32 (↑B : Int))]))), (30, .call (AEnd.ret (PD.v (Value.int IntKind.i64 c)))), (31, .b false), (49, .call (AEnd.ret (PD.tup [PD.sl (nums IntKind.u32 LQ), PD.v (Value.int IntKind.u32 r), PD.v (Value.int IntKind.i64 0)]))), (62, .w (DV.p (PD.v (Value.int IntKind.u64 r)))), (63, .call (AEnd.ret (PD.sl (nums IntKind.u32 LR))))] (e := AEnd.ret (PD.tup [PD.sl (nums IntKind.u32 LQ), PD.sl (nums IntKind.u32 LR), PD.v (Value.int IntKind.i64 0)])) (.c (hof) (.c (congrArg (fun z => DV.p (PD.v (Go.Value.int IntKind.u64 z))) rwr) (.c (hs) (.c (dF hcn) (.c (hc) (.c (t2) (.c (t1) .n))))))) (by kernel_rfl)) ?_
  rfl
end Go.Proofs.YtikfefjaeejeeaaGreatDoor
/- Walks: a quotient and a rest, long. -/
namespace Go.Proofs.YtikfefjaeejeeaaGreatDoor
open Go.RowKit
set_option maxRecDepth 100000
theorem frz_box2 (q : IntKind) (μ : Mem) (b n cap : Nat) (t : TypeId) (l : List Int) (hn : l.length = n) (h : μ.boxes[b]? = some ⟨t, numsD q l, false⟩) : ∃ k, frz k μ (.bsl b 0 1 n cap) = some (.sl (nums q l), ⟨μ.boxes.set b ⟨t, numsD q l, true⟩, μ.toks, μ.objs⟩) := by
  subst hn; exact frz_box q μ b cap t l h
theorem replD (q : IntKind) (n : Nat) : numsD q (List.replicate n 0) = List.replicate n (.p (.v (.int q 0))) := by simp [numsD]
set_option maxHeartbeats 8000000 in
theorem divmod_long (A B n m : Nat) (hA : (limbs A).length = m) (hB : (limbs B).length = n + 2) (hm : m ≤ 1073741800) (h : B ≤ A) (la lb : List Int) (t1 : Pure Tryz.prog 185 [natL la] (.ret (natL (limbs A)))) (t2 : Pure Tryz.prog 185 [natL lb] (.ret (natL (limbs B)))) : Pure Tryz.prog 186 [natL la, natL lb] (.ret (.tup [natL (limbs (A / B)), natL (limbs (A % B)), intP 0])) := by
  have hAlt : A < 4294967296 ^ m := limbs_len_lt.1 (Nat.le_of_eq hA)
  have hBlt : B < 4294967296 ^ (n + 2) := limbs_len_lt.1 (Nat.le_of_eq hB)
  have hB1 : B / 4294967296 ^ (n + 1) ≠ 0 := (limbs_lt B (n + 1)).1 (by omega)
  have hnm : n + 2 ≤ m := by
    rcases Nat.lt_or_ge m (n + 2) with hh | hh
    · have : (limbs B).length ≤ n + 1 := limbs_len_lt.2 (Nat.lt_of_le_of_lt h (Nat.lt_of_lt_of_le hAlt (Nat.pow_le_pow_right (by decide) (by omega))))
      omega
    · exact hh
  have hBt : B / 4294967296 ^ (n + 1) < 4294967296 := (Nat.div_lt_iff_lt_mul (pw_pos _)).2 (by rw [Nat.mul_comm, ← Nat.pow_succ]; exact hBlt)
  have hbt : (nums .u32 (limbs B))[(((n + 1 : Nat) : Int)).toNat]? = some (.v (.int .u32 ((B / 4294967296 ^ (n + 1) : Nat) : Int))) := by
    have := limbs_at (k := n + 1) hB (by omega)
    rwa [Nat.mod_eq_of_lt hBt] at this
  obtain ⟨s, s1, s2, s3, s4⟩ := lz_spec hB1 hBt
  have hlz := lz_pure ((B / 4294967296 ^ (n + 1) : Nat) : Int) (Int.natCast_nonneg _) (Int.ofNat_lt.2 hBt)
  rw [Int.toNat_natCast, s2, show (32 : Int) - ((32 - s : Nat) : Int) = (s : Int) by omega] at hlz
  have hVn : B * 2 ^ s < 4294967296 ^ (n + 2) := by
    have h1 := Nat.div_add_mod B (4294967296 ^ (n + 1))
    have h2 := Nat.mod_lt B (pw_pos (n + 1))
    rw [Nat.pow_succ 4294967296 (n + 1)]
    generalize B / 4294967296 ^ (n + 1) = x at *
    generalize 4294967296 ^ (n + 1) = K at *
    have h3 : (x * 2 ^ s + 2 ^ s) ≤ 4294967296 := by
      have e : 4294967296 = 2 ^ (32 - s) * 2 ^ s := by rw [← Nat.pow_add, show 32 - s + s = 32 by omega]
      rw [← Nat.succ_mul]
      rw [e] at s4 ⊢
      exact Nat.mul_le_mul_right _ (Nat.lt_of_mul_lt_mul_right s4)
    calc B * 2 ^ s < (K * x + K) * 2 ^ s := Nat.mul_lt_mul_of_pos_right (by omega) (Nat.pow_pos (by decide))
      _ = K * (x * 2 ^ s + 2 ^ s) := by rw [Nat.add_mul, Nat.mul_add, Nat.mul_assoc]
      _ ≤ K * 4294967296 := Nat.mul_le_mul_left _ h3
  have hVv : 2147483648 ≤ B * 2 ^ s / 4294967296 ^ (n + 1) := by
    rw [Nat.le_div_iff_mul_le (pw_pos _)]
    calc 2147483648 * 4294967296 ^ (n + 1) ≤ B / 4294967296 ^ (n + 1) * 2 ^ s * 4294967296 ^ (n + 1) := Nat.mul_le_mul_right _ s3
      _ = B / 4294967296 ^ (n + 1) * 4294967296 ^ (n + 1) * 2 ^ s := Nat.mul_right_comm ..
      _ ≤ B * 2 ^ s := Nat.mul_le_mul_right _ (Nat.div_mul_le_self _ _)
  have hV2 : 4294967296 ^ (n + 2) ≤ B * 2 ^ s * 2 := by
    have h1 := (Nat.le_div_iff_mul_le (pw_pos (n + 1))).1 hVv
    rw [Nat.pow_succ 4294967296 (n + 1)]
    omega
  have hfirst := dv_first (b := B * 2 ^ s) hAlt s1 hnm hV2
  obtain ⟨qn, hqn⟩ : ∃ qn, qn = m - (n + 2) + 1 := ⟨_, rfl⟩
  rw [← hqn] at hfirst
  have hBpos : 0 < B := by
    rcases Nat.eq_zero_or_pos B with hh | hh
    · rw [hh, limbs_zero] at hB; simp at hB
    · exact hh
  have hp2 : 0 < 2 ^ s := Nat.pow_pos (by decide)
  have hloop := dm_loop (A * 2 ^ s) (B * 2 ^ s) m n s qn hVn hVv hm (by omega)
  have hq : A * 2 ^ s / (B * 2 ^ s) = A / B := Nat.mul_div_mul_right _ _ hp2
  have hr : A * 2 ^ s % (B * 2 ^ s) = A % B * 2 ^ s := by rw [Nat.mul_mod_mul_right]
  have hV0 : 0 < B * 2 ^ s := Nat.mul_pos hBpos hp2
  have hNlt : A * 2 ^ s < 4294967296 ^ (m + 1) := by
    rw [Nat.pow_succ]
    calc A * 2 ^ s < 4294967296 ^ m * 2 ^ s := Nat.mul_lt_mul_of_pos_right hAlt hp2
      _ ≤ 4294967296 ^ m * 4294967296 := Nat.mul_le_mul_left _ (by
        have : 2 ^ s ≤ 2 ^ 32 := Nat.pow_le_pow_right (by decide) (by omega)
        omega)
  unfold dmS at hloop
  rw [dvU_top hfirst, dvU_zero, dvQ_zero, dvQ_all (Nat.le_refl _), replD, hq, hr] at hloop
  have sa := shl_pure (limbs A) s (dig_limbs A) (by omega) (by omega)
  have sb := shl_pure (limbs B) s (dig_limbs B) (by omega) (by omega)
  rw [val_limbs] at sa sb
  have hNl := limbs_len_lt.2 hNlt
  have hcp := copy_told (T := 81) (e := 86) (by kernel_rfl) (by kernel_rfl) .u32 86 (List.replicate (m + 1) (.p (.v (.int .u32 0)))) (m + 1) (by simp) (limbs (A * 2 ^ s)) hNl
  have hpad : numsD .u32 (limbs (A * 2 ^ s)) ++ (List.replicate (m + 1) (DV.p (.v (.int .u32 0)))).drop (limbs (A * 2 ^ s)).length = numsD .u32 (digL (dgI (A * 2 ^ s)) (m + 1)) := by
    rw [limbs_pad hNlt]
    simp [numsD]
  rw [hpad] at hcp
  have hQlt : A / B < 4294967296 ^ qn := by
    rw [← hq, Nat.div_lt_iff_lt_mul hV0]
    have := (Nat.div_lt_iff_lt_mul (pw_pos qn)).1 hfirst
    rw [Nat.mul_comm (4294967296 ^ qn)]
    exact this
  have hRlt : A % B * 2 ^ s < 4294967296 ^ (m + 1) := by
    rw [← hr]
    exact Nat.lt_of_le_of_lt (Nat.mod_le _ _) hNlt
  have hsr := shr_pure (limbs (A % B * 2 ^ s)) s (dig_limbs _) (by have := limbs_len_lt.2 hRlt; omega) (by omega)
  rw [val_limbs, Nat.mul_div_cancel _ hp2] at hsr
  have tq := trim_pure (digL (dgI (A / B)) qn) (by rw [digL_len]; omega)
  rw [limbs_digL hQlt] at tq
  have tu := trim_pure (digL (dgI (A % B * 2 ^ s)) (m + 1)) (by rw [digL_len]; omega)
  rw [limbs_digL hRlt] at tu
  have f1 := frz_box2 .u32 ⟨[⟨86, numsD .u32 (digL (dgI (A % B * 2 ^ s)) (m + 1)), false⟩, ⟨86, numsD .u32 (digL (dgI (A / B)) qn), false⟩], [], []⟩ 1 qn qn 86 (digL (dgI (A / B)) qn) (digL_len _ _) rfl
  have f2 := frz_box2 .u32 ⟨[⟨86, numsD .u32 (digL (dgI (A % B * 2 ^ s)) (m + 1)), false⟩, ⟨86, numsD .u32 (digL (dgI (A / B)) qn), true⟩], [], []⟩ 0 (m + 1) (m + 1) 86 (digL (dgI (A % B * 2 ^ s)) (m + 1)) (digL_len _ _) rfl
  obtain ⟨c, c1, _, hc⟩ := cmpN_pure A B (by omega) (by omega)
  have hcn : ¬ c < 0 := fun hh => by have := c1.1 hh; omega
  have hVl : (limbs (B * 2 ^ s)).length = n + 2 := by
    have h1 := limbs_len_lt.2 hVn
    have h2 := (limbs_lt (B * 2 ^ s) (n + 1)).2 (by omega)
    omega
  have rwlA : ((nums .u32 (limbs A)).length : Int) = (m : Int) := by rw [nums_length, hA]
  have rwlB : ((nums .u32 (limbs B)).length : Int) = ((n + 2 : Nat) : Int) := by rw [nums_length, hB]
  have rwlV : ((nums .u32 (limbs (B * 2 ^ s))).length : Int) = ((n + 2 : Nat) : Int) := by rw [nums_length, hVl]
  have rw1 : IntKind.i64.wrap (((n + 2 : Nat) : Int) - 1) = ((n + 1 : Nat) : Int) := by rw [wrap64_id (by omega) (by omega)]; omega
  have rw2 : IntKind.i64.wrap ((m : Int) + 1) = ((m + 1 : Nat) : Int) := wrap64_succ (by omega)
  have rw3 : IntKind.i64.wrap ((m : Int) - ((n + 2 : Nat) : Int)) = ((m - (n + 2) : Nat) : Int) := by rw [wrap64_id (by omega) (by omega)]; omega
  have rw4 : IntKind.i64.wrap (((m - (n + 2) : Nat) : Int) + 1) = (qn : Int) := by rw [wrap64_id (by omega) (by omega)]; omega
  have rw5 : (((qn : Int).toNat : Nat) : Int) = (qn : Int) := by rw [Int.toNat_natCast]
  have rw6 : IntKind.i64.wrap ((qn : Int) - 1) = (qn : Int) - 1 := wrap64_id (by omega) (by omega)
  clear hq hr hpad hfirst hQlt hRlt hNlt hV2 hVv hVn c1 s2 s3 s4 hAlt hBlt hB1 hNl hVl hBt
  generalize B / 4294967296 ^ (n + 1) = bt at *
  generalize A % B * 2 ^ s = R at *
  generalize numsD .u32 (digL (dgI R) (m + 1)) = CR at *
  generalize numsD .u32 (digL (dgI (A / B)) qn) = CQ at *
  generalize numsD .u32 (digL (dgI (A * 2 ^ s)) (m + 1)) = CN at *
  generalize A * 2 ^ s = N at *
  generalize B * 2 ^ s = V at *
  unfold natL at *
  generalize nums .u32 (digL (dgI R) (m + 1)) = NR at *
  generalize nums .u32 (digL (dgI (A / B)) qn) = NQ at *
  generalize limbs R = LR at *
  generalize limbs (A / B) = LQ at *
  generalize limbs (A % B) = LM at *
  generalize limbs A = LA at *
  generalize limbs B = LB at *
  generalize limbs N = LN at *
  generalize limbs V = LV at *
  generalize nums .u32 la = La at *
  generalize nums .u32 lb = Lb at *
  refine pure_eq (prun [200185] [(10, .call (AEnd.ret (PD.sl (nums IntKind.u32 LA)))), (12, .call (AEnd.ret (PD.sl (nums IntKind.u32 LB)))), (21, .w (DV.p (PD.v (Value.int IntKind.i64 (↑(n + 2) : Int))))), (30, .call (AEnd.ret (PD.v (Value.int IntKind.i64 c)))), (31, .b false), (38, .w (DV.p (PD.v (Value.int IntKind.i64 (↑(n + 2) : Int))))), (48, .w (DV.p (PD.v (Value.int IntKind.i64 (↑(n + 2) : Int))))), (49, .w (DV.p (PD.v (Value.int IntKind.i64 (↑(n + 1) : Int))))), (50, .el (PD.v (Value.int IntKind.u32 (↑bt : Int)))), (51, .el (PD.v (Value.int IntKind.u32 (↑bt : Int)))), (52, .call (AEnd.ret (PD.v (Value.int IntKind.i64 (↑s : Int))))), (59, .call (AEnd.ret (PD.sl (nums IntKind.u32 LV)))), (65, .w (DV.p (PD.v (Value.int IntKind.i64 (↑m : Int))))), (66, .w (DV.p (PD.v (Value.int IntKind.i64 (↑(m + 1) : Int))))), (67, .m), (75, .call (AEnd.ret (PD.sl (nums IntKind.u32 LN)))), (76, .cp (DV.p (PD.v (Value.int IntKind.i64 (↑LN.length : Int)))) (Mem.mk [Box.mk 86 CN false] [] [])), (81, .w (DV.p (PD.v (Value.int IntKind.i64 (↑m : Int))))), (83, .w (DV.p (PD.v (Value.int IntKind.i64 (↑(n + 2) : Int))))), (84, .w (DV.p (PD.v (Value.int IntKind.i64 (↑(m - (n + 2)) : Int))))), (85, .w (DV.p (PD.v (Value.int IntKind.i64 (↑qn : Int))))), (86, .m), (93, .w (DV.p (PD.v (Value.int IntKind.i64 (↑qn : Int))))), (94, .w (DV.p (PD.v (Value.int IntKind.i64 ((↑qn : Int) - 1))))), (98, .code [10, 11, 12, 13, 14] (AX.exit 1) (St.mk (mkT 113 [(10, DV.p (intP (↑s : Int))), (12, DV.bsl 0 0 1 (m + 1) (m + 1)), (13, DV.bsl 1 0 1 qn qn)]) (Mem.mk [Box.mk 86 CR false, Box.mk 86 CQ false] [] []))), (102, .fzb 107 (PD.sl NQ) (Mem.mk [Box.mk 86 CR false, Box.mk 86 CQ true] [] [])), (102, .call (AEnd.ret (PD.sl (nums IntKind.u32 LQ)))), (104, .fzb 109 (PD.sl NR) (Mem.mk [Box.mk 86 CR true, Box.mk 86 CQ true] [] [])), (104, .call (AEnd.ret (PD.sl (nums IntKind.u32 LR)))), (106, .call (AEnd.ret (PD.sl (nums IntKind.u32 LM))))] (e := AEnd.ret (PD.tup [PD.sl (nums IntKind.u32 LQ), PD.sl (nums IntKind.u32 LM), PD.v (Value.int IntKind.i64 0)])) (.c (hsr) (.c (tu) (.c f2 (.c (tq) (.c f1 (.c (hloop) (.c (congrArg (fun z => DV.p (PD.v (Go.Value.int IntKind.i64 z))) rw6) (.c (congrArg (fun z => DV.p (PD.v (Go.Value.int IntKind.i64 z))) rw5) (.c (show (0 : Int) ≤ (↑qn : Int) ∧ (↑qn : Int) ≤ (↑qn : Int) ∧ (↑qn : Int) ≤ (1099511627776 : Int) by omega) (.c (congrArg (fun z => DV.p (PD.v (Go.Value.int IntKind.i64 z))) rw4) (.c (congrArg (fun z => DV.p (PD.v (Go.Value.int IntKind.i64 z))) rw3) (.c (congrArg (fun z => DV.p (PD.v (Go.Value.int IntKind.i64 z))) rwlV) (.c (congrArg (fun z => DV.p (PD.v (Go.Value.int IntKind.i64 z))) rwlA) (.c hcp (.c (sa) (.c (show (0 : Int) ≤ (↑(m + (1 : Nat)) : Int) ∧ (↑(m + (1 : Nat)) : Int) ≤ (↑(m + (1 : Nat)) : Int) ∧ (↑(m + (1 : Nat)) : Int) ≤ (1099511627776 : Int) by omega) (.c (congrArg (fun z => DV.p (PD.v (Go.Value.int IntKind.i64 z))) rw2) (.c (congrArg (fun z => DV.p (PD.v (Go.Value.int IntKind.i64 z))) rwlA) (.c (sb) (.c (hlz) (.c hbt (.c (And.intro hbt (nn0 (n + 1))) (.c (congrArg (fun z => DV.p (PD.v (Go.Value.int IntKind.i64 z))) rw1) (.c (congrArg (fun z => DV.p (PD.v (Go.Value.int IntKind.i64 z))) rwlB) (.c (congrArg (fun z => DV.p (PD.v (Go.Value.int IntKind.i64 z))) rwlB) (.c (dF hcn) (.c (hc) (.c (congrArg (fun z => DV.p (PD.v (Go.Value.int IntKind.i64 z))) rwlB) (.c (t2) (.c (t1) .n)))))))))))))))))))))))))))))) (by kernel_rfl)) ?_
  rfl
end Go.Proofs.YtikfefjaeejeeaaGreatDoor
/- Walks: the document's quotient and rest. -/
namespace Go.Proofs.YtikfefjaeejeeaaGreatDoor
open Go.RowKit
set_option maxRecDepth 100000
def tg (n i : Nat) : Nat := n / 10000 ^ i % 10000
theorem tg_lt (n i : Nat) : tg n i < 10000 := Nat.mod_lt _ (by decide)
def tgI (n i : Nat) : Int := (tg n i : Nat)
def dvR (N V j : Nat) : Nat := N / 10000 ^ (j + 1) % V * 10000 + tg N j
theorem dvR_lt {N V j : Nat} (hV : 0 < V) : dvR N V j < V * 10000 := by
  unfold dvR
  have h1 := Nat.mod_lt (N / 10000 ^ (j + 1)) hV
  have h2 := tg_lt N j
  have h3 := Nat.mul_le_mul_right 10000 h1
  rw [Nat.succ_mul] at h3
  omega
theorem dvR_eq (N V j : Nat) : N / 10000 ^ j = N / 10000 ^ (j + 1) / V * 10000 * V + dvR N V j := by
  have hs : 10000 ^ (j + 1) = 10000 ^ j * 10000 := Nat.pow_succ ..
  unfold dvR tg
  have h1 := Nat.div_add_mod (N / 10000 ^ j) 10000
  have h2 := Nat.div_add_mod (N / 10000 ^ (j + 1)) V
  rw [hs, ← Nat.div_div_eq_div_mul] at *
  generalize N / 10000 ^ j / 10000 = X at *
  have h3 : X / V * 10000 * V = V * (X / V) * 10000 := by rw [Nat.mul_right_comm, Nat.mul_comm (X / V)]
  rw [h3]
  omega
theorem dvR_mod (N V j : Nat) : dvR N V j % V = N / 10000 ^ j % V := by
  rw [dvR_eq N V j, Nat.add_comm, Nat.add_mul_mod_self_right]
theorem dvR_div {N V j : Nat} (hV : 0 < V) : dvR N V j / V = tg (N / V) j := by
  have h := dvR_eq N V j
  have hlt : dvR N V j / V < 10000 := (Nat.div_lt_iff_lt_mul hV).2 (by rw [Nat.mul_comm]; exact dvR_lt hV)
  unfold tg
  rw [Nat.div_div_eq_div_mul, Nat.mul_comm V, ← Nat.div_div_eq_div_mul, h, Nat.add_comm, Nat.add_mul_div_right _ _ hV, Nat.add_mul_mod_self_right, Nat.mod_eq_of_lt hlt]
def dvS (Q j : Nat) : Nat → Int := fun i => if i < j then 0 else tgI Q i
theorem dvS_set {Q j m : Nat} : (digL (dvS Q (j + 1)) m).set j (tgI Q j) = digL (dvS Q j) m := by
  rw [digL_set]
  congr 1
  funext i
  unfold dvS
  by_cases h : i = j
  · subst h; rw [if_pos rfl, if_neg (by omega)]
  · rw [if_neg h]
    by_cases h2 : i < j
    · rw [if_pos h2, if_pos (by omega)]
    · rw [if_neg h2, if_neg (by omega)]
theorem dvS_zero (Q : Nat) : dvS Q 0 = tgI Q := by funext i; unfold dvS; rw [if_neg (by omega)]
theorem dvS_all {Q j m : Nat} (h : m ≤ j) : digL (dvS Q j) m = List.replicate m 0 := by
  refine List.ext_getElem (by rw [digL_len, List.length_replicate]) fun i h1 h2 => ?_
  have hi : i < m := by rw [digL_len] at h1; exact h1
  simp [digL, dvS]
  omega

def AX.calm : AX → Bool
  | .panic _ => false
  | _ => true
/-- what is behind the first boxes is left out -/
theorem awp_cutP {ro : Option Nat} {P : Program} {c : Code} {Q : AX → St → Prop} {s : St} (nb nt no : Nat) (hb : s.μ.boxes.length ≤ nb) (ht : s.μ.toks.length ≤ nt) (ho : s.μ.objs.length ≤ no)
    (h : AWP ro P c (fun x s1 => s1.refs nb nt no 50 = true ∧ x.calm = true ∧ Q x (s1.cut nb nt no)) s) : AWP ro P c Q s := fun G a w hs => by
  refine wpIn_mono (h G a w hs) ?_
  rintro e1 a' w' ⟨x, s1, G', h1, ⟨hr, hx, hQ⟩, h3, h4⟩
  refine ⟨x, s1.cut nb nt no, G'.cut nb nt no, ?_, hQ, h3.cut hr, h4.cut (by rw [hs.mem.len]; exact hb) (by rw [hs.mem.tlen]; exact ht) (by rw [hs.mem.mp.len]; exact ho)⟩
  cases x <;> cases e1 <;> first
    | exact h1
    | exact h1.elim
    | (cases hx; done)
theorem numsD_refs (q : IntKind) (nb nt no k : Nat) (l : List Int) : (numsD q l).all (refB nb nt no (k + 1)) = true := by simp [numsD, refB]
theorem digit2_pure (r b L : Nat) (hL : L ≤ 1073741800) (hr : r < b * 10000) (hlr : (decs r).length ≤ L) (hlb : (decs b).length ≤ L) : Pure Tryz.prog 175 [intL (decs r), intL (decs b)] (.ret (intP (r / b : Nat))) := by
  have h := dg_loop r b L hL hr hlr hlb
  have e0 : dgS r b 0 = ⟨mkT 25 [(0, .p (intL (decs r))), (1, .p (intL (decs b))), (5, .p (intP 0)), (6, .p (intP 10000))], ⟨[], [], []⟩⟩ := rfl
  rw [e0] at h
  clear e0 hr
  unfold intL at *
  generalize r / b = q at *
  generalize decs r = LR at *
  generalize decs b = LB at *
  refine pure_eq (prun [] [(12, .code [0, 1, 5, 6] (AX.exit 0) (St.mk (mkT 25 [(5, DV.p (intP (↑q : Int)))]) (Mem.mk [] [] [])))] (e := AEnd.ret (PD.v (Value.int IntKind.i64 (↑q : Int)))) (.c (h) .n) (by kernel_rfl)) ?_
  rfl
def rI (N V i len : Nat) : DV := if i = len then .p (.v (.slice none 0 0)) else .p (intL (decs (N / 10000 ^ i % V)))
def tdS (N V len i : Nat) : St := ⟨mkT 49 [(0, .p (intL (decs N))), (1, .p (intL (decs V))), (6, .bsl 0 0 1 len len), (7, rI N V i len), (8, .p (intP ((i : Int) - 1)))], ⟨[⟨3, numsD .i64 (digL (dvS (N / V) i) len), false⟩], [], []⟩⟩
set_option maxHeartbeats 4000000 in
theorem td_loop (N V L len : Nat) (hL : L ≤ 1073741790) (hV0 : 0 < V) (hV : V < 10000 ^ L) (hlen : (decs N).length = len) (hN : len ≤ 1073741790) :
    LoopOK Tryz.prog (loopB Tryz.prog 143 0) (tdS N V len len) (.exit 0) ⟨mkT 49 [(6, .bsl 0 0 1 len len), (7, rI N V 0 len)], ⟨[⟨3, numsD .i64 (digL (dvS (N / V) 0) len), false⟩], [], []⟩⟩ := by
  refine loop_ix [0, 1, 6, 7, 8] (fun k => tdS N V len (len - k)) len (fun _ => True) trivial (fun k => by unfold tdS rI; split <;> rfl) ?_
  intro k hk _ ro K Q1 hQ hK
  obtain ⟨i, hi⟩ : ∃ i, i = len - k := ⟨_, rfl⟩
  simp only [← hi]
  cases i with
  | zero =>
    unfold tdS
    generalize numsD .i64 (digL (dvS (N / V) 0) len) = C at *
    unfold intL
    generalize decs N = LN at *
    generalize decs V = LV at *
    unfold rI at hQ ⊢
    by_cases h0 : 0 = len
    · rw [if_pos h0] at hQ ⊢
      refine crun [] ⟨[6, 7], [], [], none⟩ [] (AX.exit 0) (St.mk (mkT 49 [(6, DV.bsl 0 0 1 len len), (7, DV.p (PD.v (Value.slice none 0 0)))]) (Mem.mk [Box.mk 3 C false] [] [])) .n (by kernel_rfl) ?_
      exact hQ
    · rw [if_neg h0] at hQ ⊢
      unfold intL at hQ ⊢
      generalize decs (N / 10000 ^ 0 % V) = LR at *
      refine crun [] ⟨[6, 7], [], [], none⟩ [] (AX.exit 0) (St.mk (mkT 49 [(6, DV.bsl 0 0 1 len len), (7, DV.p (PD.sl (nums IntKind.i64 LR)))]) (Mem.mk [Box.mk 3 C false] [] [])) .n (by kernel_rfl) ?_
      exact hQ
  | succ j =>
    rw [show len - (k + 1) = j by omega] at hK
    have hnj : ((j + 1 : Nat) : Int) - 1 = (j : Int) := by omega
    have hjl : ¬ j = len := by omega
    have hP := dvR_lt (N := N) (j := j) hV0
    have hPm := dvR_mod N V j
    have hPd := dvR_div (N := N) (j := j) hV0
    have hPdef : dvR N V j = N / 10000 ^ (j + 1) % V * 10000 + tg N j := rfl
    have hml := Nat.mod_lt (N / 10000 ^ (j + 1)) hV0
    have hp1 : 10000 ^ (L + 1) = 10000 ^ L * 10000 := Nat.pow_succ ..
    have hPlt : dvR N V j < 10000 ^ (L + 1) := by
      have := Nat.mul_lt_mul_of_pos_right hV (show 0 < 10000 by decide)
      omega
    have hxa : (nums .i64 (decs N))[(j : Int).toNat]? = some (.v (.int .i64 ((tg N j : Nat) : Int))) := nums_at (decs_get ((decs_lt N j).1 (by omega)))
    have hlenN : (nums .i64 (decs N)).length = len := by rw [nums_length, hlen]
    have hx := tg_lt N j
    have htr : ∀ r, trimT (((tg N j : Nat) : Int) :: decs r) = decs (r * 10000 + tg N j) := fun r => by
      have hd : DigT (((tg N j : Nat) : Int) :: decs r) := fun z hz => by
        rcases List.mem_cons.1 hz with rfl | hz
        · omega
        · exact dig_decs r z hz
      rw [← decs_valT hd]
      congr 1
      show (((tg N j : Nat) : Int)).toNat + 10000 * valT (decs r) = _
      rw [valT_decs, Int.toNat_natCast, Nat.mul_comm, Nat.add_comm]
    have hrl : (decs (N / 10000 ^ (j + 1) % V)).length ≤ L := decs_len_lt (Nat.lt_trans hml hV)
    have ht := trim2_pure (((tg N j : Nat) : Int) :: decs (N / 10000 ^ (j + 1) % V)) (by simp only [List.length_cons]; omega)
    rw [htr, ← hPdef] at ht
    have hVl : (decs V).length ≤ L := decs_len_lt hV
    have hdg := digit2_pure (dvR N V j) V (L + 1) (by omega) hP (decs_len_lt hPlt) (by omega)
    rw [hPd] at hdg
    have hqlt := tg_lt (N / V) j
    have htm := times_pure V (tg (N / V) j) (by omega) (by omega) (by have := tiK_le hV (show tg (N / V) j ≤ 10000 ^ 1 by rw [Nat.pow_one]; omega); omega)
    have hdm := Nat.div_add_mod (dvR N V j) V
    rw [hPd] at hdm
    have hVq : V * tg (N / V) j ≤ dvR N V j := by omega
    have hsu := sub_pure (dvR N V j % V) (V * tg (N / V) j) (by rw [show dvR N V j % V + V * tg (N / V) j = dvR N V j by omega]; exact Nat.le_trans (decs_len_lt hPlt) (by omega)) (Nat.le_trans (decs_len_lt (Nat.lt_of_le_of_lt hVq hPlt)) (by omega))
    rw [show dvR N V j % V + V * tg (N / V) j = dvR N V j by omega, hPm] at hsu
    have hset : (numsD .i64 (digL (dvS (N / V) (j + 1)) len)).set j (.p (.v (.int .i64 ((tg (N / V) j : Nat) : Int)))) = numsD .i64 (digL (dvS (N / V) j) len) := by
      rw [numsD_set]; exact congrArg (numsD .i64) dvS_set
    have hCl : (numsD .i64 (digL (dvS (N / V) (j + 1)) len)).length = len := by rw [numsD_len, digL_len]
    have hC2r := numsD_refs .i64 1 0 0 49 (digL (dvS (N / V) j) len)
    have rwj3 : IntKind.i64.wrap ((j : Int) - 1) = (j : Int) - 1 := wrap64_id (by omega) (by omega)
    have ht2 : Pure Tryz.prog 174 [.sl (.v (.int .i64 ((tg N j : Nat) : Int)) :: nums .i64 (decs (N / 10000 ^ (j + 1) % V)))] (.ret (intL (decs (dvR N V j)))) := ht
    have hs1 := nums_sized .i64 (decs (N / 10000 ^ (j + 1) % V))
    have hrl2 : (nums .i64 (decs (N / 10000 ^ (j + 1) % V))).length ≤ L := by rw [nums_length]; exact hrl
    have hsx : sized 1 [PD.v (.int .i64 ((tg N j : Nat) : Int))] := sized_one rfl
    unfold tdS rI at hK ⊢
    rw [if_neg hjl] at hK
    rw [hnj]
    by_cases hf : j + 1 = len
    · rw [if_pos hf]
      have hz : N / 10000 ^ (j + 1) = 0 := (decs_len_le N (j + 1)).1 (by omega)
      rw [hz, Nat.zero_mod, decs_zero] at ht2
      clear htr hdm hVq hPd hPm hP hPdef hml hp1 hPlt ht hz hs1 hrl hrl2 hdg
      have hdg := digit2_pure (dvR N V j) V (L + 1) (by omega) (dvR_lt hV0) (decs_len_lt (by
        have h1 := dvR_lt (N := N) (j := j) hV0
        have h2 : 10000 ^ (L + 1) = 10000 ^ L * 10000 := Nat.pow_succ ..
        have := Nat.mul_lt_mul_of_pos_right hV (show 0 < 10000 by decide)
        omega)) (by omega)
      rw [dvR_div hV0] at hdg
      have hs0 := sized_nil 1
      generalize numsD .i64 (digL (dvS (N / V) (j + 1)) len) = C at *
      generalize numsD .i64 (digL (dvS (N / V) j) len) = C2 at *
      generalize tg (N / V) j = q at *
      generalize tg N j = x at *
      unfold intL at *
      generalize decs (N / 10000 ^ j % V) = LR at *
      generalize decs (dvR N V j) = LP at *
      generalize decs (V * q) = LM at *
      generalize decs N = LN at *
      generalize decs V = LV at *
      refine awp_cutP 1 0 0 (Nat.le_refl _) (Nat.le_refl _) (Nat.le_refl _) ?_
      rw [← hset] at hC2r
      refine crun [] ⟨[0, 1, 6, 7, 8], [], [], none⟩ [(14, .el (PD.v (Value.int IntKind.i64 (↑x : Int)))), (15, .el (PD.v (Value.int IntKind.i64 (↑x : Int)))), (19, .call (AEnd.ret (PD.sl (nums IntKind.i64 LP)))), (26, .call (AEnd.ret (PD.v (Value.int IntKind.i64 (↑q : Int))))), (34, .bi), (35, .sb), (42, .call (AEnd.ret (PD.sl (nums IntKind.i64 LM)))), (43, .call (AEnd.ret (PD.tup [PD.sl (nums IntKind.i64 LR), PD.v (Value.bool true)]))), (56, .w (DV.p (PD.v (Value.int IntKind.i64 ((↑j : Int) - 1)))))] (AX.norm) (St.mk (mkT 49 [(0, DV.p (PD.sl (nums IntKind.i64 LN))), (1, DV.p (PD.sl (nums IntKind.i64 LV))), (6, DV.bsl 0 0 1 len len), (7, DV.p (PD.sl (nums IntKind.i64 LR))), (8, DV.p (PD.v (Value.int IntKind.i64 ((↑j : Int) - 1))))]) (Mem.mk [Box.mk 3 ((Box.mk 3 C false).cells.set (0 + (↑j : Int).toNat * 1) (DV.p (PD.v (Value.int IntKind.i64 (↑q : Int))))) false, Box.mk 3 [DV.p (PD.v (Value.int IntKind.i64 (↑x : Int)))] true] [] [])) (.c (congrArg (fun z => DV.p (PD.v (Go.Value.int IntKind.i64 z))) rwj3) (.c (hsu) (.c (htm) (.c (show (0 : Nat) + (↑j : Int).toNat * (1 : Nat) < C.length by first | omega | (simp; done) | (simp; omega)) (.c (And.intro (nn0 (j)) (show (↑j : Int) < (↑len : Int) by omega)) (.c (hdg) (.c (ht2) (.c hxa (.c (And.intro hxa (nn0 (j))) .n))))))))) (by kernel_rfl) ?_
      refine ⟨by unfold St.refs; rw [Bool.and_eq_true]; exact ⟨rfl, by simp only [Int.toNat_natCast, Nat.mul_one, Nat.zero_add, List.take_succ_cons, List.take_zero, List.all_cons, List.all_nil, Bool.and_true]; exact hC2r⟩, rfl, ?_⟩; exact hK _ (by omega) (by rw [← hset]; simp only [Int.toNat_natCast, Nat.mul_one, Nat.zero_add]; rfl) trivial
    · rw [if_neg hf]
      clear htr hdm hVq hPd hPm hP hPdef hml hp1 hPlt ht
      generalize numsD .i64 (digL (dvS (N / V) (j + 1)) len) = C at *
      generalize numsD .i64 (digL (dvS (N / V) j) len) = C2 at *
      generalize tg (N / V) j = q at *
      generalize tg N j = x at *
      unfold intL at *
      generalize decs (N / 10000 ^ (j + 1) % V) = LS at *
      generalize decs (N / 10000 ^ j % V) = LR at *
      generalize decs (dvR N V j) = LP at *
      generalize decs (V * q) = LM at *
      generalize decs N = LN at *
      generalize decs V = LV at *
      refine awp_cutP 1 0 0 (Nat.le_refl _) (Nat.le_refl _) (Nat.le_refl _) ?_
      rw [← hset] at hC2r
      refine crun [] ⟨[0, 1, 6, 7, 8], [], [], none⟩ [(14, .el (PD.v (Value.int IntKind.i64 (↑x : Int)))), (15, .el (PD.v (Value.int IntKind.i64 (↑x : Int)))), (18, .m), (19, .call (AEnd.ret (PD.sl (nums IntKind.i64 LP)))), (26, .call (AEnd.ret (PD.v (Value.int IntKind.i64 (↑q : Int))))), (34, .bi), (35, .sb), (42, .call (AEnd.ret (PD.sl (nums IntKind.i64 LM)))), (43, .call (AEnd.ret (PD.tup [PD.sl (nums IntKind.i64 LR), PD.v (Value.bool true)]))), (56, .w (DV.p (PD.v (Value.int IntKind.i64 ((↑j : Int) - 1)))))] (AX.norm) (St.mk (mkT 49 [(0, DV.p (PD.sl (nums IntKind.i64 LN))), (1, DV.p (PD.sl (nums IntKind.i64 LV))), (6, DV.bsl 0 0 1 len len), (7, DV.p (PD.sl (nums IntKind.i64 LR))), (8, DV.p (PD.v (Value.int IntKind.i64 ((↑j : Int) - 1))))]) (Mem.mk [Box.mk 3 ((Box.mk 3 C false).cells.set (0 + (↑j : Int).toNat * 1) (DV.p (PD.v (Value.int IntKind.i64 (↑q : Int))))) false, Box.mk 3 [DV.p (PD.v (Value.int IntKind.i64 (↑x : Int)))] true] [] [])) (.c (congrArg (fun z => DV.p (PD.v (Go.Value.int IntKind.i64 z))) rwj3) (.c (hsu) (.c (htm) (.c (show (0 : Nat) + (↑j : Int).toNat * (1 : Nat) < C.length by first | omega | (simp; done) | (simp; omega)) (.c (And.intro (nn0 (j)) (show (↑j : Int) < (↑len : Int) by omega)) (.c (hdg) (.c (ht2) (.c (show AppOK (1 : Nat) (8 : Nat) (1 : Nat) [PD.v (Value.int IntKind.i64 (↑x : Int))] (nums IntKind.i64 LS) by exact ⟨by first | rfl | omega | (simp; done) | (simp; omega), by first | assumption | exact nums_sized _ _ | simp [sized_nil, sized_one, sized_append, sized_map, nums_sized, nums_append], by first | assumption | exact nums_sized _ _ | simp [sized_nil, sized_one, sized_append, sized_map, nums_sized, nums_append], by first | omega | (simp <;> omega), by first | omega | (simp <;> omega)⟩) (.c hxa (.c (And.intro hxa (nn0 (j))) .n)))))))))) (by kernel_rfl) ?_
      refine ⟨by unfold St.refs; rw [Bool.and_eq_true]; exact ⟨rfl, by simp only [Int.toNat_natCast, Nat.mul_one, Nat.zero_add, List.take_succ_cons, List.take_zero, List.all_cons, List.all_nil, Bool.and_true]; exact hC2r⟩, rfl, ?_⟩; exact hK _ (by omega) (by rw [← hset]; simp only [Int.toNat_natCast, Nat.mul_one, Nat.zero_add]; rfl) trivial
end Go.Proofs.YtikfefjaeejeeaaGreatDoor
/- Walks: the greatest common divisor; how many bits; a rational made. -/
namespace Go.Proofs.YtikfefjaeejeeaaGreatDoor
open Go.RowKit
set_option maxRecDepth 100000
theorem divmod_pure (la lb : List Int) (ha : la.length ≤ 1073741800) (hb : lb.length ≤ 1073741800) (da : Dig la) (db : Dig lb) (h0 : val lb ≠ 0) : Pure Tryz.prog 186 [natL la, natL lb] (.ret (.tup [natL (limbs (val la / val lb)), natL (limbs (val la % val lb)), intP 0])) := by
  by_cases h : val la < val lb
  · exact divmod_less la lb ha hb da db h
  · by_cases h1 : (limbs (val lb)).length = 1
    · exact divmod_one la lb ha hb da db (by omega) h1
    · have t1 := trim_pure la (by omega)
      have t2 := trim_pure lb (by omega)
      have l1 := trimmed_length_le la
      rw [← limbs_val da] at t1 l1
      rw [← limbs_val db] at t2
      have hne : (limbs (val lb)).length ≠ 0 := fun hh => h0 (limbs_nil.1 (List.eq_nil_of_length_eq_zero hh))
      exact divmod_long (val la) (val lb) ((limbs (val lb)).length - 2) _ rfl (by omega) (by omega) (by omega) la lb t1 t2
def eu (a b : Nat) : Nat → Nat × Nat
  | 0 => (a, b)
  | k + 1 => ((eu a b k).2, (eu a b k).1 % (eu a b k).2)
def gcS (a b k : Nat) : St := ⟨mkT 25 [(0, .p (natL (limbs (eu a b k).1))), (1, .p (natL (limbs (eu a b k).2)))], ⟨[], [], []⟩⟩
theorem gcd_loop (a b L : Nat) (hL : L ≤ 1073741800) (ha : a < 4294967296 ^ L) (hb : b < 4294967296 ^ L) : LoopOK Tryz.prog (loopB Tryz.prog 149 0) (gcS a b 0) (.exit 0) ⟨mkT 25 [(0, .p (natL (limbs (Nat.gcd a b))))], ⟨[], [], []⟩⟩ := by
  refine loop_ix [0, 1] (gcS a b) b (fun k => (eu a b k).2 + k ≤ b ∧ Nat.gcd (eu a b k).1 (eu a b k).2 = Nat.gcd a b ∧ (eu a b k).1 < 4294967296 ^ L ∧ (eu a b k).2 < 4294967296 ^ L) ⟨by simp [eu], rfl, ha, hb⟩ (fun _ => rfl) ?_
  rintro k hk ⟨i1, i2, i3, i4⟩ ro K Q hQ hK
  have e1 : (eu a b (k + 1)).1 = (eu a b k).2 := rfl
  have e2 : (eu a b (k + 1)).2 = (eu a b k).1 % (eu a b k).2 := rfl
  unfold gcS at hK ⊢
  rw [e1, e2] at hK
  clear e1 e2
  generalize (eu a b k).1 = x at *
  generalize (eu a b k).2 = y at *
  have hl : (nums .u32 (limbs y)).length = (limbs y).length := nums_length _ _
  by_cases h0 : y = 0
  · subst h0
    rw [Nat.gcd_zero_right] at i2
    rw [← i2] at hQ
    rw [limbs_zero]
    refine crun [] ⟨[0], [], [], none⟩ [] (AX.exit 0) (St.mk (mkT 25 [(0, DV.p (PD.sl (nums IntKind.u32 (limbs x))))]) (Mem.mk [] [] [])) .n (by kernel_rfl) ?_
    exact hQ
  · have hlp : 0 < (limbs y).length := by
      rcases Nat.eq_zero_or_pos (limbs y).length with hh | hh
      · exact absurd (limbs_nil.1 (List.eq_nil_of_length_eq_zero hh)) h0
      · exact hh
    have hdm := divmod_pure (limbs x) (limbs y) (Nat.le_trans (limbs_len_lt.2 i3) hL) (Nat.le_trans (limbs_len_lt.2 i4) hL) (dig_limbs _) (dig_limbs _) (by rw [val_limbs]; exact h0)
    rw [val_limbs, val_limbs] at hdm
    have hml := Nat.mod_lt x (Nat.pos_of_ne_zero h0)
    have hg : Nat.gcd y (x % y) = Nat.gcd a b := by rw [← i2, Nat.gcd_comm x y, Nat.gcd_rec y x, Nat.gcd_comm]
    have hnext := fun s1 h1 h2 => hK s1 h1 h2 ⟨by omega, hg, i4, Nat.lt_trans hml i4⟩
    clear hK i2 hg
    unfold natL at *
    generalize x % y = r at *
    generalize limbs (x / y) = LQ at *
    generalize limbs r = LR at *
    generalize limbs x = LX at *
    generalize limbs y = LY at *
    refine crun [] ⟨[0, 1], [], [], none⟩ [(5, .b true), (14, .call (AEnd.ret (PD.tup [PD.sl (nums IntKind.u32 LQ), PD.sl (nums IntKind.u32 LR), PD.v (Value.int IntKind.i64 0)])))] (AX.norm) (St.mk (mkT 25 [(0, DV.p (PD.sl (nums IntKind.u32 LY))), (1, DV.p (PD.sl (nums IntKind.u32 LR)))]) (Mem.mk [] [] [])) (.c (hdm) (.c (dT (show (0 : Int) < (↑(nums IntKind.u32 LY).length : Int) by omega)) .n)) (by kernel_rfl) ?_
    exact hnext _ (by omega) rfl
theorem gcd_pure (la lb : List Int) (ha : la.length ≤ 1073741800) (hb : lb.length ≤ 1073741800) (da : Dig la) (db : Dig lb) : Pure Tryz.prog 149 [natL la, natL lb] (.ret (natL (limbs (Nat.gcd (val la) (val lb))))) := by
  have t1 := trim_pure la (by omega)
  have t2 := trim_pure lb (by omega)
  have l1 := val_lt da
  have l2 := val_lt db
  rw [← limbs_val da] at t1
  rw [← limbs_val db] at t2
  have hlo := gcd_loop (val la) (val lb) (max la.length lb.length) (by omega) (Nat.lt_of_lt_of_le l1 (Nat.pow_le_pow_right (by decide) (Nat.le_max_left _ _))) (Nat.lt_of_lt_of_le l2 (Nat.pow_le_pow_right (by decide) (Nat.le_max_right _ _)))
  have e : gcS (val la) (val lb) 0 = ⟨mkT 25 [(0, .p (natL (limbs (val la)))), (1, .p (natL (limbs (val lb))))], ⟨[], [], []⟩⟩ := rfl
  rw [e] at hlo
  clear e l1 l2
  unfold natL at *
  generalize limbs (Nat.gcd (val la) (val lb)) = LG at *
  generalize limbs (val la) = LA at *
  generalize limbs (val lb) = LB at *
  refine pure_eq (prun [] [(8, .call (AEnd.ret (PD.sl (nums IntKind.u32 LA)))), (10, .call (AEnd.ret (PD.sl (nums IntKind.u32 LB)))), (16, .code [0, 1] (AX.exit 0) (St.mk (mkT 25 [(0, DV.p (PD.sl (nums IntKind.u32 LG)))]) (Mem.mk [] [] [])))] (e := AEnd.ret (PD.sl (nums IntKind.u32 LG))) (.c (hlo) (.c (t2) (.c (t1) .n))) (by kernel_rfl)) ?_
  rfl
theorem val_eq_zero {l : List Int} (h : val l = 0) (hd : Dig l) : topW l = 0 := by
  rw [topW_eq]
  unfold topN
  rw [← limbs_val hd, h, limbs_zero]
  rfl
theorem bits_zero (l : List Int) (hl : l.length ≤ 1073741824) (hd : Dig l) (h : val l = 0) : Pure Tryz.prog 148 [natL l] (.ret (intP 0)) := by
  have ht := top_pure l (by omega)
  rw [val_eq_zero h hd] at ht
  refine pure_eq (prun [] [(8, .call (AEnd.ret (PD.v (Value.int IntKind.i64 0))))] (e := AEnd.ret (PD.v (Value.int IntKind.i64 0))) (.c (ht) .n) (by kernel_rfl)) ?_
  rfl
theorem bits_pos (l : List Int) (hl : l.length ≤ 1073741824) (hd : Dig l) (h : val l ≠ 0) : ∃ k : Int, 0 < k ∧ Pure Tryz.prog 148 [natL l] (.ret (intP k)) := by
  have ht := top_pure l (by omega)
  have hle := topW_le l
  have h1 : topW l = (limbs (val l)).length := by rw [topW_eq]; unfold topN; rw [limbs_val hd]
  have h0 : topW l ≠ 0 := fun hh => h (limbs_nil.1 (List.eq_nil_of_length_eq_zero (by rw [← h1]; exact hh)))
  obtain ⟨t, ht1⟩ : ∃ t, topW l = t + 1 := ⟨topW l - 1, by omega⟩
  obtain ⟨_, hsp⟩ := topAt_spec l l.length (Nat.le_refl _)
  have hne : l.getD t 0 ≠ 0 := by
    have e : topAt l l.length = t + 1 := ht1
    rw [e] at hsp
    rcases hsp with hh | hh
    · omega
    · exact hh
  obtain ⟨x0, x1⟩ := hd.getD t
  have hx : (nums .u32 l)[(t : Int).toNat]? = some (.v (.int .u32 (l.getD t 0))) := nums_at (by
    rw [Int.toNat_natCast, List.getElem?_eq_getElem (by omega)]; simp [List.getD, show t < l.length by omega])
  rw [ht1] at ht hle
  generalize l.getD t 0 = x at *
  have hlz := len32_pure x x0 x1
  obtain ⟨k1, _, _⟩ := Lib.bitLenAux_bounds 64 x.toNat (by omega) (by omega)
  obtain ⟨s, _, s2, _⟩ := lz_spec (x := x.toNat) (by omega) (by omega)
  have k2 : Lib.bitLen x.toNat ≤ 32 := by omega
  have k3 : 1 ≤ Lib.bitLen x.toNat := k1
  generalize Lib.bitLen x.toNat = bl at *
  have rw1 : IntKind.i64.wrap (((t + 1 : Nat) : Int) - 1) = (t : Int) := by rw [wrap64_id (by omega) (by omega)]; omega
  have rw2 : IntKind.i64.wrap (32 * (t : Int)) = 32 * (t : Int) := wrap64_id (by omega) (by omega)
  have rw3 : IntKind.i64.wrap (32 * (t : Int) + (bl : Int)) = 32 * (t : Int) + (bl : Int) := wrap64_id (by omega) (by omega)
  refine ⟨32 * (t : Int) + (bl : Int), by omega, ?_⟩
  have htz : ¬ ((t + 1 : Nat) : Int) = 0 := by omega
  have hlen : (nums .u32 l).length = l.length := nums_length _ _
  clear hsp h1 h0 ht1 hd h hne
  unfold natL at *
  generalize nums .u32 l = L at *
  refine pure_eq (prun [] [(8, .call (AEnd.ret (PD.v (Value.int IntKind.i64 (↑(t + 1) : Int))))), (22, .w (DV.p (PD.v (Value.int IntKind.i64 (↑t : Int))))), (23, .w (DV.p (PD.v (Value.int IntKind.i64 (32 * (↑t : Int)))))), (26, .w (DV.p (PD.v (Value.int IntKind.i64 (↑t : Int))))), (27, .el (PD.v (Value.int IntKind.u32 x))), (28, .el (PD.v (Value.int IntKind.u32 x))), (29, .call (AEnd.ret (PD.v (Value.int IntKind.i64 (↑bl : Int))))), (30, .w (DV.p (PD.v (Value.int IntKind.i64 (32 * (↑t : Int) + (↑bl : Int))))))] (e := AEnd.ret (PD.v (Value.int IntKind.i64 (32 * (↑t : Int) + (↑bl : Int))))) (.c (congrArg (fun z => DV.p (PD.v (Go.Value.int IntKind.i64 z))) rw3) (.c (hlz) (.c hx (.c (And.intro hx (nn0 (t))) (.c (congrArg (fun z => DV.p (PD.v (Go.Value.int IntKind.i64 z))) rw1) (.c (congrArg (fun z => DV.p (PD.v (Go.Value.int IntKind.i64 z))) rw2) (.c (congrArg (fun z => DV.p (PD.v (Go.Value.int IntKind.i64 z))) rw1) (.c (ht) .n)))))))) (by kernel_rfl)) ?_
  rfl
end Go.Proofs.YtikfefjaeejeeaaGreatDoor
