/- Walks and laws, laid together: WeF WeG GMath WeE WeH WdA WdB WdC Wa7 Wa8. -/
import Derived.Test.YtikfefjaeejeeaaGreatDoorMa2
import Derived.WalkKit
import Derived.Test.YtikfefjaeejeeaaGreatDoorMa1
import Derived.Test.YtikfefjaeejeeaaGreatDoorAeX
/- Walks: the document's numbers, one against the other. -/
namespace Go.Proofs.YtikfefjaeejeeaaGreatDoor
open Go.RowKit
set_option maxRecDepth 100000
def cmpV (x y : Nat) : Int := if x < y then -1 else if y < x then 1 else 0
theorem cmpV_div {x y P : Nat} (h : x / P < y / P) : x < y := by
  rcases Nat.lt_or_ge x y with h1 | h1
  · exact h1
  · have := Nat.div_le_div_right (c := P) h1
    omega
theorem cmpV_len {x y : Nat} (h : (decs x).length < (decs y).length) : x < y := by
  have h1 := (decs_len_le x (decs x).length).1 (Nat.le_refl _)
  have h2 := (decs_lt y (decs x).length).1 h
  exact cmpV_div (P := 10000 ^ (decs x).length) (by rw [h1]; exact Nat.pos_of_ne_zero h2)
theorem div_step (x P : Nat) : x / P = 10000 * (x / (P * 10000)) + x / P % 10000 := by
  rw [← Nat.div_div_eq_div_mul]
  exact (Nat.div_add_mod _ _).symm
def cmS (x y m : Nat) : St := ⟨mkT 41 [(0, .p (intL (decs x))), (1, .p (intL (decs y))), (4, .p (intP 0)), (5, .p (intP ((m : Int) - 1)))], ⟨[], [], []⟩⟩
set_option maxHeartbeats 2000000 in
theorem rcmp_loop (x y : Nat) (hl : (decs x).length = (decs y).length) (hx : (decs x).length ≤ 1073741824) : LoopOK Tryz.prog (loopB Tryz.prog 94 0) (cmS x y (decs x).length) (if x = y then .exit 0 else .ret) ⟨mkT 41 [(4, .p (intP (cmpV x y)))], ⟨[], [], []⟩⟩ := by
  refine loop_ix [0, 1, 4, 5] (fun k => cmS x y ((decs x).length - k)) (decs x).length (fun k => x / 10000 ^ ((decs x).length - k) = y / 10000 ^ ((decs x).length - k)) ?_ (fun _ => rfl) ?_
  · have h1 := (decs_len_le x (decs x).length).1 (Nat.le_refl _)
    have h2 := (decs_len_le y (decs x).length).1 (by omega)
    show x / 10000 ^ ((decs x).length - 0) = y / 10000 ^ ((decs x).length - 0)
    rw [Nat.sub_zero, h1, h2]
  intro k hk hI ro K Q hQ hK
  obtain ⟨m, hm⟩ : ∃ m, m = (decs x).length - k := ⟨_, rfl⟩
  simp only [← hm] at hI ⊢
  cases m with
  | zero =>
    have hxy : x = y := by simpa using hI
    have e : cmpV x y = 0 := by unfold cmpV; rw [if_neg (by omega), if_neg (by omega)]
    rw [if_pos hxy, e] at hQ
    unfold cmS
    refine crun [] ⟨[4], [], [], none⟩ [] (AX.exit 0) (St.mk (mkT 41 [(4, DV.p (PD.v (Value.int IntKind.i64 0)))]) (Mem.mk [] [] [])) .n (by kernel_rfl) ?_
    exact hQ
  | succ j =>
    have hj : j < (decs x).length := by omega
    have hn : ((j + 1 : Nat) : Int) - 1 = (j : Int) := by omega
    have gx := nums_at (q := .i64) (decs_get ((decs_lt x j).1 hj))
    have gy := nums_at (q := .i64) (decs_get ((decs_lt y j).1 (by omega)))
    have sx := div_step x (10000 ^ j)
    have sy := div_step y (10000 ^ j)
    rw [← Nat.pow_succ, hI] at sx
    rw [← Nat.pow_succ] at sy
    have hst : (decs x).length - (k + 1) = j := by omega
    rw [hst] at hK
    have hlt : x / 10000 ^ j < y / 10000 ^ j → x < y := cmpV_div
    have hgt : y / 10000 ^ j < x / 10000 ^ j → y < x := cmpV_div
    have rw6 : IntKind.i64.wrap ((j : Int) - 1) = (j : Int) - 1 := wrap64_id (by omega) (by omega)
    unfold cmS at hK ⊢
    rw [hn]
    generalize y / 10000 ^ (j + 1) = q at sx sy
    generalize x / 10000 ^ j % 10000 = X at gx sx
    generalize y / 10000 ^ j % 10000 = Y at gy sy
    generalize x / 10000 ^ j = SX at *
    generalize y / 10000 ^ j = SY at *
    by_cases c1 : (X : Int) < (Y : Int)
    · have hlt2 := hlt (by omega)
      have e : cmpV x y = -1 := if_pos hlt2
      rw [if_neg (by omega), e] at hQ
      refine crun [] ⟨[4], [], [], none⟩ [(15, .el (PD.v (Value.int IntKind.i64 (↑X : Int)))), (16, .el (PD.v (Value.int IntKind.i64 (↑X : Int)))), (19, .el (PD.v (Value.int IntKind.i64 (↑Y : Int)))), (20, .el (PD.v (Value.int IntKind.i64 (↑Y : Int)))), (21, .b true)] (AX.ret) (St.mk (mkT 41 [(4, DV.p (PD.v (Value.int IntKind.i64 (-1))))]) (Mem.mk [] [] [])) (.c (dT c1) (.c gy (.c (And.intro gy (nn0 (j))) (.c gx (.c (And.intro gx (nn0 (j))) .n))))) (by kernel_rfl) ?_
      exact hQ
    · by_cases c2 : (Y : Int) < (X : Int)
      · have hgt2 := hgt (by omega)
        have e : cmpV x y = 1 := by unfold cmpV; rw [if_neg (by omega), if_pos hgt2]
        rw [if_neg (by omega), e] at hQ
        refine crun [] ⟨[4], [], [], none⟩ [(15, .el (PD.v (Value.int IntKind.i64 (↑X : Int)))), (16, .el (PD.v (Value.int IntKind.i64 (↑X : Int)))), (19, .el (PD.v (Value.int IntKind.i64 (↑Y : Int)))), (20, .el (PD.v (Value.int IntKind.i64 (↑Y : Int)))), (21, .b false), (29, .el (PD.v (Value.int IntKind.i64 (↑X : Int)))), (30, .el (PD.v (Value.int IntKind.i64 (↑X : Int)))), (33, .el (PD.v (Value.int IntKind.i64 (↑Y : Int)))), (34, .el (PD.v (Value.int IntKind.i64 (↑Y : Int)))), (35, .b true)] (AX.ret) (St.mk (mkT 41 [(4, DV.p (PD.v (Value.int IntKind.i64 1)))]) (Mem.mk [] [] [])) (.c (dT c2) (.c gy (.c (And.intro gy (nn0 (j))) (.c gx (.c (And.intro gx (nn0 (j))) (.c (dF c1) (.c gy (.c (And.intro gy (nn0 (j))) (.c gx (.c (And.intro gx (nn0 (j))) .n)))))))))) (by kernel_rfl) ?_
        exact hQ
      · refine crun [] ⟨[0, 1, 4, 5], [], [], none⟩ [(15, .el (PD.v (Value.int IntKind.i64 (↑X : Int)))), (16, .el (PD.v (Value.int IntKind.i64 (↑X : Int)))), (19, .el (PD.v (Value.int IntKind.i64 (↑Y : Int)))), (20, .el (PD.v (Value.int IntKind.i64 (↑Y : Int)))), (21, .b false), (29, .el (PD.v (Value.int IntKind.i64 (↑X : Int)))), (30, .el (PD.v (Value.int IntKind.i64 (↑X : Int)))), (33, .el (PD.v (Value.int IntKind.i64 (↑Y : Int)))), (34, .el (PD.v (Value.int IntKind.i64 (↑Y : Int)))), (35, .b false), (41, .w (DV.p (PD.v (Value.int IntKind.i64 ((↑j : Int) - 1)))))] (AX.norm) (St.mk (mkT 41 [(0, DV.p (PD.sl (nums IntKind.i64 (decs x)))), (1, DV.p (PD.sl (nums IntKind.i64 (decs y)))), (4, DV.p (PD.v (Value.int IntKind.i64 0))), (5, DV.p (PD.v (Value.int IntKind.i64 ((↑j : Int) - 1))))]) (Mem.mk [] [] [])) (.c (congrArg (fun z => DV.p (PD.v (Go.Value.int IntKind.i64 z))) rw6) (.c (dF c2) (.c gy (.c (And.intro gy (nn0 (j))) (.c gx (.c (And.intro gx (nn0 (j))) (.c (dF c1) (.c gy (.c (And.intro gy (nn0 (j))) (.c gx (.c (And.intro gx (nn0 (j))) .n))))))))))) (by kernel_rfl) ?_
        exact hK _ (by omega) rfl (by omega)
theorem rcmp_pure (x y : Nat) (hx : (decs x).length ≤ 1073741824) (hy : (decs y).length ≤ 1073741824) : Pure Tryz.prog 94 [intL (decs x), intL (decs y)] (.ret (intP (cmpV x y))) := by
  have lx : (nums .i64 (decs x)).length = (decs x).length := nums_length _ _
  have ly : (nums .i64 (decs y)).length = (decs y).length := nums_length _ _
  by_cases hl : (decs x).length = (decs y).length
  · have hlo := rcmp_loop x y hl hx
    have rw6 : IntKind.i64.wrap (((nums .i64 (decs x)).length : Int) - 1) = ((decs x).length : Int) - 1 := by rw [lx]; exact wrap64_id (by omega) (by omega)
    unfold cmS at hlo
    have heq : ((nums .i64 (decs x)).length : Int) = ((nums .i64 (decs y)).length : Int) := by omega
    by_cases hxy : x = y
    · rw [if_pos hxy] at hlo
      have e0 : cmpV x y = 0 := by unfold cmpV; rw [if_neg (by omega), if_neg (by omega)]
      rw [e0] at hlo ⊢
      refine pure_eq (prun [] [(12, .b false), (21, .w (DV.p (PD.v (Value.int IntKind.i64 ((↑(decs x).length : Int) - 1))))), (25, .code [0, 1, 4, 5] (AX.exit 0) (St.mk (mkT 41 [(4, DV.p (intP 0))]) (Mem.mk [] [] [])))] (e := AEnd.ret (PD.v (Value.int IntKind.i64 0))) (.c (hlo) (.c (congrArg (fun z => DV.p (PD.v (Go.Value.int IntKind.i64 z))) rw6) (.c (neF heq) .n))) (by kernel_rfl)) ?_
      rfl
    · rw [if_neg hxy] at hlo
      refine pure_eq (prun [] [(12, .b false), (21, .w (DV.p (PD.v (Value.int IntKind.i64 ((↑(decs x).length : Int) - 1))))), (25, .code [0, 1, 4, 5] (AX.ret) (St.mk (mkT 41 [(4, DV.p (intP (cmpV x y)))]) (Mem.mk [] [] [])))] (e := AEnd.ret (PD.v (Value.int IntKind.i64 (cmpV x y)))) (.c (hlo) (.c (congrArg (fun z => DV.p (PD.v (Go.Value.int IntKind.i64 z))) rw6) (.c (neF heq) .n))) (by kernel_rfl)) ?_
      rfl
  · by_cases h2 : (decs x).length < (decs y).length
    · have e : cmpV x y = -1 := if_pos (cmpV_len h2)
      rw [e]
      refine pure_eq (prun [] [(12, .b true), (22, .b true)] (e := AEnd.ret (PD.v (Value.int IntKind.i64 (-1)))) (.c (dT (show (↑(nums IntKind.i64 (decs x)).length : Int) < (↑(nums IntKind.i64 (decs y)).length : Int) by omega)) (.c (neT (show ¬ (↑(nums IntKind.i64 (decs x)).length : Int) = (↑(nums IntKind.i64 (decs y)).length : Int) by omega)) .n)) (by kernel_rfl)) ?_
      rfl
    · have h3 := cmpV_len (x := y) (y := x) (by omega)
      have e : cmpV x y = 1 := by unfold cmpV; rw [if_neg (by omega), if_pos h3]
      rw [e]
      refine pure_eq (prun [] [(12, .b true), (22, .b false)] (e := AEnd.ret (PD.v (Value.int IntKind.i64 1))) (.c (dF (show ¬ (↑(nums IntKind.i64 (decs x)).length : Int) < (↑(nums IntKind.i64 (decs y)).length : Int) by omega)) (.c (neT (show ¬ (↑(nums IntKind.i64 (decs x)).length : Int) = (↑(nums IntKind.i64 (decs y)).length : Int) by omega)) .n)) (by kernel_rfl)) ?_
      rfl
end Go.Proofs.YtikfefjaeejeeaaGreatDoor
/- Walks: the document's difference. -/
namespace Go.Proofs.YtikfefjaeejeeaaGreatDoor
open Go.RowKit
set_option maxRecDepth 100000
def digZ (z k : Nat) : List Int := (List.range k).map fun i => ((z / 10000 ^ i % 10000 : Nat) : Int)
theorem digZ_len (z k : Nat) : (digZ z k).length = k := by simp [digZ]
theorem digZ_succ (z k : Nat) : digZ z (k + 1) = digZ z k ++ [((z / 10000 ^ k % 10000 : Nat) : Int)] := by simp [digZ, List.range_succ]
theorem digZ_dig (z k : Nat) : DigT (digZ z k) := fun q hq => by
  simp only [digZ, List.mem_map] at hq
  obtain ⟨i, _, rfl⟩ := hq
  have := Nat.mod_lt (z / 10000 ^ i) (show 0 < 10000 by decide)
  omega
theorem digZ_val (z : Nat) : ∀ k, valT (digZ z k) = z % 10000 ^ k
  | 0 => by simp [digZ, valT, Nat.mod_one]
  | k + 1 => by
    rw [digZ_succ, valT_snoc, digZ_val z k, digZ_len, Int.toNat_natCast, Nat.pow_succ, Nat.mod_mul]
theorem digZ_trim {z k : Nat} (h : (decs z).length ≤ k) : trimT (digZ z k) = decs z := by
  rw [← decs_valT (digZ_dig _ _), digZ_val]
  have h0 := (decs_len_le z k).1 h
  have hlt : z < 10000 ^ k := by
    rcases Nat.lt_or_ge z (10000 ^ k) with h | h
    · exact h
    · have := Nat.div_pos h (Nat.pow_pos (by decide)); omega
  rw [Nat.mod_eq_of_lt hlt]
def suS (z y k : Nat) : St := ⟨mkT 40 [(0, .p (intL (decs (z + y)))), (1, .p (intL (decs y))), (6, rowC k (nums .i64 (digZ z k))), (7, .p (intP (cyA z y k))), (8, .p (intP k))], ⟨[], tokC 3 1 k, []⟩⟩
set_option maxHeartbeats 2000000 in
theorem sub_loop (z y : Nat) (hx : (decs (z + y)).length ≤ 1073741823) (hy : (decs y).length ≤ 1073741823) : LoopOK Tryz.prog (loopB Tryz.prog 176 0) (suS z y 0) (.exit 0) ⟨mkT 40 [(6, rowC (decs (z + y)).length (nums .i64 (digZ z (decs (z + y)).length)))], ⟨[], tokC 3 1 (decs (z + y)).length, []⟩⟩ := by
  refine loop_ix [0, 1, 6, 7, 8] (suS z y) (decs (z + y)).length (fun _ => True) trivial (fun _ => rfl) ?_
  intro k hk _ ro K Q hQ hK
  obtain ⟨_, hc⟩ := cyA_spec z y k
  have hnx := cyA_next z y k
  obtain ⟨_, hc2⟩ := cyA_spec z y (k + 1)
  have d2 := digit_pure (decs y) k (by omega) (by omega)
  rw [decs_getD] at d2
  have hlx : (nums .i64 (decs (z + y))).length = (decs (z + y)).length := nums_length _ _
  have hw := wrap64_succ (k := k) (by omega)
  by_cases hlt : k < (decs (z + y)).length
  · have gx := nums_at (q := .i64) (decs_get ((decs_lt (z + y) k).1 hlt))
    have hts := digZ_succ z k
    have e3 : suS z y (k + 1) = ⟨mkT 40 [(0, .p (intL (decs (z + y)))), (1, .p (intL (decs y))), (6, .row 0 (nums .i64 (digZ z k) ++ [.v (.int .i64 ((z / 10000 ^ k % 10000 : Nat) : Int))])), (7, .p (intP (cyA z y (k + 1)))), (8, .p (intP (k + 1 : Nat)))], ⟨[], [some (3, 1, (nums .i64 (digZ z k)).length + 1)], []⟩⟩ := by
      unfold suS
      rw [rowC_pos (by omega), tokC_pos (by omega), hts, ← nums_snoc, nums_length, digZ_len]
    rw [e3] at hK
    have hl2 : (nums .i64 (digZ z k)).length = k := by rw [nums_length, digZ_len]
    have s0 := nums_sized .i64 (digZ z k)
    have hm : z / 10000 ^ k % 10000 < 10000 := Nat.mod_lt _ (by decide)
    have X1 : (z + y) / 10000 ^ k % 10000 < 10000 := Nat.mod_lt _ (by decide)
    have Y1 : y / 10000 ^ k % 10000 < 10000 := Nat.mod_lt _ (by decide)
    unfold suS
    clear hts e3
    generalize (z + y) / 10000 ^ k % 10000 = X at gx hnx X1
    generalize y / 10000 ^ k % 10000 = Y at d2 hnx Y1
    generalize z / 10000 ^ k % 10000 = M at hnx hK hm
    generalize cyA z y (k + 1) = c2 at hnx hc2 hK
    generalize cyA z y k = c at hnx hc ⊢
    have rwa : IntKind.i64.wrap ((X : Int) - (Y : Int)) = (X : Int) - Y := wrap64_id (by omega) (by omega)
    have rwb : IntKind.i64.wrap ((X : Int) - (Y : Int) - (c : Int)) = (X : Int) - Y - c := wrap64_id (by omega) (by omega)
    have sn : sized 1 [PD.v (.int .i64 (M : Int))] := sized_one rfl
    by_cases h1 : c2 = 0
    · have rwc : (X : Int) - Y - c = (M : Int) := by omega
      replace rwb := rwb.trans rwc
      clear rwc
      have hM0 : ¬ (M : Int) < 0 := by omega
      rw [h1] at hK
      by_cases h0 : k = 0
      · have s1 := sized_nil 1
        have e1 : ∀ L, rowC k L = .p (.v (.slice none 0 0)) := fun L => by rw [h0]; rfl
        have e2 : tokC 3 1 k = [] := by rw [h0]; rfl
        have e4 : nums .i64 (digZ z k) = [] := by rw [h0]; rfl
        rw [e1, e2]
        rw [e4] at hK
        refine crun [] ⟨[0, 1, 6, 7, 8], [], [], (some (0, 1, 0))⟩ [(6, .b true), (16, .el (PD.v (Value.int IntKind.i64 (↑X : Int)))), (17, .el (PD.v (Value.int IntKind.i64 (↑X : Int)))), (20, .call (AEnd.ret (PD.v (Value.int IntKind.i64 (↑Y : Int))))), (21, .w (DV.p (PD.v (Value.int IntKind.i64 ((↑X : Int) - (↑Y : Int)))))), (23, .w (DV.p (PD.v (Value.int IntKind.i64 (↑M : Int)))))] (AX.norm) (St.mk (mkT 40 [(0, DV.p (PD.sl (nums IntKind.i64 (decs (z + y))))), (1, DV.p (PD.sl (nums IntKind.i64 (decs y)))), (6, DV.row 0 [PD.v (Value.int IntKind.i64 (↑M : Int))]), (7, DV.p (PD.v (Value.int IntKind.i64 0))), (8, DV.p (PD.v (Value.int IntKind.i64 (IntKind.i64.wrap ((↑k : Int) + 1)))))]) (Mem.mk [] [some (3, 1, 1)] [])) (.c (congrArg (fun z => DV.p (PD.v (Go.Value.int IntKind.i64 z))) rwb) (.c (congrArg (fun z => DV.p (PD.v (Go.Value.int IntKind.i64 z))) rwa) (.c (d2) (.c gx (.c (And.intro gx (nn0 (k))) (.c (dT (show (↑k : Int) < (↑(nums IntKind.i64 (decs (z + y))).length : Int) by omega)) .n)))))) (by kernel_rfl) ?_
        exact hK _ hlt (by simp only [hw]; rfl) trivial
      · rw [rowC_pos h0, tokC_pos h0]
        generalize nums .i64 (digZ z k) = L at *
        subst hl2
        refine crun [] ⟨[0, 1, 6, 7, 8], [], [], (some (0, 1, 0))⟩ [(6, .b true), (16, .el (PD.v (Value.int IntKind.i64 (↑X : Int)))), (17, .el (PD.v (Value.int IntKind.i64 (↑X : Int)))), (20, .call (AEnd.ret (PD.v (Value.int IntKind.i64 (↑Y : Int))))), (21, .w (DV.p (PD.v (Value.int IntKind.i64 ((↑X : Int) - (↑Y : Int)))))), (23, .w (DV.p (PD.v (Value.int IntKind.i64 (↑M : Int))))), (42, .m)] (AX.norm) (St.mk (mkT 40 [(0, DV.p (PD.sl (nums IntKind.i64 (decs (z + y))))), (1, DV.p (PD.sl (nums IntKind.i64 (decs y)))), (6, DV.row 0 (L ++ [PD.v (Value.int IntKind.i64 (↑M : Int))])), (7, DV.p (PD.v (Value.int IntKind.i64 0))), (8, DV.p (PD.v (Value.int IntKind.i64 (IntKind.i64.wrap ((↑L.length : Int) + 1)))))]) (Mem.mk [] [some (3, 1, L.length + [PD.v (Value.int IntKind.i64 (↑M : Int))].length)] [])) (.c (show AppOK (1 : Nat) (8 : Nat) L.length L [PD.v (Value.int IntKind.i64 (↑M : Int))] by exact ⟨by first | rfl | omega | (simp; done) | (simp; omega), by first | assumption | exact nums_sized _ _ | simp [sized_nil, sized_one, sized_append, sized_map, nums_sized, nums_append], by first | assumption | exact nums_sized _ _ | simp [sized_nil, sized_one, sized_append, sized_map, nums_sized, nums_append], by first | omega | (simp <;> omega), by first | omega | (simp <;> omega)⟩) (.c (congrArg (fun z => DV.p (PD.v (Go.Value.int IntKind.i64 z))) rwb) (.c (congrArg (fun z => DV.p (PD.v (Go.Value.int IntKind.i64 z))) rwa) (.c (d2) (.c gx (.c (And.intro gx (nn0 (L.length))) (.c (dT (show (↑L.length : Int) < (↑(nums IntKind.i64 (decs (z + y))).length : Int) by omega)) .n))))))) (by kernel_rfl) ?_
        exact hK _ hlt (by simp only [hw]; rfl) trivial
    · obtain rfl : c2 = 1 := by omega
      have rwc : (X : Int) - Y - c = (M : Int) - 10000 := by omega
      replace rwb := rwb.trans rwc
      clear rwc
      have rwd : IntKind.i64.wrap ((M : Int) - 10000 + 10000) = (M : Int) := by rw [Int.sub_add_cancel]; exact wrap64_id (by omega) (by omega)
      have hM0 : (M : Int) - 10000 < 0 := by omega
      by_cases h0 : k = 0
      · have s1 := sized_nil 1
        have e1 : ∀ L, rowC k L = .p (.v (.slice none 0 0)) := fun L => by rw [h0]; rfl
        have e2 : tokC 3 1 k = [] := by rw [h0]; rfl
        have e4 : nums .i64 (digZ z k) = [] := by rw [h0]; rfl
        rw [e1, e2]
        rw [e4] at hK
        refine crun [] ⟨[0, 1, 6, 7, 8], [], [], (some (0, 1, 0))⟩ [(6, .b true), (16, .el (PD.v (Value.int IntKind.i64 (↑X : Int)))), (17, .el (PD.v (Value.int IntKind.i64 (↑X : Int)))), (20, .call (AEnd.ret (PD.v (Value.int IntKind.i64 (↑Y : Int))))), (21, .w (DV.p (PD.v (Value.int IntKind.i64 ((↑X : Int) - (↑Y : Int)))))), (23, .w (DV.p (PD.v (Value.int IntKind.i64 ((↑M : Int) - 10000))))), (34, .b true), (40, .w (DV.p (PD.v (Value.int IntKind.i64 (↑M : Int)))))] (AX.norm) (St.mk (mkT 40 [(0, DV.p (PD.sl (nums IntKind.i64 (decs (z + y))))), (1, DV.p (PD.sl (nums IntKind.i64 (decs y)))), (6, DV.row 0 [PD.v (Value.int IntKind.i64 (↑M : Int))]), (7, DV.p (PD.v (Value.int IntKind.i64 1))), (8, DV.p (PD.v (Value.int IntKind.i64 (IntKind.i64.wrap ((↑k : Int) + 1)))))]) (Mem.mk [] [some (3, 1, 1)] [])) (.c (congrArg (fun z => DV.p (PD.v (Go.Value.int IntKind.i64 z))) rwd) (.c (dT hM0) (.c (congrArg (fun z => DV.p (PD.v (Go.Value.int IntKind.i64 z))) rwb) (.c (congrArg (fun z => DV.p (PD.v (Go.Value.int IntKind.i64 z))) rwa) (.c (d2) (.c gx (.c (And.intro gx (nn0 (k))) (.c (dT (show (↑k : Int) < (↑(nums IntKind.i64 (decs (z + y))).length : Int) by omega)) .n)))))))) (by kernel_rfl) ?_
        exact hK _ hlt (by simp only [hw]; rfl) trivial
      · rw [rowC_pos h0, tokC_pos h0]
        generalize nums .i64 (digZ z k) = L at *
        subst hl2
        refine crun [] ⟨[0, 1, 6, 7, 8], [], [], (some (0, 1, 0))⟩ [(6, .b true), (16, .el (PD.v (Value.int IntKind.i64 (↑X : Int)))), (17, .el (PD.v (Value.int IntKind.i64 (↑X : Int)))), (20, .call (AEnd.ret (PD.v (Value.int IntKind.i64 (↑Y : Int))))), (21, .w (DV.p (PD.v (Value.int IntKind.i64 ((↑X : Int) - (↑Y : Int)))))), (23, .w (DV.p (PD.v (Value.int IntKind.i64 ((↑M : Int) - 10000))))), (34, .b true), (40, .w (DV.p (PD.v (Value.int IntKind.i64 (↑M : Int))))), (50, .m)] (AX.norm) (St.mk (mkT 40 [(0, DV.p (PD.sl (nums IntKind.i64 (decs (z + y))))), (1, DV.p (PD.sl (nums IntKind.i64 (decs y)))), (6, DV.row 0 (L ++ [PD.v (Value.int IntKind.i64 (↑M : Int))])), (7, DV.p (PD.v (Value.int IntKind.i64 1))), (8, DV.p (PD.v (Value.int IntKind.i64 (IntKind.i64.wrap ((↑L.length : Int) + 1)))))]) (Mem.mk [] [some (3, 1, L.length + [PD.v (Value.int IntKind.i64 (↑M : Int))].length)] [])) (.c (show AppOK (1 : Nat) (8 : Nat) L.length L [PD.v (Value.int IntKind.i64 (↑M : Int))] by exact ⟨by first | rfl | omega | (simp; done) | (simp; omega), by first | assumption | exact nums_sized _ _ | simp [sized_nil, sized_one, sized_append, sized_map, nums_sized, nums_append], by first | assumption | exact nums_sized _ _ | simp [sized_nil, sized_one, sized_append, sized_map, nums_sized, nums_append], by first | omega | (simp <;> omega), by first | omega | (simp <;> omega)⟩) (.c (congrArg (fun z => DV.p (PD.v (Go.Value.int IntKind.i64 z))) rwd) (.c (dT hM0) (.c (congrArg (fun z => DV.p (PD.v (Go.Value.int IntKind.i64 z))) rwb) (.c (congrArg (fun z => DV.p (PD.v (Go.Value.int IntKind.i64 z))) rwa) (.c (d2) (.c gx (.c (And.intro gx (nn0 (L.length))) (.c (dT (show (↑L.length : Int) < (↑(nums IntKind.i64 (decs (z + y))).length : Int) by omega)) .n))))))))) (by kernel_rfl) ?_
        exact hK _ hlt (by simp only [hw]; rfl) trivial
  · have hkl : k = (decs (z + y)).length := by omega
    unfold suS
    rw [← hkl] at hQ
    generalize cyA z y k = c at *
    clear hnx d2
    by_cases h0 : k = 0
    · have e1 : ∀ L, rowC k L = .p (.v (.slice none 0 0)) := fun L => by rw [h0]; rfl
      have e2 : tokC 3 1 k = [] := by rw [h0]; rfl
      rw [e1, e2] at hQ ⊢
      refine crun [] ⟨[6], [], [], none⟩ [(6, .b false)] (AX.exit 0) (St.mk (mkT 40 [(6, DV.p (PD.v (Value.slice none 0 0)))]) (Mem.mk [] [] [])) (.c (dF (show ¬ (↑k : Int) < (↑(nums IntKind.i64 (decs (z + y))).length : Int) by omega)) .n) (by kernel_rfl) ?_
      exact hQ
    · rw [rowC_pos h0, tokC_pos h0] at hQ ⊢
      generalize nums .i64 (digZ z k) = L at *
      refine crun [] ⟨[6], [], [], none⟩ [(6, .b false)] (AX.exit 0) (St.mk (mkT 40 [(6, DV.row 0 L)]) (Mem.mk [] [some (3, 1, k)] [])) (.c (dF (show ¬ (↑k : Int) < (↑(nums IntKind.i64 (decs (z + y))).length : Int) by omega)) .n) (by kernel_rfl) ?_
      exact hQ
theorem sub_pure (z y : Nat) (hx : (decs (z + y)).length ≤ 1073741823) (hy : (decs y).length ≤ 1073741823) : Pure Tryz.prog 176 [intL (decs (z + y)), intL (decs y)] (.ret (.tup [intL (decs z), boolP true])) := by
  have hlo := sub_loop z y hx hy
  have hcm := rcmp_pure (z + y) y (by omega) (by omega)
  have hge : ¬ cmpV (z + y) y < 0 := by unfold cmpV; rw [if_neg (by omega)]; split <;> omega
  have hz : (decs z).length ≤ (decs (z + y)).length := by
    rw [decs_len_le]
    have h := (decs_len_le (z + y) (decs (z + y)).length).1 (Nat.le_refl _)
    have := Nat.div_le_div_right (c := 10000 ^ (decs (z + y)).length) (show z ≤ z + y by omega)
    exact Nat.eq_zero_of_le_zero (h ▸ this)
  have e0 : suS z y 0 = ⟨mkT 40 [(0, .p (intL (decs (z + y)))), (1, .p (intL (decs y))), (6, .p (.v (.slice none 0 0))), (7, .p (intP 0)), (8, .p (intP 0))], ⟨[], [], []⟩⟩ := by
    unfold suS
    rw [cyA_zero]
    rfl
  rw [e0] at hlo
  have ht := trimR_pure (digZ z (decs (z + y)).length) (by rw [digZ_len]; omega)
  rw [digZ_trim hz] at ht
  generalize cmpV (z + y) y = cv at hcm hge
  by_cases h0 : (decs (z + y)).length = 0
  · have e1 : ∀ L, rowC (decs (z + y)).length L = .p (.v (.slice none 0 0)) := fun L => by rw [h0]; rfl
    have e2 : tokC 3 1 (decs (z + y)).length = [] := by rw [h0]; rfl
    have e3 : digZ z (decs (z + y)).length = [] := by rw [h0]; rfl
    rw [e1, e2] at hlo
    rw [e3] at ht
    unfold intL at *
    generalize nums .i64 (decs z) = R at *
    refine pure_eq (prun [] [(11, .call (AEnd.ret (PD.v (Value.int IntKind.i64 cv)))), (12, .b false), (30, .code [0, 1, 6, 7, 8] (AX.exit 0) (St.mk (mkT 40 [(6, DV.p (PD.v (Value.slice none 0 0)))]) (Mem.mk [] [] []))), (34, .call (AEnd.ret (PD.sl R)))] (e := AEnd.ret (PD.tup [PD.sl R, PD.v (Value.bool true)])) (.c (ht) (.c (hlo) (.c (dF hge) (.c (hcm) .n)))) (by kernel_rfl)) ?_
    rfl
  · rw [rowC_pos h0, tokC_pos h0] at hlo
    have ht2 : Pure Tryz.prog 178 [.sl (nums .i64 (digZ z (decs (z + y)).length))] (.ret (intL (decs z))) := ht
    clear ht
    unfold intL at *
    generalize nums .i64 (decs z) = R at *
    generalize nums .i64 (digZ z (decs (z + y)).length) = L at *
    refine pure_eq (prun [] [(11, .call (AEnd.ret (PD.v (Value.int IntKind.i64 cv)))), (12, .b false), (30, .code [0, 1, 6, 7, 8] (AX.exit 0) (St.mk (mkT 40 [(6, DV.row 0 L)]) (Mem.mk [] [some (3, 1, (decs (z + y)).length)] []))), (34, .call (AEnd.ret (PD.sl R)))] (e := AEnd.ret (PD.tup [PD.sl R, PD.v (Value.bool true)])) (.c (ht2) (.c (hlo) (.c (dF hge) (.c (hcm) .n)))) (by kernel_rfl)) ?_
    rfl
end Go.Proofs.YtikfefjaeejeeaaGreatDoor
/- Limbs: lists of 32-bit digits and the numbers that they are. Plain Lean, no program. -/
namespace Go.Proofs.YtikfefjaeejeeaaGreatDoor

/-- the number of a list of limbs, the lowest first -/
def val : List Int → Nat
  | [] => 0
  | x :: xs => x.toNat + 4294967296 * val xs
def Dig (l : List Int) : Prop := ∀ x ∈ l, 0 ≤ x ∧ x < 4294967296
/-- without noughts at the end -/
def trimmed : List Int → List Int
  | [] => []
  | x :: xs => if trimmed xs = [] ∧ x = 0 then [] else x :: trimmed xs
/-- a number's limbs, without noughts at the end -/
def limbs (n : Nat) : List Int := if h : n = 0 then [] else ((n % 4294967296 : Nat) : Int) :: limbs (n / 4294967296)
termination_by n
decreasing_by omega

theorem limbs_zero : limbs 0 = [] := by rw [limbs]; simp
theorem limbs_pos {n : Nat} (h : n ≠ 0) : limbs n = ((n % 4294967296 : Nat) : Int) :: limbs (n / 4294967296) := by rw [limbs]; simp [h]
theorem limbs_nil {n : Nat} : limbs n = [] ↔ n = 0 := by
  constructor
  · intro h
    by_cases h0 : n = 0
    · exact h0
    · rw [limbs_pos h0] at h; cases h
  · rintro rfl; exact limbs_zero
theorem Dig.nil : Dig [] := fun _ h => by cases h
theorem Dig.cons {x : Int} {l : List Int} (h0 : 0 ≤ x) (h1 : x < 4294967296) (h : Dig l) : Dig (x :: l) := by
  intro y hy
  rcases List.mem_cons.1 hy with rfl | hy
  · exact ⟨h0, h1⟩
  · exact h y hy
theorem Dig.head {x : Int} {l : List Int} (h : Dig (x :: l)) : 0 ≤ x ∧ x < 4294967296 := h x List.mem_cons_self
theorem Dig.tail {x : Int} {l : List Int} (h : Dig (x :: l)) : Dig l := fun y hy => h y (List.mem_cons_of_mem _ hy)
theorem Dig.append {a b : List Int} (ha : Dig a) (hb : Dig b) : Dig (a ++ b) := by
  intro y hy
  rcases List.mem_append.1 hy with hy | hy
  · exact ha y hy
  · exact hb y hy
theorem Dig.take {a : List Int} (ha : Dig a) (n : Nat) : Dig (a.take n) := fun y hy => ha y (List.mem_of_mem_take hy)
theorem Dig.drop {a : List Int} (ha : Dig a) (n : Nat) : Dig (a.drop n) := fun y hy => ha y (List.mem_of_mem_drop hy)
theorem Dig.getD {a : List Int} (ha : Dig a) (n : Nat) : 0 ≤ a.getD n 0 ∧ a.getD n 0 < 4294967296 := by
  rw [List.getD_eq_getElem?_getD]
  cases h : a[n]? with
  | none => simp
  | some x => exact ha x (List.mem_of_getElem? h)
theorem dig_limbs : ∀ n : Nat, Dig (limbs n) := by
  intro n
  induction n using Nat.strongRecOn with
  | ind n ih =>
    by_cases h : n = 0
    · rw [h, limbs_zero]; exact Dig.nil
    · rw [limbs_pos h]
      exact Dig.cons (by omega) (by omega) (ih _ (by omega))
theorem val_limbs : ∀ n : Nat, val (limbs n) = n := by
  intro n
  induction n using Nat.strongRecOn with
  | ind n ih =>
    by_cases h : n = 0
    · rw [h, limbs_zero]; rfl
    · rw [limbs_pos h, val, ih _ (by omega)]
      simp only [Int.toNat_natCast]
      omega
theorem val_trimmed : ∀ l : List Int, val (trimmed l) = val l
  | [] => rfl
  | x :: xs => by
    rw [trimmed]
    split
    · rename_i h
      have ih := val_trimmed xs
      rw [h.1] at ih
      show 0 = x.toNat + 4294967296 * val xs
      rw [← ih, h.2]; rfl
    · rw [val, val, val_trimmed xs]
theorem limbs_val : ∀ {l : List Int}, Dig l → limbs (val l) = trimmed l
  | [], _ => limbs_zero
  | x :: xs, h => by
    have ih := limbs_val h.tail
    obtain ⟨h0, h1⟩ := h.head
    rw [trimmed, val, ← ih]
    by_cases hz : x.toNat + 4294967296 * val xs = 0
    · have hx : x = 0 := by omega
      have hv : val xs = 0 := by omega
      rw [hv, hx]; simp [limbs_zero]
    · rw [limbs_pos hz, if_neg (by rw [limbs_nil]; omega)]
      congr 1
      · omega
      · congr 1; omega
theorem trimmed_limbs (n : Nat) : trimmed (limbs n) = limbs n := by rw [← limbs_val (dig_limbs n), val_limbs]
theorem val_append : ∀ a b : List Int, val (a ++ b) = val a + 4294967296 ^ a.length * val b
  | [], b => by simp [val]
  | x :: xs, b => by
    rw [List.cons_append, val, val, val_append xs b, List.length_cons, Nat.pow_succ, Nat.mul_add, Nat.mul_comm (4294967296 ^ xs.length) 4294967296, Nat.mul_assoc]
    omega
theorem val_lt : ∀ {l : List Int}, Dig l → val l < 4294967296 ^ l.length
  | [], _ => by simp [val]
  | x :: xs, h => by
    have ih := val_lt h.tail
    have h1 := h.head
    rw [val, List.length_cons, Nat.pow_succ]
    have : x.toNat < 4294967296 := by omega
    have h2 : 4294967296 * (val xs + 1) ≤ 4294967296 * 4294967296 ^ xs.length := Nat.mul_le_mul_left _ ih
    rw [Nat.mul_comm (4294967296 ^ xs.length)]
    omega
theorem trimmed_nil_of {l : List Int} (h : ∀ j, j < l.length → l.getD j 0 = 0) : trimmed l = [] := by
  induction l with
  | nil => rfl
  | cons x xs ih =>
    have h0 : x = 0 := by simpa using h 0 (by simp)
    rw [trimmed, if_pos ⟨ih (fun j hj => by simpa using h (j + 1) (by simpa using hj)), h0⟩]
theorem trimmed_take : ∀ (l : List Int) (n : Nat), n ≤ l.length → (∀ j, n ≤ j → j < l.length → l.getD j 0 = 0) → (n = 0 ∨ l.getD (n - 1) 0 ≠ 0) → trimmed l = l.take n
  | l, 0, _, h, _ => by rw [List.take_zero]; exact trimmed_nil_of (fun j hj => h j (Nat.zero_le _) hj)
  | [], n + 1, hn, _, _ => by simp at hn
  | x :: xs, n + 1, hn, h, h1 => by
    rw [List.take_succ_cons, trimmed]
    rcases h1 with h1 | h1
    · omega
    have ih := trimmed_take xs n (by simpa using hn) (fun j hj hl => by simpa using h (j + 1) (by omega) (by simpa using hl))
    cases n with
    | zero =>
      have ih := ih (.inl rfl)
      rw [List.take_zero] at ih
      rw [ih, List.take_zero, if_neg]
      simp at h1
      simp [h1]
    | succ m =>
      have ih := ih (.inr (by simpa using h1))
      rw [ih, if_neg]
      rintro ⟨h2, _⟩
      have : (xs.take (m + 1)).length = 0 := by rw [h2]; rfl
      rw [List.length_take] at this
      simp only [List.length_cons] at hn
      omega
theorem trimmed_length_le : ∀ l : List Int, (trimmed l).length ≤ l.length
  | [] => Nat.le_refl _
  | x :: xs => by
    rw [trimmed]
    split
    · simp
    · simp [trimmed_length_le xs]
theorem trimmed_is_take : ∀ l : List Int, trimmed l = l.take (trimmed l).length
  | [] => rfl
  | x :: xs => by
    rw [trimmed]
    split
    · rfl
    · rw [List.length_cons, List.take_succ_cons, ← trimmed_is_take xs]
/-- how many limbs there are without noughts at the end -/
def topN (l : List Int) : Nat := (trimmed l).length
theorem topN_le (l : List Int) : topN l ≤ l.length := trimmed_length_le l
theorem topN_eq {l : List Int} {n : Nat} (hn : n ≤ l.length) (h : ∀ j, n ≤ j → j < l.length → l.getD j 0 = 0) (h1 : n = 0 ∨ l.getD (n - 1) 0 ≠ 0) : topN l = n := by
  unfold topN; rw [trimmed_take l n hn h h1, List.length_take]; omega
theorem take_topN (l : List Int) : l.take (topN l) = trimmed l := (trimmed_is_take l).symm
theorem val_snoc (l : List Int) (x : Int) : val (l ++ [x]) = val l + 4294967296 ^ l.length * x.toNat := by
  rw [val_append]; simp [val]
theorem val_nil_of (l : List Int) (h : trimmed l = []) : val l = 0 := by rw [← val_trimmed, h]; rfl
end Go.Proofs.YtikfefjaeejeeaaGreatDoor
/- Walks: the document's number of limbs. -/
namespace Go.Proofs.YtikfefjaeejeeaaGreatDoor
open Go.RowKit
set_option maxRecDepth 100000
theorem decs_len_lt {n L : Nat} (h : n < 10000 ^ L) : (decs n).length ≤ L := (decs_len_le n L).2 (Nat.div_eq_of_lt h)
theorem val_len {l : List Int} (hd : Dig l) : val l < 10000 ^ (3 * l.length) := by
  refine Nat.lt_of_lt_of_le (val_lt hd) ?_
  rw [Nat.pow_mul]
  exact Nat.pow_le_pow_left (by decide) _
theorem mul_lt_pow {v c L M : Nat} (h : v < 10000 ^ L) (hc : c ≤ 10000 ^ M) : v * c < 10000 ^ (L + M) := by
  rw [Nat.pow_add]
  rcases Nat.eq_zero_or_pos c with h0 | h0
  · subst h0; rw [Nat.mul_zero]; exact Nat.mul_pos (Nat.pow_pos (by decide)) (Nat.pow_pos (by decide))
  · exact Nat.lt_of_lt_of_le (Nat.mul_lt_mul_of_pos_right h h0) (Nat.mul_le_mul_left _ hc)
theorem tiK_le {x d L M : Nat} (h : x < 10000 ^ L) (hc : d ≤ 10000 ^ M) : tiK x d ≤ L + M := by
  unfold tiK
  have h1 := decs_len_lt h
  have h2 := decs_len_lt (mul_lt_pow h hc)
  omega
theorem val_cons (x : Int) (l : List Int) : val (x :: l) = x.toNat + 4294967296 * val l := rfl
def ofC (a : List Int) (m : Nat) : DV := if m = a.length then .p (.v (.slice none 0 0)) else .p (intL (decs (val (a.drop m))))
def ofS (a : List Int) (m : Nat) : St := ⟨mkT 23 [(0, .p (natL a)), (3, ofC a m), (4, .p (intP ((m : Int) - 1)))], ⟨[], [], []⟩⟩
set_option maxHeartbeats 2000000 in
theorem of_loop (a : List Int) (hd : Dig a) (hl : a.length ≤ 100000000) : LoopOK Tryz.prog (loopB Tryz.prog 123 0) (ofS a a.length) (.exit 0) ⟨mkT 23 [(3, ofC a 0)], ⟨[], [], []⟩⟩ := by
  refine loop_ix [0, 3, 4] (fun k => ofS a (a.length - k)) a.length (fun _ => True) trivial (fun _ => by unfold ofS ofC; split <;> rfl) ?_
  intro k hk _ ro K Q hQ hK
  obtain ⟨m, hm⟩ : ∃ m, m = a.length - k := ⟨_, rfl⟩
  simp only [← hm]
  cases m with
  | zero =>
    unfold ofS
    unfold ofC at hQ ⊢
    split at hQ
    · rename_i h
      rw [if_pos h]
      refine crun [] ⟨[3], [], [], none⟩ [] (AX.exit 0) (St.mk (mkT 23 [(3, DV.p (PD.v (Value.slice none 0 0)))]) (Mem.mk [] [] [])) .n (by kernel_rfl) ?_
      exact hQ
    · rename_i h
      rw [if_neg h]
      refine crun [] ⟨[3], [], [], none⟩ [] (AX.exit 0) (St.mk (mkT 23 [(3, DV.p (PD.sl (nums IntKind.i64 (decs (val (List.drop 0 a))))))]) (Mem.mk [] [] [])) .n (by kernel_rfl) ?_
      exact hQ
  | succ j =>
    have hj : j < a.length := by omega
    obtain ⟨x, hx0, hdr⟩ := get_of_lt hj
    have hn : ((j + 1 : Nat) : Int) - 1 = (j : Int) := by omega
    have hx := nums_at (q := .u32) hx0
    obtain ⟨x0, x1⟩ := hd x (List.mem_of_getElem? hx0)
    have hst : ofS a (a.length - (k + 1)) = ofS a j := by rw [show a.length - (k + 1) = j by omega]
    have hC2 : ofC a j = .p (intL (decs (val (a.drop (j + 1)) * 65536 * 65536 + x.toNat))) := by
      unfold ofC
      rw [if_neg (by omega), hdr, val_cons]
      congr 3
      omega
    rw [hst] at hK
    unfold ofS at hK ⊢
    rw [hn]
    rw [hC2] at hK
    have hv := val_len (hd.drop (j + 1))
    have hvl : (a.drop (j + 1)).length ≤ a.length := by rw [List.length_drop]; omega
    have hv : val (a.drop (j + 1)) < 10000 ^ (3 * a.length) := Nat.lt_of_lt_of_le hv (Nat.pow_le_pow_right (by decide) (by omega))
    have hc65 : 65536 ≤ 10000 ^ 2 := by decide
    have b1 := tiK_le hv hc65
    have hv2 := mul_lt_pow hv hc65
    have b2 := tiK_le hv2 hc65
    have hv3 := mul_lt_pow hv2 hc65
    have hxs : x.toNat < 10000 ^ 3 := by
      have : (10000 : Nat) ^ 3 = 1000000000000 := by decide
      omega
    have e1 := times_pure (val (a.drop (j + 1))) 65536 (by have := decs_len_lt hv; omega) (by decide) (by omega)
    have e2 := times_pure (val (a.drop (j + 1)) * 65536) 65536 (by have := decs_len_lt hv2; omega) (by decide) (by omega)
    have e3 := small_pure x.toNat (by omega) (by have := decs_len_lt hxs; omega)
    have e4 := add_pure (val (a.drop (j + 1)) * 65536 * 65536) x.toNat (by have := decs_len_lt hv3; omega) (by have := decs_len_lt hxs; omega)
    have hxx : ((x.toNat : Nat) : Int) = x := Int.toNat_of_nonneg x0
    have rw1 : IntKind.i64.wrap x = ((x.toNat : Nat) : Int) := by rw [hxx]; exact wrap64_id (by omega) (by omega)
    have rw6 : IntKind.i64.wrap ((j : Int) - 1) = (j : Int) - 1 := wrap64_id (by omega) (by omega)
    have hfz : ofC a (j + 1) = .p (.v (.slice none 0 0)) ∧ val (a.drop (j + 1)) = 0 ∨ ofC a (j + 1) = .p (intL (decs (val (a.drop (j + 1))))) := by
      unfold ofC
      by_cases h : j + 1 = a.length
      · rw [if_pos h, h, List.drop_length]; exact .inl ⟨rfl, rfl⟩
      · rw [if_neg h]; exact .inr rfl
    clear hst hC2 hv hv2 hv3 b1 b2 hdr hxx
    generalize x.toNat = xn at *
    rcases hfz with ⟨hfz, hv0⟩ | hfz
    · rw [hfz]
      rw [hv0] at e1 e2 e4 hK
      simp only [Nat.zero_mul, Nat.zero_add, decs_zero] at e1 e2 e4 hK
      refine crun [] ⟨[0, 3, 4], [], [], none⟩ [(12, .call (AEnd.ret (PD.sl []))), (13, .call (AEnd.ret (PD.sl []))), (16, .el (PD.v (Value.int IntKind.u32 x))), (17, .el (PD.v (Value.int IntKind.u32 x))), (18, .w (DV.p (PD.v (Value.int IntKind.i64 (↑xn : Int))))), (19, .call (AEnd.ret (PD.sl (nums IntKind.i64 (decs xn))))), (20, .call (AEnd.ret (PD.sl (nums IntKind.i64 (decs xn))))), (25, .w (DV.p (PD.v (Value.int IntKind.i64 ((↑j : Int) - 1)))))] (AX.norm) (St.mk (mkT 23 [(0, DV.p (PD.sl (nums IntKind.u32 a))), (3, DV.p (PD.sl (nums IntKind.i64 (decs xn)))), (4, DV.p (PD.v (Value.int IntKind.i64 ((↑j : Int) - 1))))]) (Mem.mk [] [] [])) (.c (congrArg (fun z => DV.p (PD.v (Go.Value.int IntKind.i64 z))) rw6) (.c (e4) (.c (e3) (.c (congrArg (fun z => DV.p (PD.v (Go.Value.int IntKind.i64 z))) rw1) (.c hx (.c (And.intro hx (nn0 (j))) (.c (e1) (.c (e1) .n)))))))) (by kernel_rfl) ?_
      exact hK _ (by omega) rfl trivial
    · rw [hfz]
      generalize val (a.drop (j + 1)) = V at *
      refine crun [] ⟨[0, 3, 4], [], [], none⟩ [(12, .call (AEnd.ret (PD.sl (nums IntKind.i64 (decs (V * 65536)))))), (13, .call (AEnd.ret (PD.sl (nums IntKind.i64 (decs (V * 65536 * 65536)))))), (16, .el (PD.v (Value.int IntKind.u32 x))), (17, .el (PD.v (Value.int IntKind.u32 x))), (18, .w (DV.p (PD.v (Value.int IntKind.i64 (↑xn : Int))))), (19, .call (AEnd.ret (PD.sl (nums IntKind.i64 (decs xn))))), (20, .call (AEnd.ret (PD.sl (nums IntKind.i64 (decs (V * 65536 * 65536 + xn)))))), (25, .w (DV.p (PD.v (Value.int IntKind.i64 ((↑j : Int) - 1)))))] (AX.norm) (St.mk (mkT 23 [(0, DV.p (PD.sl (nums IntKind.u32 a))), (3, DV.p (PD.sl (nums IntKind.i64 (decs (V * 65536 * 65536 + xn))))), (4, DV.p (PD.v (Value.int IntKind.i64 ((↑j : Int) - 1))))]) (Mem.mk [] [] [])) (.c (congrArg (fun z => DV.p (PD.v (Go.Value.int IntKind.i64 z))) rw6) (.c (e4) (.c (e3) (.c (congrArg (fun z => DV.p (PD.v (Go.Value.int IntKind.i64 z))) rw1) (.c hx (.c (And.intro hx (nn0 (j))) (.c (e2) (.c (e1) .n)))))))) (by kernel_rfl) ?_
      exact hK _ (by omega) rfl trivial
theorem nOf_pure (a : List Int) (hd : Dig a) (hl : a.length ≤ 100000000) : Pure Tryz.prog 123 [natL a] (.ret (intL (decs (val a)))) := by
  have hlo := of_loop a hd hl
  have hlen : (nums .u32 a).length = a.length := nums_length _ _
  have rw6 : IntKind.i64.wrap (((nums .u32 a).length : Int) - 1) = (a.length : Int) - 1 := by rw [hlen]; exact wrap64_id (by omega) (by omega)
  unfold ofS at hlo
  have e0 : ofC a a.length = .p (.v (.slice none 0 0)) := if_pos rfl
  rw [e0] at hlo
  by_cases h0 : 0 = a.length
  · have e1 : ofC a 0 = .p (.v (.slice none 0 0)) := if_pos h0
    obtain rfl : a = [] := List.length_eq_zero_iff.1 h0.symm
    rw [e1] at hlo
    have e2 : intL (decs (val [])) = .sl [] := by rw [show val [] = 0 from rfl, decs_zero]; rfl
    rw [e2]
    refine pure_eq (prun [] [(18, .code [0, 3, 4] (AX.exit 0) (St.mk (mkT 23 [(3, DV.p (PD.v (Value.slice none 0 0)))]) (Mem.mk [] [] [])))] (e := AEnd.ret (PD.sl [])) (.c (hlo) .n) (by kernel_rfl)) ?_
    rfl
  · have e1 : ofC a 0 = .p (intL (decs (val a))) := by unfold ofC; rw [if_neg h0]; rfl
    rw [e1] at hlo
    unfold intL at *
    generalize nums .i64 (decs (val a)) = R at *
    refine pure_eq (prun [] [(14, .w (DV.p (PD.v (Value.int IntKind.i64 ((↑a.length : Int) - 1))))), (18, .code [0, 3, 4] (AX.exit 0) (St.mk (mkT 23 [(3, DV.p (PD.sl R))]) (Mem.mk [] [] [])))] (e := AEnd.ret (PD.sl R)) (.c (hlo) (.c (congrArg (fun z => DV.p (PD.v (Go.Value.int IntKind.i64 z))) rw6) .n)) (by kernel_rfl)) ?_
    rfl
end Go.Proofs.YtikfefjaeejeeaaGreatDoor
/- Walks: the document's quotient, one digit. -/
namespace Go.Proofs.YtikfefjaeejeeaaGreatDoor
open Go.RowKit
set_option maxRecDepth 100000
def t2S (l : List Int) (m : Nat) : St := ⟨mkT 21 [(0, .p (intL l)), (3, .p (intP m))], ⟨[], [], []⟩⟩
theorem t2_loop (l : List Int) (hl : l.length ≤ 9223372036854775807) : LoopOK Tryz.prog (loopB Tryz.prog 174 0) (t2S l l.length) (.exit 0) ⟨mkT 21 [(0, .p (intL l)), (3, .p (intP (tpW l)))], ⟨[], [], []⟩⟩ := by
  refine loop_ix [0, 3] (fun k => t2S l (l.length - k)) l.length (fun k => tpW l = tpAt l (l.length - k)) rfl (fun _ => rfl) ?_
  intro k hk hp ro K Q hQ hK
  obtain ⟨m, hm⟩ : ∃ m, m = l.length - k := ⟨_, rfl⟩
  have hlen : (nums .i64 l).length = l.length := nums_length _ _
  simp only [← hm] at hp ⊢
  unfold t2S
  cases m with
  | zero =>
    have e : tpW l = 0 := hp
    rw [e] at hQ
    refine crun [] ⟨[0, 3], [], [], none⟩ [] (AX.exit 0) (St.mk (mkT 21 [(0, DV.p (PD.sl (nums IntKind.i64 l))), (3, DV.p (PD.v (Value.int IntKind.i64 0)))]) (Mem.mk [] [] [])) .n (by kernel_rfl) ?_
    exact hQ
  | succ j =>
    have hj : j < l.length := by omega
    obtain ⟨x, hx0, hd⟩ := get_of_lt hj
    have hw : IntKind.i64.wrap (((j + 1 : Nat) : Int) - 1) = (j : Int) := by rw [show (((j + 1 : Nat) : Int) - 1) = (j : Int) by omega, wrap64_id (by omega) (by omega)]
    have hx : (nums .i64 l)[(IntKind.i64.wrap (((j + 1 : Nat) : Int) - 1)).toNat]? = some (.v (.int .i64 x)) := by rw [hw]; exact nums_at hx0
    have hn : 0 ≤ IntKind.i64.wrap (((j + 1 : Nat) : Int) - 1) := by rw [hw]; omega
    by_cases h0 : x = 0
    · subst h0
      have hp2 : tpW l = tpAt l j := by rw [hp]; exact if_pos hx0
      refine crun [] ⟨[0, 3], [], [], none⟩ [(4, .b true), (9, .el (PD.v (Value.int IntKind.i64 0))), (10, .el (PD.v (Value.int IntKind.i64 0)))] (AX.norm) (St.mk (mkT 21 [(0, DV.p (PD.sl (nums IntKind.i64 l))), (3, DV.p (PD.v (Value.int IntKind.i64 (IntKind.i64.wrap ((↑(j + 1) : Int) - 1)))))]) (Mem.mk [] [] [])) (.c hx (.c (And.intro hx (show (0 : Int) ≤ IntKind.i64.wrap ((↑(j + 1) : Int) - 1) by omega)) (.c (dT (show (0 : Int) < (↑(j + (1 : Nat)) : Int) by omega)) .n))) (by kernel_rfl) ?_
      exact hK _ (by omega) (by simp only [hw]; rw [show l.length - (k + 1) = j by omega]; rfl) (by show tpW l = tpAt l (l.length - (k + 1)); rw [show l.length - (k + 1) = j by omega]; exact hp2)
    · have hp2 : tpW l = j + 1 := by rw [hp]; exact if_neg (by rw [hx0]; simpa using h0)
      rw [hp2] at hQ
      refine crun [] ⟨[0, 3], [], [], none⟩ [(4, .b true), (9, .el (PD.v (Value.int IntKind.i64 x))), (10, .el (PD.v (Value.int IntKind.i64 x))), (11, .b false)] (AX.exit 0) (St.mk (mkT 21 [(0, DV.p (PD.sl (nums IntKind.i64 l))), (3, DV.p (PD.v (Value.int IntKind.i64 (↑(j + 1) : Int))))]) (Mem.mk [] [] [])) (.c (eF h0) (.c hx (.c (And.intro hx (show (0 : Int) ≤ IntKind.i64.wrap ((↑(j + 1) : Int) - 1) by omega)) (.c (dT (show (0 : Int) < (↑(j + (1 : Nat)) : Int) by omega)) .n)))) (by kernel_rfl) ?_
      exact hQ
theorem trim2_pure (l : List Int) (hl : l.length ≤ 1073741824) : Pure Tryz.prog 174 [intL l] (.ret (intL (trimT l))) := by
  have h := t2_loop l (by omega)
  have hle := tpW_le l
  have hlen : (nums .i64 l).length = l.length := nums_length _ _
  have e : intL (trimT l) = .sl (((nums .i64 l).drop 0).take (((tpW l : Nat) : Int).toNat - 0)) := by
    rw [← take_topT, ← tpW_eq]
    simp [intL, nums, List.map_take]
  rw [e]
  have hs := nums_sized .i64 l
  unfold t2S at h
  rw [← hlen] at h
  rw [← hlen] at hle
  generalize tpW l = T at *
  refine pure_eq (prun [] [(13, .code [0, 3] (AX.exit 0) (St.mk (mkT 21 [(0, DV.p (intL l)), (3, DV.p (intP (↑T : Int)))]) (Mem.mk [] [] []))), (18, .sc)] (e := AEnd.ret (PD.sl (List.take ((↑T : Int).toNat - 0) (List.drop 0 (nums IntKind.i64 l))))) (.c (show SlOK (0 : Nat) (↑T : Int).toNat (nums IntKind.i64 l).length True ((0 : Int) ≤ (↑T : Int)) ∧ sized ((fun x => x.size) Tryz.prog.types[(3 : Nat)]) (nums IntKind.i64 l) by first | exact ⟨by first | trivial | omega, by first | trivial | omega, by first | omega | (simp <;> omega), by first | omega | (simp <;> omega)⟩ | exact ⟨⟨by first | trivial | omega, by first | trivial | omega, by first | omega | (simp <;> omega), by first | omega | (simp <;> omega)⟩, by first | assumption | exact nums_sized _ _ | simp [sized_nil, sized_one, sized_append, sized_map, nums_sized, nums_append]⟩ | exact ⟨⟨by first | trivial | omega, by first | trivial | omega, by first | omega | (simp <;> omega), by first | omega | (simp <;> omega)⟩, by first | omega | (simp <;> omega)⟩) (.c (h) .n)) (by kernel_rfl)) ?_
  rfl
theorem cmpV_le (x y : Nat) : cmpV x y ≤ 0 ↔ x ≤ y := by
  unfold cmpV
  split
  · omega
  · split <;> omega
/-- looked for by halves -/
def bsN (r b : Nat) : Nat → Nat × Nat
  | 0 => (0, 10000)
  | k + 1 => if b * (((bsN r b k).1 + (bsN r b k).2) / 2) ≤ r then (((bsN r b k).1 + (bsN r b k).2) / 2, (bsN r b k).2) else ((bsN r b k).1, ((bsN r b k).1 + (bsN r b k).2) / 2)
theorem bsN_inv {r b : Nat} (hr : r < b * 10000) : ∀ k, b * (bsN r b k).1 ≤ r ∧ r < b * (bsN r b k).2 ∧ (bsN r b k).1 < (bsN r b k).2 ∧ (bsN r b k).2 ≤ 10000 ∧ (bsN r b k).2 - (bsN r b k).1 ≤ 10000 / 2 ^ k + 1
  | 0 => by simp [bsN]; omega
  | k + 1 => by
    obtain ⟨h1, h2, h3, h4, h5⟩ := bsN_inv hr k
    have h6 : 10000 / 2 ^ (k + 1) = 10000 / 2 ^ k / 2 := by rw [Nat.pow_succ, Nat.div_div_eq_div_mul]
    have hlt : ∀ p q : Nat, b * p ≤ r → r < b * q → p < q := fun p q h h' => by
      rcases Nat.lt_or_ge p q with hh | hh
      · exact hh
      · have := Nat.mul_le_mul_left b hh; omega
    unfold bsN
    rw [h6]
    generalize 10000 / 2 ^ k = W at *
    generalize (bsN r b k).1 = l at *
    generalize (bsN r b k).2 = h at *
    split
    · rename_i hc
      have := hlt _ _ hc h2
      exact ⟨hc, h2, this, h4, by simp only; omega⟩
    · rename_i hc
      have := hlt _ _ h1 (Nat.lt_of_not_le hc)
      exact ⟨h1, Nat.lt_of_not_le hc, this, by simp only; omega, by simp only; omega⟩
def dgS (r b k : Nat) : St := ⟨mkT 25 [(0, .p (intL (decs r))), (1, .p (intL (decs b))), (5, .p (intP (bsN r b k).1)), (6, .p (intP (bsN r b k).2))], ⟨[], [], []⟩⟩
set_option maxHeartbeats 2000000 in
theorem dg_loop (r b L : Nat) (hL : L ≤ 1073741800) (hr : r < b * 10000) (hlr : (decs r).length ≤ L) (hlb : (decs b).length ≤ L) : LoopOK Tryz.prog (loopB Tryz.prog 175 0) (dgS r b 0) (.exit 0) ⟨mkT 25 [(5, .p (intP (r / b : Nat)))], ⟨[], [], []⟩⟩ := by
  refine loop_ix [0, 1, 5, 6] (dgS r b) 15 (fun _ => True) trivial (fun _ => rfl) ?_
  intro k hk _ ro K Q hQ hK
  obtain ⟨h1, h2, h3, h4, h5⟩ := bsN_inv hr k
  have hb : 0 < b := by rcases Nat.eq_zero_or_pos b with h | h; (subst h; omega); exact h
  have hs : bsN r b (k + 1) = if b * (((bsN r b k).1 + (bsN r b k).2) / 2) ≤ r then (((bsN r b k).1 + (bsN r b k).2) / 2, (bsN r b k).2) else ((bsN r b k).1, ((bsN r b k).1 + (bsN r b k).2) / 2) := rfl
  have hbl : b < 10000 ^ L := by
    rcases Nat.lt_or_ge b (10000 ^ L) with h | h
    · exact h
    · have h1 := Nat.div_pos h (Nat.pow_pos (n := L) (show 0 < 10000 by decide))
      have h2 := (decs_len_le b L).1 hlb
      rw [h2] at h1
      exact absurd h1 (Nat.lt_irrefl _)
  unfold dgS at hK ⊢
  rw [hs] at hK
  generalize (bsN r b k).1 = l at *
  generalize (bsN r b k).2 = h at *
  by_cases hgo : h - l > 1
  · have hk14 : k < 15 := by
      rcases Nat.lt_or_ge k 15 with hh | hh
      · exact hh
      · obtain rfl : k = 15 := by omega
        have : 10000 / 2 ^ 15 = 0 := by decide
        omega
    have hm : (l + h) / 2 ≤ 10000 := by omega
    have hlen := decs_len_lt (mul_lt_pow hbl (show (l + h) / 2 ≤ 10000 ^ 1 by rw [Nat.pow_one]; omega))
    have e1 := times_pure b ((l + h) / 2) (by omega) (by omega) (by have := tiK_le hbl (show (l + h) / 2 ≤ 10000 ^ 1 by rw [Nat.pow_one]; omega); omega)
    have e2 := rcmp_pure (b * ((l + h) / 2)) r (by omega) (by omega)
    have hcv := cmpV_le (b * ((l + h) / 2)) r
    have rw1 : IntKind.i64.wrap ((h : Int) - (l : Int)) = (h : Int) - l := wrap64_id (by omega) (by omega)
    have rw2 : IntKind.i64.wrap ((l : Int) + (h : Int)) = (l : Int) + h := wrap64_id (by omega) (by omega)
    have rw3 : IntKind.i64.wrap (((l : Int) + (h : Int)).tdiv 2) = (((l + h) / 2 : Nat) : Int) := by rw [Int.tdiv_eq_ediv_of_nonneg (by omega), wrap64_id (by omega) (by omega)]; omega
    have hgo2 : (1 : Int) < (h : Int) - l := by omega
    clear hs hbl hlen
    generalize cmpV (b * ((l + h) / 2)) r = cv at *
    generalize (l + h) / 2 = m at *
    by_cases hc : b * m ≤ r
    · have hcv2 := hcv.2 hc
      rw [if_pos hc] at hK
      refine crun [] ⟨[0, 1, 5, 6], [], [], none⟩ [(5, .w (DV.p (PD.v (Value.int IntKind.i64 ((↑h : Int) - (↑l : Int)))))), (6, .b true), (15, .w (DV.p (PD.v (Value.int IntKind.i64 ((↑l : Int) + (↑h : Int)))))), (16, .w (DV.p (PD.v (Value.int IntKind.i64 (↑m : Int))))), (23, .call (AEnd.ret (PD.sl (nums IntKind.i64 (decs (b * m)))))), (25, .call (AEnd.ret (PD.v (Value.int IntKind.i64 cv)))), (26, .b true)] (AX.norm) (St.mk (mkT 25 [(0, DV.p (PD.sl (nums IntKind.i64 (decs r)))), (1, DV.p (PD.sl (nums IntKind.i64 (decs b)))), (5, DV.p (PD.v (Value.int IntKind.i64 (↑m : Int)))), (6, DV.p (PD.v (Value.int IntKind.i64 (↑h : Int))))]) (Mem.mk [] [] [])) (.c (dT hcv2) (.c (e2) (.c (e1) (.c (congrArg (fun z => DV.p (PD.v (Go.Value.int IntKind.i64 z))) rw3) (.c (congrArg (fun z => DV.p (PD.v (Go.Value.int IntKind.i64 z))) rw2) (.c (dT hgo2) (.c (congrArg (fun z => DV.p (PD.v (Go.Value.int IntKind.i64 z))) rw1) .n))))))) (by kernel_rfl) ?_
      exact hK _ hk14 rfl trivial
    · have hcv2 : ¬ cv ≤ 0 := fun h => hc (hcv.1 h)
      rw [if_neg hc] at hK
      refine crun [] ⟨[0, 1, 5, 6], [], [], none⟩ [(5, .w (DV.p (PD.v (Value.int IntKind.i64 ((↑h : Int) - (↑l : Int)))))), (6, .b true), (15, .w (DV.p (PD.v (Value.int IntKind.i64 ((↑l : Int) + (↑h : Int)))))), (16, .w (DV.p (PD.v (Value.int IntKind.i64 (↑m : Int))))), (23, .call (AEnd.ret (PD.sl (nums IntKind.i64 (decs (b * m)))))), (25, .call (AEnd.ret (PD.v (Value.int IntKind.i64 cv)))), (26, .b false)] (AX.norm) (St.mk (mkT 25 [(0, DV.p (PD.sl (nums IntKind.i64 (decs r)))), (1, DV.p (PD.sl (nums IntKind.i64 (decs b)))), (5, DV.p (PD.v (Value.int IntKind.i64 (↑l : Int)))), (6, DV.p (PD.v (Value.int IntKind.i64 (↑m : Int))))]) (Mem.mk [] [] [])) (.c (dF hcv2) (.c (e2) (.c (e1) (.c (congrArg (fun z => DV.p (PD.v (Go.Value.int IntKind.i64 z))) rw3) (.c (congrArg (fun z => DV.p (PD.v (Go.Value.int IntKind.i64 z))) rw2) (.c (dT hgo2) (.c (congrArg (fun z => DV.p (PD.v (Go.Value.int IntKind.i64 z))) rw1) .n))))))) (by kernel_rfl) ?_
      exact hK _ hk14 rfl trivial
  · obtain rfl : h = l + 1 := by omega
    have hq : r / b = l := by
      rw [Nat.div_eq_iff hb]
      constructor
      · rw [Nat.mul_comm]; exact h1
      · rw [Nat.mul_add] at h2; rw [Nat.mul_comm]; omega
    rw [hq] at hQ
    have rw1 : IntKind.i64.wrap (((l + 1 : Nat) : Int) - (l : Int)) = 1 := by rw [wrap64_id (by omega) (by omega)]; omega
    refine crun [] ⟨[5], [], [], none⟩ [(5, .w (DV.p (PD.v (Value.int IntKind.i64 1))))] (AX.exit 0) (St.mk (mkT 25 [(5, DV.p (PD.v (Value.int IntKind.i64 (↑l : Int))))]) (Mem.mk [] [] [])) (.c (congrArg (fun z => DV.p (PD.v (Go.Value.int IntKind.i64 z))) rw1) .n) (by kernel_rfl) ?_
    exact hQ
end Go.Proofs.YtikfefjaeejeeaaGreatDoor
/- Walks: numbers: how many limbs there are, without noughts at the end. -/
namespace Go.Proofs.YtikfefjaeejeeaaGreatDoor
open Go.RowKit
set_option maxRecDepth 100000
def topAt (l : List Int) : Nat → Nat
  | 0 => 0
  | n + 1 => if l[n]? = some 0 then topAt l n else n + 1
def topW (l : List Int) : Nat := topAt l l.length
theorem topAt_le (l : List Int) : ∀ n, topAt l n ≤ n
  | 0 => Nat.le_refl _
  | n + 1 => by
    unfold topAt
    split
    · exact Nat.le_succ_of_le (topAt_le l n)
    · exact Nat.le_refl _
theorem topW_le (l : List Int) : topW l ≤ l.length := topAt_le l _
theorem topAt_spec (l : List Int) : ∀ n, n ≤ l.length → (∀ j, topAt l n ≤ j → j < n → l.getD j 0 = 0) ∧ (topAt l n = 0 ∨ l.getD (topAt l n - 1) 0 ≠ 0)
  | 0, _ => ⟨fun j _ h => by omega, .inl rfl⟩
  | n + 1, hn => by
    obtain ⟨h1, h2⟩ := topAt_spec l n (by omega)
    by_cases h : l[n]? = some 0
    · have e : topAt l (n + 1) = topAt l n := if_pos h
      rw [e]
      refine ⟨fun j hj hlt => ?_, h2⟩
      by_cases hjn : j = n
      · subst hjn; simp [List.getD, h]
      · exact h1 j hj (by omega)
    · have e : topAt l (n + 1) = n + 1 := if_neg h
      rw [e]
      refine ⟨fun j hj hlt => by omega, .inr ?_⟩
      rw [Nat.add_sub_cancel]
      intro hz
      apply h
      rw [List.getElem?_eq_getElem (by omega)]
      simp only [List.getD, List.getElem?_eq_getElem (show n < l.length by omega), Option.getD_some] at hz
      rw [hz]
theorem topW_eq (l : List Int) : topW l = topN l := by
  obtain ⟨h1, h2⟩ := topAt_spec l l.length (Nat.le_refl _)
  exact (topN_eq (topW_le l) h1 h2).symm
def topS (l : List Int) (m : Nat) : St := ⟨mkT 19 [(0, .p (natL l)), (2, .p (intP 0)), (3, .p (intP m))], ⟨[], [], []⟩⟩
theorem top_loop (l : List Int) (hl : l.length ≤ 9223372036854775807) : LoopOK Tryz.prog (loopB Tryz.prog 183 0) (topS l l.length) (.exit 0) ⟨mkT 19 [(3, .p (intP (topW l)))], ⟨[], [], []⟩⟩ := by
  refine loop_ix [0, 2, 3] (fun k => topS l (l.length - k)) l.length (fun k => topW l = topAt l (l.length - k)) rfl (fun _ => rfl) ?_
  intro k hk hp ro K Q hQ hK
  obtain ⟨m, hm⟩ : ∃ m, m = l.length - k := ⟨_, rfl⟩
  have hlen : (nums .u32 l).length = l.length := nums_length _ _
  simp only [← hm] at hp ⊢
  unfold topS
  cases m with
  | zero =>
    have e : topW l = 0 := hp
    rw [e] at hQ
    refine crun [] ⟨[3], [], [], none⟩ [] (AX.exit 0) (St.mk (mkT 19 [(3, DV.p (PD.v (Value.int IntKind.i64 0)))]) (Mem.mk [] [] [])) .n (by kernel_rfl) ?_
    exact hQ
  | succ j =>
    have hj : j < l.length := by omega
    obtain ⟨x, hx0, hd⟩ := get_of_lt hj
    have hw : IntKind.i64.wrap (((j + 1 : Nat) : Int) - 1) = (j : Int) := by rw [show (((j + 1 : Nat) : Int) - 1) = (j : Int) by omega, wrap64_id (by omega) (by omega)]
    have hx : (nums .u32 l)[(IntKind.i64.wrap (((j + 1 : Nat) : Int) - 1)).toNat]? = some (.v (.int .u32 x)) := by rw [hw]; exact nums_at hx0
    have hn : 0 ≤ IntKind.i64.wrap (((j + 1 : Nat) : Int) - 1) := by rw [hw]; omega
    by_cases h0 : x = 0
    · subst h0
      have hp2 : topW l = topAt l j := by rw [hp]; exact if_pos hx0
      refine crun [] ⟨[0, 2, 3], [], [], none⟩ [(4, .b true), (9, .el (PD.v (Value.int IntKind.u32 0))), (10, .el (PD.v (Value.int IntKind.u32 0)))] (AX.norm) (St.mk (mkT 19 [(0, DV.p (PD.sl (nums IntKind.u32 l))), (2, DV.p (PD.v (Value.int IntKind.i64 0))), (3, DV.p (PD.v (Value.int IntKind.i64 (IntKind.i64.wrap ((↑(j + 1) : Int) - 1)))))]) (Mem.mk [] [] [])) (.c hx (.c (And.intro hx (show (0 : Int) ≤ IntKind.i64.wrap ((↑(j + 1) : Int) - 1) by omega)) (.c (dT (show (0 : Int) < (↑(j + (1 : Nat)) : Int) by omega)) .n))) (by kernel_rfl) ?_
      exact hK _ (by omega) (by simp only [hw]; rw [show l.length - (k + 1) = j by omega]; rfl) (by show topW l = topAt l (l.length - (k + 1)); rw [show l.length - (k + 1) = j by omega]; exact hp2)
    · have hp2 : topW l = j + 1 := by rw [hp]; exact if_neg (by rw [hx0]; simpa using h0)
      rw [hp2] at hQ
      refine crun [] ⟨[3], [], [], none⟩ [(4, .b true), (9, .el (PD.v (Value.int IntKind.u32 x))), (10, .el (PD.v (Value.int IntKind.u32 x))), (11, .b false)] (AX.exit 0) (St.mk (mkT 19 [(3, DV.p (PD.v (Value.int IntKind.i64 (↑(j + 1) : Int))))]) (Mem.mk [] [] [])) (.c (eF h0) (.c hx (.c (And.intro hx (show (0 : Int) ≤ IntKind.i64.wrap ((↑(j + 1) : Int) - 1) by omega)) (.c (dT (show (0 : Int) < (↑(j + (1 : Nat)) : Int) by omega)) .n)))) (by kernel_rfl) ?_
      exact hQ
theorem top_pure (l : List Int) (hl : l.length ≤ 9223372036854775807) : Pure Tryz.prog 183 [natL l] (.ret (intP (topW l))) := by
  have h := top_loop l hl
  have hlen : (nums .u32 l).length = l.length := nums_length _ _
  unfold topS at h
  rw [← hlen] at h
  refine pure_eq (prun [] [(13, .code [0, 2, 3] (AX.exit 0) (St.mk (mkT 19 [(3, DV.p (intP (↑(topW l) : Int)))]) (Mem.mk [] [] [])))] (e := AEnd.ret (PD.v (Value.int IntKind.i64 (↑(topW l) : Int)))) (.c (h) .n) (by kernel_rfl)) ?_
  rfl
theorem trim_pure (l : List Int) (hl : l.length ≤ 1073741824) : Pure Tryz.prog 185 [natL l] (.ret (natL (trimmed l))) := by
  have h := top_pure l (by omega)
  have hle := topW_le l
  have hlen : (nums .u32 l).length = l.length := nums_length _ _
  rw [← take_topN, ← topW_eq]
  have e : natL (l.take (topW l)) = .sl (((nums .u32 l).drop 0).take (((topW l : Nat) : Int).toNat - 0)) := by simp [natL, nums, List.map_take]
  have c := clone92 (l.take (topW l)) (by simp; omega)
  rw [e] at c ⊢
  have hs := nums_sized .u32 l
  refine pure_eq (prun [] [(9, .call (AEnd.ret (PD.v (Value.int IntKind.i64 (↑(topW l) : Int))))), (10, .sc), (11, .call (AEnd.ret (PD.sl (List.take ((↑(topW l) : Int).toNat - 0) (List.drop 0 (nums IntKind.u32 l))))))] (e := AEnd.ret (PD.sl (List.take ((↑(topW l) : Int).toNat - 0) (List.drop 0 (nums IntKind.u32 l))))) (.c (c) (.c (show SlOK (0 : Nat) (↑(topW l) : Int).toNat (nums IntKind.u32 l).length True ((0 : Int) ≤ (↑(topW l) : Int)) ∧ sized ((fun x => x.size) Tryz.prog.types[(86 : Nat)]) (nums IntKind.u32 l) by first | exact ⟨by first | trivial | omega, by first | trivial | omega, by first | omega | (simp <;> omega), by first | omega | (simp <;> omega)⟩ | exact ⟨⟨by first | trivial | omega, by first | trivial | omega, by first | omega | (simp <;> omega), by first | omega | (simp <;> omega)⟩, by first | assumption | exact nums_sized _ _ | simp [sized_nil, sized_one, sized_append, sized_map, nums_sized, nums_append]⟩ | exact ⟨⟨by first | trivial | omega, by first | trivial | omega, by first | omega | (simp <;> omega), by first | omega | (simp <;> omega)⟩, by first | omega | (simp <;> omega)⟩) (.c (h) .n))) (by kernel_rfl)) ?_
  rfl
end Go.Proofs.YtikfefjaeejeeaaGreatDoor
/- Walks: a division by one limb. -/
namespace Go.Proofs.YtikfefjaeejeeaaGreatDoor
open Go.RowKit
set_option maxRecDepth 100000
def numsD (k : IntKind) (l : List Int) : List DV := l.map fun x => .p (.v (.int k x))
theorem numsD_len (k : IntKind) (l : List Int) : (numsD k l).length = l.length := by simp [numsD]
/-- digits of the quotient, and the rest, from the highest limb on -/
def shortM (d : Int) : List Int → List Int × Int
  | [] => ([], 0)
  | x :: xs => (((shortM d xs).2 * 4294967296 + x) / d :: (shortM d xs).1, ((shortM d xs).2 * 4294967296 + x) % d)
theorem shortM_len (d : Int) : ∀ l : List Int, (shortM d l).1.length = l.length
  | [] => rfl
  | x :: xs => by simp only [shortM, List.length_cons, shortM_len d xs]
theorem shortM_rest {d : Int} (h0 : 0 < d) : ∀ l : List Int, 0 ≤ (shortM d l).2 ∧ (shortM d l).2 < d
  | [] => ⟨Int.le_refl _, h0⟩
  | x :: xs => ⟨Int.emod_nonneg _ (by omega), Int.emod_lt_of_pos _ h0⟩
theorem shortM_law {d : Int} (h0 : 0 < d) (h1 : d < 4294967296) : ∀ {l : List Int}, Dig l → Dig (shortM d l).1 ∧ (val l : Int) = val (shortM d l).1 * d + (shortM d l).2
  | [], _ => ⟨Dig.nil, by simp [shortM, val]⟩
  | x :: xs, h => by
    obtain ⟨k1, k2⟩ := shortM_law h0 h1 h.tail
    obtain ⟨r0, r1⟩ := shortM_rest h0 xs
    obtain ⟨x0, x1⟩ := h.head
    simp only [shortM]
    generalize (shortM d xs).2 = r at *
    generalize (shortM d xs).1 = Q at *
    have hd1 : 0 ≤ (r * 4294967296 + x) / d := Int.ediv_nonneg (by omega) (by omega)
    have hd2 : (r * 4294967296 + x) / d < 4294967296 := by
      apply Int.ediv_lt_of_lt_mul h0
      have : r * 4294967296 + x < (r + 1) * 4294967296 := by omega
      have : (r + 1) * 4294967296 ≤ d * 4294967296 := Int.mul_le_mul_of_nonneg_right (by omega) (by omega)
      rw [Int.mul_comm 4294967296 d]
      omega
    refine ⟨Dig.cons hd1 hd2 k1, ?_⟩
    have e1 : (val (x :: xs) : Int) = x + 4294967296 * val xs := by
      show ((x.toNat + 4294967296 * val xs : Nat) : Int) = _
      rw [Int.natCast_add, Int.natCast_mul, Int.toNat_of_nonneg x0]; rfl
    have e2 : (val ((r * 4294967296 + x) / d :: Q) : Int) = (r * 4294967296 + x) / d + 4294967296 * val Q := by
      show ((((r * 4294967296 + x) / d).toNat + 4294967296 * val Q : Nat) : Int) = _
      rw [Int.natCast_add, Int.natCast_mul, Int.toNat_of_nonneg hd1]; rfl
    rw [e1, e2, k2]
    have e3 := Int.mul_ediv_add_emod (r * 4294967296 + x) d
    generalize (r * 4294967296 + x) / d = q at *
    generalize (r * 4294967296 + x) % d = s at *
    have e4 : (q + 4294967296 * (val Q : Int)) * d = d * q + 4294967296 * ((val Q : Int) * d) := by rw [Int.add_mul, Int.mul_assoc, Int.mul_comm q d]
    rw [e4]
    generalize (val Q : Int) * d = w at *
    omega
def shC (a : List Int) (d : Int) (m : Nat) : List DV := numsD .u32 (List.replicate m 0 ++ (shortM d (a.drop m)).1)
theorem set_mid {l : List Int} {j : Nat} {z q : Int} : (List.replicate (j + 1) z ++ l).set j q = List.replicate j z ++ q :: l := by
  rw [List.replicate_succ', List.append_assoc, List.set_append_right _ _ (by simp)]
  simp
theorem shC_set {a : List Int} {d q : Int} {j : Nat} {x : Int} (h : a.drop j = x :: a.drop (j + 1)) (hq : q = ((shortM d (a.drop (j + 1))).2 * 4294967296 + x) / d) : (shC a d (j + 1)).set j (.p (.v (.int .u32 q))) = shC a d j := by
  unfold shC numsD
  rw [← List.map_set (f := fun x => DV.p (.v (.int .u32 x))) (a := q), set_mid, h, hq]
  rfl
theorem or_low {x y : Int} (hx0 : 0 ≤ x) (hx1 : x < 4294967296) (hy0 : 0 ≤ y) (hy1 : y < 4294967296) : IntKind.u64.wrap ((BitVec.ofInt IntKind.u64.bits (x * 4294967296) ||| BitVec.ofInt IntKind.u64.bits y).toNat : Nat) = x * 4294967296 + y := by
  obtain ⟨a, rfl⟩ := Int.eq_ofNat_of_zero_le hx0
  obtain ⟨b, rfl⟩ := Int.eq_ofNat_of_zero_le hy0
  have e1 : (BitVec.ofInt IntKind.u64.bits ((a : Int) * 4294967296)).toNat = a * 4294967296 := by
    show (BitVec.ofInt 64 ((a : Int) * 4294967296)).toNat = _
    rw [BitVec.toNat_ofInt]
    omega
  have e2 : (BitVec.ofInt IntKind.u64.bits (b : Int)).toNat = b := by
    show (BitVec.ofInt 64 (b : Int)).toNat = _
    rw [BitVec.toNat_ofInt]
    omega
  have e3 : (BitVec.ofInt IntKind.u64.bits ((a : Int) * 4294967296) ||| BitVec.ofInt IntKind.u64.bits (b : Int)).toNat = a * 4294967296 + b := by
    rw [BitVec.toNat_or, e1, e2, Nat.mul_comm a, show (4294967296 : Nat) = 2 ^ 32 by decide, ← Nat.two_pow_add_eq_or_of_lt (by omega)]
  rw [e3]
  show (((a * 4294967296 + b : Nat) : Int)) % 18446744073709551616 = _
  omega
def shS (a : List Int) (d : Int) (m : Nat) : St := ⟨mkT 46 [(0, .p (natL a)), (1, .p (.v (.int .u32 d))), (7, .bsl 0 0 1 a.length a.length), (8, .p (.v (.int .u64 (shortM d (a.drop m)).2))), (9, .p (intP ((m : Int) - 1)))], ⟨[⟨86, shC a d m, false⟩], [], []⟩⟩
theorem quo_told {t : TypeId} {q : Operand} {a b r : Int} (hb : b ≠ 0) (hr : IntKind.u64.wrap (a.tdiv b) = r) (ht : evEq Tryz.prog t q (.p (.v (.int .u64 a))) (.p (.v (.int .u64 b))) = none) : evBinD Tryz.prog .quo t q (.p (.v (.int .u64 a))) (.p (.v (.int .u64 b))) = some (.p (.v (.int .u64 r))) := by
  unfold evBinD
  simp only [evBinD.evEqOp, evBin, if_neg hb, hr, if_true]
theorem rem_told {t : TypeId} {q : Operand} {a b r : Int} (hb : b ≠ 0) (hr : a.tmod b = r) : evBinD Tryz.prog .rem t q (.p (.v (.int .u64 a))) (.p (.v (.int .u64 b))) = some (.p (.v (.int .u64 r))) := by
  unfold evBinD
  simp only [evBinD.evEqOp, evBin, if_neg hb, hr, if_true]
theorem short_loop (a : List Int) (d : Int) (hl : a.length ≤ 1073741824) (hd : Dig a) (h0 : 0 < d) (h1 : d < 4294967296) : LoopOK Tryz.prog (loopB Tryz.prog 208 0) (shS a d a.length) (.exit 0) ⟨mkT 46 [(7, .bsl 0 0 1 a.length a.length), (8, .p (.v (.int .u64 (shortM d a).2)))], ⟨[⟨86, numsD .u32 (shortM d a).1, false⟩], [], []⟩⟩ := by
  refine loop_ix [0, 1, 7, 8, 9] (fun k => shS a d (a.length - k)) a.length (fun _ => True) trivial (fun _ => rfl) ?_
  intro k hk _ ro K Q hQ hK
  obtain ⟨m, hm⟩ : ∃ m, m = a.length - k := ⟨_, rfl⟩
  simp only [← hm]
  cases m with
  | zero =>
    unfold shS shC
    have e1 : a.drop 0 = a := rfl
    rw [e1]
    refine crun [] ⟨[7, 8], [], [], none⟩ [] (AX.exit 0) (St.mk (mkT 46 [(7, DV.bsl 0 0 1 a.length a.length), (8, DV.p (PD.v (Value.int IntKind.u64 (shortM d a).snd)))]) (Mem.mk [Box.mk 86 (numsD IntKind.u32 (List.replicate 0 0 ++ (shortM d a).fst)) false] [] [])) .n (by kernel_rfl) ?_
    exact hQ
  | succ j =>
    have hj : j < a.length := by omega
    obtain ⟨x, hx0, hdr⟩ := get_of_lt hj
    have hn : ((j + 1 : Nat) : Int) - 1 = (j : Int) := by omega
    have hx := nums_at (q := .u32) hx0
    obtain ⟨x0, x1⟩ := hd x (List.mem_of_getElem? hx0)
    obtain ⟨r0, r1⟩ := shortM_rest h0 (a.drop (j + 1))
    have hcl : (shC a d (j + 1)).length = a.length := by simp [shC, numsD_len, shortM_len]; omega
    have hset := fun q hq => shC_set (a := a) (d := d) (q := q) hdr hq
    have hst : shS a d (a.length - (k + 1)) = shS a d j := by rw [show a.length - (k + 1) = j by omega]
    have hrr : (shortM d (a.drop j)).2 = ((shortM d (a.drop (j + 1))).2 * 4294967296 + x) % d := by rw [hdr]; rfl
    rw [hst] at hK
    unfold shS at hK ⊢
    rw [hn]
    rw [hrr] at hK
    clear hst hrr
    generalize (shortM d (a.drop (j + 1))).2 = r at *
    have hset2 := hset _ rfl
    clear hset
    generalize shC a d (j + 1) = C at hcl hset2 ⊢
    generalize shC a d j = C2 at hset2 hK
    have hj2 : (j : Int) < (a.length : Int) := by omega
    have q0 : 0 ≤ (r * 4294967296 + x) / d := Int.ediv_nonneg (by omega) (by omega)
    have q1 : (r * 4294967296 + x) / d < 4294967296 := by
      apply Int.ediv_lt_of_lt_mul h0
      have : (r + 1) * 4294967296 ≤ d * 4294967296 := Int.mul_le_mul_of_nonneg_right (by omega) (by omega)
      rw [Int.mul_comm 4294967296 d]
      omega
    have rw1 : IntKind.u64.wrap (r * 2 ^ min (Int.toNat 32) IntKind.u64.bits) = r * 4294967296 := by show (r * 4294967296) % 18446744073709551616 = _; omega
    have rw2 : IntKind.u64.wrap x = x := wrapu64_id x0 (by omega)
    have rw3 := or_low (x := r) (y := x) r0 (by omega) x0 x1
    have rw4 : IntKind.u64.wrap d = d := wrapu64_id (by omega) (by omega)
    have rw5 : IntKind.u32.wrap ((r * 4294967296 + x) / d) = (r * 4294967296 + x) / d := by show _ % 4294967296 = _; exact Int.emod_eq_of_lt q0 q1
    have rw6 : IntKind.i64.wrap ((j : Int) - 1) = (j : Int) - 1 := wrap64_id (by omega) (by omega)
    have hq : evBinD Tryz.prog .quo 183 (.tmp 34) (.p (.v (.int .u64 (r * 4294967296 + x)))) (.p (.v (.int .u64 d))) = some (.p (.v (.int .u64 ((r * 4294967296 + x) / d)))) := quo_told (by omega) (by rw [Int.tdiv_eq_ediv_of_nonneg (by omega)]; exact wrapu64_id q0 (by omega)) (by kernel_rfl)
    have hm2 : evBinD Tryz.prog .rem 183 (.tmp 40) (.p (.v (.int .u64 (r * 4294967296 + x)))) (.p (.v (.int .u64 d))) = some (.p (.v (.int .u64 ((r * 4294967296 + x) % d)))) := rem_told (by omega) (Int.tmod_eq_emod_of_nonneg (by omega))
    refine crun [] ⟨[0, 1, 7, 8, 9], [], [], none⟩ [(13, .w (DV.p (PD.v (Value.int IntKind.u64 (r * 4294967296))))), (16, .el (PD.v (Value.int IntKind.u32 x))), (17, .el (PD.v (Value.int IntKind.u32 x))), (18, .w (DV.p (PD.v (Value.int IntKind.u64 x)))), (19, .w (DV.p (PD.v (Value.int IntKind.u64 (r * 4294967296 + x))))), (28, .w (DV.p (PD.v (Value.int IntKind.u64 d)))), (29, .v (DV.p (PD.v (Value.int IntKind.u64 ((r * 4294967296 + x) / d))))), (30, .w (DV.p (PD.v (Value.int IntKind.u32 ((r * 4294967296 + x) / d))))), (31, .bi), (32, .sb), (37, .w (DV.p (PD.v (Value.int IntKind.u64 d)))), (38, .v (DV.p (PD.v (Value.int IntKind.u64 ((r * 4294967296 + x) % d))))), (43, .w (DV.p (PD.v (Value.int IntKind.i64 ((↑j : Int) - 1)))))] (AX.norm) (St.mk (mkT 46 [(0, DV.p (PD.sl (nums IntKind.u32 a))), (1, DV.p (PD.v (Value.int IntKind.u32 d))), (7, DV.bsl 0 0 1 a.length a.length), (8, DV.p (PD.v (Value.int IntKind.u64 ((r * 4294967296 + x) % d)))), (9, DV.p (PD.v (Value.int IntKind.i64 ((↑j : Int) - 1))))]) (Mem.mk [Box.mk 86 ((Box.mk 86 C false).cells.set (0 + (↑j : Int).toNat * 1) (DV.p (PD.v (Value.int IntKind.u32 ((r * 4294967296 + x) / d))))) false] [] [])) (.c (congrArg (fun z => DV.p (PD.v (Go.Value.int IntKind.i64 z))) rw6) (.c hm2 (.c (congrArg (fun z => DV.p (PD.v (Go.Value.int IntKind.u64 z))) rw4) (.c (show (0 : Nat) + (↑j : Int).toNat * (1 : Nat) < C.length by first | omega | (simp; done) | (simp; omega)) (.c (And.intro (nn0 (j)) hj2) (.c (congrArg (fun z => DV.p (PD.v (Go.Value.int IntKind.u32 z))) rw5) (.c hq (.c (congrArg (fun z => DV.p (PD.v (Go.Value.int IntKind.u64 z))) rw4) (.c (congrArg (fun z => DV.p (PD.v (Go.Value.int IntKind.u64 z))) rw3) (.c (congrArg (fun z => DV.p (PD.v (Go.Value.int IntKind.u64 z))) rw2) (.c hx (.c (And.intro hx (nn0 (j))) (.c (congrArg (fun z => DV.p (PD.v (Go.Value.int IntKind.u64 z))) rw1) .n))))))))))))) (by kernel_rfl) ?_
    exact hK _ (by omega) (by rw [← hset2]; simp only [Int.toNat_natCast, Nat.zero_add, Nat.mul_one]; rfl) trivial
theorem frzL_nums (q : IntKind) (μ : Mem) : ∀ l : List Int, frzL (l.length + 1) μ (numsD q l) = some (nums q l, μ)
  | [] => by simp [numsD, nums, frzL]
  | x :: xs => by
    have ih := frzL_nums q μ xs
    have h1 : frz (xs.length + 1) μ (.p (.v (.int q x))) = some (.v (.int q x), μ) := by simp [frz, frzP]
    show frzL (xs.length + 1 + 1) μ (.p (.v (.int q x)) :: numsD q xs) = _
    rw [frzL, h1]
    simp only
    rw [ih]
    rfl
theorem chunk_one (l : List PD) : chunk 1 l.length l = l := by
  refine List.ext_getElem (by rw [chunk_length]) fun i h1 h2 => ?_
  obtain ⟨_, h⟩ := chunk_get (List.getElem?_eq_getElem h1)
  rw [h, if_pos rfl]
  simp [List.getD, List.getElem?_eq_getElem h2]
theorem frz_box (q : IntKind) (μ : Mem) (b cap : Nat) (t : TypeId) (l : List Int) (h : μ.boxes[b]? = some ⟨t, numsD q l, false⟩) : ∃ k, frz k μ (.bsl b 0 1 l.length cap) = some (.sl (nums q l), ⟨μ.boxes.set b ⟨t, numsD q l, true⟩, μ.toks, μ.objs⟩) := by
  refine ⟨l.length + 1 + 1, ?_⟩
  rw [frz]
  simp only [h, numsD_len, Nat.zero_add, Nat.mul_one, Nat.le_refl, if_true, List.drop_zero]
  rw [show (numsD q l).take l.length = numsD q l from List.take_of_length_le (by rw [numsD_len]; exact Nat.le_refl _), frzL_nums]
  simp only
  rw [if_pos (.inr (by simp [nums, PD.single]))]
  have := chunk_one (nums q l)
  rw [nums_length] at this
  rw [this]
theorem short_pure (a : List Int) (d : Int) (hl : a.length ≤ 1073741824) (hd : Dig a) (h0 : 0 < d) (h1 : d < 4294967296) : Pure Tryz.prog 208 [natL a, .v (.int .u32 d)] (.ret (.tup [natL (trimmed (shortM d a).1), .v (.int .u32 (shortM d a).2), intP 0])) := by
  have hlo := short_loop a d hl hd h0 h1
  have hlq := shortM_len d a
  obtain ⟨r0, r1⟩ := shortM_rest h0 a
  have ht := trim_pure (shortM d a).1 (by omega)
  have e1 : shS a d a.length = ⟨mkT 46 [(0, .p (natL a)), (1, .p (.v (.int .u32 d))), (7, .bsl 0 0 1 a.length a.length), (8, .p (.v (.int .u64 0))), (9, .p (intP ((a.length : Int) - 1)))], ⟨[⟨86, List.replicate a.length (.p (.v (.int .u32 0))), false⟩], [], []⟩⟩ := by
    unfold shS shC
    rw [List.drop_length]
    simp [shortM, numsD]
  rw [e1] at hlo
  have hn : a.length = (nums .u32 a).length := (nums_length _ _).symm
  have hf := frz_box .u32 ⟨[⟨86, numsD .u32 (shortM d a).1, false⟩], [], []⟩ 0 (nums .u32 a).length 86 (shortM d a).1 rfl
  rw [hlq, hn] at hf
  rw [hn] at hlo
  clear e1 hlq
  generalize (shortM d a).1 = Q at *
  generalize (shortM d a).2 = r at *
  have rw5 : IntKind.u32.wrap r = r := by show r % 4294967296 = _; exact Int.emod_eq_of_lt r0 (by omega)
  have rw6 : IntKind.i64.wrap (((nums .u32 a).length : Int) - 1) = ((nums .u32 a).length : Int) - 1 := wrap64_id (by omega) (by omega)
  have hd0 : ¬ d = 0 := by omega
  refine pure_eq (prun [200185] [(11, .b false), (19, .m), (31, .w (DV.p (PD.v (Value.int IntKind.i64 ((↑(nums IntKind.u32 a).length : Int) - 1))))), (35, .code [0, 1, 7, 8, 9] (AX.exit 0) (St.mk (mkT 46 [(7, DV.bsl 0 0 1 (nums IntKind.u32 a).length (nums IntKind.u32 a).length), (8, DV.p (PD.v (Value.int IntKind.u64 r)))]) (Mem.mk [Box.mk 86 (numsD IntKind.u32 Q) false] [] []))), (39, .fzb 42 (PD.sl (nums IntKind.u32 Q)) (Mem.mk [Box.mk 86 (numsD IntKind.u32 Q) true] [] [])), (39, .call (AEnd.ret (PD.sl (nums IntKind.u32 (trimmed Q))))), (41, .w (DV.p (PD.v (Value.int IntKind.u32 r))))] (e := AEnd.ret (PD.tup [PD.sl (nums IntKind.u32 (trimmed Q)), PD.v (Value.int IntKind.u32 r), PD.v (Value.int IntKind.i64 0)])) (.c (congrArg (fun z => DV.p (PD.v (Go.Value.int IntKind.u32 z))) rw5) (.c (ht) (.c hf (.c (hlo) (.c (congrArg (fun z => DV.p (PD.v (Go.Value.int IntKind.i64 z))) rw6) (.c (show (0 : Int) ≤ (↑(nums IntKind.u32 a).length : Int) ∧ (↑(nums IntKind.u32 a).length : Int) ≤ (↑(nums IntKind.u32 a).length : Int) ∧ (↑(nums IntKind.u32 a).length : Int) ≤ (1099511627776 : Int) by omega) (.c (eF hd0) .n))))))) (by kernel_rfl)) ?_
  rfl
end Go.Proofs.YtikfefjaeejeeaaGreatDoor
/- Walks: a small number's limbs. -/
namespace Go.Proofs.YtikfefjaeejeeaaGreatDoor
open Go.RowKit
set_option maxRecDepth 100000
theorem mask_low {n : Int} (h0 : 0 ≤ n) (h1 : n < 4294967296) : IntKind.u64.wrap ((BitVec.ofInt IntKind.u64.bits n &&& BitVec.ofInt IntKind.u64.bits 4294967295).toNat : Nat) = n := by
  obtain ⟨b, rfl⟩ := Int.eq_ofNat_of_zero_le h0
  have e1 : (BitVec.ofInt IntKind.u64.bits (b : Int)).toNat = b := by
    show (BitVec.ofInt 64 (b : Int)).toNat = _
    rw [BitVec.toNat_ofInt]
    omega
  have e2 : (BitVec.ofInt IntKind.u64.bits 4294967295).toNat = 2 ^ 32 - 1 := by decide
  rw [BitVec.toNat_and, e1, e2, Nat.and_two_pow_sub_one_eq_mod, Nat.mod_eq_of_lt (by omega)]
  show ((b : Int)) % 18446744073709551616 = _
  omega
theorem limbs_one {k : Nat} (h0 : k ≠ 0) (h1 : k < 4294967296) : limbs k = [(k : Int)] := by
  rw [limbs_pos h0, Nat.div_eq_of_lt h1, limbs_zero, Nat.mod_eq_of_lt h1]
theorem of_small (n : Int) (g0 : 0 ≤ n) (g1 : n < 4294967296) : Pure Tryz.prog 152 [.v (.int .u64 n)] (.ret (natL (limbs n.toNat))) := by
  have rw1 : n.fdiv (2 ^ min (Int.toNat 0) IntKind.u64.bits) = n := by show n.fdiv 1 = n; exact Int.fdiv_one n
  have rw2 := mask_low g0 g1
  have rw3 : IntKind.u64.wrap (n + 0) = n := by rw [Int.add_zero]; exact wrapu64_id g0 (by omega)
  have rw4 : IntKind.u32.wrap n = n := by show n % 4294967296 = n; exact Int.emod_eq_of_lt g0 g1
  have rw5 : n.fdiv (2 ^ min (Int.toNat 32) IntKind.u64.bits) = 0 := by
    show n.fdiv 4294967296 = 0
    rw [Int.fdiv_eq_ediv_of_nonneg _ (by omega)]
    exact Int.ediv_eq_zero_of_lt g0 g1
  by_cases h0 : n = 0
  ·
    refine pure_eq (prun [] [(50, .xc), (64, .w (DV.p (PD.v (Value.int IntKind.u64 n)))), (65, .w (DV.p (PD.v (Value.int IntKind.u64 n)))), (70, .w (DV.p (PD.v (Value.int IntKind.u64 n)))), (76, .w (DV.p (PD.v (Value.int IntKind.u32 n)))), (83, .w (DV.p (PD.v (Value.int IntKind.u64 0)))), (105, .xc), (119, .w (DV.p (PD.v (Value.int IntKind.u64 0)))), (215, .b true)] (e := AEnd.ret (PD.sl [])) (.c (eT h0) (.c (@rfl Mem (Mem.mk [Box.mk 183 [DV.p (PD.v (Value.int IntKind.u64 n))] false, Box.mk 82 [DV.row 0 [PD.v (Value.int IntKind.u32 n)]] false, Box.mk 183 [DV.p (PD.v (Value.int IntKind.u64 0))] false, Box.mk 86 [DV.p (PD.v (Value.int IntKind.u32 n))] true] [some (86, 1, 1)] [])) (.c (congrArg (fun z => DV.p (PD.v (Go.Value.int IntKind.u64 z))) rw5) (.c (congrArg (fun z => DV.p (PD.v (Go.Value.int IntKind.u64 z))) rw5) (.c (congrArg (fun z => DV.p (PD.v (Go.Value.int IntKind.u32 z))) rw4) (.c (congrArg (fun z => DV.p (PD.v (Go.Value.int IntKind.u64 z))) rw3) (.c (@rfl Mem (Mem.mk [Box.mk 183 [DV.p (PD.v (Value.int IntKind.u64 n))] false, Box.mk 82 [DV.p (PD.v (Value.slice none 0 0))] false, Box.mk 183 [DV.p (PD.v (Value.int IntKind.u64 0))] false] [] [])) (.c (congrArg (fun z => DV.p (PD.v (Go.Value.int IntKind.u64 z))) rw2) (.c (congrArg (fun z => DV.p (PD.v (Go.Value.int IntKind.u64 z))) rw1) .n))))))))) (by kernel_rfl)) ?_
    first | (rw [show n.toNat = 0 by omega, limbs_zero]; rfl) | (rw [limbs_one (by omega) (by omega), Int.toNat_of_nonneg g0]; rfl)
  ·
    refine pure_eq (prun [] [(50, .xc), (64, .w (DV.p (PD.v (Value.int IntKind.u64 n)))), (65, .w (DV.p (PD.v (Value.int IntKind.u64 n)))), (70, .w (DV.p (PD.v (Value.int IntKind.u64 n)))), (76, .w (DV.p (PD.v (Value.int IntKind.u32 n)))), (83, .w (DV.p (PD.v (Value.int IntKind.u64 0)))), (105, .xc), (119, .w (DV.p (PD.v (Value.int IntKind.u64 0)))), (215, .b false)] (e := AEnd.ret (PD.sl [PD.v (Value.int IntKind.u32 n)])) (.c (eF h0) (.c (@rfl Mem (Mem.mk [Box.mk 183 [DV.p (PD.v (Value.int IntKind.u64 n))] false, Box.mk 82 [DV.row 0 [PD.v (Value.int IntKind.u32 n)]] false, Box.mk 183 [DV.p (PD.v (Value.int IntKind.u64 0))] false, Box.mk 86 [DV.p (PD.v (Value.int IntKind.u32 n))] true] [some (86, 1, 1)] [])) (.c (congrArg (fun z => DV.p (PD.v (Go.Value.int IntKind.u64 z))) rw5) (.c (congrArg (fun z => DV.p (PD.v (Go.Value.int IntKind.u64 z))) rw5) (.c (congrArg (fun z => DV.p (PD.v (Go.Value.int IntKind.u32 z))) rw4) (.c (congrArg (fun z => DV.p (PD.v (Go.Value.int IntKind.u64 z))) rw3) (.c (@rfl Mem (Mem.mk [Box.mk 183 [DV.p (PD.v (Value.int IntKind.u64 n))] false, Box.mk 82 [DV.p (PD.v (Value.slice none 0 0))] false, Box.mk 183 [DV.p (PD.v (Value.int IntKind.u64 0))] false] [] [])) (.c (congrArg (fun z => DV.p (PD.v (Go.Value.int IntKind.u64 z))) rw2) (.c (congrArg (fun z => DV.p (PD.v (Go.Value.int IntKind.u64 z))) rw1) .n))))))))) (by kernel_rfl)) ?_
    first | (rw [show n.toNat = 0 by omega, limbs_zero]; rfl) | (rw [limbs_one (by omega) (by omega), Int.toNat_of_nonneg g0]; rfl)
end Go.Proofs.YtikfefjaeejeeaaGreatDoor
/- Walks: nat.down's iterator. -/
namespace Go.Proofs.YtikfefjaeejeeaaGreatDoor
open Go.RowKit
set_option maxRecDepth 100000
/-- n - 1, .., 0 -/
def downP (n : Nat) : List (List PD) := (List.range n).map fun (k : Nat) => [intP ((n : Int) - 1 - k)]
theorem downP_get {n k : Nat} (h : k < n) : (downP n)[k]? = some [intP ((n : Int) - 1 - k)] := by simp [downP, h]
theorem downP_len (n : Nat) : (downP n).length = n := by simp [downP]
theorem down_it (n : Nat) (hn : n ≤ 9223372036854775807) : ItOK Tryz.prog 189 (intP n) (downP n) := by
  refine it_ok (Callable.mk Tryz.func189 rfl rfl) rfl rfl (fun k v => mkT 14 [(0, .p (.v v)), (3, .p (intP ((n : Int) - 1 - k)))]) ?_ ?_
  · intro l
    have hw : IntKind.i64.wrap ((n : Int) - 1) = (n : Int) - 1 - (0 : Nat) := by rw [wrap64_id (by omega) (by omega)]; omega
    refine crun [] ⟨[0, 3], [], [], none⟩ [] (AX.norm) (St.mk (mkT 14 [(0, DV.p (PD.v (Value.func (Fn.yield l) #[] #[]))), (3, DV.p (PD.v (Value.int IntKind.i64 (IntKind.i64.wrap ((↑n : Int) - 1)))))]) (Mem.mk [] [] [])) .n (by kernel_rfl) ?_
    exact ⟨rfl, by rw [hw]; rfl⟩
  · intro J Jx l k hJ hy hk
    rw [downP_len] at hk ⊢
    by_cases hlt : k < n
    · have hw : IntKind.i64.wrap ((n : Int) - 1 - k - 1) = (n : Int) - 1 - (k + 1 : Nat) := by rw [wrap64_id (by omega) (by omega)]; omega
      refine fi_seq' (fi_seq1 ⟨mkT 14 [(0, .p (.v (yV l))), (3, .p (intP ((n : Int) - 1 - k))), (7, .p (boolP true))], μ0⟩ ?_ ?_)
      · refine crun [] ⟨[0, 3, 7], [], [], none⟩ [(2, .b true)] (AX.norm) (St.mk (mkT 14 [(0, DV.p (PD.v (Value.func (Fn.yield l) #[] #[]))), (3, DV.p (PD.v (Value.int IntKind.i64 ((↑n : Int) - 1 - (↑k : Int))))), (7, DV.p (PD.v (Value.bool true)))]) (Mem.mk [] [] [])) (.c (dT (show (0 : Int) ≤ (↑n : Int) - (1 : Int) - (↑k : Int) by omega)) .n) (by kernel_rfl) ?_
        exact ⟨rfl, rfl⟩
      refine fi_cond (b := true) rfl (fi_end hJ (tm := mkT 14 [(0, .p (.v (yV l))), (3, .p (intP ((n : Int) - 1 - k))), (7, .p (boolP true))]) (.inl ⟨rfl, fun a w hI => fi_is ?_ hI⟩) rfl)
      refine fi_seq' (fi_block ?_)
      refine fi_yield hJ hy 2 rfl rfl rfl rfl rfl rfl rfl (tm := mkT 14 [(0, .p (.v (yV l))), (3, .p (intP ((n : Int) - 1 - k))), (10, .p (.v (yV l))), (11, .p (intP ((n : Int) - 1 - k)))]) ?_ (by show (12 : Nat) < 14; decide) (by show (13 : Nat) < 14; decide) rfl (downP_get hlt) rfl ?_ ?_
      · exact lrun [] [0, 3, 10, 11] [] (by kernel_rfl)
      · intro a w hI
        refine fi_is (fi_last hJ ?_ (fun a w hI => ⟨by omega, hI⟩)) hI
        refine crun [] ⟨[0, 3], [], [], none⟩ [] (AX.norm) (St.mk (mkT 14 [(0, DV.p (PD.v (Value.func (Fn.yield l) #[] #[]))), (3, DV.p (PD.v (Value.int IntKind.i64 (IntKind.i64.wrap ((↑n : Int) - 1 - (↑k : Int) - 1)))))]) (Mem.mk [] [] [])) .n (by kernel_rfl) ?_
        exact ⟨rfl, by rw [hw]; rfl⟩
      · intro a w hd hj
        exact ⟨by omega, hd, hj⟩
    · obtain rfl : k = n := by omega
      refine fi_seq' (fi_seq1 ⟨mkT 14 [(0, .p (.v (yV l))), (3, .p (intP ((k : Int) - 1 - k))), (7, .p (boolP false))], μ0⟩ ?_ ?_)
      · refine crun [] ⟨[0, 3, 7], [], [], none⟩ [(2, .b false)] (AX.norm) (St.mk (mkT 14 [(0, DV.p (PD.v (Value.func (Fn.yield l) #[] #[]))), (3, DV.p (PD.v (Value.int IntKind.i64 ((↑k : Int) - 1 - (↑k : Int))))), (7, DV.p (PD.v (Value.bool false)))]) (Mem.mk [] [] [])) (.c (dF (show ¬ (0 : Int) ≤ (↑k : Int) - (1 : Int) - (↑k : Int) by omega)) .n) (by kernel_rfl) ?_
        exact ⟨rfl, rfl⟩
      exact fi_cond (b := false) rfl (fi_end hJ (.inr ⟨0, rfl, fun a w hI => ⟨rfl, rfl, _, hI⟩⟩) rfl)
end Go.Proofs.YtikfefjaeejeeaaGreatDoor
/- Walks: nat.Cmp. -/
namespace Go.Proofs.YtikfefjaeejeeaaGreatDoor
open Go.RowKit
set_option maxRecDepth 100000
def limbM (a : List Int) (i : Nat) : Int := match a[i]? with
  | some x => IntKind.u64.wrap x
  | none => 0
theorem limb_in (a : List Int) (i : Nat) (x : Int) (h : a[i]? = some x) (hl : a.length ≤ 9223372036854775807) : Pure Tryz.prog 154 [natL a, intP i] (.ret (.v (.int .u64 (limbM a i)))) := by
  have hlt : i < a.length := (List.getElem?_eq_some_iff.1 h).1
  have hx : (nums .u32 a)[i]? = some (.v (.int .u32 x)) := by simp [nums, h]
  have hlen : (nums .u32 a).length = a.length := by simp [nums]
  refine pure_eq (prun [] [(14, .b false), (23, .el (PD.v (Value.int IntKind.u32 x))), (24, .el (PD.v (Value.int IntKind.u32 x)))] (e := AEnd.ret (PD.v (Value.int IntKind.u64 (IntKind.u64.wrap x)))) (.c hx (.c (And.intro hx (nn0 (i))) (.c (dF (show ¬ (↑(nums IntKind.u32 a).length : Int) ≤ (↑i : Int) by omega)) .n))) (by kernel_rfl)) ?_
  simp [limbM, h]
theorem limb_out (a : List Int) (i : Nat) (h : a.length ≤ i) (hl : i ≤ 9223372036854775807) : Pure Tryz.prog 154 [natL a, intP i] (.ret (.v (.int .u64 (limbM a i)))) := by
  have hlen : (nums .u32 a).length = a.length := by simp [nums]
  refine pure_eq (prun [] [(14, .b true)] (e := AEnd.ret (PD.v (Value.int IntKind.u64 0))) (.c (dT (show (↑(nums IntKind.u32 a).length : Int) ≤ (↑i : Int) by omega)) .n) (by kernel_rfl)) ?_
  simp [limbM, h]
theorem limb_pure (a : List Int) (i : Nat) (hl : a.length ≤ 9223372036854775807) (hi : i ≤ 9223372036854775807) : Pure Tryz.prog 154 [natL a, intP i] (.ret (.v (.int .u64 (limbM a i)))) := by
  cases h : a[i]? with
  | some x => exact limb_in a i x h hl
  | none => exact limb_out a i (by simpa using h) hi
def cmpAt (a b : List Int) : Nat → Int
  | 0 => 0
  | n + 1 => if limbM a n < limbM b n then -1 else if limbM b n < limbM a n then 1 else cmpAt a b n
def boxN (a : List Int) : Box := ⟨82, [.p (natL a)], false⟩
def cmpM (a b : List Int) (v : Int) (n : Nat) (sh : Bool) : Mem := ⟨[boxN a, boxN b, ⟨3, [.p (intP v)], false⟩, ⟨82, [.p (natL a), .p (natL b)], false⟩, ⟨3, [.p (intP n)], sh⟩], [], []⟩
def maxE (a b : List Int) : Int := if (if (0 : Int) < ((nums .u32 a).length : Int) then ((nums .u32 a).length : Int) else 0) < ((nums .u32 b).length : Int) then ((nums .u32 b).length : Int) else (if (0 : Int) < ((nums .u32 a).length : Int) then ((nums .u32 a).length : Int) else 0)
theorem maxE_eq (a b : List Int) : maxE a b = ((max a.length b.length : Nat) : Int) := by
  have h1 : (nums .u32 a).length = a.length := by simp [nums]
  have h2 : (nums .u32 b).length = b.length := by simp [nums]
  unfold maxE
  rw [h1, h2]
  repeat' split
  all_goals omega
theorem downP_some {n k : Nat} {x : List PD} (h : (downP n)[k]? = some x) : k < n ∧ x = [intP ((n - 1 - k : Nat) : Int)] := by
  have hk : k < n := by have := (List.getElem?_eq_some_iff.1 h).1; rwa [downP_len] at this
  rw [downP_get hk] at h
  injection h with h
  refine ⟨hk, h ▸ ?_⟩
  congr 2
  omega
theorem cmp_pure (a b : List Int) (ha : a.length ≤ 9223372036854775807) (hb : b.length ≤ 9223372036854775807) : Pure Tryz.prog 127 [natL a, natL b] (.ret (intP (cmpAt a b (max a.length b.length)))) := by
  obtain ⟨n, hn⟩ : ∃ n, n = max a.length b.length := ⟨_, rfl⟩
  have hn2 : n ≤ 9223372036854775807 := by omega
  rw [← hn]
  refine pure_of_fm (Callable.mk Tryz.func127 rfl rfl) rfl ?_
  refine fm_seq1 ⟨mkT 27 [(2, .loc 0 0), (3, .loc 1 0), (4, .loc 2 0)], ⟨[boxN a, boxN b, ⟨3, [.p (intP 0)], false⟩], [], []⟩⟩ ?_ ?_
  · refine crun [] ⟨[2, 3, 4], [], [], none⟩ [] (AX.norm) (St.mk (mkT 27 [(2, DV.loc 0 0), (3, DV.loc 1 0), (4, DV.loc 2 0)]) (Mem.mk [Box.mk 82 [DV.p (PD.sl (nums IntKind.u32 a))] false, Box.mk 82 [DV.p (PD.sl (nums IntKind.u32 b))] false, Box.mk 3 [DV.p (PD.v (Value.int IntKind.i64 0))] false] [] [])) .n (by kernel_rfl) ?_
    exact ⟨rfl, rfl⟩
  refine fm_range (down_it n hn2) (eg_fn Tryz.func189 rfl rfl) (s := ⟨mkT 27 [(2, .loc 0 0), (3, .loc 1 0), (4, .loc 2 0), (11, .fn 189 [.loc 4 0])], cmpM a b 0 n false⟩) (n := 1) (μ0 := cmpM a b 0 n true) ?_ rfl rfl (fun _ => cmpM a b 0 n true) rfl (fun k => cmpAt a b n = cmpAt a b (n - k)) rfl (fun k s2 => s2.μ = cmpM a b (cmpAt a b n) n true) ?_ ?_ ?_ ?_
  · refine crun [153] ⟨[2, 3, 4, 11], [], [], none⟩ [] (AX.norm) (St.mk (mkT 27 [(2, DV.loc 0 0), (3, DV.loc 1 0), (4, DV.loc 2 0), (11, DV.fn 189 [DV.loc 4 0])]) (Mem.mk [Box.mk 82 [DV.p (PD.sl (nums IntKind.u32 a))] false, Box.mk 82 [DV.p (PD.sl (nums IntKind.u32 b))] false, Box.mk 3 [DV.p (PD.v (Value.int IntKind.i64 0))] false, Box.mk 82 [DV.p (PD.sl (nums IntKind.u32 a)), DV.p (PD.sl (nums IntKind.u32 b))] false, Box.mk 3 [DV.p (PD.v (Value.int IntKind.i64 (if true = true then if (if true = true then if 0 < (↑(nums IntKind.u32 a).length : Int) then (↑(nums IntKind.u32 a).length : Int) else 0 else if (↑(nums IntKind.u32 a).length : Int) < 0 then (↑(nums IntKind.u32 a).length : Int) else 0) < (↑(nums IntKind.u32 b).length : Int) then (↑(nums IntKind.u32 b).length : Int) else if true = true then if 0 < (↑(nums IntKind.u32 a).length : Int) then (↑(nums IntKind.u32 a).length : Int) else 0 else if (↑(nums IntKind.u32 a).length : Int) < 0 then (↑(nums IntKind.u32 a).length : Int) else 0 else if (↑(nums IntKind.u32 b).length : Int) < if true = true then if 0 < (↑(nums IntKind.u32 a).length : Int) then (↑(nums IntKind.u32 a).length : Int) else 0 else if (↑(nums IntKind.u32 a).length : Int) < 0 then (↑(nums IntKind.u32 a).length : Int) else 0 then (↑(nums IntKind.u32 b).length : Int) else if true = true then if 0 < (↑(nums IntKind.u32 a).length : Int) then (↑(nums IntKind.u32 a).length : Int) else 0 else if (↑(nums IntKind.u32 a).length : Int) < 0 then (↑(nums IntKind.u32 a).length : Int) else 0)))] false] [] [])) .n (by kernel_rfl) ?_
    exact ⟨rfl, by rw [cmpM, hn, ← maxE_eq]; rfl⟩
  · intro x hx
    obtain ⟨k, hk⟩ := List.mem_iff_getElem?.1 hx
    rw [(downP_some hk).2]; rfl
  · intro l k x hx hv
    obtain ⟨hk, rfl⟩ := downP_some hx
    refine awp_then ⟨mkT 27 [(2, .loc 0 0), (3, .loc 1 0), (4, .loc 2 0), (5, .p (intP ((n - 1 - k : Nat) : Int)))], cmpM a b 0 n true⟩ ?_ ?_
    · refine crun [] ⟨[2, 3, 4, 5], [], [], none⟩ [] (AX.norm) (St.mk (mkT 27 [(2, DV.loc 0 0), (3, DV.loc 1 0), (4, DV.loc 2 0), (5, DV.p (PD.v (Value.int IntKind.i64 (↑(n - 1 - k) : Int))))]) (Mem.mk [Box.mk 82 [DV.p (PD.sl (nums IntKind.u32 a))] false, Box.mk 82 [DV.p (PD.sl (nums IntKind.u32 b))] false, Box.mk 3 [DV.p (PD.v (Value.int IntKind.i64 0))] false, Box.mk 82 [DV.p (PD.sl (nums IntKind.u32 a)), DV.p (PD.sl (nums IntKind.u32 b))] false, Box.mk 3 [DV.p (PD.v (Value.int IntKind.i64 (↑n : Int)))] true] [] [])) .n (by kernel_rfl) ?_
      exact ⟨rfl, rfl⟩
    have la := limb_pure a (n - 1 - k) ha (by omega)
    have lb := limb_pure b (n - 1 - k) hb (by omega)
    have hs : n - k = (n - 1 - k) + 1 := by omega
    rw [hs] at hv
    simp only [cmpAt] at hv
    by_cases h0 : limbM a (n - 1 - k) < limbM b (n - 1 - k)
    ·
      refine crun [] ⟨[2], [], [], none⟩ [(5, .call (AEnd.ret (PD.v (Value.int IntKind.u64 (limbM a (n - 1 - k)))))), (8, .call (AEnd.ret (PD.v (Value.int IntKind.u64 (limbM b (n - 1 - k)))))), (17, .b true)] (AX.ret) (St.mk (mkT 27 [(2, DV.loc 0 0)]) (Mem.mk [Box.mk 82 [DV.p (PD.sl (nums IntKind.u32 a))] false, Box.mk 82 [DV.p (PD.sl (nums IntKind.u32 b))] false, Box.mk 3 [DV.p (PD.v (Value.int IntKind.i64 (-1)))] false, Box.mk 82 [DV.p (PD.sl (nums IntKind.u32 a)), DV.p (PD.sl (nums IntKind.u32 b))] false, Box.mk 3 [DV.p (PD.v (Value.int IntKind.i64 (↑n : Int)))] true] [] [])) (.c (dT h0) (.c (lb) (.c (la) .n))) (by kernel_rfl) ?_
      (show Mem.mk _ _ _ = _; rw [hv]; (first | rw [if_pos h0] | rw [if_neg h0, if_pos h1]); rfl)
    ·
      by_cases h1 : limbM b (n - 1 - k) < limbM a (n - 1 - k)
      ·
        refine crun [] ⟨[2], [], [], none⟩ [(5, .call (AEnd.ret (PD.v (Value.int IntKind.u64 (limbM a (n - 1 - k)))))), (8, .call (AEnd.ret (PD.v (Value.int IntKind.u64 (limbM b (n - 1 - k)))))), (17, .b false), (25, .b true)] (AX.ret) (St.mk (mkT 27 [(2, DV.loc 0 0)]) (Mem.mk [Box.mk 82 [DV.p (PD.sl (nums IntKind.u32 a))] false, Box.mk 82 [DV.p (PD.sl (nums IntKind.u32 b))] false, Box.mk 3 [DV.p (PD.v (Value.int IntKind.i64 1))] false, Box.mk 82 [DV.p (PD.sl (nums IntKind.u32 a)), DV.p (PD.sl (nums IntKind.u32 b))] false, Box.mk 3 [DV.p (PD.v (Value.int IntKind.i64 (↑n : Int)))] true] [] [])) (.c (dT h1) (.c (dF h0) (.c (lb) (.c (la) .n)))) (by kernel_rfl) ?_
        (show Mem.mk _ _ _ = _; rw [hv]; (first | rw [if_pos h0] | rw [if_neg h0, if_pos h1]); rfl)
      ·
        refine crun [] ⟨[], [], [], none⟩ [(5, .call (AEnd.ret (PD.v (Value.int IntKind.u64 (limbM a (n - 1 - k)))))), (8, .call (AEnd.ret (PD.v (Value.int IntKind.u64 (limbM b (n - 1 - k)))))), (17, .b false), (25, .b false)] (AX.norm) (St.mk (mkT 27 []) (Mem.mk [Box.mk 82 [DV.p (PD.sl (nums IntKind.u32 a))] false, Box.mk 82 [DV.p (PD.sl (nums IntKind.u32 b))] false, Box.mk 3 [DV.p (PD.v (Value.int IntKind.i64 0))] false, Box.mk 82 [DV.p (PD.sl (nums IntKind.u32 a)), DV.p (PD.sl (nums IntKind.u32 b))] false, Box.mk 3 [DV.p (PD.v (Value.int IntKind.i64 (↑n : Int)))] true] [] [])) (.c (dF h1) (.c (dF h0) (.c (lb) (.c (la) .n)))) (by kernel_rfl) ?_
        exact ⟨⟨5, 0, 0, Nat.le_refl _, Nat.le_refl _, Nat.le_refl _, rfl, rfl⟩, by show _ = cmpAt a b (n - (k + 1)); rw [hv, if_neg h0, if_neg h1]; congr 1; omega⟩
  · intro hv
    rw [downP_len, Nat.sub_self] at hv
    rw [hv]
    refine crun [] ⟨[4], [], [], none⟩ [] (AX.ret) (St.mk (mkT 27 [(4, DV.loc 2 0)]) (Mem.mk [Box.mk 82 [DV.p (PD.sl (nums IntKind.u32 a))] false, Box.mk 82 [DV.p (PD.sl (nums IntKind.u32 b))] false, Box.mk 3 [DV.p (PD.v (Value.int IntKind.i64 0))] false, Box.mk 82 [DV.p (PD.sl (nums IntKind.u32 a)), DV.p (PD.sl (nums IntKind.u32 b))] false, Box.mk 3 [DV.p (PD.v (Value.int IntKind.i64 (↑n : Int)))] true] [] [])) .n (by kernel_rfl) ?_
    exact fpost_ret rfl rfl rfl
  · intro k s2 hk h
    rw [h]
    exact fpost_ret rfl rfl rfl
end Go.Proofs.YtikfefjaeejeeaaGreatDoor
