/- Walks: nat.Cmp. -/
import Derived.Test.YtmhpccchgbdiiaaGreatDoorWa7
namespace Go.Proofs.YtmhpccchgbdiiaaGreatDoor
open Go.RowKit
set_option maxRecDepth 100000
def limbM (a : List Int) (i : Nat) : Int := match a[i]? with
  | some x => IntKind.u64.wrap x
  | none => 0
theorem limb_in (a : List Int) (i : Nat) (x : Int) (h : a[i]? = some x) (hl : a.length ≤ 9223372036854775807) : Pure Tryz.prog 153 [natL a, intP i] (.ret (.v (.int .u64 (limbM a i)))) := by
  have hlt : i < a.length := (List.getElem?_eq_some_iff.1 h).1
  have hx : (nums .u32 a)[i]? = some (.v (.int .u32 x)) := by simp [nums, h]
  have hlen : (nums .u32 a).length = a.length := by simp [nums]
  refine pure_eq (prun [] [(14, .b false), (23, .el (PD.v (Value.int IntKind.u32 x))), (24, .el (PD.v (Value.int IntKind.u32 x)))] (e := AEnd.ret (PD.v (Value.int IntKind.u64 (IntKind.u64.wrap x)))) (.c hx (.c (And.intro hx (nn0 (i))) (.c (dF (show ¬ (↑(nums IntKind.u32 a).length : Int) ≤ (↑i : Int) by omega)) .n))) (by kernel_rfl)) ?_
  simp [limbM, h]
theorem limb_out (a : List Int) (i : Nat) (h : a.length ≤ i) (hl : i ≤ 9223372036854775807) : Pure Tryz.prog 153 [natL a, intP i] (.ret (.v (.int .u64 (limbM a i)))) := by
  have hlen : (nums .u32 a).length = a.length := by simp [nums]
  refine pure_eq (prun [] [(14, .b true)] (e := AEnd.ret (PD.v (Value.int IntKind.u64 0))) (.c (dT (show (↑(nums IntKind.u32 a).length : Int) ≤ (↑i : Int) by omega)) .n) (by kernel_rfl)) ?_
  simp [limbM, h]
theorem limb_pure (a : List Int) (i : Nat) (hl : a.length ≤ 9223372036854775807) (hi : i ≤ 9223372036854775807) : Pure Tryz.prog 153 [natL a, intP i] (.ret (.v (.int .u64 (limbM a i)))) := by
  cases h : a[i]? with
  | some x => exact limb_in a i x h hl
  | none => exact limb_out a i (by simpa using h) hi
def cmpAt (a b : List Int) : Nat → Int
  | 0 => 0
  | n + 1 => if limbM a n < limbM b n then -1 else if limbM b n < limbM a n then 1 else cmpAt a b n
def boxN (a : List Int) : Box := ⟨90, [.p (natL a)], false⟩
def cmpM (a b : List Int) (v : Int) (n : Nat) (sh : Bool) : Mem := ⟨[boxN a, boxN b, ⟨3, [.p (intP v)], false⟩, ⟨90, [.p (natL a), .p (natL b)], false⟩, ⟨3, [.p (intP n)], sh⟩], [], []⟩
def maxE (a b : List Int) : Int := if (if (0 : Int) < ((nums .u32 a).length : Int) then ((nums .u32 a).length : Int) else 0) < ((nums .u32 b).length : Int) then ((nums .u32 b).length : Int) else (if (0 : Int) < ((nums .u32 a).length : Int) then ((nums .u32 a).length : Int) else 0)
theorem maxE_eq (a b : List Int) : maxE a b = ((max a.length b.length : Nat) : Int) := by
  have h1 : (nums .u32 a).length = a.length := by simp [nums]
  have h2 : (nums .u32 b).length = b.length := by simp [nums]
  unfold maxE
  rw [h1, h2]
  repeat' split
  all_goals omega
theorem downP_some {n k : Nat} {x : List PD} (h : (downP n)[k]? = some x) : k < n ∧ x = [intP ((n - 1 - k : Nat) : Int)] := by
  have hk : k < n := by have := (List.getElem?_eq_some_iff.1 h).1; rwa [downP_len] at this
  rw [downP_get hk] at h
  injection h with h
  refine ⟨hk, h ▸ ?_⟩
  congr 2
  omega
theorem cmp_pure (a b : List Int) (ha : a.length ≤ 9223372036854775807) (hb : b.length ≤ 9223372036854775807) : Pure Tryz.prog 136 [natL a, natL b] (.ret (intP (cmpAt a b (max a.length b.length)))) := by
  obtain ⟨n, hn⟩ : ∃ n, n = max a.length b.length := ⟨_, rfl⟩
  have hn2 : n ≤ 9223372036854775807 := by omega
  rw [← hn]
  refine pure_of_fm (Callable.mk Tryz.func136 rfl rfl) rfl ?_
  refine fm_seq1 ⟨mkT 27 [(2, .loc 0 0), (3, .loc 1 0), (4, .loc 2 0)], ⟨[boxN a, boxN b, ⟨3, [.p (intP 0)], false⟩], [], []⟩⟩ ?_ ?_
  · refine crun [] ⟨[2, 3, 4], [], [], none⟩ [] (AX.norm) (St.mk (mkT 27 [(2, DV.loc 0 0), (3, DV.loc 1 0), (4, DV.loc 2 0)]) (Mem.mk [Box.mk 90 [DV.p (PD.sl (nums IntKind.u32 a))] false, Box.mk 90 [DV.p (PD.sl (nums IntKind.u32 b))] false, Box.mk 3 [DV.p (PD.v (Value.int IntKind.i64 0))] false] [] [])) .n (by kernel_rfl) ?_
    exact ⟨rfl, rfl⟩
  refine fm_range (down_it n hn2) (eg_fn Tryz.func170 rfl rfl) (s := ⟨mkT 27 [(2, .loc 0 0), (3, .loc 1 0), (4, .loc 2 0), (11, .fn 170 [.loc 4 0])], cmpM a b 0 n false⟩) (n := 1) (μ0 := cmpM a b 0 n true) ?_ rfl rfl (fun _ => cmpM a b 0 n true) rfl (fun k => cmpAt a b n = cmpAt a b (n - k)) rfl (fun k s2 => s2.μ = cmpM a b (cmpAt a b n) n true) ?_ ?_ ?_ ?_
  · refine crun [152] ⟨[2, 3, 4, 11], [], [], none⟩ [] (AX.norm) (St.mk (mkT 27 [(2, DV.loc 0 0), (3, DV.loc 1 0), (4, DV.loc 2 0), (11, DV.fn 170 [DV.loc 4 0])]) (Mem.mk [Box.mk 90 [DV.p (PD.sl (nums IntKind.u32 a))] false, Box.mk 90 [DV.p (PD.sl (nums IntKind.u32 b))] false, Box.mk 3 [DV.p (PD.v (Value.int IntKind.i64 0))] false, Box.mk 90 [DV.p (PD.sl (nums IntKind.u32 a)), DV.p (PD.sl (nums IntKind.u32 b))] false, Box.mk 3 [DV.p (PD.v (Value.int IntKind.i64 (if true = true then if (if true = true then if 0 < (↑(nums IntKind.u32 a).length : Int) then (↑(nums IntKind.u32 a).length : Int) else 0 else if (↑(nums IntKind.u32 a).length : Int) < 0 then (↑(nums IntKind.u32 a).length : Int) else 0) < (↑(nums IntKind.u32 b).length : Int) then (↑(nums IntKind.u32 b).length : Int) else if true = true then if 0 < (↑(nums IntKind.u32 a).length : Int) then (↑(nums IntKind.u32 a).length : Int) else 0 else if (↑(nums IntKind.u32 a).length : Int) < 0 then (↑(nums IntKind.u32 a).length : Int) else 0 else if (↑(nums IntKind.u32 b).length : Int) < if true = true then if 0 < (↑(nums IntKind.u32 a).length : Int) then (↑(nums IntKind.u32 a).length : Int) else 0 else if (↑(nums IntKind.u32 a).length : Int) < 0 then (↑(nums IntKind.u32 a).length : Int) else 0 then (↑(nums IntKind.u32 b).length : Int) else if true = true then if 0 < (↑(nums IntKind.u32 a).length : Int) then (↑(nums IntKind.u32 a).length : Int) else 0 else if (↑(nums IntKind.u32 a).length : Int) < 0 then (↑(nums IntKind.u32 a).length : Int) else 0)))] false] [] [])) .n (by kernel_rfl) ?_
    exact ⟨rfl, by rw [cmpM, hn, ← maxE_eq]; rfl⟩
  · intro x hx
    obtain ⟨k, hk⟩ := List.mem_iff_getElem?.1 hx
    rw [(downP_some hk).2]; rfl
  · intro l k x hx hv
    obtain ⟨hk, rfl⟩ := downP_some hx
    refine awp_then ⟨mkT 27 [(2, .loc 0 0), (3, .loc 1 0), (4, .loc 2 0), (5, .p (intP ((n - 1 - k : Nat) : Int)))], cmpM a b 0 n true⟩ ?_ ?_
    · refine crun [] ⟨[2, 3, 4, 5], [], [], none⟩ [] (AX.norm) (St.mk (mkT 27 [(2, DV.loc 0 0), (3, DV.loc 1 0), (4, DV.loc 2 0), (5, DV.p (PD.v (Value.int IntKind.i64 (↑(n - 1 - k) : Int))))]) (Mem.mk [Box.mk 90 [DV.p (PD.sl (nums IntKind.u32 a))] false, Box.mk 90 [DV.p (PD.sl (nums IntKind.u32 b))] false, Box.mk 3 [DV.p (PD.v (Value.int IntKind.i64 0))] false, Box.mk 90 [DV.p (PD.sl (nums IntKind.u32 a)), DV.p (PD.sl (nums IntKind.u32 b))] false, Box.mk 3 [DV.p (PD.v (Value.int IntKind.i64 (↑n : Int)))] true] [] [])) .n (by kernel_rfl) ?_
      exact ⟨rfl, rfl⟩
    have la := limb_pure a (n - 1 - k) ha (by omega)
    have lb := limb_pure b (n - 1 - k) hb (by omega)
    have hs : n - k = (n - 1 - k) + 1 := by omega
    rw [hs] at hv
    simp only [cmpAt] at hv
    by_cases h0 : limbM a (n - 1 - k) < limbM b (n - 1 - k)
    ·
      refine crun [] ⟨[2], [], [], none⟩ [(5, .call (AEnd.ret (PD.v (Value.int IntKind.u64 (limbM a (n - 1 - k)))))), (8, .call (AEnd.ret (PD.v (Value.int IntKind.u64 (limbM b (n - 1 - k)))))), (17, .b true)] (AX.ret) (St.mk (mkT 27 [(2, DV.loc 0 0)]) (Mem.mk [Box.mk 90 [DV.p (PD.sl (nums IntKind.u32 a))] false, Box.mk 90 [DV.p (PD.sl (nums IntKind.u32 b))] false, Box.mk 3 [DV.p (PD.v (Value.int IntKind.i64 (-1)))] false, Box.mk 90 [DV.p (PD.sl (nums IntKind.u32 a)), DV.p (PD.sl (nums IntKind.u32 b))] false, Box.mk 3 [DV.p (PD.v (Value.int IntKind.i64 (↑n : Int)))] true] [] [])) (.c (dT h0) (.c (lb) (.c (la) .n))) (by kernel_rfl) ?_
      (show Mem.mk _ _ _ = _; rw [hv]; (first | rw [if_pos h0] | rw [if_neg h0, if_pos h1]); rfl)
    ·
      by_cases h1 : limbM b (n - 1 - k) < limbM a (n - 1 - k)
      ·
        refine crun [] ⟨[2], [], [], none⟩ [(5, .call (AEnd.ret (PD.v (Value.int IntKind.u64 (limbM a (n - 1 - k)))))), (8, .call (AEnd.ret (PD.v (Value.int IntKind.u64 (limbM b (n - 1 - k)))))), (17, .b false), (25, .b true)] (AX.ret) (St.mk (mkT 27 [(2, DV.loc 0 0)]) (Mem.mk [Box.mk 90 [DV.p (PD.sl (nums IntKind.u32 a))] false, Box.mk 90 [DV.p (PD.sl (nums IntKind.u32 b))] false, Box.mk 3 [DV.p (PD.v (Value.int IntKind.i64 1))] false, Box.mk 90 [DV.p (PD.sl (nums IntKind.u32 a)), DV.p (PD.sl (nums IntKind.u32 b))] false, Box.mk 3 [DV.p (PD.v (Value.int IntKind.i64 (↑n : Int)))] true] [] [])) (.c (dT h1) (.c (dF h0) (.c (lb) (.c (la) .n)))) (by kernel_rfl) ?_
        (show Mem.mk _ _ _ = _; rw [hv]; (first | rw [if_pos h0] | rw [if_neg h0, if_pos h1]); rfl)
      ·
        refine crun [] ⟨[], [], [], none⟩ [(5, .call (AEnd.ret (PD.v (Value.int IntKind.u64 (limbM a (n - 1 - k)))))), (8, .call (AEnd.ret (PD.v (Value.int IntKind.u64 (limbM b (n - 1 - k)))))), (17, .b false), (25, .b false)] (AX.norm) (St.mk (mkT 27 []) (Mem.mk [Box.mk 90 [DV.p (PD.sl (nums IntKind.u32 a))] false, Box.mk 90 [DV.p (PD.sl (nums IntKind.u32 b))] false, Box.mk 3 [DV.p (PD.v (Value.int IntKind.i64 0))] false, Box.mk 90 [DV.p (PD.sl (nums IntKind.u32 a)), DV.p (PD.sl (nums IntKind.u32 b))] false, Box.mk 3 [DV.p (PD.v (Value.int IntKind.i64 (↑n : Int)))] true] [] [])) (.c (dF h1) (.c (dF h0) (.c (lb) (.c (la) .n)))) (by kernel_rfl) ?_
        exact ⟨⟨5, 0, 0, Nat.le_refl _, Nat.le_refl _, Nat.le_refl _, rfl, rfl⟩, by show _ = cmpAt a b (n - (k + 1)); rw [hv, if_neg h0, if_neg h1]; congr 1; omega⟩
  · intro hv
    rw [downP_len, Nat.sub_self] at hv
    rw [hv]
    refine crun [] ⟨[4], [], [], none⟩ [] (AX.ret) (St.mk (mkT 27 [(4, DV.loc 2 0)]) (Mem.mk [Box.mk 90 [DV.p (PD.sl (nums IntKind.u32 a))] false, Box.mk 90 [DV.p (PD.sl (nums IntKind.u32 b))] false, Box.mk 3 [DV.p (PD.v (Value.int IntKind.i64 0))] false, Box.mk 90 [DV.p (PD.sl (nums IntKind.u32 a)), DV.p (PD.sl (nums IntKind.u32 b))] false, Box.mk 3 [DV.p (PD.v (Value.int IntKind.i64 (↑n : Int)))] true] [] [])) .n (by kernel_rfl) ?_
    exact fpost_ret rfl rfl rfl
  · intro k s2 hk h
    rw [h]
    exact fpost_ret rfl rfl rfl
end Go.Proofs.YtmhpccchgbdiiaaGreatDoor
