/- Walks: refs, plain names. -/
import Derived.Test.YtikfefjaeejeeaaGreatDoorAeU
namespace Go.Proofs.YtikfefjaeejeeaaGreatDoor
open Go.RowKit
set_option maxRecDepth 100000

def letB (c : Nat) : Bool := decide (97 ≤ c) && decide (c ≤ 122)
def othB (c : Nat) : Bool := (decide (48 ≤ c) && decide (c ≤ 57)) || decide (c = 95)
def okB : Nat → List UInt8 → Bool
  | _, [] => true
  | i, c :: r => (letB c.toNat || (decide (i ≠ 0) && othB c.toNat)) && okB (i + 1) r
def plainM (s : ByteArray) : Bool := decide (1 ≤ s.size) && decide (s.size ≤ 32) && okB 0 s.data.toList
theorem str_get {s : ByteArray} {k : Nat} (h : k < s.size) : ∃ b, s[k]? = some b ∧ s.data.toList.drop k = b :: s.data.toList.drop (k + 1) := by
  have hlt' : k < s.data.toList.length := by rw [Array.length_toList]; exact h
  exact ⟨s.data.toList[k], by rw [getElem?_pos s k h]; rfl, List.drop_eq_getElem_cons hlt'⟩
theorem str_end {s : ByteArray} {k : Nat} (h : ¬ k < s.size) : s.data.toList.drop k = [] := List.drop_eq_nil_of_le (by rw [Array.length_toList]; exact Nat.le_of_not_lt h)
theorem okB_end {s : ByteArray} {k : Nat} (h : ¬ k < s.size) : okB k (s.data.toList.drop k) = true := by rw [str_end h]; rfl
theorem okB_step {k : Nat} {b : UInt8} {r l : List UInt8} (h : l = b :: r) : okB k l = ((letB b.toNat || (decide (k ≠ 0) && othB b.toNat)) && okB (k + 1) r) := by rw [h]; rfl
theorem test_ok {k c : Nat} (h : (97 ≤ (c : Int) ∧ (c : Int) ≤ 122) ∨ (¬ (k : Int) = 0 ∧ ((48 ≤ (c : Int) ∧ (c : Int) ≤ 57) ∨ (c : Int) = 95))) : (letB c || (decide (k ≠ 0) && othB c)) = true := by
  simp only [letB, othB, Bool.or_eq_true, Bool.and_eq_true, decide_eq_true_eq]
  omega
theorem test_no {k c : Nat} (h : ¬ ((97 ≤ (c : Int) ∧ (c : Int) ≤ 122) ∨ (¬ (k : Int) = 0 ∧ ((48 ≤ (c : Int) ∧ (c : Int) ≤ 57) ∨ (c : Int) = 95)))) : (letB c || (decide (k ≠ 0) && othB c)) = false := by
  rw [← Bool.not_eq_true]
  simp only [letB, othB, Bool.or_eq_true, Bool.and_eq_true, decide_eq_true_eq]
  omega
theorem plain_loop (s : ByteArray) (hs : s.size ≤ 32) : LoopOK Tryz.prog (loopB Tryz.prog 28 0) ⟨mkT 56 [(0, .p (.v (.string s))), (2, .p (.v (.bool false))), (3, .p (.v (.int .i64 0)))], ⟨[], [], []⟩⟩ (if okB 0 s.data.toList = true then .exit 0 else .ret) ⟨mkT 56 [(0, .p (.v (.string s))), (2, .p (.v (.bool false)))], ⟨[], [], []⟩⟩ := by
  refine loop_ix [0, 2, 3] (fun k => ⟨mkT 56 [(0, .p (.v (.string s))), (2, .p (.v (.bool false))), (3, .p (.v (.int .i64 k)))], ⟨[], [], []⟩⟩) s.size (fun k => okB 0 s.data.toList = okB k (s.data.toList.drop k)) rfl (fun _ => rfl) ?_
  intro k hk hp ro K Q hQ hK
  by_cases hlt : k < s.size
  · obtain ⟨b, hb, hd⟩ := str_get hlt
    have hst := okB_step (k := k) hd
    rw [hst] at hp
    have hw := wrap64_succ (k := k) (by omega)
    by_cases h0 : 97 ≤ (↑b.toNat : Int)
    ·
      by_cases h1 : (↑b.toNat : Int) ≤ 122
      ·
        refine crun [] ⟨[0, 2, 3], [], [], none⟩ [(6, .b true), (16, .st (b)), (17, .b true), (21, .st (b)), (22, .b true), (30, .st (b)), (31, .b true), (35, .st (b)), (36, .b false), (41, .st (b)), (42, .b false)] (AX.norm) (St.mk (mkT 56 [(0, DV.p (PD.v (Value.string s))), (2, DV.p (PD.v (Value.bool false))), (3, DV.p (PD.v (Value.int IntKind.i64 (IntKind.i64.wrap ((↑k : Int) + 1)))))]) (Mem.mk [] [] [])) (.c (eF (show ¬ (↑b.toNat : Int) = (95 : Int) by omega)) (.c (And.intro hb (nn0 (k))) (.c (dF (show ¬ (↑b.toNat : Int) ≤ (57 : Int) by omega)) (.c (And.intro hb (nn0 (k))) (.c (dT (show (48 : Int) ≤ (↑b.toNat : Int) by omega)) (.c (And.intro hb (nn0 (k))) (.c (dT h1) (.c (And.intro hb (nn0 (k))) (.c (dT h0) (.c (And.intro hb (nn0 (k))) (.c (dT (show (↑k : Int) < (↑s.size : Int) by omega)) .n))))))))))) (by kernel_rfl) ?_
        exact hK _ hlt (by rw [hw]; rfl) (by rw [hp, test_ok (by omega)]; rfl)
      ·
        by_cases h2 : (↑k : Int) = 0
        ·
          refine crun [] ⟨[0, 2], [], [], none⟩ [(6, .b true), (16, .st (b)), (17, .b true), (21, .st (b)), (22, .b false), (30, .st (b)), (31, .b true), (35, .st (b)), (36, .b false), (41, .st (b)), (42, .b false), (52, .b true)] (AX.ret) (St.mk (mkT 56 [(0, DV.p (PD.v (Value.string s))), (2, DV.p (PD.v (Value.bool false)))]) (Mem.mk [] [] [])) (.c (eT h2) (.c (eF (show ¬ (↑b.toNat : Int) = (95 : Int) by omega)) (.c (And.intro hb (nn0 (k))) (.c (dF (show ¬ (↑b.toNat : Int) ≤ (57 : Int) by omega)) (.c (And.intro hb (nn0 (k))) (.c (dT (show (48 : Int) ≤ (↑b.toNat : Int) by omega)) (.c (And.intro hb (nn0 (k))) (.c (dF h1) (.c (And.intro hb (nn0 (k))) (.c (dT h0) (.c (And.intro hb (nn0 (k))) (.c (dT (show (↑k : Int) < (↑s.size : Int) by omega)) .n)))))))))))) (by kernel_rfl) ?_
          (rw [hp, test_no (by omega)] at hQ; exact hQ)
        ·
          refine crun [] ⟨[0, 2], [], [], none⟩ [(6, .b true), (16, .st (b)), (17, .b true), (21, .st (b)), (22, .b false), (30, .st (b)), (31, .b true), (35, .st (b)), (36, .b false), (41, .st (b)), (42, .b false), (52, .b false)] (AX.ret) (St.mk (mkT 56 [(0, DV.p (PD.v (Value.string s))), (2, DV.p (PD.v (Value.bool false)))]) (Mem.mk [] [] [])) (.c (eF h2) (.c (eF (show ¬ (↑b.toNat : Int) = (95 : Int) by omega)) (.c (And.intro hb (nn0 (k))) (.c (dF (show ¬ (↑b.toNat : Int) ≤ (57 : Int) by omega)) (.c (And.intro hb (nn0 (k))) (.c (dT (show (48 : Int) ≤ (↑b.toNat : Int) by omega)) (.c (And.intro hb (nn0 (k))) (.c (dF h1) (.c (And.intro hb (nn0 (k))) (.c (dT h0) (.c (And.intro hb (nn0 (k))) (.c (dT (show (↑k : Int) < (↑s.size : Int) by omega)) .n)))))))))))) (by kernel_rfl) ?_
          (rw [hp, test_no (by omega)] at hQ; exact hQ)
    ·
      by_cases h1 : 48 ≤ (↑b.toNat : Int)
      ·
        by_cases h2 : (↑b.toNat : Int) ≤ 57
        ·
          by_cases h3 : (↑k : Int) = 0
          ·
            refine crun [] ⟨[0, 2], [], [], none⟩ [(6, .b true), (16, .st (b)), (17, .b false), (30, .st (b)), (31, .b true), (35, .st (b)), (36, .b true), (52, .b true)] (AX.ret) (St.mk (mkT 56 [(0, DV.p (PD.v (Value.string s))), (2, DV.p (PD.v (Value.bool false)))]) (Mem.mk [] [] [])) (.c (eT h3) (.c (dT h2) (.c (And.intro hb (nn0 (k))) (.c (dT h1) (.c (And.intro hb (nn0 (k))) (.c (dF h0) (.c (And.intro hb (nn0 (k))) (.c (dT (show (↑k : Int) < (↑s.size : Int) by omega)) .n)))))))) (by kernel_rfl) ?_
            (rw [hp, test_no (by omega)] at hQ; exact hQ)
          ·
            refine crun [] ⟨[0, 2, 3], [], [], none⟩ [(6, .b true), (16, .st (b)), (17, .b false), (30, .st (b)), (31, .b true), (35, .st (b)), (36, .b true), (52, .b false)] (AX.norm) (St.mk (mkT 56 [(0, DV.p (PD.v (Value.string s))), (2, DV.p (PD.v (Value.bool false))), (3, DV.p (PD.v (Value.int IntKind.i64 (IntKind.i64.wrap ((↑k : Int) + 1)))))]) (Mem.mk [] [] [])) (.c (eF h3) (.c (dT h2) (.c (And.intro hb (nn0 (k))) (.c (dT h1) (.c (And.intro hb (nn0 (k))) (.c (dF h0) (.c (And.intro hb (nn0 (k))) (.c (dT (show (↑k : Int) < (↑s.size : Int) by omega)) .n)))))))) (by kernel_rfl) ?_
            exact hK _ hlt (by rw [hw]; rfl) (by rw [hp, test_ok (by omega)]; rfl)
        ·
          by_cases h3 : (↑b.toNat : Int) = 95
          ·
            by_cases h4 : (↑k : Int) = 0
            ·
              refine crun [] ⟨[0, 2], [], [], none⟩ [(6, .b true), (16, .st (b)), (17, .b false), (30, .st (b)), (31, .b true), (35, .st (b)), (36, .b false), (41, .st (b)), (42, .b true), (52, .b true)] (AX.ret) (St.mk (mkT 56 [(0, DV.p (PD.v (Value.string s))), (2, DV.p (PD.v (Value.bool false)))]) (Mem.mk [] [] [])) (.c (eT h4) (.c (eT h3) (.c (And.intro hb (nn0 (k))) (.c (dF h2) (.c (And.intro hb (nn0 (k))) (.c (dT h1) (.c (And.intro hb (nn0 (k))) (.c (dF h0) (.c (And.intro hb (nn0 (k))) (.c (dT (show (↑k : Int) < (↑s.size : Int) by omega)) .n)))))))))) (by kernel_rfl) ?_
              (rw [hp, test_no (by omega)] at hQ; exact hQ)
            ·
              refine crun [] ⟨[0, 2, 3], [], [], none⟩ [(6, .b true), (16, .st (b)), (17, .b false), (30, .st (b)), (31, .b true), (35, .st (b)), (36, .b false), (41, .st (b)), (42, .b true), (52, .b false)] (AX.norm) (St.mk (mkT 56 [(0, DV.p (PD.v (Value.string s))), (2, DV.p (PD.v (Value.bool false))), (3, DV.p (PD.v (Value.int IntKind.i64 (IntKind.i64.wrap ((↑k : Int) + 1)))))]) (Mem.mk [] [] [])) (.c (eF h4) (.c (eT h3) (.c (And.intro hb (nn0 (k))) (.c (dF h2) (.c (And.intro hb (nn0 (k))) (.c (dT h1) (.c (And.intro hb (nn0 (k))) (.c (dF h0) (.c (And.intro hb (nn0 (k))) (.c (dT (show (↑k : Int) < (↑s.size : Int) by omega)) .n)))))))))) (by kernel_rfl) ?_
              exact hK _ hlt (by rw [hw]; rfl) (by rw [hp, test_ok (by omega)]; rfl)
          ·
            by_cases h4 : (↑k : Int) = 0
            ·
              refine crun [] ⟨[0, 2], [], [], none⟩ [(6, .b true), (16, .st (b)), (17, .b false), (30, .st (b)), (31, .b true), (35, .st (b)), (36, .b false), (41, .st (b)), (42, .b false), (52, .b true)] (AX.ret) (St.mk (mkT 56 [(0, DV.p (PD.v (Value.string s))), (2, DV.p (PD.v (Value.bool false)))]) (Mem.mk [] [] [])) (.c (eT h4) (.c (eF h3) (.c (And.intro hb (nn0 (k))) (.c (dF h2) (.c (And.intro hb (nn0 (k))) (.c (dT h1) (.c (And.intro hb (nn0 (k))) (.c (dF h0) (.c (And.intro hb (nn0 (k))) (.c (dT (show (↑k : Int) < (↑s.size : Int) by omega)) .n)))))))))) (by kernel_rfl) ?_
              (rw [hp, test_no (by omega)] at hQ; exact hQ)
            ·
              refine crun [] ⟨[0, 2], [], [], none⟩ [(6, .b true), (16, .st (b)), (17, .b false), (30, .st (b)), (31, .b true), (35, .st (b)), (36, .b false), (41, .st (b)), (42, .b false), (52, .b false)] (AX.ret) (St.mk (mkT 56 [(0, DV.p (PD.v (Value.string s))), (2, DV.p (PD.v (Value.bool false)))]) (Mem.mk [] [] [])) (.c (eF h4) (.c (eF h3) (.c (And.intro hb (nn0 (k))) (.c (dF h2) (.c (And.intro hb (nn0 (k))) (.c (dT h1) (.c (And.intro hb (nn0 (k))) (.c (dF h0) (.c (And.intro hb (nn0 (k))) (.c (dT (show (↑k : Int) < (↑s.size : Int) by omega)) .n)))))))))) (by kernel_rfl) ?_
              (rw [hp, test_no (by omega)] at hQ; exact hQ)
      ·
        by_cases h2 : (↑k : Int) = 0
        ·
          refine crun [] ⟨[0, 2], [], [], none⟩ [(6, .b true), (16, .st (b)), (17, .b false), (30, .st (b)), (31, .b false), (41, .st (b)), (42, .b false), (52, .b true)] (AX.ret) (St.mk (mkT 56 [(0, DV.p (PD.v (Value.string s))), (2, DV.p (PD.v (Value.bool false)))]) (Mem.mk [] [] [])) (.c (eT h2) (.c (eF (show ¬ (↑b.toNat : Int) = (95 : Int) by omega)) (.c (And.intro hb (nn0 (k))) (.c (dF h1) (.c (And.intro hb (nn0 (k))) (.c (dF h0) (.c (And.intro hb (nn0 (k))) (.c (dT (show (↑k : Int) < (↑s.size : Int) by omega)) .n)))))))) (by kernel_rfl) ?_
          (rw [hp, test_no (by omega)] at hQ; exact hQ)
        ·
          refine crun [] ⟨[0, 2], [], [], none⟩ [(6, .b true), (16, .st (b)), (17, .b false), (30, .st (b)), (31, .b false), (41, .st (b)), (42, .b false), (52, .b false)] (AX.ret) (St.mk (mkT 56 [(0, DV.p (PD.v (Value.string s))), (2, DV.p (PD.v (Value.bool false)))]) (Mem.mk [] [] [])) (.c (eF h2) (.c (eF (show ¬ (↑b.toNat : Int) = (95 : Int) by omega)) (.c (And.intro hb (nn0 (k))) (.c (dF h1) (.c (And.intro hb (nn0 (k))) (.c (dF h0) (.c (And.intro hb (nn0 (k))) (.c (dT (show (↑k : Int) < (↑s.size : Int) by omega)) .n)))))))) (by kernel_rfl) ?_
          (rw [hp, test_no (by omega)] at hQ; exact hQ)
  · have hp2 := hp.trans (okB_end hlt)
    refine crun [] ⟨[0, 2], [], [], none⟩ [(6, .b false)] (AX.exit 0) (St.mk (mkT 56 [(0, DV.p (PD.v (Value.string s))), (2, DV.p (PD.v (Value.bool false)))]) (Mem.mk [] [] [])) (.c (dF (show ¬ (↑k : Int) < (↑s.size : Int) by omega)) .n) (by kernel_rfl) ?_
    rw [if_pos hp2] at hQ; exact hQ
theorem refPlain_pure (s : ByteArray) : Pure Tryz.prog 28 [.v (.string s)] (.ret (.v (.bool (plainM s)))) := by
  by_cases hs : s.size ≤ 32
  · have hl := plain_loop s hs
    by_cases h0 : (↑s.size : Int) < 1
    ·
      refine pure_eq (prun [] [(10, .b true)] (e := AEnd.ret (PD.v (Value.bool false))) (.c (dT h0) .n) (by kernel_rfl)) ?_
      simp [plainM, *] <;> omega
    ·
      rcases Bool.eq_false_or_eq_true (okB 0 s.data.toList) with h1 | h1
      ·
        refine pure_eq (prun [] [(10, .b false), (14, .b false), (25, .code [0, 2, 3] (AX.exit 0) (St.mk (mkT 56 [(0, DV.p (PD.v (Value.string s))), (2, DV.p (PD.v (Value.bool false)))]) (Mem.mk [] [] [])))] (e := AEnd.ret (PD.v (Value.bool true))) (.c (loop_x (hl) (if_pos h1)) (.c (dF (show ¬ (32 : Int) < (↑s.size : Int) by omega)) (.c (dF h0) .n))) (by kernel_rfl)) ?_
        simp [plainM, *] <;> omega
      ·
        refine pure_eq (prun [] [(10, .b false), (14, .b false), (25, .code [0, 2, 3] (AX.ret) (St.mk (mkT 56 [(0, DV.p (PD.v (Value.string s))), (2, DV.p (PD.v (Value.bool false)))]) (Mem.mk [] [] [])))] (e := AEnd.ret (PD.v (Value.bool false))) (.c (loop_x (hl) (if_neg (by rw [h1]; simp))) (.c (dF (show ¬ (32 : Int) < (↑s.size : Int) by omega)) (.c (dF h0) .n))) (by kernel_rfl)) ?_
        simp [plainM, *] <;> omega
  · refine pure_eq (prun [] [(10, .b false), (14, .b true)] (e := AEnd.ret (PD.v (Value.bool false))) (.c (dT (show (32 : Int) < (↑s.size : Int) by omega)) (.c (dF (show ¬ (↑s.size : Int) < (1 : Int) by omega)) .n)) (by kernel_rfl)) ?_
    simp [plainM, *] <;> omega
end Go.Proofs.YtikfefjaeejeeaaGreatDoor
