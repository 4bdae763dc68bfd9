/- Walks: graph.Name, graph.Refs. -/
import Derived.Test.YtmhpccchgbdiiaaGreatDoorWa0
namespace Go.Proofs.YtmhpccchgbdiiaaGreatDoor
open Go.RowKit
set_option maxRecDepth 100000

theorem get_byte {s : ByteArray} {k : Nat} {b : UInt8} (h : s[k]? = some b) : s.get! k = b := by
  have hk : k < s.size := by
    rcases Nat.lt_or_ge k s.size with hk | hk
    · exact hk
    · rw [getElem?_neg s k (by omega)] at h; cases h
  rw [getElem?_pos s k hk] at h
  injection h with h
  rw [← h]
  show s.data[k]! = s.data[k]
  rw [getElem!_pos]
theorem dec_small {s : ByteArray} {k : Nat} {b : UInt8} (h : s[k]? = some b) (hb : b.toNat < 128) : Utf8.decode s k = (b.toNat, 1) := by
  simp only [Utf8.decode, Nat.add_zero, get_byte h]
  rw [if_pos hb]
theorem dec_big {s : ByteArray} {k : Nat} {b : UInt8} (h : s[k]? = some b) (hb : ¬ b.toNat < 128) : 128 ≤ (Utf8.decode s k).1 := by
  simp only [Utf8.decode, Nat.add_zero, get_byte h, Utf8.runeError]
  rw [if_neg hb]
  split
  · split <;> simp <;> omega
  · split
    · split
      · rename_i h1; simp at h1 ⊢; omega
      · simp
    · split
      · split
        · rename_i h1; simp at h1 ⊢; omega
        · simp
      · simp
theorem name_loop (s : ByteArray) (hs : s.size ≤ 32) : LoopOK Tryz.prog (loopB Tryz.prog 84 0) ⟨mkT 44 [(0, .p (.v (.string s))), (2, .p (.v (.bool false))), (15, .it 0)], ⟨[], [], [.it s 0]⟩⟩ (if okB 0 s.data.toList = true then .exit 0 else .ret) ⟨mkT 44 [(2, .p (.v (.bool false)))], ⟨[], [], [.any]⟩⟩ := by
  refine loop_ix [0, 2, 15] (fun k => ⟨mkT 44 [(0, .p (.v (.string s))), (2, .p (.v (.bool false))), (15, .it 0)], ⟨[], [], [.it s k]⟩⟩) s.size (fun k => okB 0 s.data.toList = okB k (s.data.toList.drop k)) rfl (fun _ => rfl) ?_
  intro k hk hp ro K Q hQ hK
  by_cases hlt : k < s.size
  · obtain ⟨b, hb, hd⟩ := str_get hlt
    have hst := okB_step (k := k) hd
    rw [hst] at hp
    by_cases hb2 : b.toNat < 128
    · have hdec := dec_small hb hb2
      by_cases h0 : 48 ≤ (↑b.toNat : Int)
      ·
        by_cases h1 : (↑b.toNat : Int) ≤ 57
        ·
          by_cases h2 : 0 < (↑k : Int)
          ·
            refine crun [] ⟨[0, 2, 15], [], [], none⟩ [(2, .nx (b.toNat) (1)), (19, .b true), (22, .b true), (33, .b false), (40, .b true)] (AX.norm) (St.mk (mkT 44 [(0, DV.p (PD.v (Value.string s))), (2, DV.p (PD.v (Value.bool false))), (15, DV.it 0)]) (Mem.mk [] [] [AO.it s (k + 1)])) (.c (dT h2) (.c (dF (show ¬ (97 : Int) ≤ (↑b.toNat : Int) by omega)) (.c (dT h1) (.c (dT h0) (.c (And.intro hlt hdec) .n))))) (by kernel_rfl) ?_
            exact hK _ hlt rfl (by rw [hp, test_ok (by omega)]; rfl)
          ·
            refine crun [] ⟨[2], [], [0], none⟩ [(2, .nx (b.toNat) (1)), (19, .b true), (22, .b true), (33, .b false), (40, .b false)] (AX.ret) (St.mk (mkT 44 [(2, DV.p (PD.v (Value.bool false)))]) (Mem.mk [] [] [if (Fin_.mk [2] [] [0] none).fo.contains 0 = true then AO.any else AO.it s (k + 1)])) (.c (dF h2) (.c (dF (show ¬ (97 : Int) ≤ (↑b.toNat : Int) by omega)) (.c (dT h1) (.c (dT h0) (.c (And.intro hlt hdec) .n))))) (by kernel_rfl) ?_
            (rw [hp, test_no (by omega)] at hQ; exact hQ)
        ·
          by_cases h2 : (↑b.toNat : Int) = 95
          ·
            by_cases h3 : 0 < (↑k : Int)
            ·
              refine crun [] ⟨[0, 2, 15], [], [], none⟩ [(2, .nx (b.toNat) (1)), (19, .b true), (22, .b false), (26, .b true), (33, .b false), (40, .b true)] (AX.norm) (St.mk (mkT 44 [(0, DV.p (PD.v (Value.string s))), (2, DV.p (PD.v (Value.bool false))), (15, DV.it 0)]) (Mem.mk [] [] [AO.it s (k + 1)])) (.c (dT h3) (.c (dF (show ¬ (97 : Int) ≤ (↑b.toNat : Int) by omega)) (.c (eT h2) (.c (dF h1) (.c (dT h0) (.c (And.intro hlt hdec) .n)))))) (by kernel_rfl) ?_
              exact hK _ hlt rfl (by rw [hp, test_ok (by omega)]; rfl)
            ·
              refine crun [] ⟨[2], [], [0], none⟩ [(2, .nx (b.toNat) (1)), (19, .b true), (22, .b false), (26, .b true), (33, .b false), (40, .b false)] (AX.ret) (St.mk (mkT 44 [(2, DV.p (PD.v (Value.bool false)))]) (Mem.mk [] [] [if (Fin_.mk [2] [] [0] none).fo.contains 0 = true then AO.any else AO.it s (k + 1)])) (.c (dF h3) (.c (dF (show ¬ (97 : Int) ≤ (↑b.toNat : Int) by omega)) (.c (eT h2) (.c (dF h1) (.c (dT h0) (.c (And.intro hlt hdec) .n)))))) (by kernel_rfl) ?_
              (rw [hp, test_no (by omega)] at hQ; exact hQ)
          ·
            by_cases h3 : 97 ≤ (↑b.toNat : Int)
            ·
              by_cases h4 : (↑b.toNat : Int) ≤ 122
              ·
                refine crun [] ⟨[0, 2, 15], [], [], none⟩ [(2, .nx (b.toNat) (1)), (19, .b true), (22, .b false), (26, .b false), (33, .b true), (36, .b true)] (AX.norm) (St.mk (mkT 44 [(0, DV.p (PD.v (Value.string s))), (2, DV.p (PD.v (Value.bool false))), (15, DV.it 0)]) (Mem.mk [] [] [AO.it s (k + 1)])) (.c (dT h4) (.c (dT h3) (.c (eF h2) (.c (dF h1) (.c (dT h0) (.c (And.intro hlt hdec) .n)))))) (by kernel_rfl) ?_
                exact hK _ hlt rfl (by rw [hp, test_ok (by omega)]; rfl)
              ·
                by_cases h5 : 0 < (↑k : Int)
                ·
                  refine crun [] ⟨[2], [], [0], none⟩ [(2, .nx (b.toNat) (1)), (19, .b true), (22, .b false), (26, .b false), (33, .b true), (36, .b false), (40, .b true)] (AX.ret) (St.mk (mkT 44 [(2, DV.p (PD.v (Value.bool false)))]) (Mem.mk [] [] [if (Fin_.mk [2] [] [0] none).fo.contains 0 = true then AO.any else AO.it s (k + 1)])) (.c (dT h5) (.c (dF h4) (.c (dT h3) (.c (eF h2) (.c (dF h1) (.c (dT h0) (.c (And.intro hlt hdec) .n))))))) (by kernel_rfl) ?_
                  (rw [hp, test_no (by omega)] at hQ; exact hQ)
                ·
                  refine crun [] ⟨[2], [], [0], none⟩ [(2, .nx (b.toNat) (1)), (19, .b true), (22, .b false), (26, .b false), (33, .b true), (36, .b false), (40, .b false)] (AX.ret) (St.mk (mkT 44 [(2, DV.p (PD.v (Value.bool false)))]) (Mem.mk [] [] [if (Fin_.mk [2] [] [0] none).fo.contains 0 = true then AO.any else AO.it s (k + 1)])) (.c (dF h5) (.c (dF h4) (.c (dT h3) (.c (eF h2) (.c (dF h1) (.c (dT h0) (.c (And.intro hlt hdec) .n))))))) (by kernel_rfl) ?_
                  (rw [hp, test_no (by omega)] at hQ; exact hQ)
            ·
              by_cases h4 : 0 < (↑k : Int)
              ·
                refine crun [] ⟨[2], [], [0], none⟩ [(2, .nx (b.toNat) (1)), (19, .b true), (22, .b false), (26, .b false), (33, .b false), (40, .b true)] (AX.ret) (St.mk (mkT 44 [(2, DV.p (PD.v (Value.bool false)))]) (Mem.mk [] [] [if (Fin_.mk [2] [] [0] none).fo.contains 0 = true then AO.any else AO.it s (k + 1)])) (.c (dT h4) (.c (dF h3) (.c (eF h2) (.c (dF h1) (.c (dT h0) (.c (And.intro hlt hdec) .n)))))) (by kernel_rfl) ?_
                (rw [hp, test_no (by omega)] at hQ; exact hQ)
              ·
                refine crun [] ⟨[2], [], [0], none⟩ [(2, .nx (b.toNat) (1)), (19, .b true), (22, .b false), (26, .b false), (33, .b false), (40, .b false)] (AX.ret) (St.mk (mkT 44 [(2, DV.p (PD.v (Value.bool false)))]) (Mem.mk [] [] [if (Fin_.mk [2] [] [0] none).fo.contains 0 = true then AO.any else AO.it s (k + 1)])) (.c (dF h4) (.c (dF h3) (.c (eF h2) (.c (dF h1) (.c (dT h0) (.c (And.intro hlt hdec) .n)))))) (by kernel_rfl) ?_
                (rw [hp, test_no (by omega)] at hQ; exact hQ)
      ·
        by_cases h1 : 0 < (↑k : Int)
        ·
          refine crun [] ⟨[2], [], [0], none⟩ [(2, .nx (b.toNat) (1)), (19, .b false), (26, .b false), (33, .b false), (40, .b true)] (AX.ret) (St.mk (mkT 44 [(2, DV.p (PD.v (Value.bool false)))]) (Mem.mk [] [] [if (Fin_.mk [2] [] [0] none).fo.contains 0 = true then AO.any else AO.it s (k + 1)])) (.c (dT h1) (.c (dF (show ¬ (97 : Int) ≤ (↑b.toNat : Int) by omega)) (.c (eF (show ¬ (↑b.toNat : Int) = (95 : Int) by omega)) (.c (dF h0) (.c (And.intro hlt hdec) .n))))) (by kernel_rfl) ?_
          (rw [hp, test_no (by omega)] at hQ; exact hQ)
        ·
          refine crun [] ⟨[2], [], [0], none⟩ [(2, .nx (b.toNat) (1)), (19, .b false), (26, .b false), (33, .b false), (40, .b false)] (AX.ret) (St.mk (mkT 44 [(2, DV.p (PD.v (Value.bool false)))]) (Mem.mk [] [] [if (Fin_.mk [2] [] [0] none).fo.contains 0 = true then AO.any else AO.it s (k + 1)])) (.c (dF h1) (.c (dF (show ¬ (97 : Int) ≤ (↑b.toNat : Int) by omega)) (.c (eF (show ¬ (↑b.toNat : Int) = (95 : Int) by omega)) (.c (dF h0) (.c (And.intro hlt hdec) .n))))) (by kernel_rfl) ?_
          (rw [hp, test_no (by omega)] at hQ; exact hQ)
    · have hbig := dec_big hb hb2
      obtain ⟨r, w, hdec⟩ : ∃ r w, Utf8.decode s k = (r, w) := ⟨_, _, rfl⟩
      rw [hdec] at hbig
      simp only at hbig
      by_cases h0 : 0 < (↑k : Int)
      ·
        refine crun [] ⟨[2], [], [0], none⟩ [(2, .nx (r) (w)), (19, .b true), (22, .b false), (26, .b false), (33, .b true), (36, .b false), (40, .b true)] (AX.ret) (St.mk (mkT 44 [(2, DV.p (PD.v (Value.bool false)))]) (Mem.mk [] [] [if (Fin_.mk [2] [] [0] none).fo.contains 0 = true then AO.any else AO.it s (k + w)])) (.c (dT h0) (.c (dF (show ¬ (↑r : Int) ≤ (122 : Int) by omega)) (.c (dT (show (97 : Int) ≤ (↑r : Int) by omega)) (.c (eF (show ¬ (↑r : Int) = (95 : Int) by omega)) (.c (dF (show ¬ (↑r : Int) ≤ (57 : Int) by omega)) (.c (dT (show (48 : Int) ≤ (↑r : Int) by omega)) (.c (And.intro hlt hdec) .n))))))) (by kernel_rfl) ?_
        rw [hp, test_no (by omega)] at hQ; exact hQ
      ·
        refine crun [] ⟨[2], [], [0], none⟩ [(2, .nx (r) (w)), (19, .b true), (22, .b false), (26, .b false), (33, .b true), (36, .b false), (40, .b false)] (AX.ret) (St.mk (mkT 44 [(2, DV.p (PD.v (Value.bool false)))]) (Mem.mk [] [] [if (Fin_.mk [2] [] [0] none).fo.contains 0 = true then AO.any else AO.it s (k + w)])) (.c (dF h0) (.c (dF (show ¬ (↑r : Int) ≤ (122 : Int) by omega)) (.c (dT (show (97 : Int) ≤ (↑r : Int) by omega)) (.c (eF (show ¬ (↑r : Int) = (95 : Int) by omega)) (.c (dF (show ¬ (↑r : Int) ≤ (57 : Int) by omega)) (.c (dT (show (48 : Int) ≤ (↑r : Int) by omega)) (.c (And.intro hlt hdec) .n))))))) (by kernel_rfl) ?_
        rw [hp, test_no (by omega)] at hQ; exact hQ
  · have hp2 := hp.trans (okB_end hlt)
    refine crun [] ⟨[2], [], [0], none⟩ [(2, .nx0)] (AX.exit 0) (St.mk (mkT 44 [(2, DV.p (PD.v (Value.bool false)))]) (Mem.mk [] [] [if (Fin_.mk [2] [] [0] none).fo.contains 0 = true then AO.any else AO.it s k])) (.c hlt .n) (by kernel_rfl) ?_
    rw [if_pos hp2] at hQ; exact hQ
theorem name_pure (s : ByteArray) : Pure Tryz.prog 84 [.v (.string s)] (.ret (.v (.bool (plainM s)))) := by
  by_cases hs : s.size ≤ 32
  · have hl := name_loop s hs
    by_cases h0 : (↑s.size : Int) = 0
    ·
      refine pure_eq (prun [] [(10, .b true)] (e := AEnd.ret (PD.v (Value.bool false))) (.c (eT h0) .n) (by kernel_rfl)) ?_
      simp [plainM, *] <;> omega
    ·
      rcases Bool.eq_false_or_eq_true (okB 0 s.data.toList) with h1 | h1
      ·
        refine pure_eq (prun [] [(10, .b false), (14, .b false), (26, .code [0, 2, 15] (AX.exit 0) (St.mk (mkT 44 [(2, DV.p (PD.v (Value.bool false)))]) (Mem.mk [] [] [AO.any])))] (e := AEnd.ret (PD.v (Value.bool true))) (.c (loop_x (hl) (if_pos h1)) (.c (dF (show ¬ (32 : Int) < (↑s.size : Int) by omega)) (.c (eF h0) .n))) (by kernel_rfl)) ?_
        simp [plainM, *] <;> omega
      ·
        refine pure_eq (prun [] [(10, .b false), (14, .b false), (26, .code [0, 2, 15] (AX.ret) (St.mk (mkT 44 [(2, DV.p (PD.v (Value.bool false)))]) (Mem.mk [] [] [AO.any])))] (e := AEnd.ret (PD.v (Value.bool false))) (.c (loop_x (hl) (if_neg (by rw [h1]; simp))) (.c (dF (show ¬ (32 : Int) < (↑s.size : Int) by omega)) (.c (eF h0) .n))) (by kernel_rfl)) ?_
        simp [plainM, *] <;> omega
  · refine pure_eq (prun [] [(10, .b false), (14, .b true)] (e := AEnd.ret (PD.v (Value.bool false))) (.c (dT (show (32 : Int) < (↑s.size : Int) by omega)) (.c (eF (show ¬ (↑s.size : Int) = (0 : Int) by omega)) .n)) (by kernel_rfl)) ?_
    simp [plainM, *] <;> omega
end Go.Proofs.YtmhpccchgbdiiaaGreatDoor
