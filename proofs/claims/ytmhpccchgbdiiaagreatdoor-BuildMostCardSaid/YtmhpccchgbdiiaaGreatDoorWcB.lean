/- Walks: the known builder; no builder, and a zero one. -/
import Derived.Test.YtmhpccchgbdiiaaGreatDoorWcA
namespace Go.Proofs.YtmhpccchgbdiiaaGreatDoor
open Go.RowKit
set_option maxRecDepth 100000
def SB : List PD := [intL [2], intL [2]]
def tkB : List (Option (TypeId × Nat × Nat)) := [some (40, 1, 2)]
theorem recB : RecRun Tryz.prog 40 [.loc 1 0, .loc 2 0] none ⟨[boxG GB, boxL (.row 0 SB), boxE 0], tkB, []⟩ ⟨[boxG GB, boxL (.row 0 SB), boxE 0], tkB, []⟩ := by
  refine ⟨_, _, _, _, _, 3, 2, Callable.mk Tryz.func40 rfl rfl, rfl, rfl, rfl, rfl, rfl, rfl, rfl, by decide, by decide, ?_⟩
  intro Q hQ
  refine crun [] ⟨[], [], [], none⟩ [] (AX.norm) (St.mk (mkT 8 []) (Mem.mk [Box.mk 30 [DV.p (PD.v (Value.int IntKind.i64 3)), DV.p (PD.sl [PD.agg [PD.v (Value.string (ByteArray.mk #[120])), PD.sl [PD.v (Value.int IntKind.i64 2)]]]), DV.p (PD.sl [PD.agg [PD.v (Value.string (ByteArray.mk #[119])), PD.sl [PD.v (Value.int IntKind.i64 2)], PD.sl [PD.agg [PD.v (Value.bool false), PD.sl [PD.v (Value.int IntKind.u32 1)], PD.sl [PD.v (Value.int IntKind.u32 1)]], PD.agg [PD.v (Value.bool false), PD.sl [PD.v (Value.int IntKind.u32 1)], PD.sl [PD.v (Value.int IntKind.u32 1)]]]]]), DV.p (PD.sl []), DV.p (PD.sl []), DV.p (PD.v (Value.bool false)), DV.p (PD.sl []), DV.p (PD.sl [])] false, Box.mk 31 [DV.row 0 [PD.sl [PD.v (Value.int IntKind.i64 2)], PD.sl [PD.v (Value.int IntKind.i64 2)]]] false, Box.mk 36 [DV.p (PD.v (Value.int IntKind.i64 0))] false] [some (40, 1, 2)] [])) .n (by kernel_rfl) ?_
  exact (hQ _ rfl).1
theorem vjpB : Pure Tryz.prog 42 [encG GB, .sl SB] (.ret (.tup [])) := run_pure (inl := noInl) fitC 4000 (by kernel_rfl)
theorem shapesB : PureM Tryz.prog 27 [encG GB] (.tup [.row 0 SB, .p (intP 0)]) tkB := by
  refine pureM_of_rec (Callable.mk Tryz.func27 rfl rfl) (t := 4) (g := 40) rfl rfl rfl rfl rfl rfl (s1 := ⟨mkT 11 [(1, .loc 0 0), (2, .loc 1 0), (3, .loc 2 0)], ⟨[boxG GB, boxL (.p (.v (.slice none 0 0))), boxE 0], [], []⟩⟩) ?_ (show (4 : Nat) < 11 by decide) (x := .ret) (s3 := ⟨mkT 11 [(2, .loc 1 0), (3, .loc 2 0)], ⟨[boxG GB, boxL (.row 0 SB), boxE 0], tkB, []⟩⟩) ?_ (pv := none) (.inl ⟨rfl, rfl⟩) recB (l := [.row 0 SB, .p (intP 0)]) rfl
  · intro Q hQ
    refine crun [] ⟨[1, 2, 3], [], [], none⟩ [] (AX.norm) (St.mk (mkT 11 [(1, DV.loc 0 0), (2, DV.loc 1 0), (3, DV.loc 2 0)]) (Mem.mk [Box.mk 30 [DV.p (PD.v (Value.int IntKind.i64 3)), DV.p (PD.sl [PD.agg [PD.v (Value.string (ByteArray.mk #[120])), PD.sl [PD.v (Value.int IntKind.i64 2)]]]), DV.p (PD.sl [PD.agg [PD.v (Value.string (ByteArray.mk #[119])), PD.sl [PD.v (Value.int IntKind.i64 2)], PD.sl [PD.agg [PD.v (Value.bool false), PD.sl [PD.v (Value.int IntKind.u32 1)], PD.sl [PD.v (Value.int IntKind.u32 1)]], PD.agg [PD.v (Value.bool false), PD.sl [PD.v (Value.int IntKind.u32 1)], PD.sl [PD.v (Value.int IntKind.u32 1)]]]]]), DV.p (PD.sl []), DV.p (PD.sl []), DV.p (PD.v (Value.bool false)), DV.p (PD.sl []), DV.p (PD.sl [])] false, Box.mk 31 [DV.p (PD.v (Value.slice none 0 0))] false, Box.mk 36 [DV.p (PD.v (Value.int IntKind.i64 0))] false] [] [])) .n (by kernel_rfl) ?_
    exact hQ
  · intro Q hQ
    have hf := forwardB
    have hv := vjpB
    refine crun [] ⟨[2, 3], [], [], none⟩ [(3, .callm (DV.row 0 [PD.sl [PD.v (Value.int IntKind.i64 2)], PD.sl [PD.v (Value.int IntKind.i64 2)]]) ([some (40, 1, 2)])), (10, .call (AEnd.ret (PD.tup [])))] (AX.ret) (St.mk (mkT 11 [(2, DV.loc 1 0), (3, DV.loc 2 0)]) (Mem.mk [Box.mk 30 [DV.p (PD.v (Value.int IntKind.i64 3)), DV.p (PD.sl [PD.agg [PD.v (Value.string (ByteArray.mk #[120])), PD.sl [PD.v (Value.int IntKind.i64 2)]]]), DV.p (PD.sl [PD.agg [PD.v (Value.string (ByteArray.mk #[119])), PD.sl [PD.v (Value.int IntKind.i64 2)], PD.sl [PD.agg [PD.v (Value.bool false), PD.sl [PD.v (Value.int IntKind.u32 1)], PD.sl [PD.v (Value.int IntKind.u32 1)]], PD.agg [PD.v (Value.bool false), PD.sl [PD.v (Value.int IntKind.u32 1)], PD.sl [PD.v (Value.int IntKind.u32 1)]]]]]), DV.p (PD.sl []), DV.p (PD.sl []), DV.p (PD.v (Value.bool false)), DV.p (PD.sl []), DV.p (PD.sl [])] false, Box.mk 31 [DV.row 0 [PD.sl [PD.v (Value.int IntKind.i64 2)], PD.sl [PD.v (Value.int IntKind.i64 2)]]] false, Box.mk 36 [DV.p (PD.v (Value.int IntKind.i64 0))] false] [some (40, 1, 2)] [])) (.c (hv) (.c (hf) .n)) (by kernel_rfl) ?_
    exact hQ
theorem chk1 : Pure Tryz.prog 15 [intP 3, encNode ⟨1, [0, 1], []⟩] (.ret (intP 0)) := run_pure (inl := noInl) fitC 4000 (by kernel_rfl)
theorem chk2 : Pure Tryz.prog 15 [intP 3, encNode ⟨3, [2, 0], []⟩] (.ret (intP 0)) := run_pure (inl := noInl) fitC 4000 (by kernel_rfl)
theorem chk3 : Pure Tryz.prog 15 [intP 3, encNode ⟨3, [4, 0], []⟩] (.ret (intP 0)) := run_pure (inl := noInl) fitC 4000 (by kernel_rfl)
theorem inf1 : Pure Tryz.prog 17 [intP 3, encNode ⟨1, [0, 1], []⟩, .sl [intL [2], intL [2]]] (.ret (.tup [intL [2], intP 0])) := run_pure (inl := noInl) fitC 8000 (by kernel_rfl)
theorem inf2 : Pure Tryz.prog 17 [intP 3, encNode ⟨3, [2, 0], []⟩, .sl [intL [2], intL [2]]] (.ret (.tup [intL [2], intP 0])) := run_pure (inl := noInl) fitC 8000 (by kernel_rfl)
def R1 : PD := .agg [boolP false, .sl (nums .i64 [1]), .sl (nums .i64 [1])]
theorem int1 : Pure Tryz.prog 24 [intP 1] (.ret R1) := run_pure (inl := noInl) fitC 4000 (by kernel_rfl)
def T1 : PD := .agg [intL [2], .sl [R1, R1]]
theorem full1 : Pure Tryz.prog 23 [intL [2], R1] (.ret T1) := run_pure (inl := noInl) fitC 4000 (by kernel_rfl)
theorem back1 : Pure Tryz.prog 22 [T1] (.ret (encT [2] [r1, r1])) := by
  refine pure_eq (prun [] [] (e := AEnd.ret (PD.agg [PD.sl [PD.v (Value.int IntKind.i64 2)], PD.sl [PD.agg [PD.v (Value.bool false), PD.sl [PD.v (Value.int IntKind.u32 1)], PD.sl [PD.v (Value.int IntKind.u32 1)]], PD.agg [PD.v (Value.bool false), PD.sl [PD.v (Value.int IntKind.u32 1)], PD.sl [PD.v (Value.int IntKind.u32 1)]]]])) (.c (@rfl DV (DV.row 1 [PD.agg [PD.v (Value.bool false), PD.sl [PD.v (Value.int IntKind.u32 1)], PD.sl [PD.v (Value.int IntKind.u32 1)]]])) (.c (@rfl DV (DV.p (PD.v (Value.slice none 0 0)))) .n)) (by kernel_rfl)) ?_
  rfl
set_option maxHeartbeats 4000000 in
theorem knownB_pure : Pure Tryz.prog 10 [] (.ret (boolP true)) := by
  have h1 := shapesB
  have h2 := fwdB
  have h3 := chk1
  have h4 := chk2
  have h5 := chk3
  have h6 := inf1
  have h7 := inf2
  have h8 := int1
  have h9 := full1
  have h10 := back1
  have h11 := clone87_empty
  refine pure_eq (prun [11, 26] [(11, .call (AEnd.ret (PD.agg [PD.v (Value.bool false), PD.sl [PD.v (Value.int IntKind.i64 1)], PD.sl [PD.v (Value.int IntKind.i64 1)]]))), (12, .call (AEnd.ret (PD.agg [PD.sl [PD.v (Value.int IntKind.i64 2)], PD.sl [PD.agg [PD.v (Value.bool false), PD.sl [PD.v (Value.int IntKind.i64 1)], PD.sl [PD.v (Value.int IntKind.i64 1)]], PD.agg [PD.v (Value.bool false), PD.sl [PD.v (Value.int IntKind.i64 1)], PD.sl [PD.v (Value.int IntKind.i64 1)]]]]))), (13, .call (AEnd.ret (PD.agg [PD.sl [PD.v (Value.int IntKind.i64 2)], PD.sl [PD.agg [PD.v (Value.bool false), PD.sl [PD.v (Value.int IntKind.u32 1)], PD.sl [PD.v (Value.int IntKind.u32 1)]], PD.agg [PD.v (Value.bool false), PD.sl [PD.v (Value.int IntKind.u32 1)], PD.sl [PD.v (Value.int IntKind.u32 1)]]]]))), (38, .callm (DV.tup [DV.row 0 [PD.sl [PD.v (Value.int IntKind.i64 2)], PD.sl [PD.v (Value.int IntKind.i64 2)]], DV.p (PD.v (Value.int IntKind.i64 0))]) ([some (40, 1, 2)])), (56, .callm (DV.agg [DV.p (PD.v (Value.int IntKind.i64 3)), DV.row 0 [PD.agg [PD.v (Value.string (ByteArray.mk #[120])), PD.sl [PD.v (Value.int IntKind.i64 2)]]], DV.row 1 [PD.agg [PD.v (Value.string (ByteArray.mk #[119])), PD.sl [PD.v (Value.int IntKind.i64 2)], PD.sl [PD.agg [PD.v (Value.bool false), PD.sl [PD.v (Value.int IntKind.u32 1)], PD.sl [PD.v (Value.int IntKind.u32 1)]], PD.agg [PD.v (Value.bool false), PD.sl [PD.v (Value.int IntKind.u32 1)], PD.sl [PD.v (Value.int IntKind.u32 1)]]]]], DV.p (PD.v (Value.slice none 0 0)), DV.p (PD.sl []), DV.p (PD.v (Value.bool false)), DV.p (PD.v (Value.slice none 0 0)), DV.p (PD.v (Value.slice none 0 0))]) ([some (51, 2, 1), some (74, 3, 1)])), (164, .call (AEnd.ret (PD.sl []))), (179, .call (AEnd.ret (PD.v (Value.int IntKind.i64 0)))), (338, .fzs 12), (347, .call (AEnd.ret (PD.tup [PD.sl [PD.v (Value.int IntKind.i64 2)], PD.v (Value.int IntKind.i64 0)]))), (535, .call (AEnd.ret (PD.sl []))), (550, .call (AEnd.ret (PD.v (Value.int IntKind.i64 0)))), (709, .fzs 12), (718, .call (AEnd.ret (PD.tup [PD.sl [PD.v (Value.int IntKind.i64 2)], PD.v (Value.int IntKind.i64 0)]))), (906, .call (AEnd.ret (PD.sl []))), (921, .call (AEnd.ret (PD.v (Value.int IntKind.i64 0))))] (e := AEnd.ret (PD.v (Value.bool true))) (.c (h5) (.c (h11) (.c (@rfl DV (DV.row 4 [PD.agg [PD.v (Value.int IntKind.i64 1), PD.sl [PD.v (Value.int IntKind.i64 0), PD.v (Value.int IntKind.i64 1)], PD.sl []]])) (.c (h7) (.c (h4) (.c (h11) (.c (@rfl DV (DV.p (PD.v (Value.slice none 0 0)))) (.c (h6) (.c (h3) (.c (h11) (.c (h2) (.c (h1) (.c (h10) (.c (h9) (.c (h8) .n))))))))))))))) (by kernel_rfl)) ?_
  rfl
end Go.Proofs.YtmhpccchgbdiiaaGreatDoor
