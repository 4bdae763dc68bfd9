/- Walks: as many nodes as there may be. -/
import Derived.Test.YtmhpccchgbdiiaaGreatDoorWcE
namespace Go.Proofs.YtmhpccchgbdiiaaGreatDoor
open Go.RowKit
set_option maxRecDepth 100000
theorem nsK_small (k : Nat) : ∀ n ∈ nsK k, n.args.length ≤ 1073741824 ∧ n.attrs.length ≤ 1073741824 := by
  intro n hn
  simp only [nsK, List.mem_map] at hn
  obtain ⟨j, _, rfl⟩ := hn
  exact ⟨by simp [NM], by simp [NM]⟩
set_option maxHeartbeats 4000000 in
theorem most_pure : Pure Tryz.prog 4 [] (.ret (boolP true)) := by
  have hl := most_loop
  rw [memM_end] at hl
  have hc : Pure Tryz.prog 21 [encN (nsK 32768) []] (.ret (encN (nsK 32768) [])) := copyN (nsK 32768) (by rw [nsK_len]; decide) (nsK_small _)
  have hck : Pure Tryz.prog 12 [encN (nsK 32768) [32768]] (.ret (intP 14)) := checkN (nsK 32768) [32768] (nsK_len _)
  have hl1 : (L1 32768).length = 32769 := L1_len _
  have hl2 : ((nsK 32768).map encNode).length = 32768 := by rw [List.length_map, nsK_len]
  have hx : (L1 32768)[0]? = some SM := L1_get (by decide)
  unfold stM memM at hl
  unfold encN at hc hck
  generalize (nsK 32768).map encNode = N2 at hl hc hck hl2
  generalize L1 32768 = N1 at hl hl1 hx
  unfold bM b0M bx0 at hl
  have h1 := shapesM
  have h2 := fwdM
  have h3 := chkN 0
  have h4 := chkN 32769
  have h5 := chkA
  have h6 := infN 0
  have h7 := cloneN 0
  have h8 := cloneN 32769
  have h9 := cloneN 32768
  have h10 := clone87_empty
  have h11 := knownB_pure
  refine pure_eq (prun [11, 26] [(31, .callm (DV.tup [DV.row 0 [PD.sl []], DV.p (PD.v (Value.int IntKind.i64 0))]) ([some (40, 1, 1)])), (49, .callm (DV.agg [DV.p (PD.v (Value.int IntKind.i64 3)), DV.row 0 [PD.agg [PD.v (Value.string (ByteArray.mk #[120])), PD.sl []]], DV.p (PD.v (Value.slice none 0 0)), DV.p (PD.v (Value.slice none 0 0)), DV.p (PD.sl []), DV.p (PD.v (Value.bool false)), DV.p (PD.v (Value.slice none 0 0)), DV.p (PD.v (Value.slice none 0 0))]) ([some (51, 2, 1)])), (99, .code [0, 1, 3] (AX.exit 0) (St.mk (mkT 98 [(1, DV.loc 2 0)]) (Mem.mk [Box.mk 51 [DV.p (strP (ByteArray.mk #[120])), DV.p nilP] true, Box.mk 30 [DV.p (intP 3), DV.row 1 [PM], DV.p nilP, DV.p nilP, DV.p nilP, DV.p (boolP false), DV.p nilP, DV.p nilP] false, Box.mk 35 [DV.p (intP 3), DV.row 1 [PM], DV.p nilP, DV.row 3 N2, DV.p nilP, DV.p (boolP false), DV.p nilP, DV.p nilP, DV.row 0 N1] false] [some (40, 1, 32769), some (51, 2, 1), some (40, 1, 1), some (55, 3, 32768)] []))), (142, .call (AEnd.ret (PD.sl [PD.v (Value.int IntKind.i64 0)]))), (144, .call (AEnd.ret (PD.sl []))), (159, .call (AEnd.ret (PD.v (Value.int IntKind.i64 0)))), (219, .b true), (236, .el (SM)), (237, .el (SM)), (254, .fzs 12), (263, .call (AEnd.ret (PD.tup [PD.sl [], PD.v (Value.int IntKind.i64 0)]))), (328, .b true), (385, .call (AEnd.ret (PD.sl [PD.v (Value.int IntKind.i64 32769)]))), (387, .call (AEnd.ret (PD.sl []))), (402, .call (AEnd.ret (PD.v (Value.int IntKind.i64 0)))), (462, .b false), (524, .call (AEnd.ret (PD.sl [PD.v (Value.int IntKind.i64 0)]))), (526, .call (AEnd.ret (PD.sl []))), (541, .call (AEnd.ret (PD.v (Value.int IntKind.i64 10)))), (685, .b true), (728, .call (AEnd.ret (PD.agg [PD.v (Value.int IntKind.i64 3), PD.sl [PD.agg [PD.v (Value.string (ByteArray.mk #[120])), PD.sl []]], PD.sl [], PD.sl N2, PD.sl [], PD.v (Value.bool false), PD.sl [], PD.sl []]))), (735, .call (AEnd.ret (PD.sl [PD.v (Value.int IntKind.i64 32768)]))), (775, .b true), (779, .call (AEnd.ret (PD.v (Value.int IntKind.i64 14)))), (783, .call (AEnd.ret (PD.v (Value.bool true))))] (e := AEnd.ret (PD.v (Value.bool true))) (.c (h11) (.c (hck) (.c (eT (show (↑N2.length : Int) = (32768 : Int) by omega)) (.c (h9) (.c (hc) (.c (dT (show (32768 : Int) < (↑N1.length : Int) by omega)) (.c (h5) (.c (h10) (.c (h7) (.c (dF (show ¬ (32769 : Int) < (↑N1.length : Int) by omega)) (.c (h4) (.c (h10) (.c (h8) (.c (dT (show (32768 : Int) ≤ (↑N2.length : Int) by omega)) (.c (h6) (.c hx (.c (And.intro hx (show (0 : Int) ≤ 0 by omega)) (.c (dT (show (0 : Int) < (↑N1.length : Int) by omega)) (.c (h3) (.c (h10) (.c (h7) (.c (hl) (.c (h2) (.c (h1) .n)))))))))))))))))))))))) (by kernel_rfl)) ?_
  rfl
end Go.Proofs.YtmhpccchgbdiiaaGreatDoor
