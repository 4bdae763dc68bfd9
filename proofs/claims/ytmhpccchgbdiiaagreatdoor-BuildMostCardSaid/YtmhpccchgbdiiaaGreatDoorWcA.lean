/- Walks: the known builder's graph. -/
import Derived.Test.YtmhpccchgbdiiaaGreatDoorWaD
import Derived.Test.YtmhpccchgbdiiaaGreatDoorWa5
import Derived.Test.YtmhpccchgbdiiaaGreatDoorWaF
import Derived.Test.YtmhpccchgbdiiaaGreatDoorWbB
import Derived.Test.YtmhpccchgbdiiaaGreatDoorAeZ
namespace Go.Proofs.YtmhpccchgbdiiaaGreatDoor
open Go.RowKit
set_option maxRecDepth 100000
def r1 : RatM := ⟨false, [1], [1]⟩
def GB : GraphM := ⟨3, [⟨⟨#[120]⟩, [2]⟩], [⟨⟨#[119]⟩, [2], [r1, r1]⟩], [], [], false, [], []⟩
theorem cot_x : Pure Tryz.prog 85 [.v (.string ⟨#[120]⟩)] (.ret (.v (.bool false))) := by
  have h := cot_pure ⟨#[120]⟩ (by decide)
  rwa [show cotM ⟨#[120]⟩ = false by kernel_rfl] at h
theorem cot_w : Pure Tryz.prog 85 [.v (.string ⟨#[119]⟩)] (.ret (.v (.bool false))) := by
  have h := cot_pure ⟨#[119]⟩ (by decide)
  rwa [show cotM ⟨#[119]⟩ = false by kernel_rfl] at h
theorem fitC : Fit Tryz.prog cloneOrc := fit_of cloneOrc_ok
theorem fitsB : Pure Tryz.prog 110 [encT [2] [r1, r1]] (.ret (intP 0)) := run_pure (inl := noInl) fitC 4000 (by kernel_rfl)
theorem tmayB : Pure Tryz.prog 87 [encT [2] [r1, r1]] (.ret (intP 0)) := tmay_ok _ _ (by decide) fitsB (by
  intro r hr
  simp only [List.mem_cons, List.not_mem_nil, or_false] at hr
  rcases hr with rfl | rfl
  · exact may_1
  · exact may_1)
theorem copyB : Pure Tryz.prog 59 [encT [2] [r1, r1]] (.ret (encT [2] [r1, r1])) := copyT _ _ (by decide) (by decide) (by
  intro r hr
  simp only [List.mem_cons, List.not_mem_nil, or_false] at hr
  rcases hr with rfl | rfl <;> exact ⟨by decide, by decide⟩)
def nilP : PD := .v (.slice none 0 0)
/-- an empty body's copy has no nodes -/
theorem bodyB : Pure Tryz.prog 36 [encBody [] []] (.ret (.agg [nilP, .sl []])) := by
  refine pure_of_pureM (d := .agg [.p nilP, .p (.sl [])]) (ts := []) (pureM_of (Callable.mk Tryz.func36 rfl rfl) rfl rfl ?_) rfl
  have c := clone87_empty
  refine crun [] ⟨[2], [], [], none⟩ [(9, .call (AEnd.ret (PD.sl [])))] (AX.ret) (St.mk (mkT 33 [(2, DV.loc 1 0)]) (Mem.mk [Box.mk 28 [DV.p (PD.sl []), DV.p (PD.sl [])] false, Box.mk 28 [DV.p (PD.v (Value.slice none 0 0)), DV.p (PD.sl [])] false, Box.mk 28 [DV.p (PD.v (Value.slice none 0 0)), DV.p (PD.sl [])] false] [] [])) (.c (c) .n) (by kernel_rfl) ?_
  exact fpostM_ret rfl rfl rfl
theorem c48_2 : Pure Tryz.prog 18 [intL [2]] (.ret (intL [2])) := clone48 [2] (by decide)
def PB : PD := encPort ⟨⟨#[120]⟩, [2]⟩
def WB : PD := encWeight ⟨⟨#[119]⟩, [2], [r1, r1]⟩
/-- the forward part, in rows of its own -/
theorem fwdB : PureM Tryz.prog 35 [encG GB] (.agg [.p (intP 3), .row 0 [PB], .row 1 [WB], .p nilP, .p (.sl []), .p (boolP false), .p nilP, .p nilP]) [some (51, 2, 1), some (74, 3, 1)] := by
  refine pureM_of (Callable.mk Tryz.func35 rfl rfl) rfl rfl ?_
  have h1 := bodyB
  have h2 := copyB
  have h3 := c48_2
  refine crun [] ⟨[2], [], [], none⟩ [(11, .call (AEnd.ret (PD.agg [PD.v (Value.slice none 0 0), PD.sl []]))), (49, .call (AEnd.ret (PD.sl [PD.v (Value.int IntKind.i64 2)]))), (100, .call (AEnd.ret (PD.agg [PD.sl [PD.v (Value.int IntKind.i64 2)], PD.sl [PD.agg [PD.v (Value.bool false), PD.sl [PD.v (Value.int IntKind.u32 1)], PD.sl [PD.v (Value.int IntKind.u32 1)]], PD.agg [PD.v (Value.bool false), PD.sl [PD.v (Value.int IntKind.u32 1)], PD.sl [PD.v (Value.int IntKind.u32 1)]]]])))] (AX.ret) (St.mk (mkT 53 [(2, DV.loc 1 0)]) (Mem.mk [Box.mk 30 [DV.p (PD.v (Value.int IntKind.i64 3)), DV.p (PD.sl [PD.agg [PD.v (Value.string (ByteArray.mk #[120])), PD.sl [PD.v (Value.int IntKind.i64 2)]]]), DV.p (PD.sl [PD.agg [PD.v (Value.string (ByteArray.mk #[119])), PD.sl [PD.v (Value.int IntKind.i64 2)], PD.sl [PD.agg [PD.v (Value.bool false), PD.sl [PD.v (Value.int IntKind.u32 1)], PD.sl [PD.v (Value.int IntKind.u32 1)]], PD.agg [PD.v (Value.bool false), PD.sl [PD.v (Value.int IntKind.u32 1)], PD.sl [PD.v (Value.int IntKind.u32 1)]]]]]), DV.p (PD.sl []), DV.p (PD.sl []), DV.p (PD.v (Value.bool false)), DV.p (PD.sl []), DV.p (PD.sl [])] false, Box.mk 30 [DV.p (PD.v (Value.int IntKind.i64 3)), DV.row 0 [PD.agg [PD.v (Value.string (ByteArray.mk #[120])), PD.sl [PD.v (Value.int IntKind.i64 2)]]], DV.row 1 [PD.agg [PD.v (Value.string (ByteArray.mk #[119])), PD.sl [PD.v (Value.int IntKind.i64 2)], PD.sl [PD.agg [PD.v (Value.bool false), PD.sl [PD.v (Value.int IntKind.u32 1)], PD.sl [PD.v (Value.int IntKind.u32 1)]], PD.agg [PD.v (Value.bool false), PD.sl [PD.v (Value.int IntKind.u32 1)], PD.sl [PD.v (Value.int IntKind.u32 1)]]]]], DV.p (PD.v (Value.slice none 0 0)), DV.p (PD.sl []), DV.p (PD.v (Value.bool false)), DV.p (PD.v (Value.slice none 0 0)), DV.p (PD.v (Value.slice none 0 0))] false, Box.mk 30 [DV.p (PD.v (Value.int IntKind.i64 3)), DV.row 0 [PD.agg [PD.v (Value.string (ByteArray.mk #[120])), PD.sl [PD.v (Value.int IntKind.i64 2)]]], DV.row 1 [PD.agg [PD.v (Value.string (ByteArray.mk #[119])), PD.sl [PD.v (Value.int IntKind.i64 2)], PD.sl [PD.agg [PD.v (Value.bool false), PD.sl [PD.v (Value.int IntKind.u32 1)], PD.sl [PD.v (Value.int IntKind.u32 1)]], PD.agg [PD.v (Value.bool false), PD.sl [PD.v (Value.int IntKind.u32 1)], PD.sl [PD.v (Value.int IntKind.u32 1)]]]]], DV.p (PD.v (Value.slice none 0 0)), DV.p (PD.sl []), DV.p (PD.v (Value.bool false)), DV.p (PD.v (Value.slice none 0 0)), DV.p (PD.v (Value.slice none 0 0))] false, Box.mk 51 [DV.p (PD.v (Value.string (ByteArray.mk #[120]))), DV.p (PD.sl [PD.v (Value.int IntKind.i64 2)])] false, Box.mk 51 [DV.p (PD.v (Value.string (ByteArray.mk #[120]))), DV.p (PD.sl [PD.v (Value.int IntKind.i64 2)])] true, Box.mk 74 [DV.p (PD.v (Value.string (ByteArray.mk #[119]))), DV.p (PD.sl [PD.v (Value.int IntKind.i64 2)]), DV.p (PD.sl [PD.agg [PD.v (Value.bool false), PD.sl [PD.v (Value.int IntKind.u32 1)], PD.sl [PD.v (Value.int IntKind.u32 1)]], PD.agg [PD.v (Value.bool false), PD.sl [PD.v (Value.int IntKind.u32 1)], PD.sl [PD.v (Value.int IntKind.u32 1)]]])] false, Box.mk 74 [DV.p (PD.v (Value.string (ByteArray.mk #[119]))), DV.p (PD.sl [PD.v (Value.int IntKind.i64 2)]), DV.p (PD.sl [PD.agg [PD.v (Value.bool false), PD.sl [PD.v (Value.int IntKind.u32 1)], PD.sl [PD.v (Value.int IntKind.u32 1)]], PD.agg [PD.v (Value.bool false), PD.sl [PD.v (Value.int IntKind.u32 1)], PD.sl [PD.v (Value.int IntKind.u32 1)]]])] true] [some (51, 2, 1), some (74, 3, 1)] [])) (.c (@rfl DV (DV.p (PD.v (Value.slice none 0 0)))) (.c (h2) (.c (@rfl DV (DV.p (PD.v (Value.slice none 0 0)))) (.c (h3) (.c (@rfl DV (DV.agg [DV.p (PD.sl []), DV.p (PD.sl [])])) (.c (@rfl DV (DV.p (PD.v (Value.int IntKind.i64 3)))) (.c (h1) .n))))))) (by kernel_rfl) ?_
  exact fpostM_ret rfl rfl rfl
/-- the shapes, in a row of their own -/
theorem forwardB : PureM Tryz.prog 41 [encG GB] (.row 0 [intL [2], intL [2]]) [some (40, 1, 2)] := by
  refine pureM_of (Callable.mk Tryz.func41 rfl rfl) rfl rfl ?_
  have h1 := cot_x
  have h2 := tmayB
  have h3 := c48_2
  refine crun [65, 67] ⟨[2], [], [], none⟩ [(105, .call (AEnd.ret (PD.v (Value.bool false)))), (202, .xc), (499, .call (AEnd.ret (PD.sl [PD.v (Value.int IntKind.i64 2)]))), (542, .xc), (677, .call (AEnd.ret (PD.v (Value.int IntKind.i64 0)))), (872, .call (AEnd.ret (PD.sl [PD.v (Value.int IntKind.i64 2)]))), (968, .call (AEnd.ret (PD.v (Value.bool false))))] (AX.ret) (St.mk (mkT 25 [(2, DV.row 0 [PD.sl [PD.v (Value.int IntKind.i64 2)], PD.sl [PD.v (Value.int IntKind.i64 2)]])]) (Mem.mk [Box.mk 30 [DV.p (PD.v (Value.int IntKind.i64 3)), DV.p (PD.sl [PD.agg [PD.v (Value.string (ByteArray.mk #[120])), PD.sl [PD.v (Value.int IntKind.i64 2)]]]), DV.p (PD.sl [PD.agg [PD.v (Value.string (ByteArray.mk #[119])), PD.sl [PD.v (Value.int IntKind.i64 2)], PD.sl [PD.agg [PD.v (Value.bool false), PD.sl [PD.v (Value.int IntKind.u32 1)], PD.sl [PD.v (Value.int IntKind.u32 1)]], PD.agg [PD.v (Value.bool false), PD.sl [PD.v (Value.int IntKind.u32 1)], PD.sl [PD.v (Value.int IntKind.u32 1)]]]]]), DV.p (PD.sl []), DV.p (PD.sl []), DV.p (PD.v (Value.bool false)), DV.p (PD.sl []), DV.p (PD.sl [])] false, Box.mk 30 [DV.p (PD.v (Value.int IntKind.i64 3)), DV.p (PD.sl [PD.agg [PD.v (Value.string (ByteArray.mk #[120])), PD.sl [PD.v (Value.int IntKind.i64 2)]]]), DV.p (PD.sl [PD.agg [PD.v (Value.string (ByteArray.mk #[119])), PD.sl [PD.v (Value.int IntKind.i64 2)], PD.sl [PD.agg [PD.v (Value.bool false), PD.sl [PD.v (Value.int IntKind.u32 1)], PD.sl [PD.v (Value.int IntKind.u32 1)]], PD.agg [PD.v (Value.bool false), PD.sl [PD.v (Value.int IntKind.u32 1)], PD.sl [PD.v (Value.int IntKind.u32 1)]]]]]), DV.p (PD.sl []), DV.p (PD.sl []), DV.p (PD.v (Value.bool false)), DV.p (PD.sl []), DV.p (PD.sl [])] false, Box.mk 139 [DV.mp 0] false, Box.mk 51 [DV.p (PD.v (Value.string (ByteArray.mk #[120]))), DV.p (PD.sl [PD.v (Value.int IntKind.i64 2)])] false, Box.mk 140 [] false, Box.mk 40 [DV.p (PD.sl [PD.v (Value.int IntKind.i64 2)])] true, Box.mk 74 [DV.p (PD.v (Value.string (ByteArray.mk #[119]))), DV.p (PD.sl [PD.v (Value.int IntKind.i64 2)]), DV.p (PD.sl [PD.agg [PD.v (Value.bool false), PD.sl [PD.v (Value.int IntKind.u32 1)], PD.sl [PD.v (Value.int IntKind.u32 1)]], PD.agg [PD.v (Value.bool false), PD.sl [PD.v (Value.int IntKind.u32 1)], PD.sl [PD.v (Value.int IntKind.u32 1)]]])] false, Box.mk 140 [] false, Box.mk 40 [DV.p (PD.sl [PD.v (Value.int IntKind.i64 2)])] true, Box.mk 28 [DV.p (PD.sl []), DV.p (PD.sl [])] false, Box.mk 31 [DV.row 0 [PD.sl [PD.v (Value.int IntKind.i64 2)], PD.sl [PD.v (Value.int IntKind.i64 2)]]] false] [some (40, 1, 2)] [AO.mp [(Value.string (ByteArray.mk #[120]), Value.agg #[]), (Value.string (ByteArray.mk #[119]), Value.agg #[])]])) (.c (h1) (.c (h3) (.c (h2) (.c (@rfl DV (DV.p (PD.v (Value.string (ByteArray.mk #[119]))))) (.c (h3) (.c (@rfl DV (DV.p (PD.v (Value.string (ByteArray.mk #[120]))))) (.c (h1) .n))))))) (by kernel_rfl) ?_
  exact fpostM_ret rfl rfl rfl
end Go.Proofs.YtmhpccchgbdiiaaGreatDoor
