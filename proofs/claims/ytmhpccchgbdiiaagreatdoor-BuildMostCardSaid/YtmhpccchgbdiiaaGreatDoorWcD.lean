/- Walks: as many nodes as there may be: what is called. -/
import Derived.Test.YtmhpccchgbdiiaaGreatDoorWcB
namespace Go.Proofs.YtmhpccchgbdiiaaGreatDoor
open Go.RowKit
set_option maxRecDepth 100000
def GM : GraphM := ⟨3, [⟨⟨#[120]⟩, []⟩], [], [], [], false, [], []⟩
def PM : PD := encPort ⟨⟨#[120]⟩, []⟩
def SM : PD := intL []
/-- the forward part, in rows of its own -/
theorem fwdM : PureM Tryz.prog 35 [encG GM] (.agg [.p (intP 3), .row 0 [PM], .p nilP, .p nilP, .p (.sl []), .p (boolP false), .p nilP, .p nilP]) [some (51, 2, 1)] := by
  refine pureM_of (Callable.mk Tryz.func35 rfl rfl) rfl rfl ?_
  have h1 := bodyB
  have h3 := clone48_empty
  refine crun [] ⟨[2], [], [], none⟩ [(11, .call (AEnd.ret (PD.agg [PD.v (Value.slice none 0 0), PD.sl []]))), (49, .call (AEnd.ret (PD.sl [])))] (AX.ret) (St.mk (mkT 53 [(2, DV.loc 1 0)]) (Mem.mk [Box.mk 30 [DV.p (PD.v (Value.int IntKind.i64 3)), DV.p (PD.sl [PD.agg [PD.v (Value.string (ByteArray.mk #[120])), PD.sl []]]), DV.p (PD.sl []), DV.p (PD.sl []), DV.p (PD.sl []), DV.p (PD.v (Value.bool false)), DV.p (PD.sl []), DV.p (PD.sl [])] false, Box.mk 30 [DV.p (PD.v (Value.int IntKind.i64 3)), DV.row 0 [PD.agg [PD.v (Value.string (ByteArray.mk #[120])), PD.sl []]], DV.p (PD.v (Value.slice none 0 0)), DV.p (PD.v (Value.slice none 0 0)), DV.p (PD.sl []), DV.p (PD.v (Value.bool false)), DV.p (PD.v (Value.slice none 0 0)), DV.p (PD.v (Value.slice none 0 0))] false, Box.mk 30 [DV.p (PD.v (Value.int IntKind.i64 3)), DV.row 0 [PD.agg [PD.v (Value.string (ByteArray.mk #[120])), PD.sl []]], DV.p (PD.v (Value.slice none 0 0)), DV.p (PD.v (Value.slice none 0 0)), DV.p (PD.sl []), DV.p (PD.v (Value.bool false)), DV.p (PD.v (Value.slice none 0 0)), DV.p (PD.v (Value.slice none 0 0))] false, Box.mk 51 [DV.p (PD.v (Value.string (ByteArray.mk #[120]))), DV.p (PD.sl [])] false, Box.mk 51 [DV.p (PD.v (Value.string (ByteArray.mk #[120]))), DV.p (PD.sl [])] true] [some (51, 2, 1)] [])) (.c (@rfl DV (DV.p (PD.v (Value.slice none 0 0)))) (.c (h3) (.c (@rfl DV (DV.agg [DV.p (PD.sl []), DV.p (PD.sl [])])) (.c (@rfl DV (DV.p (PD.v (Value.int IntKind.i64 3)))) (.c (h1) .n))))) (by kernel_rfl) ?_
  exact fpostM_ret rfl rfl rfl
theorem forwardM : PureM Tryz.prog 41 [encG GM] (.row 0 [SM]) [some (40, 1, 1)] := by
  refine pureM_of (Callable.mk Tryz.func41 rfl rfl) rfl rfl ?_
  have h1 := cot_x
  have h3 := clone48_empty
  refine crun [65, 67] ⟨[2], [], [], none⟩ [(105, .call (AEnd.ret (PD.v (Value.bool false)))), (202, .xc), (438, .call (AEnd.ret (PD.sl []))), (551, .call (AEnd.ret (PD.v (Value.bool false))))] (AX.ret) (St.mk (mkT 25 [(2, DV.row 0 [PD.sl []])]) (Mem.mk [Box.mk 30 [DV.p (PD.v (Value.int IntKind.i64 3)), DV.p (PD.sl [PD.agg [PD.v (Value.string (ByteArray.mk #[120])), PD.sl []]]), DV.p (PD.sl []), DV.p (PD.sl []), DV.p (PD.sl []), DV.p (PD.v (Value.bool false)), DV.p (PD.sl []), DV.p (PD.sl [])] false, Box.mk 30 [DV.p (PD.v (Value.int IntKind.i64 3)), DV.p (PD.sl [PD.agg [PD.v (Value.string (ByteArray.mk #[120])), PD.sl []]]), DV.p (PD.sl []), DV.p (PD.sl []), DV.p (PD.sl []), DV.p (PD.v (Value.bool false)), DV.p (PD.sl []), DV.p (PD.sl [])] false, Box.mk 139 [DV.mp 0] false, Box.mk 51 [DV.p (PD.v (Value.string (ByteArray.mk #[120]))), DV.p (PD.sl [])] false, Box.mk 140 [] false, Box.mk 40 [DV.p (PD.sl [])] true, Box.mk 28 [DV.p (PD.sl []), DV.p (PD.sl [])] false, Box.mk 31 [DV.row 0 [PD.sl []]] false] [some (40, 1, 1)] [AO.mp [(Value.string (ByteArray.mk #[120]), Value.agg #[])]])) (.c (h1) (.c (h3) (.c (@rfl DV (DV.p (PD.v (Value.string (ByteArray.mk #[120]))))) (.c (h1) .n)))) (by kernel_rfl) ?_
  exact fpostM_ret rfl rfl rfl
def tkM : List (Option (TypeId × Nat × Nat)) := [some (40, 1, 1)]
theorem recM1 : RecRun Tryz.prog 40 [.loc 1 0, .loc 2 0] none ⟨[boxG GM, boxL (.row 0 [SM]), boxE 0], tkM, []⟩ ⟨[boxG GM, boxL (.row 0 [SM]), boxE 0], tkM, []⟩ := by
  refine ⟨_, _, _, _, _, 3, 2, Callable.mk Tryz.func40 rfl rfl, rfl, rfl, rfl, rfl, rfl, rfl, rfl, by decide, by decide, ?_⟩
  intro Q hQ
  refine crun [] ⟨[], [], [], none⟩ [] (AX.norm) (St.mk (mkT 8 []) (Mem.mk [Box.mk 30 [DV.p (PD.v (Value.int IntKind.i64 3)), DV.p (PD.sl [PD.agg [PD.v (Value.string (ByteArray.mk #[120])), PD.sl []]]), DV.p (PD.sl []), DV.p (PD.sl []), DV.p (PD.sl []), DV.p (PD.v (Value.bool false)), DV.p (PD.sl []), DV.p (PD.sl [])] false, Box.mk 31 [DV.row 0 [PD.sl []]] false, Box.mk 36 [DV.p (PD.v (Value.int IntKind.i64 0))] false] [some (40, 1, 1)] [])) .n (by kernel_rfl) ?_
  exact (hQ _ rfl).1
theorem vjpM : Pure Tryz.prog 42 [encG GM, .sl [SM]] (.ret (.tup [])) := run_pure (inl := noInl) fitC 4000 (by kernel_rfl)
theorem shapesM : PureM Tryz.prog 27 [encG GM] (.tup [.row 0 [SM], .p (intP 0)]) tkM := by
  refine pureM_of_rec (Callable.mk Tryz.func27 rfl rfl) (t := 4) (g := 40) rfl rfl rfl rfl rfl rfl (s1 := ⟨mkT 11 [(1, .loc 0 0), (2, .loc 1 0), (3, .loc 2 0)], ⟨[boxG GM, boxL (.p (.v (.slice none 0 0))), boxE 0], [], []⟩⟩) ?_ (show (4 : Nat) < 11 by decide) (x := .ret) (s3 := ⟨mkT 11 [(2, .loc 1 0), (3, .loc 2 0)], ⟨[boxG GM, boxL (.row 0 [SM]), boxE 0], tkM, []⟩⟩) ?_ (pv := none) (.inl ⟨rfl, rfl⟩) recM1 (l := [.row 0 [SM], .p (intP 0)]) rfl
  · intro Q hQ
    refine crun [] ⟨[1, 2, 3], [], [], none⟩ [] (AX.norm) (St.mk (mkT 11 [(1, DV.loc 0 0), (2, DV.loc 1 0), (3, DV.loc 2 0)]) (Mem.mk [Box.mk 30 [DV.p (PD.v (Value.int IntKind.i64 3)), DV.p (PD.sl [PD.agg [PD.v (Value.string (ByteArray.mk #[120])), PD.sl []]]), DV.p (PD.sl []), DV.p (PD.sl []), DV.p (PD.sl []), DV.p (PD.v (Value.bool false)), DV.p (PD.sl []), DV.p (PD.sl [])] false, Box.mk 31 [DV.p (PD.v (Value.slice none 0 0))] false, Box.mk 36 [DV.p (PD.v (Value.int IntKind.i64 0))] false] [] [])) .n (by kernel_rfl) ?_
    exact hQ
  · intro Q hQ
    have hf := forwardM
    have hv := vjpM
    refine crun [] ⟨[2, 3], [], [], none⟩ [(3, .callm (DV.row 0 [PD.sl []]) ([some (40, 1, 1)])), (10, .call (AEnd.ret (PD.tup [])))] (AX.ret) (St.mk (mkT 11 [(2, DV.loc 1 0), (3, DV.loc 2 0)]) (Mem.mk [Box.mk 30 [DV.p (PD.v (Value.int IntKind.i64 3)), DV.p (PD.sl [PD.agg [PD.v (Value.string (ByteArray.mk #[120])), PD.sl []]]), DV.p (PD.sl []), DV.p (PD.sl []), DV.p (PD.sl []), DV.p (PD.v (Value.bool false)), DV.p (PD.sl []), DV.p (PD.sl [])] false, Box.mk 31 [DV.row 0 [PD.sl []]] false, Box.mk 36 [DV.p (PD.v (Value.int IntKind.i64 0))] false] [some (40, 1, 1)] [])) (.c (hv) (.c (hf) .n)) (by kernel_rfl) ?_
    exact hQ
theorem chkN (i : Int) : Pure Tryz.prog 15 [intP 3, encNode ⟨5, [i], []⟩] (.ret (intP 0)) := run_pure (inl := noInl) fitC 4000 (by kernel_rfl)
theorem chkA : Pure Tryz.prog 15 [intP 3, encNode ⟨1, [0], []⟩] (.ret (intP 10)) := run_pure (inl := noInl) fitC 4000 (by kernel_rfl)
theorem infN (i : Int) : Pure Tryz.prog 17 [intP 3, encNode ⟨5, [i], []⟩, .sl [SM]] (.ret (.tup [SM, intP 0])) := by
  have h1 := chkN i
  have h2 := clone48_empty
  have h3 := clone87_empty
  refine pure_eq (prun [28, 33, 43, 44, 69, 95, 96, 97, 98, 99, 100, 101, 102, 103, 115, 117] [(12, .call (AEnd.ret (PD.v (Value.int IntKind.i64 0)))), (159, .xc), (179, .call (AEnd.ret (PD.sl []))), (557, .call (AEnd.ret (PD.v (Value.int IntKind.i64 0)))), (590, .call (AEnd.ret (PD.sl []))), (596, .call (AEnd.ret (PD.sl [])))] (e := AEnd.ret (PD.tup [PD.sl [], PD.v (Value.int IntKind.i64 0)])) (.c (h3) (.c (h2) (.c (@rfl DV (DV.p (PD.v (Value.int IntKind.i64 5)))) (.c (h1) (.c (h3) (.c (@rfl DV (DV.agg [DV.p (PD.v (Value.int IntKind.i64 5)), DV.p (PD.sl [PD.v (Value.int IntKind.i64 i)]), DV.p (PD.sl [])])) (.c (@rfl DV (DV.p (PD.v (Value.int IntKind.i64 5)))) (.c (h1) .n)))))))) (by kernel_rfl)) ?_
  rfl
theorem cloneN (i : Int) : Pure Tryz.prog 14 [intL [i]] (.ret (intL [i])) := clone87 [i] (by simp)
/-- a graph of many nodes -/
def GN (ns : List NodeM) (os : List Int) : GraphM := ⟨3, [⟨⟨#[120]⟩, []⟩], [], ns, os, false, [], []⟩
def encN (ns : List NodeM) (os : List Int) : PD := .agg [intP 3, .sl [PM], .sl [], .sl (ns.map encNode), intL os, boolP false, .sl [], .sl []]
theorem encN_eq (ns : List NodeM) (os : List Int) : encG (GN ns os) = encN ns os := rfl
theorem fwdN (ns : List NodeM) (hn : ns.length ≤ 1073741824) (hns : ∀ n ∈ ns, n.args.length ≤ 1073741824 ∧ n.attrs.length ≤ 1073741824) : Pure Tryz.prog 35 [encG (GN ns [])] (.ret (encG (GN ns []))) := by
  have h1 := bodyCopy_pure ns [] hn (by simp) hns
  have h3 := clone48_empty
  refine pure_eq (prun [] [(12, .call (AEnd.ret (PD.agg [PD.sl (List.map encNode ns), PD.sl []]))), (50, .call (AEnd.ret (PD.sl [])))] (e := AEnd.ret (PD.agg [PD.v (Value.int IntKind.i64 3), PD.sl [PD.agg [PD.v (Value.string (ByteArray.mk #[120])), PD.sl []]], PD.sl [], PD.sl (List.map encNode ns), PD.sl [], PD.v (Value.bool false), PD.sl [], PD.sl []])) (.c (@rfl DV (DV.p (PD.v (Value.slice none 0 0)))) (.c (h3) (.c (@rfl DV (DV.agg [DV.p (PD.sl (List.map encNode (GN ns []).bn)), DV.p (PD.sl [])])) (.c (@rfl DV (DV.p (PD.v (Value.int IntKind.i64 3)))) (.c (h1) .n))))) (by kernel_rfl)) ?_
  rfl
theorem copyN (ns : List NodeM) (hn : ns.length ≤ 1073741824) (hns : ∀ n ∈ ns, n.args.length ≤ 1073741824 ∧ n.attrs.length ≤ 1073741824) : Pure Tryz.prog 21 [encG (GN ns [])] (.ret (encG (GN ns []))) := by
  have h1 := fwdN ns hn hns
  have h2 := bodyCopy_pure [] [] (by simp) (by simp) (fun n hn => by cases hn)
  refine pure_eq (prun [] [(9, .call (AEnd.ret (PD.agg [PD.v (Value.int IntKind.i64 3), PD.sl [PD.agg [PD.v (Value.string (ByteArray.mk #[120])), PD.sl []]], PD.sl [], PD.sl (List.map encNode (GN ns []).bn), PD.sl [], PD.v (Value.bool false), PD.sl [], PD.sl []]))), (19, .call (AEnd.ret (PD.agg [PD.sl [], PD.sl []])))] (e := AEnd.ret (PD.agg [PD.v (Value.int IntKind.i64 3), PD.sl [PD.agg [PD.v (Value.string (ByteArray.mk #[120])), PD.sl []]], PD.sl [], PD.sl (List.map encNode (GN ns []).bn), PD.sl [], PD.v (Value.bool false), PD.sl [], PD.sl []])) (.c (h2) (.c (h1) .n)) (by kernel_rfl)) ?_
  rfl
theorem fwdErr (ns : List NodeM) (os : List Int) (hn : ns.length = 32768) : Pure Tryz.prog 41 [encG (GN ns os)] (.panic (.v (errV 14))) := by
  have h1 := cot_x
  have h3 := clone48_empty
  have hlen : (ns.map encNode).length = 32768 := by rw [List.length_map]; exact hn
  rw [encN_eq]
  refine pure_eq (prun [65, 67] [(106, .call (AEnd.ret (PD.v (Value.bool false)))), (203, .xc), (439, .call (AEnd.ret (PD.sl []))), (552, .call (AEnd.ret (PD.v (Value.bool false)))), (606, .b false)] (e := AEnd.panic (PD.v (Value.iface 36 (Value.int IntKind.i64 14)))) (.c (dF (show ¬ (↑(List.map encNode ns).length : Int) ≤ (1024 : Int) by omega)) (.c (h1) (.c (h3) (.c (@rfl DV (DV.p (PD.v (Value.string (ByteArray.mk #[120]))))) (.c (h1) .n))))) (by kernel_rfl)) ?_
  rfl
theorem checkN (ns : List NodeM) (os : List Int) (hn : ns.length = 32768) : Pure Tryz.prog 12 [encG (GN ns os)] (.ret (intP 14)) := check_ok _ _ 14 (shapes_err1 _ 14 (fwdErr ns os hn))
end Go.Proofs.YtmhpccchgbdiiaaGreatDoor
