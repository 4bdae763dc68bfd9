/- Walks: graph.Shapes, Check. -/
import Derived.Test.YtmhpccchgbdiiaaGreatDoorAeV
import Derived.Test.YtmhpccchgbdiiaaGreatDoorWaG
namespace Go.Proofs.YtmhpccchgbdiiaaGreatDoor
open Go.RowKit
set_option maxRecDepth 100000
def boxL (d : DV) : Box := ⟨31, [d], false⟩
def boxE (e : Int) : Box := ⟨36, [.p (intP e)], false⟩
def errV (e : Int) : Value := .iface 36 (.int .i64 e)
theorem shapesRec0 (B0 B1 B2 : Box) : RecRun Tryz.prog 40 [.loc 1 0, .loc 2 0] none ⟨[B0, B1, B2], [], []⟩ ⟨[B0, B1, B2], [], []⟩ := by
  refine ⟨_, _, _, _, _, 3, 2, Callable.mk Tryz.func40 rfl rfl, rfl, rfl, rfl, rfl, rfl, rfl, rfl, by decide, by decide, ?_⟩
  intro Q hQ
  refine crun [] ⟨[], [], [], none⟩ [] (AX.norm) (St.mk (mkT 8 []) (Mem.mk [if (Fin_.mk [] [] [] none).fb.contains 0 = true then Box.mk B0.t (List.map (fun x => DV.undef) B0.cells) B0.shut else B0, if (Fin_.mk [] [] [] none).fb.contains (0 + 1) = true then Box.mk B1.t (List.map (fun x => DV.undef) B1.cells) B1.shut else B1, if (Fin_.mk [] [] [] none).fb.contains (0 + 1 + 1) = true then Box.mk B2.t (List.map (fun x => DV.undef) B2.cells) B2.shut else B2] [] [])) .n (by kernel_rfl) ?_
  exact (hQ _ rfl).1
theorem shapesRec1 (B0 : Box) (d : DV) (k e : Int) : RecRun Tryz.prog 40 [.loc 1 0, .loc 2 0] (some (errV e)) ⟨[B0, boxL d, boxE k], [], []⟩ ⟨[B0, boxL (.p (.v (.slice none 0 0))), boxE e], [], []⟩ := by
  refine ⟨_, _, _, _, _, 3, 2, Callable.mk Tryz.func40 rfl rfl, rfl, rfl, rfl, rfl, rfl, rfl, rfl, by decide, by decide, ?_⟩
  intro Q hQ
  refine crun [] ⟨[], [], [], none⟩ [] (AX.norm) (St.mk (mkT 8 []) (Mem.mk [if (Fin_.mk [] [] [] none).fb.contains 0 = true then Box.mk B0.t (List.map (fun x => DV.undef) B0.cells) B0.shut else B0, Box.mk 31 [DV.p (PD.v (Value.slice none 0 0))] false, Box.mk 36 [DV.p (PD.v (Value.int IntKind.i64 e))] false] [] [])) .n (by kernel_rfl) ?_
  exact (hQ _ rfl).1
theorem shapes_ok (g : GraphM) (L : List PD) (hf : Pure Tryz.prog 41 [encG g] (.ret (.sl L))) (hv : Pure Tryz.prog 42 [encG g, .sl L] (.ret (.tup []))) :
    Pure Tryz.prog 27 [encG g] (.ret (.tup [.sl L, intP 0])) := by
  refine pure_of_rec (Callable.mk Tryz.func27 rfl rfl) (t := 4) (g := 40) rfl rfl rfl rfl rfl rfl (s1 := ⟨mkT 11 [(1, .loc 0 0), (2, .loc 1 0), (3, .loc 2 0)], ⟨[boxG g, boxL (.p (.v (.slice none 0 0))), boxE 0], [], []⟩⟩) ?_ (show (4 : Nat) < 11 by decide) (x := .ret) (s3 := ⟨mkT 11 [(2, .loc 1 0), (3, .loc 2 0)], ⟨[boxG g, boxL (.p (.sl L)), boxE 0], [], []⟩⟩) ?_ (pv := none) (.inl ⟨rfl, rfl⟩) (shapesRec0 _ _ _) rfl rfl rfl
  · intro Q hQ
    refine crun [] ⟨[1, 2, 3], [], [], none⟩ [] (AX.norm) (St.mk (mkT 11 [(1, DV.loc 0 0), (2, DV.loc 1 0), (3, DV.loc 2 0)]) (Mem.mk [Box.mk 30 [DV.p (PD.v (Value.int IntKind.i64 g.ver)), DV.p (PD.sl (List.map encPort g.ins)), DV.p (PD.sl (List.map encWeight g.ws)), DV.p (PD.sl (List.map encNode g.bn)), DV.p (PD.sl (nums IntKind.i64 g.bo)), DV.p (PD.v (Value.bool g.has)), DV.p (PD.sl (List.map encNode g.vn)), DV.p (PD.sl (nums IntKind.i64 g.vo))] false, Box.mk 31 [DV.p (PD.v (Value.slice none 0 0))] false, Box.mk 36 [DV.p (PD.v (Value.int IntKind.i64 0))] false] [] [])) .n (by kernel_rfl) ?_
    exact hQ
  · intro Q hQ
    refine crun [] ⟨[2, 3], [], [], none⟩ [(3, .call (AEnd.ret (PD.sl L))), (10, .call (AEnd.ret (PD.tup [])))] (AX.ret) (St.mk (mkT 11 [(2, DV.loc 1 0), (3, DV.loc 2 0)]) (Mem.mk [Box.mk 30 [DV.p (PD.v (Value.int IntKind.i64 g.ver)), DV.p (PD.sl (List.map encPort g.ins)), DV.p (PD.sl (List.map encWeight g.ws)), DV.p (PD.sl (List.map encNode g.bn)), DV.p (PD.sl (nums IntKind.i64 g.bo)), DV.p (PD.v (Value.bool g.has)), DV.p (PD.sl (List.map encNode g.vn)), DV.p (PD.sl (nums IntKind.i64 g.vo))] false, Box.mk 31 [DV.p (PD.sl L)] false, Box.mk 36 [DV.p (PD.v (Value.int IntKind.i64 0))] false] [] [])) (.c (hv) (.c (hf) .n)) (by kernel_rfl) ?_
    exact hQ
theorem shapes_err1 (g : GraphM) (e : Int) (hf : Pure Tryz.prog 41 [encG g] (.panic (.v (errV e)))) :
    Pure Tryz.prog 27 [encG g] (.ret (.tup [.sl [], intP e])) := by
  refine pure_of_rec (Callable.mk Tryz.func27 rfl rfl) (t := 4) (g := 40) rfl rfl rfl rfl rfl rfl (s1 := ⟨mkT 11 [(1, .loc 0 0), (2, .loc 1 0), (3, .loc 2 0)], ⟨[boxG g, boxL (.p (.v (.slice none 0 0))), boxE 0], [], []⟩⟩) ?_ (show (4 : Nat) < 11 by decide) (x := .panic (.p (.v (errV e)))) (s3 := ⟨mkT 11 [(2, .loc 1 0), (3, .loc 2 0)], ⟨[boxG g, boxL (.p (.v (.slice none 0 0))), boxE 0], [], []⟩⟩) ?_ (pv := some (errV e)) (.inr ⟨_, rfl, rfl⟩) (shapesRec1 _ _ _ _) rfl rfl rfl
  · intro Q hQ
    refine crun [] ⟨[1, 2, 3], [], [], none⟩ [] (AX.norm) (St.mk (mkT 11 [(1, DV.loc 0 0), (2, DV.loc 1 0), (3, DV.loc 2 0)]) (Mem.mk [Box.mk 30 [DV.p (PD.v (Value.int IntKind.i64 g.ver)), DV.p (PD.sl (List.map encPort g.ins)), DV.p (PD.sl (List.map encWeight g.ws)), DV.p (PD.sl (List.map encNode g.bn)), DV.p (PD.sl (nums IntKind.i64 g.bo)), DV.p (PD.v (Value.bool g.has)), DV.p (PD.sl (List.map encNode g.vn)), DV.p (PD.sl (nums IntKind.i64 g.vo))] false, Box.mk 31 [DV.p (PD.v (Value.slice none 0 0))] false, Box.mk 36 [DV.p (PD.v (Value.int IntKind.i64 0))] false] [] [])) .n (by kernel_rfl) ?_
    exact hQ
  · intro Q hQ
    refine crun [] ⟨[2, 3], [], [], none⟩ [(3, .call (AEnd.panic (PD.v (Value.iface 36 (Value.int IntKind.i64 e)))))] (AX.panic (DV.p (PD.v (Value.iface 36 (Value.int IntKind.i64 e))))) (St.mk (mkT 11 [(2, DV.loc 1 0), (3, DV.loc 2 0)]) (Mem.mk [Box.mk 30 [DV.p (PD.v (Value.int IntKind.i64 g.ver)), DV.p (PD.sl (List.map encPort g.ins)), DV.p (PD.sl (List.map encWeight g.ws)), DV.p (PD.sl (List.map encNode g.bn)), DV.p (PD.sl (nums IntKind.i64 g.bo)), DV.p (PD.v (Value.bool g.has)), DV.p (PD.sl (List.map encNode g.vn)), DV.p (PD.sl (nums IntKind.i64 g.vo))] false, Box.mk 31 [DV.p (PD.v (Value.slice none 0 0))] false, Box.mk 36 [DV.p (PD.v (Value.int IntKind.i64 0))] false] [] [])) (.c (hf) .n) (by kernel_rfl) ?_
    exact hQ
theorem shapes_err2 (g : GraphM) (L : List PD) (e : Int) (hf : Pure Tryz.prog 41 [encG g] (.ret (.sl L))) (hv : Pure Tryz.prog 42 [encG g, .sl L] (.panic (.v (errV e)))) :
    Pure Tryz.prog 27 [encG g] (.ret (.tup [.sl [], intP e])) := by
  refine pure_of_rec (Callable.mk Tryz.func27 rfl rfl) (t := 4) (g := 40) rfl rfl rfl rfl rfl rfl (s1 := ⟨mkT 11 [(1, .loc 0 0), (2, .loc 1 0), (3, .loc 2 0)], ⟨[boxG g, boxL (.p (.v (.slice none 0 0))), boxE 0], [], []⟩⟩) ?_ (show (4 : Nat) < 11 by decide) (x := .panic (.p (.v (errV e)))) (s3 := ⟨mkT 11 [(2, .loc 1 0), (3, .loc 2 0)], ⟨[boxG g, boxL (.p (.sl L)), boxE 0], [], []⟩⟩) ?_ (pv := some (errV e)) (.inr ⟨_, rfl, rfl⟩) (shapesRec1 _ _ _ _) rfl rfl rfl
  · intro Q hQ
    refine crun [] ⟨[1, 2, 3], [], [], none⟩ [] (AX.norm) (St.mk (mkT 11 [(1, DV.loc 0 0), (2, DV.loc 1 0), (3, DV.loc 2 0)]) (Mem.mk [Box.mk 30 [DV.p (PD.v (Value.int IntKind.i64 g.ver)), DV.p (PD.sl (List.map encPort g.ins)), DV.p (PD.sl (List.map encWeight g.ws)), DV.p (PD.sl (List.map encNode g.bn)), DV.p (PD.sl (nums IntKind.i64 g.bo)), DV.p (PD.v (Value.bool g.has)), DV.p (PD.sl (List.map encNode g.vn)), DV.p (PD.sl (nums IntKind.i64 g.vo))] false, Box.mk 31 [DV.p (PD.v (Value.slice none 0 0))] false, Box.mk 36 [DV.p (PD.v (Value.int IntKind.i64 0))] false] [] [])) .n (by kernel_rfl) ?_
    exact hQ
  · intro Q hQ
    refine crun [] ⟨[2, 3], [], [], none⟩ [(3, .call (AEnd.ret (PD.sl L))), (10, .call (AEnd.panic (PD.v (Value.iface 36 (Value.int IntKind.i64 e)))))] (AX.panic (DV.p (PD.v (Value.iface 36 (Value.int IntKind.i64 e))))) (St.mk (mkT 11 [(2, DV.loc 1 0), (3, DV.loc 2 0)]) (Mem.mk [Box.mk 30 [DV.p (PD.v (Value.int IntKind.i64 g.ver)), DV.p (PD.sl (List.map encPort g.ins)), DV.p (PD.sl (List.map encWeight g.ws)), DV.p (PD.sl (List.map encNode g.bn)), DV.p (PD.sl (nums IntKind.i64 g.bo)), DV.p (PD.v (Value.bool g.has)), DV.p (PD.sl (List.map encNode g.vn)), DV.p (PD.sl (nums IntKind.i64 g.vo))] false, Box.mk 31 [DV.p (PD.sl L)] false, Box.mk 36 [DV.p (PD.v (Value.int IntKind.i64 0))] false] [] [])) (.c (hv) (.c (hf) .n)) (by kernel_rfl) ?_
    exact hQ
theorem check_ok (g : GraphM) (L : PD) (e : Int) (h : Pure Tryz.prog 27 [encG g] (.ret (.tup [L, intP e]))) : Pure Tryz.prog 12 [encG g] (.ret (intP e)) := by
  refine pure_eq (prun [] [(9, .call (AEnd.ret (PD.tup [L, PD.v (Value.int IntKind.i64 e)])))] (e := AEnd.ret (PD.v (Value.int IntKind.i64 e))) (.c (h) .n) (by kernel_rfl)) ?_
  rfl
end Go.Proofs.YtmhpccchgbdiiaaGreatDoor
