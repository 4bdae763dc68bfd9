/- Walks: GraphFinds over what it calls. -/
import Derived.Test.YtikfefjaeejeeaaGreatDoorWa4
import Derived.Test.YtikfefjaeejeeaaGreatDoorWa3
import Derived.Test.YtikfefjaeejeeaaGreatDoorWa2
import Derived.Test.YtikfefjaeejeeaaGreatDoorWa1
namespace Go.Proofs.YtikfefjaeejeeaaGreatDoor
open Go.RowKit
set_option maxRecDepth 100000
/-- the sum, as the program reckons it -/
def refsE (g : GraphM) : Int := IntKind.i64.wrap (IntKind.i64.wrap (((g.ins.map encPort).length : Int) + ((g.ws.map encWeight).length : Int)) + ((g.bn.map encNode).length : Int))
theorem refs_raw (g : GraphM) : Pure Tryz.prog 20 [encG g] (.ret (intP (IntKind.i64.wrap (IntKind.i64.wrap (((g.ins.map encPort).length : Int) + ((g.ws.map encWeight).length : Int)) + ((g.bn.map encNode).length : Int))))) := by
  refine pure_eq (prun [] [] (e := AEnd.ret (PD.v (Value.int IntKind.i64 (IntKind.i64.wrap (IntKind.i64.wrap ((↑(List.map encPort g.ins).length : Int) + (↑(List.map encWeight g.ws).length : Int)) + (↑(List.map encNode g.bn).length : Int)))))) .n (by kernel_rfl)) ?_
  rfl
theorem findM_tup (g : GraphM) (name : ByteArray) : ∃ i e : Int, findM g name = .tup [intP i, intP e] := by
  unfold findM
  repeat' split
  all_goals exact ⟨_, _, rfl⟩
theorem finds_of (g : GraphM) (name : ByteArray) (i e : Int) (b : Bool)
    (c1 : Pure Tryz.prog 25 [encG g, strP name] (.ret (.tup [intP i, intP e]))) (c2 : Pure Tryz.prog 26 [encG g, strP name] (.ret (.tup [intP i, intP e])))
    (c4 : Pure Tryz.prog 27 [strP name] (.ret (boolP b))) (c5 : Pure Tryz.prog 28 [strP name] (.ret (boolP b))) (c6 : Pure Tryz.prog 11 [] (.ret (boolP true))) : Pure Tryz.prog 7 [encG g, strP name] (.ret (boolP true)) := by
  have c3 := refs_raw g
  cases b
  · refine pure_eq (prun [] [(10, .call (AEnd.ret (PD.tup [PD.v (Value.int IntKind.i64 i), PD.v (Value.int IntKind.i64 e)]))), (21, .call (AEnd.ret (PD.tup [PD.v (Value.int IntKind.i64 i), PD.v (Value.int IntKind.i64 e)]))), (32, .b true), (36, .b true), (40, .call (AEnd.ret (PD.v (Value.int IntKind.i64 (IntKind.i64.wrap (IntKind.i64.wrap ((↑(List.map encPort g.ins).length : Int) + (↑(List.map encWeight g.ws).length : Int)) + (↑(List.map encNode g.bn).length : Int))))))), (53, .b true), (57, .call (AEnd.ret (PD.v (Value.bool false)))), (59, .call (AEnd.ret (PD.v (Value.bool false)))), (63, .call (AEnd.ret (PD.v (Value.bool true))))] (e := AEnd.ret (PD.v (Value.bool true))) (.c (c6) (.c (c5) (.c (c4) (.c (eT (show IntKind.i64.wrap (IntKind.i64.wrap ((↑(List.map encPort g.ins).length : Int) + (↑(List.map encWeight g.ws).length : Int)) + (↑(List.map encNode g.bn).length : Int)) = IntKind.i64.wrap (IntKind.i64.wrap ((↑(List.map encPort g.ins).length : Int) + (↑(List.map encWeight g.ws).length : Int)) + (↑(List.map encNode g.bn).length : Int)) by omega)) (.c (c3) (.c (eT (show e = e by omega)) (.c (eT (show i = i by omega)) (.c (c2) (.c (c1) .n))))))))) (by kernel_rfl)) ?_
    rfl
  · refine pure_eq (prun [] [(10, .call (AEnd.ret (PD.tup [PD.v (Value.int IntKind.i64 i), PD.v (Value.int IntKind.i64 e)]))), (21, .call (AEnd.ret (PD.tup [PD.v (Value.int IntKind.i64 i), PD.v (Value.int IntKind.i64 e)]))), (32, .b true), (36, .b true), (40, .call (AEnd.ret (PD.v (Value.int IntKind.i64 (IntKind.i64.wrap (IntKind.i64.wrap ((↑(List.map encPort g.ins).length : Int) + (↑(List.map encWeight g.ws).length : Int)) + (↑(List.map encNode g.bn).length : Int))))))), (53, .b true), (57, .call (AEnd.ret (PD.v (Value.bool true)))), (59, .call (AEnd.ret (PD.v (Value.bool true)))), (63, .call (AEnd.ret (PD.v (Value.bool true))))] (e := AEnd.ret (PD.v (Value.bool true))) (.c (c6) (.c (c5) (.c (c4) (.c (eT (show IntKind.i64.wrap (IntKind.i64.wrap ((↑(List.map encPort g.ins).length : Int) + (↑(List.map encWeight g.ws).length : Int)) + (↑(List.map encNode g.bn).length : Int)) = IntKind.i64.wrap (IntKind.i64.wrap ((↑(List.map encPort g.ins).length : Int) + (↑(List.map encWeight g.ws).length : Int)) + (↑(List.map encNode g.bn).length : Int)) by omega)) (.c (c3) (.c (eT (show e = e by omega)) (.c (eT (show i = i by omega)) (.c (c2) (.c (c1) .n))))))))) (by kernel_rfl)) ?_
    rfl
end Go.Proofs.YtikfefjaeejeeaaGreatDoor
