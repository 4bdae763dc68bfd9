/- Walks: the reference of a name, in the document's answer. -/
import Derived.Test.YtikfefjaeejeeaaGreatDoorWaG
namespace Go.Proofs.YtikfefjaeejeeaaGreatDoor
open Go.RowKit
set_option maxRecDepth 100000
def idxN (name : ByteArray) : List ByteArray → Option Nat
  | [] => none
  | n :: r => if (n.toList == name.toList) = true then some 0 else (idxN name r).map (· + 1)
theorem idxN_no {name n : ByteArray} {l r : List ByteArray} {k : Nat} (h : l = n :: r) (hn : (n.toList == name.toList) = false) : (idxN name l).map (· + k) = (idxN name r).map (· + (k + 1)) := by
  rw [h]; simp only [idxN, hn, Bool.false_eq_true, if_false, Option.map_map]
  congr 1; funext x; simp; omega
theorem idxN_yes {name n : ByteArray} {l r : List ByteArray} {k : Nat} (h : l = n :: r) (hn : (n.toList == name.toList) = true) : (idxN name l).map (· + k) = some k := by
  rw [h]; simp [idxN, hn]
def findX : Option Nat → AX
  | some _ => .ret
  | none => .exit 0
def findX2 : Option Nat → AX
  | some _ => .ret
  | none => .exit 2
def findS (g : GraphM) (name : ByteArray) : Option Nat → St
  | some i => ⟨mkT 44 [(4, .p (intP i)), (5, .p (intP 0))], ⟨[boxG g], [], []⟩⟩
  | none => ⟨mkT 44 [(1, .p (strP name)), (2, .loc 0 0), (4, .p (intP 0)), (5, .p (intP 0))], ⟨[boxG g], [], []⟩⟩
def findS2 (g : GraphM) (name : ByteArray) : Option Nat → St
  | some i => ⟨mkT 44 [(4, .p (intP (g.ins.length + i : Nat))), (5, .p (intP 0))], ⟨[boxG g], [], []⟩⟩
  | none => ⟨mkT 44 [(4, .p (intP 0)), (5, .p (intP 0))], ⟨[boxG g], [], []⟩⟩
theorem rfind_loop0 (g : GraphM) (name : ByteArray) (h1 : g.ins.length + g.ws.length ≤ 9223372036854775807) (r : Option Nat) (hr : idxN name (g.ins.map (·.name)) = r) :
    LoopOK Tryz.prog (loopB Tryz.prog 26 0) ⟨mkT 44 [(1, .p (strP name)), (2, .loc 0 0), (4, .p (intP 0)), (5, .p (intP 0)), (6, .p (intP 0))], ⟨[boxG g], [], []⟩⟩ (findX r) (findS g name r) := by
  refine loop_ix [1, 2, 4, 5, 6] (fun k => ⟨mkT 44 [(1, .p (strP name)), (2, .loc 0 0), (4, .p (intP 0)), (5, .p (intP 0)), (6, .p (intP k))], ⟨[boxG g], [], []⟩⟩) g.ins.length (fun k => r = (idxN name ((g.ins.map (·.name)).drop k)).map (· + k)) (by simp [hr]) (fun _ => rfl) ?_
  intro k hk hp ro K Q hQ hK
  by_cases hlt : k < g.ins.length
  · obtain ⟨p, hx0, hd⟩ := get_of_lt hlt
    have hx := map_get (f := encPort) hx0
    have hlen : (g.ins.map encPort).length = g.ins.length := List.length_map ..
    have hd2 : (g.ins.map (·.name)).drop k = p.name :: (g.ins.map (·.name)).drop (k + 1) := by rw [← List.map_drop, hd, List.map_cons, List.map_drop]
    have hw := wrap64_succ (k := k) (by omega)
    rcases Bool.eq_false_or_eq_true (p.name.toList == name.toList) with hc | hc
    · rw [idxN_yes hd2 hc] at hp
      subst hp
      refine crun [] ⟨[4, 5], [], [], none⟩ [(7, .b true), (18, .el (encPort p)), (20, .el (encPort p)), (22, .b true)] (AX.ret) (St.mk (mkT 44 [(4, DV.p (PD.v (Value.int IntKind.i64 (↑k : Int)))), (5, DV.p (PD.v (Value.int IntKind.i64 0)))]) (Mem.mk [Box.mk 29 [DV.p (PD.v (Value.int IntKind.i64 g.ver)), DV.p (PD.sl (List.map encPort g.ins)), DV.p (PD.sl (List.map encWeight g.ws)), DV.p (PD.sl (List.map encNode g.bn)), DV.p (PD.sl (nums IntKind.i64 g.bo)), DV.p (PD.v (Value.bool g.has)), DV.p (PD.sl (List.map encNode g.vn)), DV.p (PD.sl (nums IntKind.i64 g.vo))] false] [] [])) (.c hc (.c hx (.c (And.intro hx (nn0 (k))) (.c (dT (show (↑k : Int) < (↑(List.map encPort g.ins).length : Int) by omega)) .n)))) (by kernel_rfl) ?_
      exact hQ
    · rw [idxN_no hd2 hc] at hp
      refine crun [] ⟨[1, 2, 4, 5, 6], [], [], none⟩ [(7, .b true), (18, .el (encPort p)), (20, .el (encPort p)), (22, .b false)] (AX.norm) (St.mk (mkT 44 [(1, DV.p (PD.v (Value.string name))), (2, DV.loc 0 0), (4, DV.p (PD.v (Value.int IntKind.i64 0))), (5, DV.p (PD.v (Value.int IntKind.i64 0))), (6, DV.p (PD.v (Value.int IntKind.i64 (IntKind.i64.wrap ((↑k : Int) + 1)))))]) (Mem.mk [Box.mk 29 [DV.p (PD.v (Value.int IntKind.i64 g.ver)), DV.p (PD.sl (List.map encPort g.ins)), DV.p (PD.sl (List.map encWeight g.ws)), DV.p (PD.sl (List.map encNode g.bn)), DV.p (PD.sl (nums IntKind.i64 g.bo)), DV.p (PD.v (Value.bool g.has)), DV.p (PD.sl (List.map encNode g.vn)), DV.p (PD.sl (nums IntKind.i64 g.vo))] false] [] [])) (.c hc (.c hx (.c (And.intro hx (nn0 (k))) (.c (dT (show (↑k : Int) < (↑(List.map encPort g.ins).length : Int) by omega)) .n)))) (by kernel_rfl) ?_
      exact hK _ hlt (by rw [hw]; rfl) hp
  · have hlen : (g.ins.map encPort).length = g.ins.length := List.length_map ..
    have hp2 : r = none := by rw [hp, drop_end (by simpa using hlt)]; rfl
    subst hp2
    refine crun [] ⟨[1, 2, 4, 5], [], [], none⟩ [(7, .b false)] (AX.exit 0) (St.mk (mkT 44 [(1, DV.p (PD.v (Value.string name))), (2, DV.loc 0 0), (4, DV.p (PD.v (Value.int IntKind.i64 0))), (5, DV.p (PD.v (Value.int IntKind.i64 0)))]) (Mem.mk [Box.mk 29 [DV.p (PD.v (Value.int IntKind.i64 g.ver)), DV.p (PD.sl (List.map encPort g.ins)), DV.p (PD.sl (List.map encWeight g.ws)), DV.p (PD.sl (List.map encNode g.bn)), DV.p (PD.sl (nums IntKind.i64 g.bo)), DV.p (PD.v (Value.bool g.has)), DV.p (PD.sl (List.map encNode g.vn)), DV.p (PD.sl (nums IntKind.i64 g.vo))] false] [] [])) (.c (dF (show ¬ (↑k : Int) < (↑(List.map encPort g.ins).length : Int) by omega)) .n) (by kernel_rfl) ?_
    exact hQ
theorem rfind_loop1 (g : GraphM) (name : ByteArray) (h1 : g.ins.length + g.ws.length ≤ 9223372036854775807) (r : Option Nat) (hr : idxN name (g.ws.map (·.name)) = r) :
    LoopOK Tryz.prog (loopB Tryz.prog 26 1) ⟨mkT 44 [(1, .p (strP name)), (2, .loc 0 0), (4, .p (intP 0)), (5, .p (intP 0)), (7, .p (intP 0))], ⟨[boxG g], [], []⟩⟩ (findX2 r) (findS2 g name r) := by
  refine loop_ix [1, 2, 4, 5, 7] (fun k => ⟨mkT 44 [(1, .p (strP name)), (2, .loc 0 0), (4, .p (intP 0)), (5, .p (intP 0)), (7, .p (intP k))], ⟨[boxG g], [], []⟩⟩) g.ws.length (fun k => r = (idxN name ((g.ws.map (·.name)).drop k)).map (· + k)) (by simp [hr]) (fun _ => rfl) ?_
  intro k hk hp ro K Q hQ hK
  have hlen : (g.ws.map encWeight).length = g.ws.length := List.length_map ..
  by_cases hlt : k < g.ws.length
  · obtain ⟨p, hx0, hd⟩ := get_of_lt hlt
    have hx := map_get (f := encWeight) hx0
    have hd2 : (g.ws.map (·.name)).drop k = p.name :: (g.ws.map (·.name)).drop (k + 1) := by rw [← List.map_drop, hd, List.map_cons, List.map_drop]
    have hw := wrap64_succ (k := k) (by omega)
    have hlen2 : (g.ins.map encPort).length = g.ins.length := List.length_map ..
    have hs : IntKind.i64.wrap (((g.ins.map encPort).length : Int) + (k : Int)) = ((g.ins.length + k : Nat) : Int) := by rw [hlen2, wrap64_id (by omega) (by omega)]; simp
    rcases Bool.eq_false_or_eq_true (p.name.toList == name.toList) with hc | hc
    · rw [idxN_yes hd2 hc] at hp
      subst hp
      refine crun [] ⟨[4, 5], [], [], none⟩ [(7, .b true), (18, .el (encWeight p)), (20, .el (encWeight p)), (22, .b true)] (AX.ret) (St.mk (mkT 44 [(4, DV.p (PD.v (Value.int IntKind.i64 (IntKind.i64.wrap ((↑(List.map encPort g.ins).length : Int) + (↑k : Int)))))), (5, DV.p (PD.v (Value.int IntKind.i64 0)))]) (Mem.mk [Box.mk 29 [DV.p (PD.v (Value.int IntKind.i64 g.ver)), DV.p (PD.sl (List.map encPort g.ins)), DV.p (PD.sl (List.map encWeight g.ws)), DV.p (PD.sl (List.map encNode g.bn)), DV.p (PD.sl (nums IntKind.i64 g.bo)), DV.p (PD.v (Value.bool g.has)), DV.p (PD.sl (List.map encNode g.vn)), DV.p (PD.sl (nums IntKind.i64 g.vo))] false] [] [])) (.c hc (.c hx (.c (And.intro hx (nn0 (k))) (.c (dT (show (↑k : Int) < (↑(List.map encWeight g.ws).length : Int) by omega)) .n)))) (by kernel_rfl) ?_
      rw [hs]; exact hQ
    · rw [idxN_no hd2 hc] at hp
      refine crun [] ⟨[1, 2, 4, 5, 7], [], [], none⟩ [(7, .b true), (18, .el (encWeight p)), (20, .el (encWeight p)), (22, .b false)] (AX.norm) (St.mk (mkT 44 [(1, DV.p (PD.v (Value.string name))), (2, DV.loc 0 0), (4, DV.p (PD.v (Value.int IntKind.i64 0))), (5, DV.p (PD.v (Value.int IntKind.i64 0))), (7, DV.p (PD.v (Value.int IntKind.i64 (IntKind.i64.wrap ((↑k : Int) + 1)))))]) (Mem.mk [Box.mk 29 [DV.p (PD.v (Value.int IntKind.i64 g.ver)), DV.p (PD.sl (List.map encPort g.ins)), DV.p (PD.sl (List.map encWeight g.ws)), DV.p (PD.sl (List.map encNode g.bn)), DV.p (PD.sl (nums IntKind.i64 g.bo)), DV.p (PD.v (Value.bool g.has)), DV.p (PD.sl (List.map encNode g.vn)), DV.p (PD.sl (nums IntKind.i64 g.vo))] false] [] [])) (.c hc (.c hx (.c (And.intro hx (nn0 (k))) (.c (dT (show (↑k : Int) < (↑(List.map encWeight g.ws).length : Int) by omega)) .n)))) (by kernel_rfl) ?_
      exact hK _ hlt (by rw [hw]; rfl) hp
  · have hp2 : r = none := by rw [hp, drop_end (by simpa using hlt)]; rfl
    subst hp2
    refine crun [] ⟨[4, 5], [], [], none⟩ [(7, .b false)] (AX.exit 2) (St.mk (mkT 44 [(4, DV.p (PD.v (Value.int IntKind.i64 0))), (5, DV.p (PD.v (Value.int IntKind.i64 0)))]) (Mem.mk [Box.mk 29 [DV.p (PD.v (Value.int IntKind.i64 g.ver)), DV.p (PD.sl (List.map encPort g.ins)), DV.p (PD.sl (List.map encWeight g.ws)), DV.p (PD.sl (List.map encNode g.bn)), DV.p (PD.sl (nums IntKind.i64 g.bo)), DV.p (PD.v (Value.bool g.has)), DV.p (PD.sl (List.map encNode g.vn)), DV.p (PD.sl (nums IntKind.i64 g.vo))] false] [] [])) (.c (dF (show ¬ (↑k : Int) < (↑(List.map encWeight g.ws).length : Int) by omega)) .n) (by kernel_rfl) ?_
    exact hQ
def findM (g : GraphM) (name : ByteArray) : PD :=
  match idxN name (g.ins.map (·.name)) with
  | some i => .tup [intP i, intP 0]
  | none => match idxN name (g.ws.map (·.name)) with
    | some i => .tup [intP (g.ins.length + i : Nat), intP 0]
    | none => .tup [intP 0, intP 22]
theorem refFind_pure (g : GraphM) (name : ByteArray) (h1 : g.ins.length + g.ws.length ≤ 9223372036854775807) : Pure Tryz.prog 26 [encG g, strP name] (.ret (findM g name)) := by
  cases hi : idxN name (g.ins.map (·.name)) with
  | some i =>
    have hl := rfind_loop0 g name h1 _ hi
    refine pure_eq (prun [] [(13, .code [1, 2, 4, 5, 6] (findX (some i)) (findS g name (some i)))] (e := AEnd.ret (PD.tup [PD.v (Value.int IntKind.i64 (↑i : Int)), PD.v (Value.int IntKind.i64 0)])) (.c (hl) .n) (by kernel_rfl)) ?_
    unfold findM; rw [hi]; rfl
  | none =>
    have hl := rfind_loop0 g name h1 _ hi
    cases hj : idxN name (g.ws.map (·.name)) with
    | some j =>
      have hl2 := rfind_loop1 g name h1 _ hj
      refine pure_eq (prun [] [(13, .code [1, 2, 4, 5, 6] (findX none) (findS g name none)), (20, .code [1, 2, 4, 5, 7] (findX2 (some j)) (findS2 g name (some j)))] (e := AEnd.ret (PD.tup [PD.v (Value.int IntKind.i64 (↑(g.ins.length + j) : Int)), PD.v (Value.int IntKind.i64 0)])) (.c (hl2) (.c (hl) .n)) (by kernel_rfl)) ?_
      unfold findM; rw [hi, hj]; rfl
    | none =>
      have hl2 := rfind_loop1 g name h1 _ hj
      refine pure_eq (prun [] [(13, .code [1, 2, 4, 5, 6] (findX none) (findS g name none)), (20, .code [1, 2, 4, 5, 7] (findX2 none) (findS2 g name none))] (e := AEnd.ret (PD.tup [PD.v (Value.int IntKind.i64 0), PD.v (Value.int IntKind.i64 22)])) (.c (hl2) (.c (hl) .n)) (by kernel_rfl)) ?_
      unfold findM; rw [hi, hj]; rfl
end Go.Proofs.YtikfefjaeejeeaaGreatDoor
