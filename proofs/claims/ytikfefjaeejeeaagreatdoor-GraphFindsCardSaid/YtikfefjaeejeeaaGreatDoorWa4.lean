/- Walks: graph.Find. -/
import Derived.Test.YtikfefjaeejeeaaGreatDoorWa3
import Derived.Test.YtikfefjaeejeeaaGreatDoorWa2
namespace Go.Proofs.YtikfefjaeejeeaaGreatDoor
open Go.RowKit
set_option maxRecDepth 100000
def boxS (s : ByteArray) : Box := ⟨9, [.p (strP s)], false⟩
def ixS (g : GraphM) (name : ByteArray) : Option Nat → St
  | some i => ⟨mkT 19 [(4, .p (intP i))], ⟨[boxG g, boxS name], [], []⟩⟩
  | none => ⟨mkT 19 [(4, .p (intP 0))], ⟨[boxG g, boxS name], [], []⟩⟩
theorem ixPort_loop (g : GraphM) (name : ByteArray) (h1 : g.ins.length + g.ws.length ≤ 9223372036854775807) (r : Option Nat) (hr : idxN name (g.ins.map (·.name)) = r) :
    LoopOK Tryz.prog (loopB Tryz.prog 52 0) ⟨mkT 19 [(0, .p (.sl (g.ins.map encPort))), (1, .fn 53 [.loc 1 0]), (4, .p (intP 0)), (7, .p (intP (g.ins.map encPort).length)), (8, .p (intP 0))], ⟨[boxG g, boxS name], [], []⟩⟩ (findX r) (ixS g name r) := by
  refine loop_ix [0, 1, 4, 7, 8] (fun k => ⟨mkT 19 [(0, .p (.sl (g.ins.map encPort))), (1, .fn 53 [.loc 1 0]), (4, .p (intP 0)), (7, .p (intP (g.ins.map encPort).length)), (8, .p (intP k))], ⟨[boxG g, boxS name], [], []⟩⟩) g.ins.length (fun k => r = (idxN name ((g.ins.map (·.name)).drop k)).map (· + k)) (by simp [hr]) (fun _ => rfl) ?_
  intro k hk hp ro K Q hQ hK
  have hlen : (g.ins.map encPort).length = g.ins.length := List.length_map ..
  by_cases hlt : k < g.ins.length
  · obtain ⟨p, hx0, hd⟩ := get_of_lt hlt
    have hx := map_get (f := encPort) hx0
    have hd2 : (g.ins.map (·.name)).drop k = p.name :: (g.ins.map (·.name)).drop (k + 1) := by rw [← List.map_drop, hd, List.map_cons, List.map_drop]
    have hw := wrap64_succ (k := k) (by omega)
    rcases Bool.eq_false_or_eq_true (p.name.toList == name.toList) with hc | hc
    · rw [idxN_yes hd2 hc] at hp
      subst hp
      refine crun [] ⟨[4], [], [], (some (2, 0, 0))⟩ [(2, .b true), (19, .el (encPort p)), (20, .el (encPort p)), (32, .b true)] (AX.ret) (St.mk (mkT 19 [(4, DV.p (PD.v (Value.int IntKind.i64 (↑k : Int))))]) (Mem.mk [Box.mk 29 [DV.p (PD.v (Value.int IntKind.i64 g.ver)), DV.p (PD.sl (List.map encPort g.ins)), DV.p (PD.sl (List.map encWeight g.ws)), DV.p (PD.sl (List.map encNode g.bn)), DV.p (PD.sl (nums IntKind.i64 g.bo)), DV.p (PD.v (Value.bool g.has)), DV.p (PD.sl (List.map encNode g.vn)), DV.p (PD.sl (nums IntKind.i64 g.vo))] false, Box.mk 9 [DV.p (PD.v (Value.string name))] false] [] [])) (.c hc (.c hx (.c (And.intro hx (nn0 (k))) (.c (dT (show (↑k : Int) < (↑(List.map encPort g.ins).length : Int) by omega)) .n)))) (by kernel_rfl) ?_
      exact hQ
    · rw [idxN_no hd2 hc] at hp
      refine crun [] ⟨[0, 1, 4, 7, 8], [], [], (some (2, 0, 0))⟩ [(2, .b true), (19, .el (encPort p)), (20, .el (encPort p)), (32, .b false)] (AX.norm) (St.mk (mkT 19 [(0, DV.p (PD.sl (List.map encPort g.ins))), (1, DV.fn 53 [DV.loc 1 0]), (4, DV.p (PD.v (Value.int IntKind.i64 0))), (7, DV.p (PD.v (Value.int IntKind.i64 (↑(List.map encPort g.ins).length : Int)))), (8, DV.p (PD.v (Value.int IntKind.i64 (IntKind.i64.wrap ((↑k : Int) + 1)))))]) (Mem.mk [Box.mk 29 [DV.p (PD.v (Value.int IntKind.i64 g.ver)), DV.p (PD.sl (List.map encPort g.ins)), DV.p (PD.sl (List.map encWeight g.ws)), DV.p (PD.sl (List.map encNode g.bn)), DV.p (PD.sl (nums IntKind.i64 g.bo)), DV.p (PD.v (Value.bool g.has)), DV.p (PD.sl (List.map encNode g.vn)), DV.p (PD.sl (nums IntKind.i64 g.vo))] false, Box.mk 9 [DV.p (PD.v (Value.string name))] false] [] [])) (.c hc (.c hx (.c (And.intro hx (nn0 (k))) (.c (dT (show (↑k : Int) < (↑(List.map encPort g.ins).length : Int) by omega)) .n)))) (by kernel_rfl) ?_
      exact hK _ hlt (by rw [hw]; rfl) hp
  · have hp2 : r = none := by rw [hp, drop_end (by simpa using hlt)]; rfl
    subst hp2
    refine crun [] ⟨[4], [], [], none⟩ [(2, .b false)] (AX.exit 0) (St.mk (mkT 19 [(4, DV.p (PD.v (Value.int IntKind.i64 0)))]) (Mem.mk [Box.mk 29 [DV.p (PD.v (Value.int IntKind.i64 g.ver)), DV.p (PD.sl (List.map encPort g.ins)), DV.p (PD.sl (List.map encWeight g.ws)), DV.p (PD.sl (List.map encNode g.bn)), DV.p (PD.sl (nums IntKind.i64 g.bo)), DV.p (PD.v (Value.bool g.has)), DV.p (PD.sl (List.map encNode g.vn)), DV.p (PD.sl (nums IntKind.i64 g.vo))] false, Box.mk 9 [DV.p (PD.v (Value.string name))] false] [] [])) (.c (dF (show ¬ (↑k : Int) < (↑(List.map encPort g.ins).length : Int) by omega)) .n) (by kernel_rfl) ?_
    exact hQ
theorem ixWeight_loop (g : GraphM) (name : ByteArray) (h1 : g.ins.length + g.ws.length ≤ 9223372036854775807) (r : Option Nat) (hr : idxN name (g.ws.map (·.name)) = r) :
    LoopOK Tryz.prog (loopB Tryz.prog 54 0) ⟨mkT 19 [(0, .p (.sl (g.ws.map encWeight))), (1, .fn 55 [.loc 1 0]), (4, .p (intP 0)), (7, .p (intP (g.ws.map encWeight).length)), (8, .p (intP 0))], ⟨[boxG g, boxS name], [], []⟩⟩ (findX r) (ixS g name r) := by
  refine loop_ix [0, 1, 4, 7, 8] (fun k => ⟨mkT 19 [(0, .p (.sl (g.ws.map encWeight))), (1, .fn 55 [.loc 1 0]), (4, .p (intP 0)), (7, .p (intP (g.ws.map encWeight).length)), (8, .p (intP k))], ⟨[boxG g, boxS name], [], []⟩⟩) g.ws.length (fun k => r = (idxN name ((g.ws.map (·.name)).drop k)).map (· + k)) (by simp [hr]) (fun _ => rfl) ?_
  intro k hk hp ro K Q hQ hK
  have hlen : (g.ws.map encWeight).length = g.ws.length := List.length_map ..
  by_cases hlt : k < g.ws.length
  · obtain ⟨p, hx0, hd⟩ := get_of_lt hlt
    have hx := map_get (f := encWeight) hx0
    have hd2 : (g.ws.map (·.name)).drop k = p.name :: (g.ws.map (·.name)).drop (k + 1) := by rw [← List.map_drop, hd, List.map_cons, List.map_drop]
    have hw := wrap64_succ (k := k) (by omega)
    rcases Bool.eq_false_or_eq_true (p.name.toList == name.toList) with hc | hc
    · rw [idxN_yes hd2 hc] at hp
      subst hp
      refine crun [] ⟨[4], [], [], (some (2, 0, 0))⟩ [(2, .b true), (19, .el (encWeight p)), (20, .el (encWeight p)), (32, .b true)] (AX.ret) (St.mk (mkT 19 [(4, DV.p (PD.v (Value.int IntKind.i64 (↑k : Int))))]) (Mem.mk [Box.mk 29 [DV.p (PD.v (Value.int IntKind.i64 g.ver)), DV.p (PD.sl (List.map encPort g.ins)), DV.p (PD.sl (List.map encWeight g.ws)), DV.p (PD.sl (List.map encNode g.bn)), DV.p (PD.sl (nums IntKind.i64 g.bo)), DV.p (PD.v (Value.bool g.has)), DV.p (PD.sl (List.map encNode g.vn)), DV.p (PD.sl (nums IntKind.i64 g.vo))] false, Box.mk 9 [DV.p (PD.v (Value.string name))] false] [] [])) (.c hc (.c hx (.c (And.intro hx (nn0 (k))) (.c (dT (show (↑k : Int) < (↑(List.map encWeight g.ws).length : Int) by omega)) .n)))) (by kernel_rfl) ?_
      exact hQ
    · rw [idxN_no hd2 hc] at hp
      refine crun [] ⟨[0, 1, 4, 7, 8], [], [], (some (2, 0, 0))⟩ [(2, .b true), (19, .el (encWeight p)), (20, .el (encWeight p)), (32, .b false)] (AX.norm) (St.mk (mkT 19 [(0, DV.p (PD.sl (List.map encWeight g.ws))), (1, DV.fn 55 [DV.loc 1 0]), (4, DV.p (PD.v (Value.int IntKind.i64 0))), (7, DV.p (PD.v (Value.int IntKind.i64 (↑(List.map encWeight g.ws).length : Int)))), (8, DV.p (PD.v (Value.int IntKind.i64 (IntKind.i64.wrap ((↑k : Int) + 1)))))]) (Mem.mk [Box.mk 29 [DV.p (PD.v (Value.int IntKind.i64 g.ver)), DV.p (PD.sl (List.map encPort g.ins)), DV.p (PD.sl (List.map encWeight g.ws)), DV.p (PD.sl (List.map encNode g.bn)), DV.p (PD.sl (nums IntKind.i64 g.bo)), DV.p (PD.v (Value.bool g.has)), DV.p (PD.sl (List.map encNode g.vn)), DV.p (PD.sl (nums IntKind.i64 g.vo))] false, Box.mk 9 [DV.p (PD.v (Value.string name))] false] [] [])) (.c hc (.c hx (.c (And.intro hx (nn0 (k))) (.c (dT (show (↑k : Int) < (↑(List.map encWeight g.ws).length : Int) by omega)) .n)))) (by kernel_rfl) ?_
      exact hK _ hlt (by rw [hw]; rfl) hp
  · have hp2 : r = none := by rw [hp, drop_end (by simpa using hlt)]; rfl
    subst hp2
    refine crun [] ⟨[4], [], [], none⟩ [(2, .b false)] (AX.exit 0) (St.mk (mkT 19 [(4, DV.p (PD.v (Value.int IntKind.i64 0)))]) (Mem.mk [Box.mk 29 [DV.p (PD.v (Value.int IntKind.i64 g.ver)), DV.p (PD.sl (List.map encPort g.ins)), DV.p (PD.sl (List.map encWeight g.ws)), DV.p (PD.sl (List.map encNode g.bn)), DV.p (PD.sl (nums IntKind.i64 g.bo)), DV.p (PD.v (Value.bool g.has)), DV.p (PD.sl (List.map encNode g.vn)), DV.p (PD.sl (nums IntKind.i64 g.vo))] false, Box.mk 9 [DV.p (PD.v (Value.string name))] false] [] [])) (.c (dF (show ¬ (↑k : Int) < (↑(List.map encWeight g.ws).length : Int) by omega)) .n) (by kernel_rfl) ?_
    exact hQ
theorem idxN_lt {name : ByteArray} : ∀ {l : List ByteArray} {i : Nat}, idxN name l = some i → i < l.length
  | [], i, h => by cases h
  | n :: r, i, h => by
    simp only [idxN] at h
    split at h
    · injection h with h; subst h; simp
    · cases hr : idxN name r with
      | none => rw [hr] at h; cases h
      | some j =>
        rw [hr] at h; simp at h
        have := idxN_lt hr
        simp; omega
theorem find_pure (g : GraphM) (name : ByteArray) (h1 : g.ins.length + g.ws.length ≤ 9223372036854775807) : Pure Tryz.prog 25 [encG g, strP name] (.ret (findM g name)) := by
  have hlen : (g.ins.map encPort).length = g.ins.length := List.length_map ..
  cases hi : idxN name (g.ins.map (·.name)) with
  | some i =>
    have hl := ixPort_loop g name h1 _ hi
    refine pure_eq (prun [] [(27, .code [0, 1, 4, 7, 8] (findX (some i)) (ixS g name (some i)))] (e := AEnd.ret (PD.tup [PD.v (Value.int IntKind.i64 (↑i : Int)), PD.v (Value.int IntKind.i64 0)])) (.c (hl) .n) (by kernel_rfl)) ?_
    unfold findM; rw [hi]; rfl
  | none =>
    have hl := ixPort_loop g name h1 _ hi
    cases hj : idxN name (g.ws.map (·.name)) with
    | some j =>
      have hl2 := ixWeight_loop g name h1 _ hj
      have hjl := idxN_lt hj
      rw [List.length_map] at hjl
      have hs : IntKind.i64.wrap (((g.ins.map encPort).length : Int) + (j : Int)) = ((g.ins.length + j : Nat) : Int) := by rw [hlen, wrap64_id (by omega) (by omega)]; simp
      refine pure_eq (prun [] [(27, .code [0, 1, 4, 7, 8] (findX none) (ixS g name none)), (61, .code [0, 1, 4, 7, 8] (findX (some j)) (ixS g name (some j)))] (e := AEnd.ret (PD.tup [PD.v (Value.int IntKind.i64 (IntKind.i64.wrap ((↑(List.map encPort g.ins).length : Int) + (↑j : Int)))), PD.v (Value.int IntKind.i64 0)])) (.c (hl2) (.c (hl) .n)) (by kernel_rfl)) ?_
      unfold findM; rw [hi, hj, hs]; rfl
    | none =>
      have hl2 := ixWeight_loop g name h1 _ hj
      refine pure_eq (prun [] [(27, .code [0, 1, 4, 7, 8] (findX none) (ixS g name none)), (61, .code [0, 1, 4, 7, 8] (findX none) (ixS g name none))] (e := AEnd.ret (PD.tup [PD.v (Value.int IntKind.i64 0), PD.v (Value.int IntKind.i64 22)])) (.c (hl2) (.c (hl) .n)) (by kernel_rfl)) ?_
      unfold findM; rw [hi, hj]; rfl
end Go.Proofs.YtikfefjaeejeeaaGreatDoor
