/- Walks and laws, laid together: WfI WfD Wa0 Wa2 WaC WaD Wa9. -/
import Derived.Test.YtikfefjaeejeeaaGreatDoorMa7
import Derived.Test.YtikfefjaeejeeaaGreatDoorMa6
import Derived.Test.YtikfefjaeejeeaaGreatDoorAeU
import Derived.Test.YtikfefjaeejeeaaGreatDoorMa4
import Derived.Test.YtikfefjaeejeeaaGreatDoorMa1
import Derived.Test.YtikfefjaeejeeaaGreatDoorShelf
import Derived.WalkKit
import Derived.BigCall
import Derived.Test.YtikfefjaeejeeaaGreatDoorMa3
/- Walks: a graph in memory of one's own; is it small? -/
namespace Go.Proofs.YtikfefjaeejeeaaGreatDoor
open Go.RowKit
set_option maxRecDepth 100000
def nilD : DV := .p (.v (.slice none 0 0))
def boxZ : Box := ⟨29, [.p (intP 0), nilD, nilD, nilD, nilD, .p (boolP false), nilD, nilD], false⟩
def boxF (g : GraphM) (i w : DV) : Box := ⟨29, [.p (intP g.ver), i, w, .p (.sl (g.bn.map encNode)), .p (intL g.bo), .p (boolP false), nilD, nilD], false⟩
def f1S (g : GraphM) (k : Nat) : St := ⟨mkT 65 [(1, .loc 0 0), (2, .loc 1 0), (3, .loc 2 0), (4, .p (intP (k : Nat)))], ⟨[boxG g, boxZ, boxF g (rowC k ((g.ins.take k).map encPort)) nilD], tokC 71 2 k, []⟩⟩
set_option maxHeartbeats 1000000 in
theorem f1_loop (g : GraphM) (hl : g.ins.length ≤ 1073741824) (hr : ∀ p ∈ g.ins, p.shape.length ≤ 1073741824) : LoopOK Tryz.prog (loopB Tryz.prog 15 0) (f1S g 0) (.exit 0) ⟨mkT 65 [(1, .loc 0 0), (2, .loc 1 0), (3, .loc 2 0)], ⟨[boxG g, boxZ, boxF g (rowC g.ins.length ((g.ins.take g.ins.length).map encPort)) nilD], tokC 71 2 g.ins.length, []⟩⟩ := by
  refine loop_ix [1, 2, 3, 4] (f1S g) g.ins.length (fun _ => True) trivial (fun _ => rfl) ?_
  intro k hk _ ro K Q hQ hK
  have rwa : ((g.ins.map encPort).length : Int) = (g.ins.length : Int) := by rw [List.length_map]
  by_cases hlt : k < g.ins.length
  · obtain ⟨n, hx0, hd⟩ := get_of_lt hlt
    have gx : (g.ins.map encPort)[(k : Int).toNat]? = some (encPort n) := map_get hx0
    have hw := wrap64_succ (k := k) (by omega)
    have b1 := hr n (List.mem_of_getElem? hx0)
    have sn : sized 2 [encPort n] := sized_one rfl
    have sa := nums_sized .i64 n.shape
    have la : (nums .i64 n.shape).length ≤ 1073741824 := by rw [nums_length]; exact b1
    have hts := take_snoc hx0
    by_cases h0 : k = 0
    · subst h0
      have s0 := sized_nil 2
      unfold f1S rowC tokC boxF boxG boxZ nilD
      refine crun [] ⟨[1, 2, 3, 4], [], [], (some (3, 1, 0))⟩ [(6, .w (DV.p (PD.v (Value.int IntKind.i64 (↑g.ins.length : Int))))), (7, .b true), (19, .el (encPort n)), (21, .el (encPort n)), (25, .el (encPort n)), (27, .el (encPort n)), (28, .m)] (AX.norm) (St.mk (mkT 65 [(1, DV.loc 0 0), (2, DV.loc 1 0), (3, DV.loc 2 0), (4, DV.p (PD.v (Value.int IntKind.i64 1)))]) (Mem.mk [Box.mk 29 [DV.p (PD.v (Value.int IntKind.i64 g.ver)), DV.p (PD.sl (List.map encPort g.ins)), DV.p (PD.sl (List.map encWeight g.ws)), DV.p (PD.sl (List.map encNode g.bn)), DV.p (PD.sl (nums IntKind.i64 g.bo)), DV.p (PD.v (Value.bool g.has)), DV.p (PD.sl (List.map encNode g.vn)), DV.p (PD.sl (nums IntKind.i64 g.vo))] false, Box.mk 29 [DV.p (PD.v (Value.int IntKind.i64 0)), DV.p (PD.v (Value.slice none 0 0)), DV.p (PD.v (Value.slice none 0 0)), DV.p (PD.v (Value.slice none 0 0)), DV.p (PD.v (Value.slice none 0 0)), DV.p (PD.v (Value.bool false)), DV.p (PD.v (Value.slice none 0 0)), DV.p (PD.v (Value.slice none 0 0))] false, Box.mk 29 [DV.p (PD.v (Value.int IntKind.i64 g.ver)), DV.row 0 [PD.agg [PD.v (Value.string n.name), PD.sl (nums IntKind.i64 n.shape)]], DV.p (PD.v (Value.slice none 0 0)), DV.p (PD.sl (List.map encNode g.bn)), DV.p (PD.sl (nums IntKind.i64 g.bo)), DV.p (PD.v (Value.bool false)), DV.p (PD.v (Value.slice none 0 0)), DV.p (PD.v (Value.slice none 0 0))] false] [some (71, 2, 1)] [])) (.c (@rfl DV (DV.p (PD.v (Value.slice none 0 0)))) (.c (show AppN (1 : Nat) (8 : Nat) (nums IntKind.i64 n.shape) by exact ⟨by first | assumption | exact nums_sized _ _ | simp [sized_nil, sized_one, sized_append, sized_map, nums_sized, nums_append], by first | omega | (simp <;> omega), by first | omega | (simp <;> omega)⟩) (.c gx (.c (And.intro gx (show (0 : Int) ≤ 0 by omega)) (.c gx (.c (And.intro gx (show (0 : Int) ≤ 0 by omega)) (.c (dT (show (0 : Int) < (↑g.ins.length : Int) by omega)) (.c (congrArg (fun z => DV.p (PD.v (Go.Value.int IntKind.i64 z))) rwa) .n)))))))) (by kernel_rfl) ?_
      exact hK _ hlt (by unfold f1S rowC tokC boxF boxG boxZ nilD; simp only [hw, hts]; rfl) trivial
    · have hl2 : ((g.ins.take k).map encPort).length = k := by simp; omega
      have s0 : sized 2 ((g.ins.take k).map encPort) := sized_map fun _ => rfl
      have e1 := rowC_pos h0
      have e2 := tokC_pos h0
      have e3 : f1S g (k + 1) = ⟨mkT 65 [(1, .loc 0 0), (2, .loc 1 0), (3, .loc 2 0), (4, .p (intP (k + 1 : Nat)))], ⟨[boxG g, boxZ, boxF g (.row 0 ((g.ins.take k).map encPort ++ [encPort n])) nilD], [some (71, 2, ((g.ins.take k).map encPort).length + 1)], []⟩⟩ := by
        unfold f1S rowC tokC
        rw [hts, hl2, List.map_append]
        rfl
      rw [e3] at hK
      clear e3 hts
      unfold f1S boxF boxG boxZ nilD
      unfold boxF boxG boxZ nilD at hK
      rw [e1, e2]
      clear e1 e2
      generalize (g.ins.take k).map encPort = L at hl2 s0 hK ⊢
      subst hl2
      refine crun [] ⟨[1, 2, 3, 4], [], [], (some (3, 1, 0))⟩ [(6, .w (DV.p (PD.v (Value.int IntKind.i64 (↑g.ins.length : Int))))), (7, .b true), (19, .el (encPort n)), (21, .el (encPort n)), (25, .el (encPort n)), (27, .el (encPort n)), (28, .m), (31, .m)] (AX.norm) (St.mk (mkT 65 [(1, DV.loc 0 0), (2, DV.loc 1 0), (3, DV.loc 2 0), (4, DV.p (PD.v (Value.int IntKind.i64 (IntKind.i64.wrap ((↑L.length : Int) + 1)))))]) (Mem.mk [Box.mk 29 [DV.p (PD.v (Value.int IntKind.i64 g.ver)), DV.p (PD.sl (List.map encPort g.ins)), DV.p (PD.sl (List.map encWeight g.ws)), DV.p (PD.sl (List.map encNode g.bn)), DV.p (PD.sl (nums IntKind.i64 g.bo)), DV.p (PD.v (Value.bool g.has)), DV.p (PD.sl (List.map encNode g.vn)), DV.p (PD.sl (nums IntKind.i64 g.vo))] false, Box.mk 29 [DV.p (PD.v (Value.int IntKind.i64 0)), DV.p (PD.v (Value.slice none 0 0)), DV.p (PD.v (Value.slice none 0 0)), DV.p (PD.v (Value.slice none 0 0)), DV.p (PD.v (Value.slice none 0 0)), DV.p (PD.v (Value.bool false)), DV.p (PD.v (Value.slice none 0 0)), DV.p (PD.v (Value.slice none 0 0))] false, Box.mk 29 [DV.p (PD.v (Value.int IntKind.i64 g.ver)), DV.row 0 (L ++ [PD.agg [PD.v (Value.string n.name), PD.sl (nums IntKind.i64 n.shape)]]), DV.p (PD.v (Value.slice none 0 0)), DV.p (PD.sl (List.map encNode g.bn)), DV.p (PD.sl (nums IntKind.i64 g.bo)), DV.p (PD.v (Value.bool false)), DV.p (PD.v (Value.slice none 0 0)), DV.p (PD.v (Value.slice none 0 0))] false] [some (71, 2, L.length + [PD.agg [PD.v (Value.string n.name), PD.sl (nums IntKind.i64 n.shape)]].length)] [])) (.c (show AppOK (2 : Nat) (40 : Nat) L.length L [PD.agg [PD.v (Value.string n.name), PD.sl (nums IntKind.i64 n.shape)]] by exact ⟨by first | rfl | omega | (simp; done) | (simp; omega), by first | assumption | exact nums_sized _ _ | simp [sized_nil, sized_one, sized_append, sized_map, nums_sized, nums_append], by first | assumption | exact nums_sized _ _ | simp [sized_nil, sized_one, sized_append, sized_map, nums_sized, nums_append], by first | omega | (simp <;> omega), by first | omega | (simp <;> omega)⟩) (.c (@rfl DV (DV.row 0 L)) (.c (show AppN (1 : Nat) (8 : Nat) (nums IntKind.i64 n.shape) by exact ⟨by first | assumption | exact nums_sized _ _ | simp [sized_nil, sized_one, sized_append, sized_map, nums_sized, nums_append], by first | omega | (simp <;> omega), by first | omega | (simp <;> omega)⟩) (.c gx (.c (And.intro gx (nn0 (L.length))) (.c gx (.c (And.intro gx (nn0 (L.length))) (.c (dT (show (↑L.length : Int) < (↑g.ins.length : Int) by omega)) (.c (congrArg (fun z => DV.p (PD.v (Go.Value.int IntKind.i64 z))) rwa) .n))))))))) (by kernel_rfl) ?_
      exact hK _ hlt (by simp only [hw]; rfl) trivial
  · obtain rfl : k = g.ins.length := by omega
    clear hr
    unfold f1S boxF boxG boxZ nilD
    unfold boxF boxG boxZ nilD at hQ
    by_cases h0 : g.ins.length = 0
    · have e1 : ∀ L, rowC g.ins.length L = .p (.v (.slice none 0 0)) := fun L => by rw [h0]; rfl
      have e2 : tokC 71 2 g.ins.length = [] := by rw [h0]; rfl
      rw [e1, e2] at hQ ⊢
      refine crun [] ⟨[1, 2, 3], [], [], none⟩ [(6, .w (DV.p (PD.v (Value.int IntKind.i64 (↑g.ins.length : Int))))), (7, .b false)] (AX.exit 0) (St.mk (mkT 65 [(1, DV.loc 0 0), (2, DV.loc 1 0), (3, DV.loc 2 0)]) (Mem.mk [Box.mk 29 [DV.p (PD.v (Value.int IntKind.i64 g.ver)), DV.p (PD.sl (List.map encPort g.ins)), DV.p (PD.sl (List.map encWeight g.ws)), DV.p (PD.sl (List.map encNode g.bn)), DV.p (PD.sl (nums IntKind.i64 g.bo)), DV.p (PD.v (Value.bool g.has)), DV.p (PD.sl (List.map encNode g.vn)), DV.p (PD.sl (nums IntKind.i64 g.vo))] false, Box.mk 29 [DV.p (PD.v (Value.int IntKind.i64 0)), DV.p (PD.v (Value.slice none 0 0)), DV.p (PD.v (Value.slice none 0 0)), DV.p (PD.v (Value.slice none 0 0)), DV.p (PD.v (Value.slice none 0 0)), DV.p (PD.v (Value.bool false)), DV.p (PD.v (Value.slice none 0 0)), DV.p (PD.v (Value.slice none 0 0))] false, Box.mk 29 [DV.p (PD.v (Value.int IntKind.i64 g.ver)), DV.p (PD.v (Value.slice none 0 0)), DV.p (PD.v (Value.slice none 0 0)), DV.p (PD.sl (List.map encNode g.bn)), DV.p (PD.sl (nums IntKind.i64 g.bo)), DV.p (PD.v (Value.bool false)), DV.p (PD.v (Value.slice none 0 0)), DV.p (PD.v (Value.slice none 0 0))] false] [] [])) (.c (dF (show ¬ (↑g.ins.length : Int) < (↑g.ins.length : Int) by omega)) (.c (congrArg (fun z => DV.p (PD.v (Go.Value.int IntKind.i64 z))) rwa) .n)) (by kernel_rfl) ?_
      exact hQ
    · rw [rowC_pos h0, tokC_pos h0] at hQ ⊢
      refine crun [] ⟨[1, 2, 3], [], [], none⟩ [(6, .w (DV.p (PD.v (Value.int IntKind.i64 (↑g.ins.length : Int))))), (7, .b false)] (AX.exit 0) (St.mk (mkT 65 [(1, DV.loc 0 0), (2, DV.loc 1 0), (3, DV.loc 2 0)]) (Mem.mk [Box.mk 29 [DV.p (PD.v (Value.int IntKind.i64 g.ver)), DV.p (PD.sl (List.map encPort g.ins)), DV.p (PD.sl (List.map encWeight g.ws)), DV.p (PD.sl (List.map encNode g.bn)), DV.p (PD.sl (nums IntKind.i64 g.bo)), DV.p (PD.v (Value.bool g.has)), DV.p (PD.sl (List.map encNode g.vn)), DV.p (PD.sl (nums IntKind.i64 g.vo))] false, Box.mk 29 [DV.p (PD.v (Value.int IntKind.i64 0)), DV.p (PD.v (Value.slice none 0 0)), DV.p (PD.v (Value.slice none 0 0)), DV.p (PD.v (Value.slice none 0 0)), DV.p (PD.v (Value.slice none 0 0)), DV.p (PD.v (Value.bool false)), DV.p (PD.v (Value.slice none 0 0)), DV.p (PD.v (Value.slice none 0 0))] false, Box.mk 29 [DV.p (PD.v (Value.int IntKind.i64 g.ver)), DV.row 0 (List.map encPort (List.take g.ins.length g.ins)), DV.p (PD.v (Value.slice none 0 0)), DV.p (PD.sl (List.map encNode g.bn)), DV.p (PD.sl (nums IntKind.i64 g.bo)), DV.p (PD.v (Value.bool false)), DV.p (PD.v (Value.slice none 0 0)), DV.p (PD.v (Value.slice none 0 0))] false] [some (71, 2, g.ins.length)] [])) (.c (dF (show ¬ (↑g.ins.length : Int) < (↑g.ins.length : Int) by omega)) (.c (congrArg (fun z => DV.p (PD.v (Go.Value.int IntKind.i64 z))) rwa) .n)) (by kernel_rfl) ?_
      exact hQ
def rowT (t k : Nat) (L : List PD) : DV := match k with
  | 0 => nilD
  | _ + 1 => .row t L
theorem rowT_pos {t k : Nat} (h : k ≠ 0) (L : List PD) : rowT t k L = .row t L := by
  cases k with
  | zero => exact absurd rfl h
  | succ k => rfl
def f2aS (g : GraphM) (k : Nat) : St := ⟨mkT 65 [(1, .loc 0 0), (2, .loc 1 0), (3, .loc 2 0), (5, .p (intP (k : Nat)))], ⟨[boxG g, boxZ, boxF g nilD (rowT 0 k ((g.ws.take k).map encWeight))], tokC 67 3 k, []⟩⟩
set_option maxHeartbeats 1000000 in
theorem f2a_loop (g : GraphM) (hl : g.ws.length ≤ 1073741824) (hr : ∀ p ∈ g.ws, SmWeight p) : LoopOK Tryz.prog (loopB Tryz.prog 15 1) (f2aS g 0) (.exit 2) ⟨mkT 65 [(2, .loc 1 0), (3, .loc 2 0)], ⟨[boxG g, boxZ, boxF g nilD (rowT 0 g.ws.length ((g.ws.take g.ws.length).map encWeight))], tokC 67 3 g.ws.length, []⟩⟩ := by
  refine loop_ix [1, 2, 3, 5] (f2aS g) g.ws.length (fun _ => True) trivial (fun _ => rfl) ?_
  intro k hk _ ro K Q hQ hK
  have rwa : ((g.ws.map encWeight).length : Int) = (g.ws.length : Int) := by rw [List.length_map]
  by_cases hlt : k < g.ws.length
  · obtain ⟨n, hx0, hd⟩ := get_of_lt hlt
    have gx : (g.ws.map encWeight)[(k : Int).toNat]? = some (encWeight n) := map_get hx0
    have hw := wrap64_succ (k := k) (by omega)
    have b1 := hr n (List.mem_of_getElem? hx0)
    have c1 : Pure Tryz.prog 35 [tenP n] (.ret (tenP n)) := town_pure n.shape n.elems (by have := b1.s; omega) (by have := b1.el; omega) (fun r hr => ⟨by have := (b1.e r hr).ln; omega, by have := (b1.e r hr).ld; omega⟩)
    unfold tenP at c1
    have sn : sized 3 [encWeight n] := sized_one rfl
    have hts := take_snoc hx0
    clear b1
    by_cases h0 : k = 0
    · subst h0
      have s0 := sized_nil 3
      unfold f2aS rowT tokC boxF boxG boxZ nilD
      refine crun [] ⟨[1, 2, 3, 5], [], [], (some (3, 1, 0))⟩ [(6, .w (DV.p (PD.v (Value.int IntKind.i64 (↑g.ws.length : Int))))), (7, .b true), (19, .el (encWeight n)), (21, .el (encWeight n)), (25, .el (encWeight n)), (27, .el (encWeight n)), (28, .call (AEnd.ret (PD.agg [PD.sl (nums IntKind.i64 n.shape), PD.sl (List.map encRat n.elems)])))] (AX.norm) (St.mk (mkT 65 [(1, DV.loc 0 0), (2, DV.loc 1 0), (3, DV.loc 2 0), (5, DV.p (PD.v (Value.int IntKind.i64 1)))]) (Mem.mk [Box.mk 29 [DV.p (PD.v (Value.int IntKind.i64 g.ver)), DV.p (PD.sl (List.map encPort g.ins)), DV.p (PD.sl (List.map encWeight g.ws)), DV.p (PD.sl (List.map encNode g.bn)), DV.p (PD.sl (nums IntKind.i64 g.bo)), DV.p (PD.v (Value.bool g.has)), DV.p (PD.sl (List.map encNode g.vn)), DV.p (PD.sl (nums IntKind.i64 g.vo))] false, Box.mk 29 [DV.p (PD.v (Value.int IntKind.i64 0)), DV.p (PD.v (Value.slice none 0 0)), DV.p (PD.v (Value.slice none 0 0)), DV.p (PD.v (Value.slice none 0 0)), DV.p (PD.v (Value.slice none 0 0)), DV.p (PD.v (Value.bool false)), DV.p (PD.v (Value.slice none 0 0)), DV.p (PD.v (Value.slice none 0 0))] false, Box.mk 29 [DV.p (PD.v (Value.int IntKind.i64 g.ver)), DV.p (PD.v (Value.slice none 0 0)), DV.row 0 [PD.agg [PD.v (Value.string n.name), PD.sl (nums IntKind.i64 n.shape), PD.sl (List.map encRat n.elems)]], DV.p (PD.sl (List.map encNode g.bn)), DV.p (PD.sl (nums IntKind.i64 g.bo)), DV.p (PD.v (Value.bool false)), DV.p (PD.v (Value.slice none 0 0)), DV.p (PD.v (Value.slice none 0 0))] false] [some (67, 3, 1)] [])) (.c (@rfl DV (DV.p (PD.v (Value.slice none 0 0)))) (.c (c1) (.c gx (.c (And.intro gx (show (0 : Int) ≤ 0 by omega)) (.c gx (.c (And.intro gx (show (0 : Int) ≤ 0 by omega)) (.c (dT (show (0 : Int) < (↑g.ws.length : Int) by omega)) (.c (congrArg (fun z => DV.p (PD.v (Go.Value.int IntKind.i64 z))) rwa) .n)))))))) (by kernel_rfl) ?_
      exact hK _ hlt (by unfold f2aS rowT tokC boxF boxG boxZ nilD; simp only [hw, hts]; rfl) trivial
    · have hl2 : ((g.ws.take k).map encWeight).length = k := by simp; omega
      have s0 : sized 3 ((g.ws.take k).map encWeight) := sized_map fun _ => rfl
      have e1 := rowT_pos (t := 0) h0
      have e2 := tokC_pos h0
      have e3 : f2aS g (k + 1) = ⟨mkT 65 [(1, .loc 0 0), (2, .loc 1 0), (3, .loc 2 0), (5, .p (intP (k + 1 : Nat)))], ⟨[boxG g, boxZ, boxF g nilD (.row 0 ((g.ws.take k).map encWeight ++ [encWeight n]))], [some (67, 3, ((g.ws.take k).map encWeight).length + 1)], []⟩⟩ := by
        unfold f2aS rowT tokC
        rw [hts, hl2, List.map_append]
        rfl
      rw [e3] at hK
      clear e3 hts
      unfold f2aS boxF boxG boxZ nilD
      unfold boxF boxG boxZ nilD at hK
      rw [e1, e2]
      clear e1 e2
      generalize (g.ws.take k).map encWeight = L at hl2 s0 hK ⊢
      subst hl2
      refine crun [] ⟨[1, 2, 3, 5], [], [], (some (3, 1, 0))⟩ [(6, .w (DV.p (PD.v (Value.int IntKind.i64 (↑g.ws.length : Int))))), (7, .b true), (19, .el (encWeight n)), (21, .el (encWeight n)), (25, .el (encWeight n)), (27, .el (encWeight n)), (28, .call (AEnd.ret (PD.agg [PD.sl (nums IntKind.i64 n.shape), PD.sl (List.map encRat n.elems)]))), (31, .m)] (AX.norm) (St.mk (mkT 65 [(1, DV.loc 0 0), (2, DV.loc 1 0), (3, DV.loc 2 0), (5, DV.p (PD.v (Value.int IntKind.i64 (IntKind.i64.wrap ((↑L.length : Int) + 1)))))]) (Mem.mk [Box.mk 29 [DV.p (PD.v (Value.int IntKind.i64 g.ver)), DV.p (PD.sl (List.map encPort g.ins)), DV.p (PD.sl (List.map encWeight g.ws)), DV.p (PD.sl (List.map encNode g.bn)), DV.p (PD.sl (nums IntKind.i64 g.bo)), DV.p (PD.v (Value.bool g.has)), DV.p (PD.sl (List.map encNode g.vn)), DV.p (PD.sl (nums IntKind.i64 g.vo))] false, Box.mk 29 [DV.p (PD.v (Value.int IntKind.i64 0)), DV.p (PD.v (Value.slice none 0 0)), DV.p (PD.v (Value.slice none 0 0)), DV.p (PD.v (Value.slice none 0 0)), DV.p (PD.v (Value.slice none 0 0)), DV.p (PD.v (Value.bool false)), DV.p (PD.v (Value.slice none 0 0)), DV.p (PD.v (Value.slice none 0 0))] false, Box.mk 29 [DV.p (PD.v (Value.int IntKind.i64 g.ver)), DV.p (PD.v (Value.slice none 0 0)), DV.row 0 (L ++ [PD.agg [PD.v (Value.string n.name), PD.sl (nums IntKind.i64 n.shape), PD.sl (List.map encRat n.elems)]]), DV.p (PD.sl (List.map encNode g.bn)), DV.p (PD.sl (nums IntKind.i64 g.bo)), DV.p (PD.v (Value.bool false)), DV.p (PD.v (Value.slice none 0 0)), DV.p (PD.v (Value.slice none 0 0))] false] [some (67, 3, L.length + [PD.agg [PD.v (Value.string n.name), PD.sl (nums IntKind.i64 n.shape), PD.sl (List.map encRat n.elems)]].length)] [])) (.c (show AppOK (3 : Nat) (64 : Nat) L.length L [PD.agg [PD.v (Value.string n.name), PD.sl (nums IntKind.i64 n.shape), PD.sl (List.map encRat n.elems)]] by exact ⟨by first | rfl | omega | (simp; done) | (simp; omega), by first | assumption | exact nums_sized _ _ | simp [sized_nil, sized_one, sized_append, sized_map, nums_sized, nums_append], by first | assumption | exact nums_sized _ _ | simp [sized_nil, sized_one, sized_append, sized_map, nums_sized, nums_append], by first | omega | (simp <;> omega), by first | omega | (simp <;> omega)⟩) (.c (@rfl DV (DV.row 0 L)) (.c (c1) (.c gx (.c (And.intro gx (nn0 (L.length))) (.c gx (.c (And.intro gx (nn0 (L.length))) (.c (dT (show (↑L.length : Int) < (↑g.ws.length : Int) by omega)) (.c (congrArg (fun z => DV.p (PD.v (Go.Value.int IntKind.i64 z))) rwa) .n))))))))) (by kernel_rfl) ?_
      exact hK _ hlt (by simp only [hw]; rfl) trivial
  · obtain rfl : k = g.ws.length := by omega
    clear hr
    unfold f2aS boxF boxG boxZ nilD
    unfold boxF boxG boxZ nilD at hQ
    by_cases h0 : g.ws.length = 0
    · have e1 : ∀ L, rowT 0 g.ws.length L = .p (.v (.slice none 0 0)) := fun L => by rw [h0]; rfl
      have e2 : tokC 67 3 g.ws.length = [] := by rw [h0]; rfl
      rw [e1, e2] at hQ ⊢
      refine crun [] ⟨[2, 3], [], [], none⟩ [(6, .w (DV.p (PD.v (Value.int IntKind.i64 (↑g.ws.length : Int))))), (7, .b false)] (AX.exit 2) (St.mk (mkT 65 [(2, DV.loc 1 0), (3, DV.loc 2 0)]) (Mem.mk [Box.mk 29 [DV.p (PD.v (Value.int IntKind.i64 g.ver)), DV.p (PD.sl (List.map encPort g.ins)), DV.p (PD.sl (List.map encWeight g.ws)), DV.p (PD.sl (List.map encNode g.bn)), DV.p (PD.sl (nums IntKind.i64 g.bo)), DV.p (PD.v (Value.bool g.has)), DV.p (PD.sl (List.map encNode g.vn)), DV.p (PD.sl (nums IntKind.i64 g.vo))] false, Box.mk 29 [DV.p (PD.v (Value.int IntKind.i64 0)), DV.p (PD.v (Value.slice none 0 0)), DV.p (PD.v (Value.slice none 0 0)), DV.p (PD.v (Value.slice none 0 0)), DV.p (PD.v (Value.slice none 0 0)), DV.p (PD.v (Value.bool false)), DV.p (PD.v (Value.slice none 0 0)), DV.p (PD.v (Value.slice none 0 0))] false, Box.mk 29 [DV.p (PD.v (Value.int IntKind.i64 g.ver)), DV.p (PD.v (Value.slice none 0 0)), DV.p (PD.v (Value.slice none 0 0)), DV.p (PD.sl (List.map encNode g.bn)), DV.p (PD.sl (nums IntKind.i64 g.bo)), DV.p (PD.v (Value.bool false)), DV.p (PD.v (Value.slice none 0 0)), DV.p (PD.v (Value.slice none 0 0))] false] [] [])) (.c (dF (show ¬ (↑g.ws.length : Int) < (↑g.ws.length : Int) by omega)) (.c (congrArg (fun z => DV.p (PD.v (Go.Value.int IntKind.i64 z))) rwa) .n)) (by kernel_rfl) ?_
      exact hQ
    · rw [rowT_pos h0, tokC_pos h0] at hQ ⊢
      refine crun [] ⟨[2, 3], [], [], none⟩ [(6, .w (DV.p (PD.v (Value.int IntKind.i64 (↑g.ws.length : Int))))), (7, .b false)] (AX.exit 2) (St.mk (mkT 65 [(2, DV.loc 1 0), (3, DV.loc 2 0)]) (Mem.mk [Box.mk 29 [DV.p (PD.v (Value.int IntKind.i64 g.ver)), DV.p (PD.sl (List.map encPort g.ins)), DV.p (PD.sl (List.map encWeight g.ws)), DV.p (PD.sl (List.map encNode g.bn)), DV.p (PD.sl (nums IntKind.i64 g.bo)), DV.p (PD.v (Value.bool g.has)), DV.p (PD.sl (List.map encNode g.vn)), DV.p (PD.sl (nums IntKind.i64 g.vo))] false, Box.mk 29 [DV.p (PD.v (Value.int IntKind.i64 0)), DV.p (PD.v (Value.slice none 0 0)), DV.p (PD.v (Value.slice none 0 0)), DV.p (PD.v (Value.slice none 0 0)), DV.p (PD.v (Value.slice none 0 0)), DV.p (PD.v (Value.bool false)), DV.p (PD.v (Value.slice none 0 0)), DV.p (PD.v (Value.slice none 0 0))] false, Box.mk 29 [DV.p (PD.v (Value.int IntKind.i64 g.ver)), DV.p (PD.v (Value.slice none 0 0)), DV.row 0 (List.map encWeight (List.take g.ws.length g.ws)), DV.p (PD.sl (List.map encNode g.bn)), DV.p (PD.sl (nums IntKind.i64 g.bo)), DV.p (PD.v (Value.bool false)), DV.p (PD.v (Value.slice none 0 0)), DV.p (PD.v (Value.slice none 0 0))] false] [some (67, 3, g.ws.length)] [])) (.c (dF (show ¬ (↑g.ws.length : Int) < (↑g.ws.length : Int) by omega)) (.c (congrArg (fun z => DV.p (PD.v (Go.Value.int IntKind.i64 z))) rwa) .n)) (by kernel_rfl) ?_
      exact hQ
def f2bS (g : GraphM) (I : List PD) (M : Nat) (k : Nat) : St := ⟨mkT 65 [(1, .loc 0 0), (2, .loc 1 0), (3, .loc 2 0), (5, .p (intP (k : Nat)))], ⟨[boxG g, boxZ, boxF g (.row 0 I) (rowT 1 k ((g.ws.take k).map encWeight))], some (71, 2, M) :: tokC 67 3 k, []⟩⟩
set_option maxHeartbeats 1000000 in
theorem f2b_loop (g : GraphM) (I : List PD) (M : Nat) (hl : g.ws.length ≤ 1073741824) (hr : ∀ p ∈ g.ws, SmWeight p) : LoopOK Tryz.prog (loopB Tryz.prog 15 1) (f2bS g I M 0) (.exit 2) ⟨mkT 65 [(2, .loc 1 0), (3, .loc 2 0)], ⟨[boxG g, boxZ, boxF g (.row 0 I) (rowT 1 g.ws.length ((g.ws.take g.ws.length).map encWeight))], some (71, 2, M) :: tokC 67 3 g.ws.length, []⟩⟩ := by
  refine loop_ix [1, 2, 3, 5] (f2bS g I M) g.ws.length (fun _ => True) trivial (fun _ => rfl) ?_
  intro k hk _ ro K Q hQ hK
  have rwa : ((g.ws.map encWeight).length : Int) = (g.ws.length : Int) := by rw [List.length_map]
  by_cases hlt : k < g.ws.length
  · obtain ⟨n, hx0, hd⟩ := get_of_lt hlt
    have gx : (g.ws.map encWeight)[(k : Int).toNat]? = some (encWeight n) := map_get hx0
    have hw := wrap64_succ (k := k) (by omega)
    have b1 := hr n (List.mem_of_getElem? hx0)
    have c1 : Pure Tryz.prog 35 [tenP n] (.ret (tenP n)) := town_pure n.shape n.elems (by have := b1.s; omega) (by have := b1.el; omega) (fun r hr => ⟨by have := (b1.e r hr).ln; omega, by have := (b1.e r hr).ld; omega⟩)
    unfold tenP at c1
    have sn : sized 3 [encWeight n] := sized_one rfl
    have hts := take_snoc hx0
    clear b1
    by_cases h0 : k = 0
    · subst h0
      have s0 := sized_nil 3
      unfold f2bS rowT tokC boxF boxG boxZ nilD
      refine crun [] ⟨[1, 2, 3, 5], [], [], (some (3, 2, 0))⟩ [(6, .w (DV.p (PD.v (Value.int IntKind.i64 (↑g.ws.length : Int))))), (7, .b true), (19, .el (encWeight n)), (21, .el (encWeight n)), (25, .el (encWeight n)), (27, .el (encWeight n)), (28, .call (AEnd.ret (PD.agg [PD.sl (nums IntKind.i64 n.shape), PD.sl (List.map encRat n.elems)])))] (AX.norm) (St.mk (mkT 65 [(1, DV.loc 0 0), (2, DV.loc 1 0), (3, DV.loc 2 0), (5, DV.p (PD.v (Value.int IntKind.i64 1)))]) (Mem.mk [Box.mk 29 [DV.p (PD.v (Value.int IntKind.i64 g.ver)), DV.p (PD.sl (List.map encPort g.ins)), DV.p (PD.sl (List.map encWeight g.ws)), DV.p (PD.sl (List.map encNode g.bn)), DV.p (PD.sl (nums IntKind.i64 g.bo)), DV.p (PD.v (Value.bool g.has)), DV.p (PD.sl (List.map encNode g.vn)), DV.p (PD.sl (nums IntKind.i64 g.vo))] false, Box.mk 29 [DV.p (PD.v (Value.int IntKind.i64 0)), DV.p (PD.v (Value.slice none 0 0)), DV.p (PD.v (Value.slice none 0 0)), DV.p (PD.v (Value.slice none 0 0)), DV.p (PD.v (Value.slice none 0 0)), DV.p (PD.v (Value.bool false)), DV.p (PD.v (Value.slice none 0 0)), DV.p (PD.v (Value.slice none 0 0))] false, Box.mk 29 [DV.p (PD.v (Value.int IntKind.i64 g.ver)), DV.row 0 I, DV.row 1 [PD.agg [PD.v (Value.string n.name), PD.sl (nums IntKind.i64 n.shape), PD.sl (List.map encRat n.elems)]], DV.p (PD.sl (List.map encNode g.bn)), DV.p (PD.sl (nums IntKind.i64 g.bo)), DV.p (PD.v (Value.bool false)), DV.p (PD.v (Value.slice none 0 0)), DV.p (PD.v (Value.slice none 0 0))] false] [some (71, 2, M), some (67, 3, 1)] [])) (.c (@rfl DV (DV.p (PD.v (Value.slice none 0 0)))) (.c (c1) (.c gx (.c (And.intro gx (show (0 : Int) ≤ 0 by omega)) (.c gx (.c (And.intro gx (show (0 : Int) ≤ 0 by omega)) (.c (dT (show (0 : Int) < (↑g.ws.length : Int) by omega)) (.c (congrArg (fun z => DV.p (PD.v (Go.Value.int IntKind.i64 z))) rwa) .n)))))))) (by kernel_rfl) ?_
      exact hK _ hlt (by unfold f2bS rowT tokC boxF boxG boxZ nilD; simp only [hw, hts]; rfl) trivial
    · have hl2 : ((g.ws.take k).map encWeight).length = k := by simp; omega
      have s0 : sized 3 ((g.ws.take k).map encWeight) := sized_map fun _ => rfl
      have e1 := rowT_pos (t := 1) h0
      have e2 := tokC_pos h0
      have e3 : f2bS g I M (k + 1) = ⟨mkT 65 [(1, .loc 0 0), (2, .loc 1 0), (3, .loc 2 0), (5, .p (intP (k + 1 : Nat)))], ⟨[boxG g, boxZ, boxF g (.row 0 I) (.row 1 ((g.ws.take k).map encWeight ++ [encWeight n]))], some (71, 2, M) :: [some (67, 3, ((g.ws.take k).map encWeight).length + 1)], []⟩⟩ := by
        unfold f2bS rowT tokC
        rw [hts, hl2, List.map_append]
        rfl
      rw [e3] at hK
      clear e3 hts
      unfold f2bS boxF boxG boxZ nilD
      unfold boxF boxG boxZ nilD at hK
      rw [e1, e2]
      clear e1 e2
      generalize (g.ws.take k).map encWeight = L at hl2 s0 hK ⊢
      subst hl2
      refine crun [] ⟨[1, 2, 3, 5], [], [], (some (3, 2, 0))⟩ [(6, .w (DV.p (PD.v (Value.int IntKind.i64 (↑g.ws.length : Int))))), (7, .b true), (19, .el (encWeight n)), (21, .el (encWeight n)), (25, .el (encWeight n)), (27, .el (encWeight n)), (28, .call (AEnd.ret (PD.agg [PD.sl (nums IntKind.i64 n.shape), PD.sl (List.map encRat n.elems)]))), (31, .m)] (AX.norm) (St.mk (mkT 65 [(1, DV.loc 0 0), (2, DV.loc 1 0), (3, DV.loc 2 0), (5, DV.p (PD.v (Value.int IntKind.i64 (IntKind.i64.wrap ((↑L.length : Int) + 1)))))]) (Mem.mk [Box.mk 29 [DV.p (PD.v (Value.int IntKind.i64 g.ver)), DV.p (PD.sl (List.map encPort g.ins)), DV.p (PD.sl (List.map encWeight g.ws)), DV.p (PD.sl (List.map encNode g.bn)), DV.p (PD.sl (nums IntKind.i64 g.bo)), DV.p (PD.v (Value.bool g.has)), DV.p (PD.sl (List.map encNode g.vn)), DV.p (PD.sl (nums IntKind.i64 g.vo))] false, Box.mk 29 [DV.p (PD.v (Value.int IntKind.i64 0)), DV.p (PD.v (Value.slice none 0 0)), DV.p (PD.v (Value.slice none 0 0)), DV.p (PD.v (Value.slice none 0 0)), DV.p (PD.v (Value.slice none 0 0)), DV.p (PD.v (Value.bool false)), DV.p (PD.v (Value.slice none 0 0)), DV.p (PD.v (Value.slice none 0 0))] false, Box.mk 29 [DV.p (PD.v (Value.int IntKind.i64 g.ver)), DV.row 0 I, DV.row 1 (L ++ [PD.agg [PD.v (Value.string n.name), PD.sl (nums IntKind.i64 n.shape), PD.sl (List.map encRat n.elems)]]), DV.p (PD.sl (List.map encNode g.bn)), DV.p (PD.sl (nums IntKind.i64 g.bo)), DV.p (PD.v (Value.bool false)), DV.p (PD.v (Value.slice none 0 0)), DV.p (PD.v (Value.slice none 0 0))] false] [some (71, 2, M), some (67, 3, L.length + [PD.agg [PD.v (Value.string n.name), PD.sl (nums IntKind.i64 n.shape), PD.sl (List.map encRat n.elems)]].length)] [])) (.c (show AppOK (3 : Nat) (64 : Nat) L.length L [PD.agg [PD.v (Value.string n.name), PD.sl (nums IntKind.i64 n.shape), PD.sl (List.map encRat n.elems)]] by exact ⟨by first | rfl | omega | (simp; done) | (simp; omega), by first | assumption | exact nums_sized _ _ | simp [sized_nil, sized_one, sized_append, sized_map, nums_sized, nums_append], by first | assumption | exact nums_sized _ _ | simp [sized_nil, sized_one, sized_append, sized_map, nums_sized, nums_append], by first | omega | (simp <;> omega), by first | omega | (simp <;> omega)⟩) (.c (@rfl DV (DV.row 1 L)) (.c (c1) (.c gx (.c (And.intro gx (nn0 (L.length))) (.c gx (.c (And.intro gx (nn0 (L.length))) (.c (dT (show (↑L.length : Int) < (↑g.ws.length : Int) by omega)) (.c (congrArg (fun z => DV.p (PD.v (Go.Value.int IntKind.i64 z))) rwa) .n))))))))) (by kernel_rfl) ?_
      exact hK _ hlt (by simp only [hw]; rfl) trivial
  · obtain rfl : k = g.ws.length := by omega
    clear hr
    unfold f2bS boxF boxG boxZ nilD
    unfold boxF boxG boxZ nilD at hQ
    by_cases h0 : g.ws.length = 0
    · have e1 : ∀ L, rowT 1 g.ws.length L = .p (.v (.slice none 0 0)) := fun L => by rw [h0]; rfl
      have e2 : tokC 67 3 g.ws.length = [] := by rw [h0]; rfl
      rw [e1, e2] at hQ ⊢
      refine crun [] ⟨[2, 3], [], [], none⟩ [(6, .w (DV.p (PD.v (Value.int IntKind.i64 (↑g.ws.length : Int))))), (7, .b false)] (AX.exit 2) (St.mk (mkT 65 [(2, DV.loc 1 0), (3, DV.loc 2 0)]) (Mem.mk [Box.mk 29 [DV.p (PD.v (Value.int IntKind.i64 g.ver)), DV.p (PD.sl (List.map encPort g.ins)), DV.p (PD.sl (List.map encWeight g.ws)), DV.p (PD.sl (List.map encNode g.bn)), DV.p (PD.sl (nums IntKind.i64 g.bo)), DV.p (PD.v (Value.bool g.has)), DV.p (PD.sl (List.map encNode g.vn)), DV.p (PD.sl (nums IntKind.i64 g.vo))] false, Box.mk 29 [DV.p (PD.v (Value.int IntKind.i64 0)), DV.p (PD.v (Value.slice none 0 0)), DV.p (PD.v (Value.slice none 0 0)), DV.p (PD.v (Value.slice none 0 0)), DV.p (PD.v (Value.slice none 0 0)), DV.p (PD.v (Value.bool false)), DV.p (PD.v (Value.slice none 0 0)), DV.p (PD.v (Value.slice none 0 0))] false, Box.mk 29 [DV.p (PD.v (Value.int IntKind.i64 g.ver)), DV.row 0 I, DV.p (PD.v (Value.slice none 0 0)), DV.p (PD.sl (List.map encNode g.bn)), DV.p (PD.sl (nums IntKind.i64 g.bo)), DV.p (PD.v (Value.bool false)), DV.p (PD.v (Value.slice none 0 0)), DV.p (PD.v (Value.slice none 0 0))] false] [some (71, 2, M)] [])) (.c (dF (show ¬ (↑g.ws.length : Int) < (↑g.ws.length : Int) by omega)) (.c (congrArg (fun z => DV.p (PD.v (Go.Value.int IntKind.i64 z))) rwa) .n)) (by kernel_rfl) ?_
      exact hQ
    · rw [rowT_pos h0, tokC_pos h0] at hQ ⊢
      refine crun [] ⟨[2, 3], [], [], none⟩ [(6, .w (DV.p (PD.v (Value.int IntKind.i64 (↑g.ws.length : Int))))), (7, .b false)] (AX.exit 2) (St.mk (mkT 65 [(2, DV.loc 1 0), (3, DV.loc 2 0)]) (Mem.mk [Box.mk 29 [DV.p (PD.v (Value.int IntKind.i64 g.ver)), DV.p (PD.sl (List.map encPort g.ins)), DV.p (PD.sl (List.map encWeight g.ws)), DV.p (PD.sl (List.map encNode g.bn)), DV.p (PD.sl (nums IntKind.i64 g.bo)), DV.p (PD.v (Value.bool g.has)), DV.p (PD.sl (List.map encNode g.vn)), DV.p (PD.sl (nums IntKind.i64 g.vo))] false, Box.mk 29 [DV.p (PD.v (Value.int IntKind.i64 0)), DV.p (PD.v (Value.slice none 0 0)), DV.p (PD.v (Value.slice none 0 0)), DV.p (PD.v (Value.slice none 0 0)), DV.p (PD.v (Value.slice none 0 0)), DV.p (PD.v (Value.bool false)), DV.p (PD.v (Value.slice none 0 0)), DV.p (PD.v (Value.slice none 0 0))] false, Box.mk 29 [DV.p (PD.v (Value.int IntKind.i64 g.ver)), DV.row 0 I, DV.row 1 (List.map encWeight (List.take g.ws.length g.ws)), DV.p (PD.sl (List.map encNode g.bn)), DV.p (PD.sl (nums IntKind.i64 g.bo)), DV.p (PD.v (Value.bool false)), DV.p (PD.v (Value.slice none 0 0)), DV.p (PD.v (Value.slice none 0 0))] false] [some (71, 2, M), some (67, 3, g.ws.length)] [])) (.c (dF (show ¬ (↑g.ws.length : Int) < (↑g.ws.length : Int) by omega)) (.c (congrArg (fun z => DV.p (PD.v (Go.Value.int IntKind.i64 z))) rwa) .n)) (by kernel_rfl) ?_
      exact hQ
/-- the forward part -/
def fwG (g : GraphM) : GraphM := ⟨g.ver, g.ins, g.ws, g.bn, g.bo, false, [], []⟩
set_option maxHeartbeats 2000000 in
theorem fwd_pure (g : GraphM) (h : SmG g) : Pure Tryz.prog 15 [encG g] (.ret (encG (fwG g))) := by
  have hb := ownBody_pure g.bn g.bo (by have := h.bl; omega) (by have := h.bo; omega) (fun n hn => ⟨by have := (h.b n hn).a; omega, by have := (h.b n hn).t; omega⟩)
  have l1 := f1_loop g (by have := h.il; omega) (fun p hp => by have := (h.i p hp).s; omega)
  have ti : g.ins.take g.ins.length = g.ins := List.take_length
  have tw : g.ws.take g.ws.length = g.ws := List.take_length
  have e0 : f1S g 0 = ⟨mkT 65 [(1, .loc 0 0), (2, .loc 1 0), (3, .loc 2 0), (4, .p (intP 0))], ⟨[boxG g, boxZ, boxF g nilD nilD], [], []⟩⟩ := rfl
  rw [e0, ti] at l1
  clear e0
  by_cases h0 : g.ins.length = 0
  · have l2 := f2a_loop g (by have := h.wl; omega) h.w
    have e1 : f2aS g 0 = ⟨mkT 65 [(1, .loc 0 0), (2, .loc 1 0), (3, .loc 2 0), (5, .p (intP 0))], ⟨[boxG g, boxZ, boxF g nilD nilD], [], []⟩⟩ := rfl
    rw [e1, tw] at l2
    have r1 : ∀ L, rowC g.ins.length L = nilD := fun L => by rw [h0]; rfl
    have r2 : tokC 71 2 g.ins.length = [] := by rw [h0]; rfl
    rw [r1, r2] at l1
    have hi : g.ins = [] := List.length_eq_zero_iff.1 h0
    by_cases w0 : g.ws.length = 0
    · have q1 : ∀ L, rowT 0 g.ws.length L = nilD := fun L => by rw [w0]; rfl
      have q2 : tokC 67 3 g.ws.length = [] := by rw [w0]; rfl
      rw [q1, q2] at l2
      have hwn : g.ws = [] := List.length_eq_zero_iff.1 w0
      clear h r1 r2 q1 q2 e1 ti tw
      unfold boxF boxG boxZ nilD at *
      refine pure_eq (prun [] [(12, .call (AEnd.ret (PD.agg [PD.sl (List.map encNode g.bn), PD.sl (nums IntKind.i64 g.bo)]))), (23, .code [1, 2, 3, 4] (AX.exit 0) (St.mk (mkT 65 [(1, DV.loc 0 0), (2, DV.loc 1 0), (3, DV.loc 2 0)]) (Mem.mk [Box.mk 29 [DV.p (intP g.ver), DV.p (PD.sl (List.map encPort g.ins)), DV.p (PD.sl (List.map encWeight g.ws)), DV.p (PD.sl (List.map encNode g.bn)), DV.p (intL g.bo), DV.p (boolP g.has), DV.p (PD.sl (List.map encNode g.vn)), DV.p (intL g.vo)] false, Box.mk 29 [DV.p (intP 0), DV.p (PD.v (Value.slice none 0 0)), DV.p (PD.v (Value.slice none 0 0)), DV.p (PD.v (Value.slice none 0 0)), DV.p (PD.v (Value.slice none 0 0)), DV.p (boolP false), DV.p (PD.v (Value.slice none 0 0)), DV.p (PD.v (Value.slice none 0 0))] false, Box.mk 29 [DV.p (intP g.ver), DV.p (PD.v (Value.slice none 0 0)), DV.p (PD.v (Value.slice none 0 0)), DV.p (PD.sl (List.map encNode g.bn)), DV.p (intL g.bo), DV.p (boolP false), DV.p (PD.v (Value.slice none 0 0)), DV.p (PD.v (Value.slice none 0 0))] false] [] []))), (30, .code [1, 2, 3, 5] (AX.exit 2) (St.mk (mkT 65 [(2, DV.loc 1 0), (3, DV.loc 2 0)]) (Mem.mk [Box.mk 29 [DV.p (intP g.ver), DV.p (PD.sl (List.map encPort g.ins)), DV.p (PD.sl (List.map encWeight g.ws)), DV.p (PD.sl (List.map encNode g.bn)), DV.p (intL g.bo), DV.p (boolP g.has), DV.p (PD.sl (List.map encNode g.vn)), DV.p (intL g.vo)] false, Box.mk 29 [DV.p (intP 0), DV.p (PD.v (Value.slice none 0 0)), DV.p (PD.v (Value.slice none 0 0)), DV.p (PD.v (Value.slice none 0 0)), DV.p (PD.v (Value.slice none 0 0)), DV.p (boolP false), DV.p (PD.v (Value.slice none 0 0)), DV.p (PD.v (Value.slice none 0 0))] false, Box.mk 29 [DV.p (intP g.ver), DV.p (PD.v (Value.slice none 0 0)), DV.p (PD.v (Value.slice none 0 0)), DV.p (PD.sl (List.map encNode g.bn)), DV.p (intL g.bo), DV.p (boolP false), DV.p (PD.v (Value.slice none 0 0)), DV.p (PD.v (Value.slice none 0 0))] false] [] [])))] (e := AEnd.ret (PD.agg [PD.v (Value.int IntKind.i64 g.ver), PD.sl [], PD.sl [], PD.sl (List.map encNode g.bn), PD.sl (nums IntKind.i64 g.bo), PD.v (Value.bool false), PD.sl [], PD.sl []])) (.c (l2) (.c (l1) (.c (@rfl DV (DV.agg [DV.p (PD.sl (List.map encNode g.bn)), DV.p (PD.sl (nums IntKind.i64 g.bo))])) (.c (@rfl DV (DV.p (PD.v (Value.int IntKind.i64 g.ver)))) (.c (hb) .n))))) (by kernel_rfl)) ?_
      unfold fwG encG; rw [hi, hwn]; rfl
    · rw [rowT_pos w0, tokC_pos w0] at l2
      clear h r1 r2 e1 ti tw
      unfold boxF boxG boxZ nilD at *
      refine pure_eq (prun [] [(12, .call (AEnd.ret (PD.agg [PD.sl (List.map encNode g.bn), PD.sl (nums IntKind.i64 g.bo)]))), (23, .code [1, 2, 3, 4] (AX.exit 0) (St.mk (mkT 65 [(1, DV.loc 0 0), (2, DV.loc 1 0), (3, DV.loc 2 0)]) (Mem.mk [Box.mk 29 [DV.p (intP g.ver), DV.p (PD.sl (List.map encPort g.ins)), DV.p (PD.sl (List.map encWeight g.ws)), DV.p (PD.sl (List.map encNode g.bn)), DV.p (intL g.bo), DV.p (boolP g.has), DV.p (PD.sl (List.map encNode g.vn)), DV.p (intL g.vo)] false, Box.mk 29 [DV.p (intP 0), DV.p (PD.v (Value.slice none 0 0)), DV.p (PD.v (Value.slice none 0 0)), DV.p (PD.v (Value.slice none 0 0)), DV.p (PD.v (Value.slice none 0 0)), DV.p (boolP false), DV.p (PD.v (Value.slice none 0 0)), DV.p (PD.v (Value.slice none 0 0))] false, Box.mk 29 [DV.p (intP g.ver), DV.p (PD.v (Value.slice none 0 0)), DV.p (PD.v (Value.slice none 0 0)), DV.p (PD.sl (List.map encNode g.bn)), DV.p (intL g.bo), DV.p (boolP false), DV.p (PD.v (Value.slice none 0 0)), DV.p (PD.v (Value.slice none 0 0))] false] [] []))), (30, .code [1, 2, 3, 5] (AX.exit 2) (St.mk (mkT 65 [(2, DV.loc 1 0), (3, DV.loc 2 0)]) (Mem.mk [Box.mk 29 [DV.p (intP g.ver), DV.p (PD.sl (List.map encPort g.ins)), DV.p (PD.sl (List.map encWeight g.ws)), DV.p (PD.sl (List.map encNode g.bn)), DV.p (intL g.bo), DV.p (boolP g.has), DV.p (PD.sl (List.map encNode g.vn)), DV.p (intL g.vo)] false, Box.mk 29 [DV.p (intP 0), DV.p (PD.v (Value.slice none 0 0)), DV.p (PD.v (Value.slice none 0 0)), DV.p (PD.v (Value.slice none 0 0)), DV.p (PD.v (Value.slice none 0 0)), DV.p (boolP false), DV.p (PD.v (Value.slice none 0 0)), DV.p (PD.v (Value.slice none 0 0))] false, Box.mk 29 [DV.p (intP g.ver), DV.p (PD.v (Value.slice none 0 0)), DV.row 0 (List.map encWeight g.ws), DV.p (PD.sl (List.map encNode g.bn)), DV.p (intL g.bo), DV.p (boolP false), DV.p (PD.v (Value.slice none 0 0)), DV.p (PD.v (Value.slice none 0 0))] false] [some (67, 3, g.ws.length)] [])))] (e := AEnd.ret (PD.agg [PD.v (Value.int IntKind.i64 g.ver), PD.sl [], PD.sl (List.map encWeight g.ws), PD.sl (List.map encNode g.bn), PD.sl (nums IntKind.i64 g.bo), PD.v (Value.bool false), PD.sl [], PD.sl []])) (.c (l2) (.c (l1) (.c (@rfl DV (DV.agg [DV.p (PD.sl (List.map encNode g.bn)), DV.p (PD.sl (nums IntKind.i64 g.bo))])) (.c (@rfl DV (DV.p (PD.v (Value.int IntKind.i64 g.ver)))) (.c (hb) .n))))) (by kernel_rfl)) ?_
      unfold fwG encG; rw [hi]; rfl
  · have l2 := f2b_loop g (g.ins.map encPort) g.ins.length (by have := h.wl; omega) h.w
    have e1 : f2bS g (g.ins.map encPort) g.ins.length 0 = ⟨mkT 65 [(1, .loc 0 0), (2, .loc 1 0), (3, .loc 2 0), (5, .p (intP 0))], ⟨[boxG g, boxZ, boxF g (.row 0 (g.ins.map encPort)) nilD], [some (71, 2, g.ins.length)], []⟩⟩ := rfl
    rw [e1, tw] at l2
    rw [rowC_pos h0, tokC_pos h0] at l1
    by_cases w0 : g.ws.length = 0
    · have q1 : ∀ L, rowT 1 g.ws.length L = nilD := fun L => by rw [w0]; rfl
      have q2 : tokC 67 3 g.ws.length = [] := by rw [w0]; rfl
      rw [q1, q2] at l2
      have hwn : g.ws = [] := List.length_eq_zero_iff.1 w0
      clear h q1 q2 e1 ti tw
      unfold boxF boxG boxZ nilD at *
      refine pure_eq (prun [] [(12, .call (AEnd.ret (PD.agg [PD.sl (List.map encNode g.bn), PD.sl (nums IntKind.i64 g.bo)]))), (23, .code [1, 2, 3, 4] (AX.exit 0) (St.mk (mkT 65 [(1, DV.loc 0 0), (2, DV.loc 1 0), (3, DV.loc 2 0)]) (Mem.mk [Box.mk 29 [DV.p (intP g.ver), DV.p (PD.sl (List.map encPort g.ins)), DV.p (PD.sl (List.map encWeight g.ws)), DV.p (PD.sl (List.map encNode g.bn)), DV.p (intL g.bo), DV.p (boolP g.has), DV.p (PD.sl (List.map encNode g.vn)), DV.p (intL g.vo)] false, Box.mk 29 [DV.p (intP 0), DV.p (PD.v (Value.slice none 0 0)), DV.p (PD.v (Value.slice none 0 0)), DV.p (PD.v (Value.slice none 0 0)), DV.p (PD.v (Value.slice none 0 0)), DV.p (boolP false), DV.p (PD.v (Value.slice none 0 0)), DV.p (PD.v (Value.slice none 0 0))] false, Box.mk 29 [DV.p (intP g.ver), DV.row 0 (List.map encPort g.ins), DV.p (PD.v (Value.slice none 0 0)), DV.p (PD.sl (List.map encNode g.bn)), DV.p (intL g.bo), DV.p (boolP false), DV.p (PD.v (Value.slice none 0 0)), DV.p (PD.v (Value.slice none 0 0))] false] [some (71, 2, g.ins.length)] []))), (30, .code [1, 2, 3, 5] (AX.exit 2) (St.mk (mkT 65 [(2, DV.loc 1 0), (3, DV.loc 2 0)]) (Mem.mk [Box.mk 29 [DV.p (intP g.ver), DV.p (PD.sl (List.map encPort g.ins)), DV.p (PD.sl (List.map encWeight g.ws)), DV.p (PD.sl (List.map encNode g.bn)), DV.p (intL g.bo), DV.p (boolP g.has), DV.p (PD.sl (List.map encNode g.vn)), DV.p (intL g.vo)] false, Box.mk 29 [DV.p (intP 0), DV.p (PD.v (Value.slice none 0 0)), DV.p (PD.v (Value.slice none 0 0)), DV.p (PD.v (Value.slice none 0 0)), DV.p (PD.v (Value.slice none 0 0)), DV.p (boolP false), DV.p (PD.v (Value.slice none 0 0)), DV.p (PD.v (Value.slice none 0 0))] false, Box.mk 29 [DV.p (intP g.ver), DV.row 0 (List.map encPort g.ins), DV.p (PD.v (Value.slice none 0 0)), DV.p (PD.sl (List.map encNode g.bn)), DV.p (intL g.bo), DV.p (boolP false), DV.p (PD.v (Value.slice none 0 0)), DV.p (PD.v (Value.slice none 0 0))] false] [some (71, 2, g.ins.length)] [])))] (e := AEnd.ret (PD.agg [PD.v (Value.int IntKind.i64 g.ver), PD.sl (List.map encPort g.ins), PD.sl [], PD.sl (List.map encNode g.bn), PD.sl (nums IntKind.i64 g.bo), PD.v (Value.bool false), PD.sl [], PD.sl []])) (.c (l2) (.c (l1) (.c (@rfl DV (DV.agg [DV.p (PD.sl (List.map encNode g.bn)), DV.p (PD.sl (nums IntKind.i64 g.bo))])) (.c (@rfl DV (DV.p (PD.v (Value.int IntKind.i64 g.ver)))) (.c (hb) .n))))) (by kernel_rfl)) ?_
      unfold fwG encG; rw [hwn]; rfl
    · rw [rowT_pos w0, tokC_pos w0] at l2
      clear h e1 ti tw
      unfold boxF boxG boxZ nilD at *
      refine pure_eq (prun [] [(12, .call (AEnd.ret (PD.agg [PD.sl (List.map encNode g.bn), PD.sl (nums IntKind.i64 g.bo)]))), (23, .code [1, 2, 3, 4] (AX.exit 0) (St.mk (mkT 65 [(1, DV.loc 0 0), (2, DV.loc 1 0), (3, DV.loc 2 0)]) (Mem.mk [Box.mk 29 [DV.p (intP g.ver), DV.p (PD.sl (List.map encPort g.ins)), DV.p (PD.sl (List.map encWeight g.ws)), DV.p (PD.sl (List.map encNode g.bn)), DV.p (intL g.bo), DV.p (boolP g.has), DV.p (PD.sl (List.map encNode g.vn)), DV.p (intL g.vo)] false, Box.mk 29 [DV.p (intP 0), DV.p (PD.v (Value.slice none 0 0)), DV.p (PD.v (Value.slice none 0 0)), DV.p (PD.v (Value.slice none 0 0)), DV.p (PD.v (Value.slice none 0 0)), DV.p (boolP false), DV.p (PD.v (Value.slice none 0 0)), DV.p (PD.v (Value.slice none 0 0))] false, Box.mk 29 [DV.p (intP g.ver), DV.row 0 (List.map encPort g.ins), DV.p (PD.v (Value.slice none 0 0)), DV.p (PD.sl (List.map encNode g.bn)), DV.p (intL g.bo), DV.p (boolP false), DV.p (PD.v (Value.slice none 0 0)), DV.p (PD.v (Value.slice none 0 0))] false] [some (71, 2, g.ins.length)] []))), (30, .code [1, 2, 3, 5] (AX.exit 2) (St.mk (mkT 65 [(2, DV.loc 1 0), (3, DV.loc 2 0)]) (Mem.mk [Box.mk 29 [DV.p (intP g.ver), DV.p (PD.sl (List.map encPort g.ins)), DV.p (PD.sl (List.map encWeight g.ws)), DV.p (PD.sl (List.map encNode g.bn)), DV.p (intL g.bo), DV.p (boolP g.has), DV.p (PD.sl (List.map encNode g.vn)), DV.p (intL g.vo)] false, Box.mk 29 [DV.p (intP 0), DV.p (PD.v (Value.slice none 0 0)), DV.p (PD.v (Value.slice none 0 0)), DV.p (PD.v (Value.slice none 0 0)), DV.p (PD.v (Value.slice none 0 0)), DV.p (boolP false), DV.p (PD.v (Value.slice none 0 0)), DV.p (PD.v (Value.slice none 0 0))] false, Box.mk 29 [DV.p (intP g.ver), DV.row 0 (List.map encPort g.ins), DV.row 1 (List.map encWeight g.ws), DV.p (PD.sl (List.map encNode g.bn)), DV.p (intL g.bo), DV.p (boolP false), DV.p (PD.v (Value.slice none 0 0)), DV.p (PD.v (Value.slice none 0 0))] false] [some (71, 2, g.ins.length), some (67, 3, g.ws.length)] [])))] (e := AEnd.ret (PD.agg [PD.v (Value.int IntKind.i64 g.ver), PD.sl (List.map encPort g.ins), PD.sl (List.map encWeight g.ws), PD.sl (List.map encNode g.bn), PD.sl (nums IntKind.i64 g.bo), PD.v (Value.bool false), PD.sl [], PD.sl []])) (.c (l2) (.c (l1) (.c (@rfl DV (DV.agg [DV.p (PD.sl (List.map encNode g.bn)), DV.p (PD.sl (nums IntKind.i64 g.bo))])) (.c (@rfl DV (DV.p (PD.v (Value.int IntKind.i64 g.ver)))) (.c (hb) .n))))) (by kernel_rfl)) ?_
      rfl
theorem own_pure (g : GraphM) (h : SmG g) : Pure Tryz.prog 13 [encG g] (.ret (encG g)) := by
  have hf := fwd_pure g h
  have hb := ownBody_pure g.vn g.vo (by have := h.vl; omega) (by have := h.vo; omega) (fun n hn => ⟨by have := (h.v n hn).a; omega, by have := (h.v n hn).t; omega⟩)
  clear h
  unfold fwG at hf
  refine pure_eq (prun [] [(9, .call (AEnd.ret (PD.agg [PD.v (Value.int IntKind.i64 (GraphM.mk g.ver g.ins g.ws g.bn g.bo false [] []).ver), PD.sl (List.map encPort (GraphM.mk g.ver g.ins g.ws g.bn g.bo false [] []).ins), PD.sl (List.map encWeight (GraphM.mk g.ver g.ins g.ws g.bn g.bo false [] []).ws), PD.sl (List.map encNode (GraphM.mk g.ver g.ins g.ws g.bn g.bo false [] []).bn), PD.sl (nums IntKind.i64 (GraphM.mk g.ver g.ins g.ws g.bn g.bo false [] []).bo), PD.v (Value.bool false), PD.sl [], PD.sl []]))), (19, .call (AEnd.ret (PD.agg [PD.sl (List.map encNode g.vn), PD.sl (nums IntKind.i64 g.vo)])))] (e := AEnd.ret (PD.agg [PD.v (Value.int IntKind.i64 (GraphM.mk g.ver g.ins g.ws g.bn g.bo false [] []).ver), PD.sl (List.map encPort (GraphM.mk g.ver g.ins g.ws g.bn g.bo false [] []).ins), PD.sl (List.map encWeight (GraphM.mk g.ver g.ins g.ws g.bn g.bo false [] []).ws), PD.sl (List.map encNode (GraphM.mk g.ver g.ins g.ws g.bn g.bo false [] []).bn), PD.sl (nums IntKind.i64 (GraphM.mk g.ver g.ins g.ws g.bn g.bo false [] []).bo), PD.v (Value.bool g.has), PD.sl (List.map encNode g.vn), PD.sl (nums IntKind.i64 g.vo)])) (.c (hb) (.c (hf) .n)) (by kernel_rfl)) ?_
  rfl
def fewN (g : GraphM) (k : Nat) : Nat := g.ins.length + g.ws.length + g.bn.length + g.vn.length + g.bo.length + g.vo.length + ((g.ws.take k).map fun w => w.elems.length).sum
def fewS (g : GraphM) (k : Nat) : St := ⟨mkT 51 [(1, .loc 0 0), (3, .p (intP (fewN g k : Nat))), (4, .p (intP (k : Nat)))], ⟨[boxG g], [], []⟩⟩
theorem fewN_succ {g : GraphM} {k : Nat} {w : WeightM} (h : g.ws[k]? = some w) : fewN g (k + 1) = fewN g k + w.elems.length := by
  unfold fewN; rw [take_snoc h, List.map_append, List.sum_append]; simp; omega
theorem fewN_le {g : GraphM} (h : SmG g) : ∀ k, k ≤ 100000000 → fewN g k ≤ 600000000 + 100000000 * k := by
  intro k
  induction k with
  | zero => intro _; unfold fewN; have := h.il; have := h.wl; have := h.bl; have := h.vl; have := h.bo; have := h.vo; simp; omega
  | succ k ih =>
    intro hk
    have ih := ih (by omega)
    by_cases hlt : k < g.ws.length
    · obtain ⟨w, hw, _⟩ := get_of_lt hlt
      rw [fewN_succ hw]
      have := (h.w w (List.mem_of_getElem? hw)).el
      omega
    · have : fewN g (k + 1) = fewN g k := by unfold fewN; rw [List.take_of_length_le (by omega), List.take_of_length_le (by omega)]
      omega
theorem few_loop (g : GraphM) (h : SmG g) : LoopOK Tryz.prog (loopB Tryz.prog 10 0) (fewS g 0) (.exit 0) ⟨mkT 51 [(3, .p (intP (fewN g g.ws.length : Nat)))], ⟨[boxG g], [], []⟩⟩ := by
  refine loop_ix [1, 3, 4] (fewS g) g.ws.length (fun _ => True) trivial (fun _ => rfl) ?_
  intro k hk _ ro K Q hQ hK
  have hwl := h.wl
  have rwa : ((g.ws.map encWeight).length : Int) = (g.ws.length : Int) := by rw [List.length_map]
  by_cases hlt : k < g.ws.length
  · obtain ⟨w, hx0, _⟩ := get_of_lt hlt
    have gx : (g.ws.map encWeight)[(k : Int).toNat]? = some (encWeight w) := map_get hx0
    have hw := wrap64_succ (k := k) (by omega)
    have hb := fewN_le h k (by omega)
    have he := (h.w w (List.mem_of_getElem? hx0)).el
    have rwb : ((w.elems.map encRat).length : Int) = (w.elems.length : Int) := by rw [List.length_map]
    have hs := fewN_succ hx0
    have rwc : IntKind.i64.wrap ((fewN g k : Int) + (w.elems.length : Int)) = ((fewN g k + w.elems.length : Nat) : Int) := by rw [wrap64_id (by omega) (by omega)]; omega
    unfold fewS boxG at hK ⊢
    rw [hs] at hK
    clear h hs
    generalize fewN g k = n at *
    refine crun [] ⟨[1, 3, 4], [], [], none⟩ [(6, .w (DV.p (PD.v (Value.int IntKind.i64 (↑g.ws.length : Int))))), (7, .b true), (18, .el (encWeight w)), (21, .el (encWeight w)), (22, .w (DV.p (PD.v (Value.int IntKind.i64 (↑w.elems.length : Int))))), (23, .w (DV.p (PD.v (Value.int IntKind.i64 (↑(n + w.elems.length) : Int)))))] (AX.norm) (St.mk (mkT 51 [(1, DV.loc 0 0), (3, DV.p (PD.v (Value.int IntKind.i64 (↑(n + w.elems.length) : Int)))), (4, DV.p (PD.v (Value.int IntKind.i64 (IntKind.i64.wrap ((↑k : Int) + 1)))))]) (Mem.mk [Box.mk 29 [DV.p (PD.v (Value.int IntKind.i64 g.ver)), DV.p (PD.sl (List.map encPort g.ins)), DV.p (PD.sl (List.map encWeight g.ws)), DV.p (PD.sl (List.map encNode g.bn)), DV.p (PD.sl (nums IntKind.i64 g.bo)), DV.p (PD.v (Value.bool g.has)), DV.p (PD.sl (List.map encNode g.vn)), DV.p (PD.sl (nums IntKind.i64 g.vo))] false] [] [])) (.c (congrArg (fun z => DV.p (PD.v (Go.Value.int IntKind.i64 z))) rwc) (.c (congrArg (fun z => DV.p (PD.v (Go.Value.int IntKind.i64 z))) rwb) (.c gx (.c (And.intro gx (nn0 (k))) (.c (dT (show (↑k : Int) < (↑g.ws.length : Int) by omega)) (.c (congrArg (fun z => DV.p (PD.v (Go.Value.int IntKind.i64 z))) rwa) .n)))))) (by kernel_rfl) ?_
    exact hK _ hlt (by simp only [hw]; rfl) trivial
  · obtain rfl : k = g.ws.length := by omega
    clear h
    unfold fewS boxG
    unfold boxG at hQ
    generalize fewN g g.ws.length = n at *
    refine crun [] ⟨[3], [], [], none⟩ [(6, .w (DV.p (PD.v (Value.int IntKind.i64 (↑g.ws.length : Int))))), (7, .b false)] (AX.exit 0) (St.mk (mkT 51 [(3, DV.p (PD.v (Value.int IntKind.i64 (↑n : Int))))]) (Mem.mk [Box.mk 29 [DV.p (PD.v (Value.int IntKind.i64 g.ver)), DV.p (PD.sl (List.map encPort g.ins)), DV.p (PD.sl (List.map encWeight g.ws)), DV.p (PD.sl (List.map encNode g.bn)), DV.p (PD.sl (nums IntKind.i64 g.bo)), DV.p (PD.v (Value.bool g.has)), DV.p (PD.sl (List.map encNode g.vn)), DV.p (PD.sl (nums IntKind.i64 g.vo))] false] [] [])) (.c (dF (show ¬ (↑g.ws.length : Int) < (↑g.ws.length : Int) by omega)) (.c (congrArg (fun z => DV.p (PD.v (Go.Value.int IntKind.i64 z))) rwa) .n)) (by kernel_rfl) ?_
    exact hQ
theorem few_pure (g : GraphM) (h : SmG g) : Pure Tryz.prog 10 [encG g] (.ret (boolP (decide (fewN g g.ws.length ≤ 5000)))) := by
  have hlo := few_loop g h
  have l1 := h.il
  have l2 := h.wl
  have l3 := h.bl
  have l4 := h.vl
  have l5 := h.bo
  have l6 := h.vo
  have e : fewN g 0 = g.ins.length + g.ws.length + g.bn.length + g.vn.length + g.bo.length + g.vo.length := by unfold fewN; simp
  have e0 : fewS g 0 = ⟨mkT 51 [(1, .loc 0 0), (3, .p (intP (g.ins.length + g.ws.length + g.bn.length + g.vn.length + g.bo.length + g.vo.length : Nat))), (4, .p (intP 0))], ⟨[boxG g], [], []⟩⟩ := by unfold fewS; rw [e]; rfl
  rw [e0] at hlo
  have rwa : ((g.ins.map encPort).length : Int) = (g.ins.length : Int) := by rw [List.length_map]
  have rwb : ((g.ws.map encWeight).length : Int) = (g.ws.length : Int) := by rw [List.length_map]
  have rwc : ((g.bn.map encNode).length : Int) = (g.bn.length : Int) := by rw [List.length_map]
  have rwd : ((g.vn.map encNode).length : Int) = (g.vn.length : Int) := by rw [List.length_map]
  have rwe : ((nums .i64 g.bo).length : Int) = (g.bo.length : Int) := by rw [nums_length]
  have rwf : ((nums .i64 g.vo).length : Int) = (g.vo.length : Int) := by rw [nums_length]
  have rwg : IntKind.i64.wrap ((g.ins.length : Int) + (g.ws.length : Int)) = ((g.ins.length + g.ws.length : Nat) : Int) := by rw [wrap64_id (by omega) (by omega)]; omega
  have rwh : IntKind.i64.wrap (((g.ins.length + g.ws.length : Nat) : Int) + (g.bn.length : Int)) = ((g.ins.length + g.ws.length + g.bn.length : Nat) : Int) := by rw [wrap64_id (by omega) (by omega)]; omega
  have rwi : IntKind.i64.wrap (((g.ins.length + g.ws.length + g.bn.length : Nat) : Int) + (g.vn.length : Int)) = ((g.ins.length + g.ws.length + g.bn.length + g.vn.length : Nat) : Int) := by rw [wrap64_id (by omega) (by omega)]; omega
  have rwj : IntKind.i64.wrap (((g.ins.length + g.ws.length + g.bn.length + g.vn.length : Nat) : Int) + (g.bo.length : Int)) = ((g.ins.length + g.ws.length + g.bn.length + g.vn.length + g.bo.length : Nat) : Int) := by rw [wrap64_id (by omega) (by omega)]; omega
  have rwk : IntKind.i64.wrap (((g.ins.length + g.ws.length + g.bn.length + g.vn.length + g.bo.length : Nat) : Int) + (g.vo.length : Int)) = ((g.ins.length + g.ws.length + g.bn.length + g.vn.length + g.bo.length + g.vo.length : Nat) : Int) := by rw [wrap64_id (by omega) (by omega)]; omega
  clear h e e0 l1 l2 l3 l4 l5 l6
  unfold boxG at *
  generalize fewN g g.ws.length = n at *
  by_cases hn : n ≤ 5000
  · rw [decide_eq_true hn]
    refine pure_eq (prun [] [(10, .w (DV.p (PD.v (Value.int IntKind.i64 (↑g.ins.length : Int))))), (13, .w (DV.p (PD.v (Value.int IntKind.i64 (↑g.ws.length : Int))))), (14, .w (DV.p (PD.v (Value.int IntKind.i64 (↑(g.ins.length + g.ws.length) : Int))))), (18, .w (DV.p (PD.v (Value.int IntKind.i64 (↑g.bn.length : Int))))), (19, .w (DV.p (PD.v (Value.int IntKind.i64 (↑(g.ins.length + g.ws.length + g.bn.length) : Int))))), (23, .w (DV.p (PD.v (Value.int IntKind.i64 (↑g.vn.length : Int))))), (24, .w (DV.p (PD.v (Value.int IntKind.i64 (↑(g.ins.length + g.ws.length + g.bn.length + g.vn.length) : Int))))), (28, .w (DV.p (PD.v (Value.int IntKind.i64 (↑g.bo.length : Int))))), (29, .w (DV.p (PD.v (Value.int IntKind.i64 (↑(g.ins.length + g.ws.length + g.bn.length + g.vn.length + g.bo.length) : Int))))), (33, .w (DV.p (PD.v (Value.int IntKind.i64 (↑g.vo.length : Int))))), (34, .w (DV.p (PD.v (Value.int IntKind.i64 (↑(g.ins.length + g.ws.length + g.bn.length + g.vn.length + g.bo.length + g.vo.length) : Int))))), (43, .code [1, 3, 4] (AX.exit 0) (St.mk (mkT 51 [(3, DV.p (intP (↑n : Int)))]) (Mem.mk [Box.mk 29 [DV.p (intP g.ver), DV.p (PD.sl (List.map encPort g.ins)), DV.p (PD.sl (List.map encWeight g.ws)), DV.p (PD.sl (List.map encNode g.bn)), DV.p (intL g.bo), DV.p (boolP g.has), DV.p (PD.sl (List.map encNode g.vn)), DV.p (intL g.vo)] false] [] []))), (47, .b true)] (e := AEnd.ret (PD.v (Value.bool true))) (.c (dT (show (↑n : Int) ≤ (5000 : Int) by omega)) (.c (hlo) (.c (congrArg (fun z => DV.p (PD.v (Go.Value.int IntKind.i64 z))) rwk) (.c (congrArg (fun z => DV.p (PD.v (Go.Value.int IntKind.i64 z))) rwf) (.c (congrArg (fun z => DV.p (PD.v (Go.Value.int IntKind.i64 z))) rwj) (.c (congrArg (fun z => DV.p (PD.v (Go.Value.int IntKind.i64 z))) rwe) (.c (congrArg (fun z => DV.p (PD.v (Go.Value.int IntKind.i64 z))) rwi) (.c (congrArg (fun z => DV.p (PD.v (Go.Value.int IntKind.i64 z))) rwd) (.c (congrArg (fun z => DV.p (PD.v (Go.Value.int IntKind.i64 z))) rwh) (.c (congrArg (fun z => DV.p (PD.v (Go.Value.int IntKind.i64 z))) rwc) (.c (congrArg (fun z => DV.p (PD.v (Go.Value.int IntKind.i64 z))) rwg) (.c (congrArg (fun z => DV.p (PD.v (Go.Value.int IntKind.i64 z))) rwb) (.c (congrArg (fun z => DV.p (PD.v (Go.Value.int IntKind.i64 z))) rwa) .n))))))))))))) (by kernel_rfl)) ?_
    rfl
  · rw [decide_eq_false hn]
    refine pure_eq (prun [] [(10, .w (DV.p (PD.v (Value.int IntKind.i64 (↑g.ins.length : Int))))), (13, .w (DV.p (PD.v (Value.int IntKind.i64 (↑g.ws.length : Int))))), (14, .w (DV.p (PD.v (Value.int IntKind.i64 (↑(g.ins.length + g.ws.length) : Int))))), (18, .w (DV.p (PD.v (Value.int IntKind.i64 (↑g.bn.length : Int))))), (19, .w (DV.p (PD.v (Value.int IntKind.i64 (↑(g.ins.length + g.ws.length + g.bn.length) : Int))))), (23, .w (DV.p (PD.v (Value.int IntKind.i64 (↑g.vn.length : Int))))), (24, .w (DV.p (PD.v (Value.int IntKind.i64 (↑(g.ins.length + g.ws.length + g.bn.length + g.vn.length) : Int))))), (28, .w (DV.p (PD.v (Value.int IntKind.i64 (↑g.bo.length : Int))))), (29, .w (DV.p (PD.v (Value.int IntKind.i64 (↑(g.ins.length + g.ws.length + g.bn.length + g.vn.length + g.bo.length) : Int))))), (33, .w (DV.p (PD.v (Value.int IntKind.i64 (↑g.vo.length : Int))))), (34, .w (DV.p (PD.v (Value.int IntKind.i64 (↑(g.ins.length + g.ws.length + g.bn.length + g.vn.length + g.bo.length + g.vo.length) : Int))))), (43, .code [1, 3, 4] (AX.exit 0) (St.mk (mkT 51 [(3, DV.p (intP (↑n : Int)))]) (Mem.mk [Box.mk 29 [DV.p (intP g.ver), DV.p (PD.sl (List.map encPort g.ins)), DV.p (PD.sl (List.map encWeight g.ws)), DV.p (PD.sl (List.map encNode g.bn)), DV.p (intL g.bo), DV.p (boolP g.has), DV.p (PD.sl (List.map encNode g.vn)), DV.p (intL g.vo)] false] [] []))), (47, .b false)] (e := AEnd.ret (PD.v (Value.bool false))) (.c (dF (show ¬ (↑n : Int) ≤ (5000 : Int) by omega)) (.c (hlo) (.c (congrArg (fun z => DV.p (PD.v (Go.Value.int IntKind.i64 z))) rwk) (.c (congrArg (fun z => DV.p (PD.v (Go.Value.int IntKind.i64 z))) rwf) (.c (congrArg (fun z => DV.p (PD.v (Go.Value.int IntKind.i64 z))) rwj) (.c (congrArg (fun z => DV.p (PD.v (Go.Value.int IntKind.i64 z))) rwe) (.c (congrArg (fun z => DV.p (PD.v (Go.Value.int IntKind.i64 z))) rwi) (.c (congrArg (fun z => DV.p (PD.v (Go.Value.int IntKind.i64 z))) rwd) (.c (congrArg (fun z => DV.p (PD.v (Go.Value.int IntKind.i64 z))) rwh) (.c (congrArg (fun z => DV.p (PD.v (Go.Value.int IntKind.i64 z))) rwc) (.c (congrArg (fun z => DV.p (PD.v (Go.Value.int IntKind.i64 z))) rwg) (.c (congrArg (fun z => DV.p (PD.v (Go.Value.int IntKind.i64 z))) rwb) (.c (congrArg (fun z => DV.p (PD.v (Go.Value.int IntKind.i64 z))) rwa) .n))))))))))))) (by kernel_rfl)) ?_
    rfl
end Go.Proofs.YtikfefjaeejeeaaGreatDoor
/- Walks: graph.Same, whole. -/
namespace Go.Proofs.YtikfefjaeejeeaaGreatDoor
open Go.RowKit
set_option maxRecDepth 100000
theorem gsame_pure (a b : GraphM) (ha : SmG a) (hb : SmG b) : Pure Tryz.prog 32 [encG a, encG b] (.ret (boolP (graphE a b))) := by
  have e1 := efP_pure portE a.ins b.ins (by have := ha.il; omega) (by have := hb.il; omega) (fun x hx y hy => port_pure x y (ha.i x hx) (hb.i y hy))
  have e2 := efW_pure weightE a.ws b.ws (by have := ha.wl; omega) (by have := hb.wl; omega) (fun x hx y hy => weight_pure x y (ha.w x hx) (hb.w y hy))
  have e3 := sbody_pure a.bn a.bo b.bn b.bo ha.bl ha.bo hb.bl hb.bo ha.b hb.b
  have e4 := sbody_pure a.vn a.vo b.vn b.vo ha.vl ha.vo hb.vl hb.vo ha.v hb.v
  unfold graphE
  clear ha hb
  obtain ⟨a1, a2, a3, a4, a5, a6, a7, a8⟩ := a
  obtain ⟨b1, b2, b3, b4, b5, b6, b7, b8⟩ := b
  simp only at e1 e2 e3 e4 ⊢
  generalize eqF portE a2 b2 = p at *
  generalize eqF weightE a3 b3 = q at *
  generalize bodyE a4 a5 b4 b5 = r at *
  generalize bodyE a7 a8 b7 b8 = s at *
  unfold encG intL at *
  simp only at *
  generalize a2.map encPort = A2 at *
  generalize b2.map encPort = B2 at *
  generalize a3.map encWeight = A3 at *
  generalize b3.map encWeight = B3 at *
  generalize a4.map encNode = A4 at *
  generalize b4.map encNode = B4 at *
  generalize a7.map encNode = A7 at *
  generalize b7.map encNode = B7 at *
  generalize nums .i64 a5 = A5 at *
  generalize nums .i64 b5 = B5 at *
  generalize nums .i64 a8 = A8 at *
  generalize nums .i64 b8 = B8 at *
  by_cases h1 : a1 = b1
  · rw [decide_eq_true h1, Bool.true_and]
    by_cases h2 : a6 = b6
    · rw [decide_eq_true h2, Bool.true_and]
      have hx : id (a6 == b6) = true := by simpa using h2
      cases p with
      | true =>
        rw [Bool.true_and]
        cases q with
        | true =>
          rw [Bool.true_and]
          cases r with
          | true =>
            rw [Bool.true_and]
            cases s with
            | true =>
              refine pure_eq (prun [] [(21, .b true), (27, .b true), (35, .call (AEnd.ret (PD.v (Value.bool true)))), (43, .call (AEnd.ret (PD.v (Value.bool true)))), (50, .call (AEnd.ret (PD.v (Value.bool true)))), (57, .call (AEnd.ret (PD.v (Value.bool true))))] (e := AEnd.ret (PD.v (Value.bool true))) (.c (e4) (.c (e3) (.c (e2) (.c (e1) (.c hx (.c (eT h1) .n)))))) (by kernel_rfl)) ?_
              rfl
            | false =>
              refine pure_eq (prun [] [(21, .b true), (27, .b true), (35, .call (AEnd.ret (PD.v (Value.bool true)))), (43, .call (AEnd.ret (PD.v (Value.bool true)))), (50, .call (AEnd.ret (PD.v (Value.bool true)))), (57, .call (AEnd.ret (PD.v (Value.bool false))))] (e := AEnd.ret (PD.v (Value.bool false))) (.c (e4) (.c (e3) (.c (e2) (.c (e1) (.c hx (.c (eT h1) .n)))))) (by kernel_rfl)) ?_
              rfl
          | false =>
            rw [Bool.false_and]
            clear e4
            refine pure_eq (prun [] [(21, .b true), (27, .b true), (35, .call (AEnd.ret (PD.v (Value.bool true)))), (43, .call (AEnd.ret (PD.v (Value.bool true)))), (50, .call (AEnd.ret (PD.v (Value.bool false))))] (e := AEnd.ret (PD.v (Value.bool false))) (.c (e3) (.c (e2) (.c (e1) (.c hx (.c (eT h1) .n))))) (by kernel_rfl)) ?_
            rfl
        | false =>
          rw [Bool.false_and]
          clear e4 e3
          refine pure_eq (prun [] [(21, .b true), (27, .b true), (35, .call (AEnd.ret (PD.v (Value.bool true)))), (43, .call (AEnd.ret (PD.v (Value.bool false))))] (e := AEnd.ret (PD.v (Value.bool false))) (.c (e2) (.c (e1) (.c hx (.c (eT h1) .n)))) (by kernel_rfl)) ?_
          rfl
      | false =>
        rw [Bool.false_and]
        clear e4 e3 e2
        refine pure_eq (prun [] [(21, .b true), (27, .b true), (35, .call (AEnd.ret (PD.v (Value.bool false))))] (e := AEnd.ret (PD.v (Value.bool false))) (.c (e1) (.c hx (.c (eT h1) .n))) (by kernel_rfl)) ?_
        rfl
    · rw [decide_eq_false h2, Bool.false_and]
      have hx : id (a6 == b6) = false := by simpa using h2
      clear e1 e2 e3 e4
      refine pure_eq (prun [] [(21, .b true), (27, .b false)] (e := AEnd.ret (PD.v (Value.bool false))) (.c hx (.c (eT h1) .n)) (by kernel_rfl)) ?_
      rfl
  · rw [decide_eq_false h1, Bool.false_and]
    clear e1 e2 e3 e4
    refine pure_eq (prun [] [(21, .b false)] (e := AEnd.ret (PD.v (Value.bool false))) (.c (eF h1) .n) (by kernel_rfl)) ?_
    rfl
end Go.Proofs.YtikfefjaeejeeaaGreatDoor
/- Bytes of plain names. refs, plain names. -/
namespace Go.Proofs.YtikfefjaeejeeaaGreatDoor
open Go.RowKit
set_option maxRecDepth 100000

def letB (c : Nat) : Bool := decide (97 ≤ c) && decide (c ≤ 122)
def othB (c : Nat) : Bool := (decide (48 ≤ c) && decide (c ≤ 57)) || decide (c = 95)
def okB : Nat → List UInt8 → Bool
  | _, [] => true
  | i, c :: r => (letB c.toNat || (decide (i ≠ 0) && othB c.toNat)) && okB (i + 1) r
def plainM (s : ByteArray) : Bool := decide (1 ≤ s.size) && decide (s.size ≤ 32) && okB 0 s.data.toList
theorem str_get {s : ByteArray} {k : Nat} (h : k < s.size) : ∃ b, s[k]? = some b ∧ s.data.toList.drop k = b :: s.data.toList.drop (k + 1) := by
  have hlt' : k < s.data.toList.length := by rw [Array.length_toList]; exact h
  exact ⟨s.data.toList[k], by rw [getElem?_pos s k h]; rfl, List.drop_eq_getElem_cons hlt'⟩
theorem str_end {s : ByteArray} {k : Nat} (h : ¬ k < s.size) : s.data.toList.drop k = [] := List.drop_eq_nil_of_le (by rw [Array.length_toList]; exact Nat.le_of_not_lt h)
theorem okB_end {s : ByteArray} {k : Nat} (h : ¬ k < s.size) : okB k (s.data.toList.drop k) = true := by rw [str_end h]; rfl
theorem okB_step {k : Nat} {b : UInt8} {r l : List UInt8} (h : l = b :: r) : okB k l = ((letB b.toNat || (decide (k ≠ 0) && othB b.toNat)) && okB (k + 1) r) := by rw [h]; rfl
theorem test_ok {k c : Nat} (h : (97 ≤ (c : Int) ∧ (c : Int) ≤ 122) ∨ (¬ (k : Int) = 0 ∧ ((48 ≤ (c : Int) ∧ (c : Int) ≤ 57) ∨ (c : Int) = 95))) : (letB c || (decide (k ≠ 0) && othB c)) = true := by
  simp only [letB, othB, Bool.or_eq_true, Bool.and_eq_true, decide_eq_true_eq]
  omega
theorem test_no {k c : Nat} (h : ¬ ((97 ≤ (c : Int) ∧ (c : Int) ≤ 122) ∨ (¬ (k : Int) = 0 ∧ ((48 ≤ (c : Int) ∧ (c : Int) ≤ 57) ∨ (c : Int) = 95)))) : (letB c || (decide (k ≠ 0) && othB c)) = false := by
  rw [← Bool.not_eq_true]
  simp only [letB, othB, Bool.or_eq_true, Bool.and_eq_true, decide_eq_true_eq]
  omega
end Go.Proofs.YtikfefjaeejeeaaGreatDoor
/- Walks: graph.Name, graph.Refs. -/
namespace Go.Proofs.YtikfefjaeejeeaaGreatDoor
open Go.RowKit
set_option maxRecDepth 100000

theorem get_byte {s : ByteArray} {k : Nat} {b : UInt8} (h : s[k]? = some b) : s.get! k = b := by
  have hk : k < s.size := by
    rcases Nat.lt_or_ge k s.size with hk | hk
    · exact hk
    · rw [getElem?_neg s k (by omega)] at h; cases h
  rw [getElem?_pos s k hk] at h
  injection h with h
  rw [← h]
  show s.data[k]! = s.data[k]
  rw [getElem!_pos]
theorem dec_small {s : ByteArray} {k : Nat} {b : UInt8} (h : s[k]? = some b) (hb : b.toNat < 128) : Utf8.decode s k = (b.toNat, 1) := by
  simp only [Utf8.decode, Nat.add_zero, get_byte h]
  rw [if_pos hb]
theorem dec_big {s : ByteArray} {k : Nat} {b : UInt8} (h : s[k]? = some b) (hb : ¬ b.toNat < 128) : 128 ≤ (Utf8.decode s k).1 := by
  simp only [Utf8.decode, Nat.add_zero, get_byte h, Utf8.runeError]
  rw [if_neg hb]
  split
  · split <;> simp <;> omega
  · split
    · split
      · rename_i h1; simp at h1 ⊢; omega
      · simp
    · split
      · split
        · rename_i h1; simp at h1 ⊢; omega
        · simp
      · simp
theorem name_loop (s : ByteArray) (hs : s.size ≤ 32) : LoopOK Tryz.prog (loopB Tryz.prog 27 0) ⟨mkT 44 [(0, .p (.v (.string s))), (2, .p (.v (.bool false))), (15, .it 0)], ⟨[], [], [.it s 0]⟩⟩ (if okB 0 s.data.toList = true then .exit 0 else .ret) ⟨mkT 44 [(2, .p (.v (.bool false)))], ⟨[], [], [.any]⟩⟩ := by
  refine loop_ix [0, 2, 15] (fun k => ⟨mkT 44 [(0, .p (.v (.string s))), (2, .p (.v (.bool false))), (15, .it 0)], ⟨[], [], [.it s k]⟩⟩) s.size (fun k => okB 0 s.data.toList = okB k (s.data.toList.drop k)) rfl (fun _ => rfl) ?_
  intro k hk hp ro K Q hQ hK
  by_cases hlt : k < s.size
  · obtain ⟨b, hb, hd⟩ := str_get hlt
    have hst := okB_step (k := k) hd
    rw [hst] at hp
    by_cases hb2 : b.toNat < 128
    · have hdec := dec_small hb hb2
      by_cases h0 : 48 ≤ (↑b.toNat : Int)
      ·
        by_cases h1 : (↑b.toNat : Int) ≤ 57
        ·
          by_cases h2 : 0 < (↑k : Int)
          ·
            refine crun [] ⟨[0, 2, 15], [], [], none⟩ [(2, .nx (b.toNat) (1)), (19, .b true), (22, .b true), (33, .b false), (40, .b true)] (AX.norm) (St.mk (mkT 44 [(0, DV.p (PD.v (Value.string s))), (2, DV.p (PD.v (Value.bool false))), (15, DV.it 0)]) (Mem.mk [] [] [AO.it s (k + 1)])) (.c (dT h2) (.c (dF (show ¬ (97 : Int) ≤ (↑b.toNat : Int) by omega)) (.c (dT h1) (.c (dT h0) (.c (And.intro hlt hdec) .n))))) (by kernel_rfl) ?_
            exact hK _ hlt rfl (by rw [hp, test_ok (by omega)]; rfl)
          ·
            refine crun [] ⟨[2], [], [0], none⟩ [(2, .nx (b.toNat) (1)), (19, .b true), (22, .b true), (33, .b false), (40, .b false)] (AX.ret) (St.mk (mkT 44 [(2, DV.p (PD.v (Value.bool false)))]) (Mem.mk [] [] [if (Fin_.mk [2] [] [0] none).fo.contains 0 = true then AO.any else AO.it s (k + 1)])) (.c (dF h2) (.c (dF (show ¬ (97 : Int) ≤ (↑b.toNat : Int) by omega)) (.c (dT h1) (.c (dT h0) (.c (And.intro hlt hdec) .n))))) (by kernel_rfl) ?_
            (rw [hp, test_no (by omega)] at hQ; exact hQ)
        ·
          by_cases h2 : (↑b.toNat : Int) = 95
          ·
            by_cases h3 : 0 < (↑k : Int)
            ·
              refine crun [] ⟨[0, 2, 15], [], [], none⟩ [(2, .nx (b.toNat) (1)), (19, .b true), (22, .b false), (26, .b true), (33, .b false), (40, .b true)] (AX.norm) (St.mk (mkT 44 [(0, DV.p (PD.v (Value.string s))), (2, DV.p (PD.v (Value.bool false))), (15, DV.it 0)]) (Mem.mk [] [] [AO.it s (k + 1)])) (.c (dT h3) (.c (dF (show ¬ (97 : Int) ≤ (↑b.toNat : Int) by omega)) (.c (eT h2) (.c (dF h1) (.c (dT h0) (.c (And.intro hlt hdec) .n)))))) (by kernel_rfl) ?_
              exact hK _ hlt rfl (by rw [hp, test_ok (by omega)]; rfl)
            ·
              refine crun [] ⟨[2], [], [0], none⟩ [(2, .nx (b.toNat) (1)), (19, .b true), (22, .b false), (26, .b true), (33, .b false), (40, .b false)] (AX.ret) (St.mk (mkT 44 [(2, DV.p (PD.v (Value.bool false)))]) (Mem.mk [] [] [if (Fin_.mk [2] [] [0] none).fo.contains 0 = true then AO.any else AO.it s (k + 1)])) (.c (dF h3) (.c (dF (show ¬ (97 : Int) ≤ (↑b.toNat : Int) by omega)) (.c (eT h2) (.c (dF h1) (.c (dT h0) (.c (And.intro hlt hdec) .n)))))) (by kernel_rfl) ?_
              (rw [hp, test_no (by omega)] at hQ; exact hQ)
          ·
            by_cases h3 : 97 ≤ (↑b.toNat : Int)
            ·
              by_cases h4 : (↑b.toNat : Int) ≤ 122
              ·
                refine crun [] ⟨[0, 2, 15], [], [], none⟩ [(2, .nx (b.toNat) (1)), (19, .b true), (22, .b false), (26, .b false), (33, .b true), (36, .b true)] (AX.norm) (St.mk (mkT 44 [(0, DV.p (PD.v (Value.string s))), (2, DV.p (PD.v (Value.bool false))), (15, DV.it 0)]) (Mem.mk [] [] [AO.it s (k + 1)])) (.c (dT h4) (.c (dT h3) (.c (eF h2) (.c (dF h1) (.c (dT h0) (.c (And.intro hlt hdec) .n)))))) (by kernel_rfl) ?_
                exact hK _ hlt rfl (by rw [hp, test_ok (by omega)]; rfl)
              ·
                by_cases h5 : 0 < (↑k : Int)
                ·
                  refine crun [] ⟨[2], [], [0], none⟩ [(2, .nx (b.toNat) (1)), (19, .b true), (22, .b false), (26, .b false), (33, .b true), (36, .b false), (40, .b true)] (AX.ret) (St.mk (mkT 44 [(2, DV.p (PD.v (Value.bool false)))]) (Mem.mk [] [] [if (Fin_.mk [2] [] [0] none).fo.contains 0 = true then AO.any else AO.it s (k + 1)])) (.c (dT h5) (.c (dF h4) (.c (dT h3) (.c (eF h2) (.c (dF h1) (.c (dT h0) (.c (And.intro hlt hdec) .n))))))) (by kernel_rfl) ?_
                  (rw [hp, test_no (by omega)] at hQ; exact hQ)
                ·
                  refine crun [] ⟨[2], [], [0], none⟩ [(2, .nx (b.toNat) (1)), (19, .b true), (22, .b false), (26, .b false), (33, .b true), (36, .b false), (40, .b false)] (AX.ret) (St.mk (mkT 44 [(2, DV.p (PD.v (Value.bool false)))]) (Mem.mk [] [] [if (Fin_.mk [2] [] [0] none).fo.contains 0 = true then AO.any else AO.it s (k + 1)])) (.c (dF h5) (.c (dF h4) (.c (dT h3) (.c (eF h2) (.c (dF h1) (.c (dT h0) (.c (And.intro hlt hdec) .n))))))) (by kernel_rfl) ?_
                  (rw [hp, test_no (by omega)] at hQ; exact hQ)
            ·
              by_cases h4 : 0 < (↑k : Int)
              ·
                refine crun [] ⟨[2], [], [0], none⟩ [(2, .nx (b.toNat) (1)), (19, .b true), (22, .b false), (26, .b false), (33, .b false), (40, .b true)] (AX.ret) (St.mk (mkT 44 [(2, DV.p (PD.v (Value.bool false)))]) (Mem.mk [] [] [if (Fin_.mk [2] [] [0] none).fo.contains 0 = true then AO.any else AO.it s (k + 1)])) (.c (dT h4) (.c (dF h3) (.c (eF h2) (.c (dF h1) (.c (dT h0) (.c (And.intro hlt hdec) .n)))))) (by kernel_rfl) ?_
                (rw [hp, test_no (by omega)] at hQ; exact hQ)
              ·
                refine crun [] ⟨[2], [], [0], none⟩ [(2, .nx (b.toNat) (1)), (19, .b true), (22, .b false), (26, .b false), (33, .b false), (40, .b false)] (AX.ret) (St.mk (mkT 44 [(2, DV.p (PD.v (Value.bool false)))]) (Mem.mk [] [] [if (Fin_.mk [2] [] [0] none).fo.contains 0 = true then AO.any else AO.it s (k + 1)])) (.c (dF h4) (.c (dF h3) (.c (eF h2) (.c (dF h1) (.c (dT h0) (.c (And.intro hlt hdec) .n)))))) (by kernel_rfl) ?_
                (rw [hp, test_no (by omega)] at hQ; exact hQ)
      ·
        by_cases h1 : 0 < (↑k : Int)
        ·
          refine crun [] ⟨[2], [], [0], none⟩ [(2, .nx (b.toNat) (1)), (19, .b false), (26, .b false), (33, .b false), (40, .b true)] (AX.ret) (St.mk (mkT 44 [(2, DV.p (PD.v (Value.bool false)))]) (Mem.mk [] [] [if (Fin_.mk [2] [] [0] none).fo.contains 0 = true then AO.any else AO.it s (k + 1)])) (.c (dT h1) (.c (dF (show ¬ (97 : Int) ≤ (↑b.toNat : Int) by omega)) (.c (eF (show ¬ (↑b.toNat : Int) = (95 : Int) by omega)) (.c (dF h0) (.c (And.intro hlt hdec) .n))))) (by kernel_rfl) ?_
          (rw [hp, test_no (by omega)] at hQ; exact hQ)
        ·
          refine crun [] ⟨[2], [], [0], none⟩ [(2, .nx (b.toNat) (1)), (19, .b false), (26, .b false), (33, .b false), (40, .b false)] (AX.ret) (St.mk (mkT 44 [(2, DV.p (PD.v (Value.bool false)))]) (Mem.mk [] [] [if (Fin_.mk [2] [] [0] none).fo.contains 0 = true then AO.any else AO.it s (k + 1)])) (.c (dF h1) (.c (dF (show ¬ (97 : Int) ≤ (↑b.toNat : Int) by omega)) (.c (eF (show ¬ (↑b.toNat : Int) = (95 : Int) by omega)) (.c (dF h0) (.c (And.intro hlt hdec) .n))))) (by kernel_rfl) ?_
          (rw [hp, test_no (by omega)] at hQ; exact hQ)
    · have hbig := dec_big hb hb2
      obtain ⟨r, w, hdec⟩ : ∃ r w, Utf8.decode s k = (r, w) := ⟨_, _, rfl⟩
      rw [hdec] at hbig
      simp only at hbig
      by_cases h0 : 0 < (↑k : Int)
      ·
        refine crun [] ⟨[2], [], [0], none⟩ [(2, .nx (r) (w)), (19, .b true), (22, .b false), (26, .b false), (33, .b true), (36, .b false), (40, .b true)] (AX.ret) (St.mk (mkT 44 [(2, DV.p (PD.v (Value.bool false)))]) (Mem.mk [] [] [if (Fin_.mk [2] [] [0] none).fo.contains 0 = true then AO.any else AO.it s (k + w)])) (.c (dT h0) (.c (dF (show ¬ (↑r : Int) ≤ (122 : Int) by omega)) (.c (dT (show (97 : Int) ≤ (↑r : Int) by omega)) (.c (eF (show ¬ (↑r : Int) = (95 : Int) by omega)) (.c (dF (show ¬ (↑r : Int) ≤ (57 : Int) by omega)) (.c (dT (show (48 : Int) ≤ (↑r : Int) by omega)) (.c (And.intro hlt hdec) .n))))))) (by kernel_rfl) ?_
        rw [hp, test_no (by omega)] at hQ; exact hQ
      ·
        refine crun [] ⟨[2], [], [0], none⟩ [(2, .nx (r) (w)), (19, .b true), (22, .b false), (26, .b false), (33, .b true), (36, .b false), (40, .b false)] (AX.ret) (St.mk (mkT 44 [(2, DV.p (PD.v (Value.bool false)))]) (Mem.mk [] [] [if (Fin_.mk [2] [] [0] none).fo.contains 0 = true then AO.any else AO.it s (k + w)])) (.c (dF h0) (.c (dF (show ¬ (↑r : Int) ≤ (122 : Int) by omega)) (.c (dT (show (97 : Int) ≤ (↑r : Int) by omega)) (.c (eF (show ¬ (↑r : Int) = (95 : Int) by omega)) (.c (dF (show ¬ (↑r : Int) ≤ (57 : Int) by omega)) (.c (dT (show (48 : Int) ≤ (↑r : Int) by omega)) (.c (And.intro hlt hdec) .n))))))) (by kernel_rfl) ?_
        rw [hp, test_no (by omega)] at hQ; exact hQ
  · have hp2 := hp.trans (okB_end hlt)
    refine crun [] ⟨[2], [], [0], none⟩ [(2, .nx0)] (AX.exit 0) (St.mk (mkT 44 [(2, DV.p (PD.v (Value.bool false)))]) (Mem.mk [] [] [if (Fin_.mk [2] [] [0] none).fo.contains 0 = true then AO.any else AO.it s k])) (.c hlt .n) (by kernel_rfl) ?_
    rw [if_pos hp2] at hQ; exact hQ
theorem name_pure (s : ByteArray) : Pure Tryz.prog 27 [.v (.string s)] (.ret (.v (.bool (plainM s)))) := by
  by_cases hs : s.size ≤ 32
  · have hl := name_loop s hs
    by_cases h0 : (↑s.size : Int) = 0
    ·
      refine pure_eq (prun [] [(10, .b true)] (e := AEnd.ret (PD.v (Value.bool false))) (.c (eT h0) .n) (by kernel_rfl)) ?_
      simp [plainM, *] <;> omega
    ·
      rcases Bool.eq_false_or_eq_true (okB 0 s.data.toList) with h1 | h1
      ·
        refine pure_eq (prun [] [(10, .b false), (14, .b false), (26, .code [0, 2, 15] (AX.exit 0) (St.mk (mkT 44 [(2, DV.p (PD.v (Value.bool false)))]) (Mem.mk [] [] [AO.any])))] (e := AEnd.ret (PD.v (Value.bool true))) (.c (loop_x (hl) (if_pos h1)) (.c (dF (show ¬ (32 : Int) < (↑s.size : Int) by omega)) (.c (eF h0) .n))) (by kernel_rfl)) ?_
        simp [plainM, *] <;> omega
      ·
        refine pure_eq (prun [] [(10, .b false), (14, .b false), (26, .code [0, 2, 15] (AX.ret) (St.mk (mkT 44 [(2, DV.p (PD.v (Value.bool false)))]) (Mem.mk [] [] [AO.any])))] (e := AEnd.ret (PD.v (Value.bool false))) (.c (loop_x (hl) (if_neg (by rw [h1]; simp))) (.c (dF (show ¬ (32 : Int) < (↑s.size : Int) by omega)) (.c (eF h0) .n))) (by kernel_rfl)) ?_
        simp [plainM, *] <;> omega
  · refine pure_eq (prun [] [(10, .b false), (14, .b true)] (e := AEnd.ret (PD.v (Value.bool false))) (.c (dT (show (32 : Int) < (↑s.size : Int) by omega)) (.c (eF (show ¬ (↑s.size : Int) = (0 : Int) by omega)) .n)) (by kernel_rfl)) ?_
    simp [plainM, *] <;> omega
end Go.Proofs.YtikfefjaeejeeaaGreatDoor
/- Walks: a cotangent's name. -/
namespace Go.Proofs.YtikfefjaeejeeaaGreatDoor
open Go.RowKit
set_option maxRecDepth 100000
def tilde : ByteArray := ⟨#[126]⟩
def cotName (k : Nat) : List UInt8 := 126 :: Lib.decDigits k
def cotM (s : ByteArray) : Bool := (List.range 64).any fun k => s.data.toList == cotName k
def cutR (s : ByteArray) : ByteArray := if s.data.toList.head? = some 126 then s.extract 1 s.size else s
def cutB (s : ByteArray) : Bool := decide (s.data.toList.head? = some 126)
theorem ext_head (s : ByteArray) (h : 1 ≤ s.size) : ((s.extract 0 1).toList == tilde.toList) = decide (s.data.toList.head? = some 126) := by
  have e1 : (s.extract 0 1).data.toList = s.data.toList.take 1 := by simp
  have h2 : ∀ b : ByteArray, b.toList = b.data.toList := fun b => by
    exact Lib.toList_data b
  rw [h2, e1, h2]
  cases hl : s.data.toList with
  | nil =>
    have h : 1 ≤ s.data.size := h
    rw [← Array.length_toList, hl] at h; simp at h
  | cons b r =>
    show ([b] == [126]) = _
    simp only [List.head?_cons, Option.some.injEq]
    by_cases hb : b = 126
    · subst hb; rfl
    · rw [decide_eq_false hb]; simpa using hb
theorem cutPrefix_pure (s : ByteArray) (hs : s.size ≤ 9223372036854775806) : Pure Tryz.prog 128 [strP s, strP tilde] (.ret (.tup [strP (cutR s), boolP (cutB s)])) := by
  have ht : tilde.size = 1 := rfl
  by_cases h1 : 1 ≤ s.size
  · have he : ((s.extract 0 (Int.toNat 1)).toList == (ByteArray.mk #[126]).toList) = decide (s.data.toList.head? = some 126) := ext_head s h1
    by_cases hh : s.data.toList.head? = some 126
    · rw [decide_eq_true hh] at he
      refine pure_eq (prun [] [(32, .b true), (37, .sc), (39, .b true), (53, .sc)] (e := AEnd.ret (PD.tup [PD.v (Value.string (s.extract (Int.toNat 1) s.size)), PD.v (Value.bool true)])) (.c (show SlOK (Int.toNat (1 : Int)) s.size s.size ((0 : Int) ≤ (1 : Int)) True by first | exact ⟨by first | trivial | omega, by first | trivial | omega, by first | omega | (simp <;> omega), by first | omega | (simp <;> omega)⟩ | exact ⟨⟨by first | trivial | omega, by first | trivial | omega, by first | omega | (simp <;> omega), by first | omega | (simp <;> omega)⟩, by first | assumption | exact nums_sized _ _ | simp [sized_nil, sized_one, sized_append, sized_map, nums_sized, nums_append]⟩ | exact ⟨⟨by first | trivial | omega, by first | trivial | omega, by first | omega | (simp <;> omega), by first | omega | (simp <;> omega)⟩, by first | omega | (simp <;> omega)⟩) (.c he (.c (show SlOK (0 : Nat) (Int.toNat (1 : Int)) s.size True ((0 : Int) ≤ (1 : Int)) by first | exact ⟨by first | trivial | omega, by first | trivial | omega, by first | omega | (simp <;> omega), by first | omega | (simp <;> omega)⟩ | exact ⟨⟨by first | trivial | omega, by first | trivial | omega, by first | omega | (simp <;> omega), by first | omega | (simp <;> omega)⟩, by first | assumption | exact nums_sized _ _ | simp [sized_nil, sized_one, sized_append, sized_map, nums_sized, nums_append]⟩ | exact ⟨⟨by first | trivial | omega, by first | trivial | omega, by first | omega | (simp <;> omega), by first | omega | (simp <;> omega)⟩, by first | omega | (simp <;> omega)⟩) (.c (dT (show (1 : Int) ≤ (↑s.size : Int) by omega)) .n)))) (by kernel_rfl)) ?_
      simp [cutR, cutB, hh, strP, boolP]
    · rw [decide_eq_false hh] at he
      refine pure_eq (prun [] [(32, .b true), (37, .sc), (39, .b false)] (e := AEnd.ret (PD.tup [PD.v (Value.string s), PD.v (Value.bool false)])) (.c he (.c (show SlOK (0 : Nat) (Int.toNat (1 : Int)) s.size True ((0 : Int) ≤ (1 : Int)) by first | exact ⟨by first | trivial | omega, by first | trivial | omega, by first | omega | (simp <;> omega), by first | omega | (simp <;> omega)⟩ | exact ⟨⟨by first | trivial | omega, by first | trivial | omega, by first | omega | (simp <;> omega), by first | omega | (simp <;> omega)⟩, by first | assumption | exact nums_sized _ _ | simp [sized_nil, sized_one, sized_append, sized_map, nums_sized, nums_append]⟩ | exact ⟨⟨by first | trivial | omega, by first | trivial | omega, by first | omega | (simp <;> omega), by first | omega | (simp <;> omega)⟩, by first | omega | (simp <;> omega)⟩) (.c (dT (show (1 : Int) ≤ (↑s.size : Int) by omega)) .n))) (by kernel_rfl)) ?_
      simp [cutR, cutB, hh, strP, boolP]
  · have hh : ¬ s.data.toList.head? = some 126 := by
      have : s.data.toList = [] := List.eq_nil_of_length_eq_zero (by rw [Array.length_toList]; show s.size = 0; omega)
      rw [this]; simp
    refine pure_eq (prun [] [(32, .b false)] (e := AEnd.ret (PD.tup [PD.v (Value.string s), PD.v (Value.bool false)])) (.c (dF (show ¬ (1 : Int) ≤ (↑s.size : Int) by omega)) .n) (by kernel_rfl)) ?_
    simp [cutR, cutB, hh, strP, boolP]

def digs (k : Nat) : List UInt8 := if k < 10 then [UInt8.ofNat (48 + k)] else [UInt8.ofNat (48 + k / 10), UInt8.ofNat (48 + k % 10)]
theorem dig_is {k : Nat} (hk : k < 100) : Lib.decDigits k = digs k := by
  unfold digs
  rw [Lib.decDigits]
  split
  · rfl
  · rw [Lib.decDigits, dif_pos (by omega)]; rfl
theorem dig_atoi0 : ∀ k, k < 64 → Lib.atoiAll (digs k) = .ok k := by decide
theorem dig_atoi (k : Nat) (hk : k < 64) : Lib.atoiAll (Lib.decDigits k) = .ok k := by rw [dig_is (by omega)]; exact dig_atoi0 k hk
theorem cot_no {s : ByteArray} (h : ∀ k, k < 64 → s.data.toList ≠ cotName k) : cotM s = false := by
  unfold cotM
  rw [List.any_eq_false]
  intro k hk
  have := h k (by simpa using hk)
  simpa using this
theorem cot_yes {s : ByteArray} {k : Nat} (hk : k < 64) (h : s.data.toList = cotName k) : cotM s = true := by
  unfold cotM
  rw [List.any_eq_true]
  exact ⟨k, by simpa using hk, by simpa using h⟩
/-- what is behind the sign -/
theorem cut_rest {s : ByteArray} (hh : s.data.toList.head? = some 126) : s.data.toList = 126 :: (s.extract 1 s.size).data.toList := by
  have e1 : (s.extract 1 s.size).data.toList = s.data.toList.drop 1 := by
    simp only [ByteArray.data_extract, Array.toList_extract, List.extract_eq_take_drop]
    rw [List.take_of_length_le]
    simp
  rw [e1]
  cases hl : s.data.toList with
  | nil => rw [hl] at hh; simp at hh
  | cons b r => rw [hl] at hh; simp at hh; simp [hh]
theorem cot_case {s : ByteArray} (hh : s.data.toList.head? = some 126) {v : Int} (ha : Lib.atoiAll (s.extract 1 s.size).data.toList = .ok v) (h0 : 0 ≤ v) (h1 : v < 64) : cotM s = (Lib.decDigits v.toNat == (s.extract 1 s.size).data.toList) := by
  have hr := cut_rest hh
  by_cases he : Lib.decDigits v.toNat = (s.extract 1 s.size).data.toList
  · rw [cot_yes (k := v.toNat) (by omega) (by rw [hr, cotName, he])]
    simp [he]
  · have : (Lib.decDigits v.toNat == (s.extract 1 s.size).data.toList) = false := by simpa using he
    rw [this]
    refine cot_no fun k hk hc => he ?_
    rw [hr, cotName] at hc
    injection hc with _ hc
    rw [hc, dig_atoi k hk] at ha
    injection ha with ha
    rw [hc, ← ha]; rfl
theorem cot_fail {s : ByteArray} (h : s.data.toList.head? = some 126 → ∀ v, Lib.atoiAll (s.extract 1 s.size).data.toList = .ok v → ¬ (0 ≤ v ∧ v < 64)) : cotM s = false := by
  refine cot_no fun k hk hc => ?_
  have hh : s.data.toList.head? = some 126 := by rw [hc]; rfl
  have hr := cut_rest hh
  rw [hr, cotName] at hc
  injection hc with _ hc
  exact h hh k (by rw [hc, dig_atoi k hk]) ⟨by omega, by omega⟩
end Go.Proofs.YtikfefjaeejeeaaGreatDoor
/- Walks: a cotangent's name (the library's functions by their contracts). -/
namespace Go.Proofs.YtikfefjaeejeeaaGreatDoor
open Go.RowKit
set_option maxRecDepth 100000
theorem laid_iface {w : World} (h : LaidW w.heap.size w) {g : Nat} (hg : (g, none) ∈ glbs) : g < w.heap.size ∧ ∃ te pe, w.cell? ⟨g, 0, none⟩ = some (.iface te pe) := by
  obtain ⟨h1, t, q, te, a, h2⟩ := h _ hg
  exact ⟨h1, te, a, by simp [World.cell?, h2]⟩
theorem cut_calls (s : ByteArray) (hs : s.size ≤ 9223372036854775806) (w : World) (hlw : LaidW w.heap.size w) :
    Calls Tryz.prog 128 #[.string s, .string ⟨#[126]⟩] w fun e w' => e = .returned (.tuple #[.string (cutR s), .bool (cutB s)]) ∧ Below w.heap.size w w' :=
  calls_of_pure (cutPrefix_pure s hs) rfl rfl rfl rfl w hlw
theorem bytes_below {w w' : World} (h : w' = w ∨ ∃ t, w' = Lib.bytesWorld w 5 t) : Below w.heap.size w w' := by
  rcases h with rfl | ⟨t, rfl⟩
  · exact Below.refl _ _
  · exact Lib.bytesWorld_below _ _ _
theorem cut_size (s : ByteArray) : (cutR s).size ≤ s.size := by
  unfold cutR
  split
  · simp [ByteArray.size_extract]
  · exact Nat.le_refl _
set_option maxHeartbeats 1000000 in
theorem cot_calls (s : ByteArray) (hs : s.size ≤ 281474976710656) (w : World) (hlw : LaidW w.heap.size w) :
    Calls Tryz.prog 104 #[.string s] w fun e w' => e = .returned (.bool (cotM s)) ∧ Below w.heap.size w w' := by
  have hcut := cut_calls s (by omega) w hlw
  have hsz := cut_size s
  obtain ⟨hg1, te1, pe1, hc1⟩ := laid_iface hlw (g := 1) (by simp [glbs])
  obtain ⟨hg2, te2, pe2, hc2⟩ := laid_iface hlw (g := 2) (by simp [glbs])
  obtain ⟨r, hr⟩ : ∃ r, r = cutR s := ⟨_, rfl⟩
  obtain ⟨b, hb⟩ : ∃ b, b = cutB s := ⟨_, rfl⟩
  rw [← hr, ← hb] at hcut
  rw [← hr] at hsz
  have Hr := Lib.hid hr
  have Hb := Lib.hid hb
  clear hr hb
  cases ha : Lib.atoiAll r.data.toList with
  | range =>
    have hM : cotM s = false := cot_fail fun hh v hv => by
      have hrr := Hr.out
      unfold cutR at hrr
      rw [if_pos hh] at hrr
      rw [← hrr, ha] at hv; cases hv
    rw [hM]
    have Ha := Lib.hid ha
    clear ha hM
    cases b
    all_goals
      go_enter Tryz.func104, Tryz.ntmps104
      go_wp2_with fail
      refine hcut.mono ?_
      clear hcut
      rintro e w1 ⟨rfl, hb1⟩
      have hc2' := (hb1.cell (p := ⟨2, 0, none⟩) hg2).trans hc2
      go_wp2_with fail
      refine (Tryz.strconv_Atoi_range r (by omega) Ha.out _ _ hc2' (.inr ⟨_, _, rfl⟩)).mono ?_
      rintro e w2 ⟨N, rfl, -, -, hb2⟩
      have hb3 := hb1.trans (hb2.mono hb1.size)
      clear hb1 hb2 hc2' hc1 hc2
      go_wp2
      go_ret
      exact ⟨rfl, hb3⟩
  | ok v =>
    have Ha := Lib.hid ha
    clear ha
    cases b with
    | false =>
      have hM : cotM s = false := cot_fail fun hh v hv => by
        have := Hb.out
        unfold cutB at this
        rw [decide_eq_true hh] at this; cases this
      rw [hM]
      clear hM
      go_enter Tryz.func104, Tryz.ntmps104
      go_wp2_with fail
      refine hcut.mono ?_
      clear hcut
      rintro e w1 ⟨rfl, hb1⟩
      go_wp2_with fail
      refine (Tryz.strconv_Atoi_ok r (by omega) v Ha.out _).mono ?_
      rintro e w2 ⟨rfl, hw2⟩
      have hb3 := hb1.trans ((bytes_below hw2).mono hb1.size)
      clear hb1 hw2 hc1 hc2
      go_wp2
      go_ret
      exact ⟨rfl, hb3⟩
    | true =>
      have hh : s.data.toList.head? = some 126 := by
        have := Hb.out
        unfold cutB at this
        simpa using this.symm
      have hre : r = s.extract 1 s.size := by
        have hrr := Hr.out
        unfold cutR at hrr
        rwa [if_pos hh] at hrr
      by_cases h0 : 0 ≤ v ∧ v < 64
      · have hM := cot_case hh (by rw [← hre]; exact Ha.out) h0.1 h0.2
        rw [← hre] at hM
        rw [hM]
        obtain ⟨k, rfl⟩ : ∃ k : Nat, v = k := ⟨v.toNat, by omega⟩
        have hk : k < 64 := by omega
        have hk0 : (0 : Int) ≤ (k : Int) := by omega
        have hk1 : (k : Int) < 64 := by omega
        have HM := Lib.hid hM
        have Hre := Lib.hid hre
        clear hM hre h0
        go_enter Tryz.func104, Tryz.ntmps104
        go_wp2_with fail
        refine hcut.mono ?_
        clear hcut
        rintro e w1 ⟨rfl, hb1⟩
        go_wp2_with fail
        refine (Tryz.strconv_Atoi_ok r (by omega) k Ha.out _).mono ?_
        rintro e w2 ⟨rfl, hw2⟩
        have hb3 := hb1.trans ((bytes_below hw2).mono hb1.size)
        clear hb1 hw2 hc1 hc2
        go_wp2_with fail
        refine (Tryz.strconv_Itoa_small k (by omega) _).mono ?_
        rintro e w3 ⟨rfl, rfl⟩
        go_wp2
        go_ret
        refine ⟨?_, hb3⟩
        rw [← Lib.toList_data r]
        rfl
      · have hM : cotM s = false := cot_fail fun _ v' hv' => by
          rw [← hre, Ha.out] at hv'
          injection hv' with hv'
          rw [← hv']; exact h0
        rw [hM]
        have Hre := Lib.hid hre
        clear hM hre
        by_cases h1 : 0 ≤ v
        · have h2 : ¬ v < 64 := fun h => h0 ⟨h1, h⟩
          clear h0
          go_enter Tryz.func104, Tryz.ntmps104
          go_wp2_with fail
          refine hcut.mono ?_
          clear hcut
          rintro e w1 ⟨rfl, hb1⟩
          go_wp2_with fail
          refine (Tryz.strconv_Atoi_ok r (by omega) v Ha.out _).mono ?_
          rintro e w2 ⟨rfl, hw2⟩
          have hb3 := hb1.trans ((bytes_below hw2).mono hb1.size)
          clear hb1 hw2 hc1 hc2
          go_wp2
          go_ret
          exact ⟨rfl, hb3⟩
        · clear h0
          go_enter Tryz.func104, Tryz.ntmps104
          go_wp2_with fail
          refine hcut.mono ?_
          clear hcut
          rintro e w1 ⟨rfl, hb1⟩
          go_wp2_with fail
          refine (Tryz.strconv_Atoi_ok r (by omega) v Ha.out _).mono ?_
          rintro e w2 ⟨rfl, hw2⟩
          have hb3 := hb1.trans ((bytes_below hw2).mono hb1.size)
          clear hb1 hw2 hc1 hc2
          go_wp2
          go_ret
          exact ⟨rfl, hb3⟩
  | _ =>
    have hM : cotM s = false := cot_fail fun hh v hv => by
      have hrr := Hr.out
      unfold cutR at hrr
      rw [if_pos hh] at hrr
      rw [← hrr, ha] at hv; cases hv
    rw [hM]
    have Ha := Lib.hid (ha.trans (show _ = Lib.atoiAll [] from rfl))
    clear ha hM
    cases b
    all_goals
      go_enter Tryz.func104, Tryz.ntmps104
      go_wp2_with fail
      refine hcut.mono ?_
      clear hcut
      rintro e w1 ⟨rfl, hb1⟩
      have hc1' := (hb1.cell (p := ⟨1, 0, none⟩) hg1).trans hc1
      go_wp2_with fail
      refine (Tryz.strconv_Atoi_syntax r (by omega) Ha.out _ _ hc1' (.inr ⟨_, _, rfl⟩)).mono ?_
      rintro e w2 ⟨N, rfl, -, -, hb2⟩
      have hb3 := hb1.trans (hb2.mono hb1.size)
      clear hb1 hb2 hc1' hc1 hc2
      go_wp2
      go_ret
      exact ⟨rfl, hb3⟩
theorem cot_pure (s : ByteArray) (hs : s.size ≤ 281474976710656) : Pure Tryz.prog 104 [strP s] (.ret (boolP (cotM s))) :=
  pure_of_calls ⟨_, _, Callable.mk Tryz.func104 rfl rfl⟩ rfl rfl rfl rfl fun w hlw => cot_calls s hs w hlw
end Go.Proofs.YtikfefjaeejeeaaGreatDoor
/- Walks: known rationals. -/
namespace Go.Proofs.YtikfefjaeejeeaaGreatDoor
open Go.RowKit
set_option maxRecDepth 100000
def u32P (x : Int) : PD := .v (.int .u32 x)
theorem cmp00 : Pure Tryz.prog 127 [.sl [], .sl []] (.ret (intP (cmpAt [] [] 0))) := cmp_pure [] [] (by decide) (by decide)
theorem cmp01 (y : Int) : Pure Tryz.prog 127 [.sl [], .sl [.v (.int .u32 y)]] (.ret (intP (cmpAt [] [y] 1))) := cmp_pure [] [y] (by decide) (by simp)
theorem cmp10 (x : Int) : Pure Tryz.prog 127 [.sl [.v (.int .u32 x)], .sl []] (.ret (intP (cmpAt [x] [] 1))) := cmp_pure [x] [] (by simp) (by decide)
theorem cmp11 (x y : Int) : Pure Tryz.prog 127 [.sl [.v (.int .u32 x)], .sl [.v (.int .u32 y)]] (.ret (intP (cmpAt [x] [y] 1))) := cmp_pure [x] [y] (by simp) (by simp)
theorem cmp21 (x z y : Int) : Pure Tryz.prog 127 [.sl [.v (.int .u32 x), .v (.int .u32 z)], .sl [.v (.int .u32 y)]] (.ret (intP (cmpAt [x, z] [y] 2))) := cmp_pure [x, z] [y] (by simp) (by simp)
theorem cmp12 (x z y : Int) : Pure Tryz.prog 127 [.sl [.v (.int .u32 y)], .sl [.v (.int .u32 x), .v (.int .u32 z)]] (.ret (intP (cmpAt [y] [x, z] 2))) := cmp_pure [y] [x, z] (by simp) (by simp)
theorem cmp22 (x z y u : Int) : Pure Tryz.prog 127 [.sl [.v (.int .u32 x), .v (.int .u32 z)], .sl [.v (.int .u32 y), .v (.int .u32 u)]] (.ret (intP (cmpAt [x, z] [y, u] 2))) := cmp_pure [x, z] [y, u] (by simp) (by simp)
theorem may_1 : Pure Tryz.prog 132 [encRat ⟨false, [1], [1]⟩] (.ret (intP 0)) := by
  refine pure_eq (prun [97, 98, 125, 126, 148, 149, 150, 151, 152, 153, 154, 183, 185, 186, 187, 188, 208, 210, 211, 212, 213, 214, 215, 233, 236] [(586, .call (AEnd.ret (PD.v (Value.int IntKind.i64 0)))), (838, .xc), (893, .xc), (1277, .call (AEnd.ret (PD.v (Value.int IntKind.i64 0)))), (1529, .xc), (1584, .xc), (1945, .call (AEnd.ret (PD.v (Value.int IntKind.i64 0)))), (2197, .xc), (2252, .xc), (2482, .call (AEnd.ret (PD.v (Value.int IntKind.i64 0)))), (2510, .call (AEnd.ret (PD.v (Value.int IntKind.i64 0))))] (e := AEnd.ret (PD.v (Value.int IntKind.i64 0))) (.c (cmp11 (1) (1)) (.c (cmp11 (1) (1)) (.c (@rfl Mem (Mem.mk [Box.mk 84 [DV.p (PD.v (Value.bool false)), DV.p (PD.sl [PD.v (Value.int IntKind.u32 1)]), DV.p (PD.sl [PD.v (Value.int IntKind.u32 1)])] false, Box.mk 84 [DV.p (PD.v (Value.bool false)), DV.p (PD.sl [PD.v (Value.int IntKind.u32 1)]), DV.p (PD.sl [PD.v (Value.int IntKind.u32 1)])] false, Box.mk 84 [DV.p (PD.v (Value.bool false)), DV.p (PD.v (Value.slice none 0 0)), DV.p (PD.v (Value.slice none 0 0))] false, Box.mk 84 [DV.p (PD.v (Value.bool false)), DV.p (PD.v (Value.slice none 0 0)), DV.p (PD.v (Value.slice none 0 0))] false, Box.mk 86 [DV.p (PD.v (Value.int IntKind.u32 1))] true, Box.mk 183 [DV.p (PD.v (Value.int IntKind.u64 0))] false, Box.mk 82 [DV.row 0 [PD.v (Value.int IntKind.u32 0), PD.v (Value.int IntKind.u32 0)]] false, Box.mk 183 [DV.p (PD.v (Value.int IntKind.u64 0))] false, Box.mk 86 [DV.p (PD.v (Value.int IntKind.u32 0))] true, Box.mk 86 [DV.p (PD.v (Value.int IntKind.u32 0))] true, Box.mk 82 [DV.p (PD.sl [PD.v (Value.int IntKind.u32 1)])] false, Box.mk 86 [DV.p (PD.v (Value.int IntKind.u32 1))] true, Box.mk 183 [DV.p (PD.v (Value.int IntKind.u64 0))] false, Box.mk 82 [DV.row 1 [PD.v (Value.int IntKind.u32 0), PD.v (Value.int IntKind.u32 0)]] false, Box.mk 183 [DV.p (PD.v (Value.int IntKind.u64 0))] false, Box.mk 86 [DV.p (PD.v (Value.int IntKind.u32 0))] true, Box.mk 86 [DV.p (PD.v (Value.int IntKind.u32 0))] true, Box.mk 86 [DV.p (PD.v (Value.int IntKind.u32 1))] true, Box.mk 183 [DV.p (PD.v (Value.int IntKind.u64 0))] false, Box.mk 82 [DV.row 2 [PD.v (Value.int IntKind.u32 0)]] false, Box.mk 183 [DV.p (PD.v (Value.int IntKind.u64 0))] false, Box.mk 86 [DV.p (PD.v (Value.int IntKind.u32 0))] true] [some (86, 1, 2), some (86, 1, 2), some (86, 1, 1)] [])) (.c (@rfl Mem (Mem.mk [Box.mk 84 [DV.p (PD.v (Value.bool false)), DV.p (PD.sl [PD.v (Value.int IntKind.u32 1)]), DV.p (PD.sl [PD.v (Value.int IntKind.u32 1)])] false, Box.mk 84 [DV.p (PD.v (Value.bool false)), DV.p (PD.sl [PD.v (Value.int IntKind.u32 1)]), DV.p (PD.sl [PD.v (Value.int IntKind.u32 1)])] false, Box.mk 84 [DV.p (PD.v (Value.bool false)), DV.p (PD.v (Value.slice none 0 0)), DV.p (PD.v (Value.slice none 0 0))] false, Box.mk 84 [DV.p (PD.v (Value.bool false)), DV.p (PD.v (Value.slice none 0 0)), DV.p (PD.v (Value.slice none 0 0))] false, Box.mk 86 [DV.p (PD.v (Value.int IntKind.u32 1))] true, Box.mk 183 [DV.p (PD.v (Value.int IntKind.u64 0))] false, Box.mk 82 [DV.row 0 [PD.v (Value.int IntKind.u32 0), PD.v (Value.int IntKind.u32 0)]] false, Box.mk 183 [DV.p (PD.v (Value.int IntKind.u64 0))] false, Box.mk 86 [DV.p (PD.v (Value.int IntKind.u32 0))] true, Box.mk 86 [DV.p (PD.v (Value.int IntKind.u32 0))] true, Box.mk 82 [DV.p (PD.sl [PD.v (Value.int IntKind.u32 1)])] false, Box.mk 86 [DV.p (PD.v (Value.int IntKind.u32 1))] true, Box.mk 183 [DV.p (PD.v (Value.int IntKind.u64 0))] false, Box.mk 82 [DV.row 1 [PD.v (Value.int IntKind.u32 0), PD.v (Value.int IntKind.u32 0)]] false, Box.mk 183 [DV.p (PD.v (Value.int IntKind.u64 0))] false, Box.mk 86 [DV.p (PD.v (Value.int IntKind.u32 0))] true, Box.mk 86 [DV.p (PD.v (Value.int IntKind.u32 0))] true, Box.mk 86 [DV.p (PD.v (Value.int IntKind.u32 1))] true, Box.mk 183 [DV.p (PD.v (Value.int IntKind.u64 0))] false, Box.mk 82 [DV.p (PD.v (Value.slice none 0 0))] false, Box.mk 183 [DV.p (PD.v (Value.int IntKind.u64 0))] false] [some (86, 1, 2), some (86, 1, 2)] [])) (.c (cmp11 (1) (1)) (.c (@rfl Mem (Mem.mk [Box.mk 84 [DV.p (PD.v (Value.bool false)), DV.p (PD.sl [PD.v (Value.int IntKind.u32 1)]), DV.p (PD.sl [PD.v (Value.int IntKind.u32 1)])] false, Box.mk 84 [DV.p (PD.v (Value.bool false)), DV.p (PD.sl [PD.v (Value.int IntKind.u32 1)]), DV.p (PD.sl [PD.v (Value.int IntKind.u32 1)])] false, Box.mk 84 [DV.p (PD.v (Value.bool false)), DV.p (PD.v (Value.slice none 0 0)), DV.p (PD.v (Value.slice none 0 0))] false, Box.mk 84 [DV.p (PD.v (Value.bool false)), DV.p (PD.v (Value.slice none 0 0)), DV.p (PD.v (Value.slice none 0 0))] false, Box.mk 86 [DV.p (PD.v (Value.int IntKind.u32 1))] true, Box.mk 183 [DV.p (PD.v (Value.int IntKind.u64 0))] false, Box.mk 82 [DV.row 0 [PD.v (Value.int IntKind.u32 0), PD.v (Value.int IntKind.u32 0)]] false, Box.mk 183 [DV.p (PD.v (Value.int IntKind.u64 0))] false, Box.mk 86 [DV.p (PD.v (Value.int IntKind.u32 0))] true, Box.mk 86 [DV.p (PD.v (Value.int IntKind.u32 0))] true, Box.mk 82 [DV.p (PD.sl [PD.v (Value.int IntKind.u32 1)])] false, Box.mk 86 [DV.p (PD.v (Value.int IntKind.u32 1))] true, Box.mk 183 [DV.p (PD.v (Value.int IntKind.u64 0))] false, Box.mk 82 [DV.row 1 [PD.v (Value.int IntKind.u32 0)]] false, Box.mk 183 [DV.p (PD.v (Value.int IntKind.u64 0))] false, Box.mk 86 [DV.p (PD.v (Value.int IntKind.u32 0))] true] [some (86, 1, 2), some (86, 1, 1)] [])) (.c (@rfl Mem (Mem.mk [Box.mk 84 [DV.p (PD.v (Value.bool false)), DV.p (PD.sl [PD.v (Value.int IntKind.u32 1)]), DV.p (PD.sl [PD.v (Value.int IntKind.u32 1)])] false, Box.mk 84 [DV.p (PD.v (Value.bool false)), DV.p (PD.sl [PD.v (Value.int IntKind.u32 1)]), DV.p (PD.sl [PD.v (Value.int IntKind.u32 1)])] false, Box.mk 84 [DV.p (PD.v (Value.bool false)), DV.p (PD.v (Value.slice none 0 0)), DV.p (PD.v (Value.slice none 0 0))] false, Box.mk 84 [DV.p (PD.v (Value.bool false)), DV.p (PD.v (Value.slice none 0 0)), DV.p (PD.v (Value.slice none 0 0))] false, Box.mk 86 [DV.p (PD.v (Value.int IntKind.u32 1))] true, Box.mk 183 [DV.p (PD.v (Value.int IntKind.u64 0))] false, Box.mk 82 [DV.row 0 [PD.v (Value.int IntKind.u32 0), PD.v (Value.int IntKind.u32 0)]] false, Box.mk 183 [DV.p (PD.v (Value.int IntKind.u64 0))] false, Box.mk 86 [DV.p (PD.v (Value.int IntKind.u32 0))] true, Box.mk 86 [DV.p (PD.v (Value.int IntKind.u32 0))] true, Box.mk 82 [DV.p (PD.sl [PD.v (Value.int IntKind.u32 1)])] false, Box.mk 86 [DV.p (PD.v (Value.int IntKind.u32 1))] true, Box.mk 183 [DV.p (PD.v (Value.int IntKind.u64 0))] false, Box.mk 82 [DV.p (PD.v (Value.slice none 0 0))] false, Box.mk 183 [DV.p (PD.v (Value.int IntKind.u64 0))] false] [some (86, 1, 2)] [])) (.c (cmp11 (1) (1)) (.c (@rfl Mem (Mem.mk [Box.mk 84 [DV.p (PD.v (Value.bool false)), DV.p (PD.sl [PD.v (Value.int IntKind.u32 1)]), DV.p (PD.sl [PD.v (Value.int IntKind.u32 1)])] false, Box.mk 84 [DV.p (PD.v (Value.bool false)), DV.p (PD.sl [PD.v (Value.int IntKind.u32 1)]), DV.p (PD.sl [PD.v (Value.int IntKind.u32 1)])] false, Box.mk 84 [DV.p (PD.v (Value.bool false)), DV.p (PD.v (Value.slice none 0 0)), DV.p (PD.v (Value.slice none 0 0))] false, Box.mk 84 [DV.p (PD.v (Value.bool false)), DV.p (PD.v (Value.slice none 0 0)), DV.p (PD.v (Value.slice none 0 0))] false, Box.mk 86 [DV.p (PD.v (Value.int IntKind.u32 1))] true, Box.mk 183 [DV.p (PD.v (Value.int IntKind.u64 0))] false, Box.mk 82 [DV.row 0 [PD.v (Value.int IntKind.u32 0)]] false, Box.mk 183 [DV.p (PD.v (Value.int IntKind.u64 0))] false, Box.mk 86 [DV.p (PD.v (Value.int IntKind.u32 0))] true] [some (86, 1, 1)] [])) (.c (@rfl Mem (Mem.mk [Box.mk 84 [DV.p (PD.v (Value.bool false)), DV.p (PD.sl [PD.v (Value.int IntKind.u32 1)]), DV.p (PD.sl [PD.v (Value.int IntKind.u32 1)])] false, Box.mk 84 [DV.p (PD.v (Value.bool false)), DV.p (PD.sl [PD.v (Value.int IntKind.u32 1)]), DV.p (PD.sl [PD.v (Value.int IntKind.u32 1)])] false, Box.mk 84 [DV.p (PD.v (Value.bool false)), DV.p (PD.v (Value.slice none 0 0)), DV.p (PD.v (Value.slice none 0 0))] false, Box.mk 84 [DV.p (PD.v (Value.bool false)), DV.p (PD.v (Value.slice none 0 0)), DV.p (PD.v (Value.slice none 0 0))] false, Box.mk 86 [DV.p (PD.v (Value.int IntKind.u32 1))] true, Box.mk 183 [DV.p (PD.v (Value.int IntKind.u64 0))] false, Box.mk 82 [DV.p (PD.v (Value.slice none 0 0))] false, Box.mk 183 [DV.p (PD.v (Value.int IntKind.u64 0))] false] [] [])) (.c (cmp11 (1) (1)) .n))))))))))) (by kernel_rfl)) ?_
  rfl
end Go.Proofs.YtikfefjaeejeeaaGreatDoor
