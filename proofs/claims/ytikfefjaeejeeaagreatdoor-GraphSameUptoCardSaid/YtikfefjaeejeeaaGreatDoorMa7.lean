/- Walks and laws, laid together: WfG WfH. -/
import Derived.Test.YtikfefjaeejeeaaGreatDoorMa6
/- Walks: the document's Same. -/
namespace Go.Proofs.YtikfefjaeejeeaaGreatDoor
open Go.RowKit
set_option maxRecDepth 100000
def spS (a b : GraphM) (k : Nat) : St := ⟨mkT 95 [(2, .loc 0 0), (3, .loc 1 0), (5, .p (intP (k : Nat)))], ⟨[boxG a, boxG b], [], []⟩⟩
def swS (a b : GraphM) (k : Nat) : St := ⟨mkT 95 [(2, .loc 0 0), (3, .loc 1 0), (6, .p (intP (k : Nat)))], ⟨[boxG a, boxG b], [], []⟩⟩
set_option maxHeartbeats 2000000 in
theorem sp_round (a b : GraphM) (k : Nat) (x y : PortM) (hm : a.ins.length ≤ 1073741824) (hlt : k < a.ins.length) (hx : a.ins[k]? = some x) (hy : b.ins[k]? = some y) (sx : SmPort x) (sy : SmPort y) (h : portE x y = true) (ro : Option Nat) (K : St → Prop) (Q : AX → St → Prop) (hK : ∀ s1, s1.keep [2, 3, 5] = spS a b (k + 1) → K s1) : AWP ro Tryz.prog (loopB Tryz.prog 57 0) (AX.next K Q) (spS a b k) := by
  have rwa : ((a.ins.map encPort).length : Int) = (a.ins.length : Int) := by rw [List.length_map]
  have hw := wrap64_succ (k := k) (by omega)
  obtain ⟨h1, h2⟩ := bool_tt h
  have e1 := sl42_pure x.shape y.shape (by have := sx.s; omega) (by have := sy.s; omega)
  rw [h2] at e1
  have gx : (a.ins.map encPort)[(k : Int).toNat]? = some (encPort x) := map_get hx
  have gy : (b.ins.map encPort)[(k : Int).toNat]? = some (encPort y) := map_get hy
  clear h h2 sx sy hx hy
  unfold spS boxG at hK ⊢
  refine crun [] ⟨[2, 3, 5], [], [], none⟩ [(6, .w (DV.p (PD.v (Value.int IntKind.i64 (↑a.ins.length : Int))))), (7, .b true), (18, .el (encPort x)), (20, .el (encPort x)), (24, .el (encPort y)), (26, .el (encPort y)), (27, .b false), (32, .el (encPort x)), (34, .el (encPort x)), (38, .el (encPort y)), (40, .el (encPort y)), (41, .call (AEnd.ret (PD.v (Value.bool true))))] (AX.norm) (St.mk (mkT 95 [(2, DV.loc 0 0), (3, DV.loc 1 0), (5, DV.p (PD.v (Value.int IntKind.i64 (IntKind.i64.wrap ((↑k : Int) + 1)))))]) (Mem.mk [Box.mk 29 [DV.p (PD.v (Value.int IntKind.i64 a.ver)), DV.p (PD.sl (List.map encPort a.ins)), DV.p (PD.sl (List.map encWeight a.ws)), DV.p (PD.sl (List.map encNode a.bn)), DV.p (PD.sl (nums IntKind.i64 a.bo)), DV.p (PD.v (Value.bool a.has)), DV.p (PD.sl (List.map encNode a.vn)), DV.p (PD.sl (nums IntKind.i64 a.vo))] false, Box.mk 29 [DV.p (PD.v (Value.int IntKind.i64 b.ver)), DV.p (PD.sl (List.map encPort b.ins)), DV.p (PD.sl (List.map encWeight b.ws)), DV.p (PD.sl (List.map encNode b.bn)), DV.p (PD.sl (nums IntKind.i64 b.bo)), DV.p (PD.v (Value.bool b.has)), DV.p (PD.sl (List.map encNode b.vn)), DV.p (PD.sl (nums IntKind.i64 b.vo))] false] [] [])) (.c (e1) (.c gy (.c (And.intro gy (nn0 (k))) (.c gx (.c (And.intro gx (nn0 (k))) (.c (nF h1) (.c gy (.c (And.intro gy (nn0 (k))) (.c gx (.c (And.intro gx (nn0 (k))) (.c (dT (show (↑k : Int) < (↑a.ins.length : Int) by omega)) (.c (congrArg (fun z => DV.p (PD.v (Go.Value.int IntKind.i64 z))) rwa) .n)))))))))))) (by kernel_rfl) ?_
  refine hK _ ?_; first | rfl | (simp only [hw]; rfl)
theorem sp_all (a b : GraphM) (hl : a.ins.length = b.ins.length) (hm : a.ins.length ≤ 1073741824) (ha : ∀ x ∈ a.ins, SmPort x) (hb : ∀ x ∈ b.ins, SmPort x) (h : ∀ (i : Nat) (x y : PortM), a.ins[i]? = some x → b.ins[i]? = some y → portE x y = true) : LoopOK Tryz.prog (loopB Tryz.prog 57 0) (spS a b 0) (.exit 0) ⟨mkT 95 [(2, .loc 0 0), (3, .loc 1 0)], ⟨[boxG a, boxG b], [], []⟩⟩ := by
  refine loop_ix [2, 3, 5] (spS a b) a.ins.length (fun _ => True) trivial (fun _ => rfl) ?_
  intro k hk _ ro K Q hQ hK
  by_cases hlt : k < a.ins.length
  · obtain ⟨x, hx, _⟩ := get_of_lt hlt
    obtain ⟨y, hy, _⟩ := get_of_lt (show k < b.ins.length by omega)
    exact sp_round a b k x y hm hlt hx hy (ha x (List.mem_of_getElem? hx)) (hb y (List.mem_of_getElem? hy)) (h k x y hx hy) ro K Q (fun s1 hs => hK s1 hlt hs trivial)
  · obtain rfl : k = a.ins.length := by omega
    have rwa : ((a.ins.map encPort).length : Int) = (a.ins.length : Int) := by rw [List.length_map]
    clear h ha hb
    unfold spS boxG
    unfold boxG at hQ
    refine crun [] ⟨[2, 3], [], [], none⟩ [(6, .w (DV.p (PD.v (Value.int IntKind.i64 (↑a.ins.length : Int))))), (7, .b false)] (AX.exit 0) (St.mk (mkT 95 [(2, DV.loc 0 0), (3, DV.loc 1 0)]) (Mem.mk [Box.mk 29 [DV.p (PD.v (Value.int IntKind.i64 a.ver)), DV.p (PD.sl (List.map encPort a.ins)), DV.p (PD.sl (List.map encWeight a.ws)), DV.p (PD.sl (List.map encNode a.bn)), DV.p (PD.sl (nums IntKind.i64 a.bo)), DV.p (PD.v (Value.bool a.has)), DV.p (PD.sl (List.map encNode a.vn)), DV.p (PD.sl (nums IntKind.i64 a.vo))] false, Box.mk 29 [DV.p (PD.v (Value.int IntKind.i64 b.ver)), DV.p (PD.sl (List.map encPort b.ins)), DV.p (PD.sl (List.map encWeight b.ws)), DV.p (PD.sl (List.map encNode b.bn)), DV.p (PD.sl (nums IntKind.i64 b.bo)), DV.p (PD.v (Value.bool b.has)), DV.p (PD.sl (List.map encNode b.vn)), DV.p (PD.sl (nums IntKind.i64 b.vo))] false] [] [])) (.c (dF (show ¬ (↑a.ins.length : Int) < (↑a.ins.length : Int) by omega)) (.c (congrArg (fun z => DV.p (PD.v (Go.Value.int IntKind.i64 z))) rwa) .n)) (by kernel_rfl) ?_
    exact hQ
set_option maxHeartbeats 2000000 in
theorem sp_diff (a b : GraphM) (hl : a.ins.length = b.ins.length) (hm : a.ins.length ≤ 1073741824) (ha : ∀ x ∈ a.ins, SmPort x) (hb : ∀ x ∈ b.ins, SmPort x) (d : Nat) (u v : PortM) (hd : d < a.ins.length) (hu : a.ins[d]? = some u) (hv : b.ins[d]? = some v) (huv : portE u v = false) (h : ∀ (i : Nat) (x y : PortM), i < d → a.ins[i]? = some x → b.ins[i]? = some y → portE x y = true) : LoopOK Tryz.prog (loopB Tryz.prog 57 0) (spS a b 0) .ret ⟨mkT 95 [(4, .p (boolP false))], ⟨[boxG a, boxG b], [], []⟩⟩ := by
  refine loop_ix [2, 3, 5] (spS a b) d (fun _ => True) trivial (fun _ => rfl) ?_
  intro k hk _ ro K Q hQ hK
  have hlt : k < a.ins.length := by omega
  by_cases hkd : k < d
  · obtain ⟨x, hx, _⟩ := get_of_lt hlt
    obtain ⟨y, hy, _⟩ := get_of_lt (show k < b.ins.length by omega)
    exact sp_round a b k x y hm hlt hx hy (ha x (List.mem_of_getElem? hx)) (hb y (List.mem_of_getElem? hy)) (h k x y hkd hx hy) ro K Q (fun s1 hs => hK s1 hkd hs trivial)
  · obtain rfl : k = d := by omega
    have rwa : ((a.ins.map encPort).length : Int) = (a.ins.length : Int) := by rw [List.length_map]
    have sx := ha u (List.mem_of_getElem? hu)
    have sy := hb v (List.mem_of_getElem? hv)
    have e1 := sl42_pure u.shape v.shape (by have := sx.s; omega) (by have := sy.s; omega)
    have gx : (a.ins.map encPort)[(k : Int).toNat]? = some (encPort u) := map_get hu
    have gy : (b.ins.map encPort)[(k : Int).toNat]? = some (encPort v) := map_get hv
    clear h sx sy ha hb hu hv
    unfold portE at huv
    unfold spS boxG at hK ⊢
    unfold boxG at hQ
    generalize eqL u.shape v.shape = p at *
    cases h1 : (u.name.toList == v.name.toList) with
    | true =>
      rw [h1, Bool.true_and] at huv
      subst huv
      refine crun [] ⟨[4], [], [], none⟩ [(6, .w (DV.p (PD.v (Value.int IntKind.i64 (↑a.ins.length : Int))))), (7, .b true), (18, .el (encPort u)), (20, .el (encPort u)), (24, .el (encPort v)), (26, .el (encPort v)), (27, .b false), (32, .el (encPort u)), (34, .el (encPort u)), (38, .el (encPort v)), (40, .el (encPort v)), (41, .call (AEnd.ret (PD.v (Value.bool false))))] (AX.ret) (St.mk (mkT 95 [(4, DV.p (PD.v (Value.bool false)))]) (Mem.mk [Box.mk 29 [DV.p (PD.v (Value.int IntKind.i64 a.ver)), DV.p (PD.sl (List.map encPort a.ins)), DV.p (PD.sl (List.map encWeight a.ws)), DV.p (PD.sl (List.map encNode a.bn)), DV.p (PD.sl (nums IntKind.i64 a.bo)), DV.p (PD.v (Value.bool a.has)), DV.p (PD.sl (List.map encNode a.vn)), DV.p (PD.sl (nums IntKind.i64 a.vo))] false, Box.mk 29 [DV.p (PD.v (Value.int IntKind.i64 b.ver)), DV.p (PD.sl (List.map encPort b.ins)), DV.p (PD.sl (List.map encWeight b.ws)), DV.p (PD.sl (List.map encNode b.bn)), DV.p (PD.sl (nums IntKind.i64 b.bo)), DV.p (PD.v (Value.bool b.has)), DV.p (PD.sl (List.map encNode b.vn)), DV.p (PD.sl (nums IntKind.i64 b.vo))] false] [] [])) (.c (e1) (.c gy (.c (And.intro gy (nn0 (k))) (.c gx (.c (And.intro gx (nn0 (k))) (.c (nF h1) (.c gy (.c (And.intro gy (nn0 (k))) (.c gx (.c (And.intro gx (nn0 (k))) (.c (dT (show (↑k : Int) < (↑a.ins.length : Int) by omega)) (.c (congrArg (fun z => DV.p (PD.v (Go.Value.int IntKind.i64 z))) rwa) .n)))))))))))) (by kernel_rfl) ?_
      exact hQ
    | false =>
      clear e1
      refine crun [] ⟨[4], [], [], none⟩ [(6, .w (DV.p (PD.v (Value.int IntKind.i64 (↑a.ins.length : Int))))), (7, .b true), (18, .el (encPort u)), (20, .el (encPort u)), (24, .el (encPort v)), (26, .el (encPort v)), (27, .b true)] (AX.ret) (St.mk (mkT 95 [(4, DV.p (PD.v (Value.bool false)))]) (Mem.mk [Box.mk 29 [DV.p (PD.v (Value.int IntKind.i64 a.ver)), DV.p (PD.sl (List.map encPort a.ins)), DV.p (PD.sl (List.map encWeight a.ws)), DV.p (PD.sl (List.map encNode a.bn)), DV.p (PD.sl (nums IntKind.i64 a.bo)), DV.p (PD.v (Value.bool a.has)), DV.p (PD.sl (List.map encNode a.vn)), DV.p (PD.sl (nums IntKind.i64 a.vo))] false, Box.mk 29 [DV.p (PD.v (Value.int IntKind.i64 b.ver)), DV.p (PD.sl (List.map encPort b.ins)), DV.p (PD.sl (List.map encWeight b.ws)), DV.p (PD.sl (List.map encNode b.bn)), DV.p (PD.sl (nums IntKind.i64 b.bo)), DV.p (PD.v (Value.bool b.has)), DV.p (PD.sl (List.map encNode b.vn)), DV.p (PD.sl (nums IntKind.i64 b.vo))] false] [] [])) (.c (nT h1) (.c gy (.c (And.intro gy (nn0 (k))) (.c gx (.c (And.intro gx (nn0 (k))) (.c (dT (show (↑k : Int) < (↑a.ins.length : Int) by omega)) (.c (congrArg (fun z => DV.p (PD.v (Go.Value.int IntKind.i64 z))) rwa) .n))))))) (by kernel_rfl) ?_
      exact hQ
def tenP (w : WeightM) : PD := .agg [intL w.shape, .sl (w.elems.map encRat)]
theorem ten_pure (x y : WeightM) (sx : SmWeight x) (sy : SmWeight y) : Pure Tryz.prog 96 [tenP x, tenP y] (.ret (boolP (eqL x.shape y.shape && eqF ratE x.elems y.elems))) :=
  tsame_pure x.shape y.shape x.elems y.elems sx.s sy.s sx.el sy.el sx.e sy.e
set_option maxHeartbeats 2000000 in
theorem sw_round (a b : GraphM) (k : Nat) (x y : WeightM) (hm : a.ws.length ≤ 1073741824) (hlt : k < a.ws.length) (hx : a.ws[k]? = some x) (hy : b.ws[k]? = some y) (sx : SmWeight x) (sy : SmWeight y) (h : weightE x y = true) (ro : Option Nat) (K : St → Prop) (Q : AX → St → Prop) (hK : ∀ s1, s1.keep [2, 3, 6] = swS a b (k + 1) → K s1) : AWP ro Tryz.prog (loopB Tryz.prog 57 1) (AX.next K Q) (swS a b k) := by
  have rwa : ((a.ws.map encWeight).length : Int) = (a.ws.length : Int) := by rw [List.length_map]
  have hw := wrap64_succ (k := k) (by omega)
  obtain ⟨h1, h2⟩ := bool_tt h
  have e1 := ten_pure x y sx sy
  rw [h2] at e1
  have gx : (a.ws.map encWeight)[(k : Int).toNat]? = some (encWeight x) := map_get hx
  have gy : (b.ws.map encWeight)[(k : Int).toNat]? = some (encWeight y) := map_get hy
  clear h h2 sx sy hx hy
  unfold swS boxG at hK ⊢
  refine crun [] ⟨[2, 3, 6], [], [], none⟩ [(6, .w (DV.p (PD.v (Value.int IntKind.i64 (↑a.ws.length : Int))))), (7, .b true), (18, .el (encWeight x)), (20, .el (encWeight x)), (24, .el (encWeight y)), (26, .el (encWeight y)), (27, .b false), (32, .el (encWeight x)), (34, .el (encWeight x)), (38, .el (encWeight y)), (40, .el (encWeight y)), (41, .call (AEnd.ret (PD.v (Value.bool true))))] (AX.norm) (St.mk (mkT 95 [(2, DV.loc 0 0), (3, DV.loc 1 0), (6, DV.p (PD.v (Value.int IntKind.i64 (IntKind.i64.wrap ((↑k : Int) + 1)))))]) (Mem.mk [Box.mk 29 [DV.p (PD.v (Value.int IntKind.i64 a.ver)), DV.p (PD.sl (List.map encPort a.ins)), DV.p (PD.sl (List.map encWeight a.ws)), DV.p (PD.sl (List.map encNode a.bn)), DV.p (PD.sl (nums IntKind.i64 a.bo)), DV.p (PD.v (Value.bool a.has)), DV.p (PD.sl (List.map encNode a.vn)), DV.p (PD.sl (nums IntKind.i64 a.vo))] false, Box.mk 29 [DV.p (PD.v (Value.int IntKind.i64 b.ver)), DV.p (PD.sl (List.map encPort b.ins)), DV.p (PD.sl (List.map encWeight b.ws)), DV.p (PD.sl (List.map encNode b.bn)), DV.p (PD.sl (nums IntKind.i64 b.bo)), DV.p (PD.v (Value.bool b.has)), DV.p (PD.sl (List.map encNode b.vn)), DV.p (PD.sl (nums IntKind.i64 b.vo))] false] [] [])) (.c (e1) (.c gy (.c (And.intro gy (nn0 (k))) (.c gx (.c (And.intro gx (nn0 (k))) (.c (nF h1) (.c gy (.c (And.intro gy (nn0 (k))) (.c gx (.c (And.intro gx (nn0 (k))) (.c (dT (show (↑k : Int) < (↑a.ws.length : Int) by omega)) (.c (congrArg (fun z => DV.p (PD.v (Go.Value.int IntKind.i64 z))) rwa) .n)))))))))))) (by kernel_rfl) ?_
  refine hK _ ?_; first | rfl | (simp only [hw]; rfl)
theorem sw_all (a b : GraphM) (hl : a.ws.length = b.ws.length) (hm : a.ws.length ≤ 1073741824) (ha : ∀ x ∈ a.ws, SmWeight x) (hb : ∀ x ∈ b.ws, SmWeight x) (h : ∀ (i : Nat) (x y : WeightM), a.ws[i]? = some x → b.ws[i]? = some y → weightE x y = true) : LoopOK Tryz.prog (loopB Tryz.prog 57 1) (swS a b 0) (.exit 2) ⟨mkT 95 [], ⟨[boxG a, boxG b], [], []⟩⟩ := by
  refine loop_ix [2, 3, 6] (swS a b) a.ws.length (fun _ => True) trivial (fun _ => rfl) ?_
  intro k hk _ ro K Q hQ hK
  by_cases hlt : k < a.ws.length
  · obtain ⟨x, hx, _⟩ := get_of_lt hlt
    obtain ⟨y, hy, _⟩ := get_of_lt (show k < b.ws.length by omega)
    exact sw_round a b k x y hm hlt hx hy (ha x (List.mem_of_getElem? hx)) (hb y (List.mem_of_getElem? hy)) (h k x y hx hy) ro K Q (fun s1 hs => hK s1 hlt hs trivial)
  · obtain rfl : k = a.ws.length := by omega
    have rwa : ((a.ws.map encWeight).length : Int) = (a.ws.length : Int) := by rw [List.length_map]
    clear h ha hb
    unfold swS boxG
    unfold boxG at hQ
    refine crun [] ⟨[], [], [], none⟩ [(6, .w (DV.p (PD.v (Value.int IntKind.i64 (↑a.ws.length : Int))))), (7, .b false)] (AX.exit 2) (St.mk (mkT 95 []) (Mem.mk [Box.mk 29 [DV.p (PD.v (Value.int IntKind.i64 a.ver)), DV.p (PD.sl (List.map encPort a.ins)), DV.p (PD.sl (List.map encWeight a.ws)), DV.p (PD.sl (List.map encNode a.bn)), DV.p (PD.sl (nums IntKind.i64 a.bo)), DV.p (PD.v (Value.bool a.has)), DV.p (PD.sl (List.map encNode a.vn)), DV.p (PD.sl (nums IntKind.i64 a.vo))] false, Box.mk 29 [DV.p (PD.v (Value.int IntKind.i64 b.ver)), DV.p (PD.sl (List.map encPort b.ins)), DV.p (PD.sl (List.map encWeight b.ws)), DV.p (PD.sl (List.map encNode b.bn)), DV.p (PD.sl (nums IntKind.i64 b.bo)), DV.p (PD.v (Value.bool b.has)), DV.p (PD.sl (List.map encNode b.vn)), DV.p (PD.sl (nums IntKind.i64 b.vo))] false] [] [])) (.c (dF (show ¬ (↑a.ws.length : Int) < (↑a.ws.length : Int) by omega)) (.c (congrArg (fun z => DV.p (PD.v (Go.Value.int IntKind.i64 z))) rwa) .n)) (by kernel_rfl) ?_
    exact hQ
set_option maxHeartbeats 2000000 in
theorem sw_diff (a b : GraphM) (hl : a.ws.length = b.ws.length) (hm : a.ws.length ≤ 1073741824) (ha : ∀ x ∈ a.ws, SmWeight x) (hb : ∀ x ∈ b.ws, SmWeight x) (d : Nat) (u v : WeightM) (hd : d < a.ws.length) (hu : a.ws[d]? = some u) (hv : b.ws[d]? = some v) (huv : weightE u v = false) (h : ∀ (i : Nat) (x y : WeightM), i < d → a.ws[i]? = some x → b.ws[i]? = some y → weightE x y = true) : LoopOK Tryz.prog (loopB Tryz.prog 57 1) (swS a b 0) .ret ⟨mkT 95 [(4, .p (boolP false))], ⟨[boxG a, boxG b], [], []⟩⟩ := by
  refine loop_ix [2, 3, 6] (swS a b) d (fun _ => True) trivial (fun _ => rfl) ?_
  intro k hk _ ro K Q hQ hK
  have hlt : k < a.ws.length := by omega
  by_cases hkd : k < d
  · obtain ⟨x, hx, _⟩ := get_of_lt hlt
    obtain ⟨y, hy, _⟩ := get_of_lt (show k < b.ws.length by omega)
    exact sw_round a b k x y hm hlt hx hy (ha x (List.mem_of_getElem? hx)) (hb y (List.mem_of_getElem? hy)) (h k x y hkd hx hy) ro K Q (fun s1 hs => hK s1 hkd hs trivial)
  · obtain rfl : k = d := by omega
    have rwa : ((a.ws.map encWeight).length : Int) = (a.ws.length : Int) := by rw [List.length_map]
    have e1 := ten_pure u v (ha u (List.mem_of_getElem? hu)) (hb v (List.mem_of_getElem? hv))
    have gx : (a.ws.map encWeight)[(k : Int).toNat]? = some (encWeight u) := map_get hu
    have gy : (b.ws.map encWeight)[(k : Int).toNat]? = some (encWeight v) := map_get hv
    clear h ha hb hu hv
    unfold weightE at huv
    unfold swS boxG at hK ⊢
    unfold boxG at hQ
    generalize (eqL u.shape v.shape && eqF ratE u.elems v.elems) = p at *
    cases h1 : (u.name.toList == v.name.toList) with
    | true =>
      rw [h1, Bool.true_and] at huv
      subst huv
      refine crun [] ⟨[4], [], [], none⟩ [(6, .w (DV.p (PD.v (Value.int IntKind.i64 (↑a.ws.length : Int))))), (7, .b true), (18, .el (encWeight u)), (20, .el (encWeight u)), (24, .el (encWeight v)), (26, .el (encWeight v)), (27, .b false), (32, .el (encWeight u)), (34, .el (encWeight u)), (38, .el (encWeight v)), (40, .el (encWeight v)), (41, .call (AEnd.ret (PD.v (Value.bool false))))] (AX.ret) (St.mk (mkT 95 [(4, DV.p (PD.v (Value.bool false)))]) (Mem.mk [Box.mk 29 [DV.p (PD.v (Value.int IntKind.i64 a.ver)), DV.p (PD.sl (List.map encPort a.ins)), DV.p (PD.sl (List.map encWeight a.ws)), DV.p (PD.sl (List.map encNode a.bn)), DV.p (PD.sl (nums IntKind.i64 a.bo)), DV.p (PD.v (Value.bool a.has)), DV.p (PD.sl (List.map encNode a.vn)), DV.p (PD.sl (nums IntKind.i64 a.vo))] false, Box.mk 29 [DV.p (PD.v (Value.int IntKind.i64 b.ver)), DV.p (PD.sl (List.map encPort b.ins)), DV.p (PD.sl (List.map encWeight b.ws)), DV.p (PD.sl (List.map encNode b.bn)), DV.p (PD.sl (nums IntKind.i64 b.bo)), DV.p (PD.v (Value.bool b.has)), DV.p (PD.sl (List.map encNode b.vn)), DV.p (PD.sl (nums IntKind.i64 b.vo))] false] [] [])) (.c (e1) (.c gy (.c (And.intro gy (nn0 (k))) (.c gx (.c (And.intro gx (nn0 (k))) (.c (nF h1) (.c gy (.c (And.intro gy (nn0 (k))) (.c gx (.c (And.intro gx (nn0 (k))) (.c (dT (show (↑k : Int) < (↑a.ws.length : Int) by omega)) (.c (congrArg (fun z => DV.p (PD.v (Go.Value.int IntKind.i64 z))) rwa) .n)))))))))))) (by kernel_rfl) ?_
      exact hQ
    | false =>
      clear e1
      refine crun [] ⟨[4], [], [], none⟩ [(6, .w (DV.p (PD.v (Value.int IntKind.i64 (↑a.ws.length : Int))))), (7, .b true), (18, .el (encWeight u)), (20, .el (encWeight u)), (24, .el (encWeight v)), (26, .el (encWeight v)), (27, .b true)] (AX.ret) (St.mk (mkT 95 [(4, DV.p (PD.v (Value.bool false)))]) (Mem.mk [Box.mk 29 [DV.p (PD.v (Value.int IntKind.i64 a.ver)), DV.p (PD.sl (List.map encPort a.ins)), DV.p (PD.sl (List.map encWeight a.ws)), DV.p (PD.sl (List.map encNode a.bn)), DV.p (PD.sl (nums IntKind.i64 a.bo)), DV.p (PD.v (Value.bool a.has)), DV.p (PD.sl (List.map encNode a.vn)), DV.p (PD.sl (nums IntKind.i64 a.vo))] false, Box.mk 29 [DV.p (PD.v (Value.int IntKind.i64 b.ver)), DV.p (PD.sl (List.map encPort b.ins)), DV.p (PD.sl (List.map encWeight b.ws)), DV.p (PD.sl (List.map encNode b.bn)), DV.p (PD.sl (nums IntKind.i64 b.bo)), DV.p (PD.v (Value.bool b.has)), DV.p (PD.sl (List.map encNode b.vn)), DV.p (PD.sl (nums IntKind.i64 b.vo))] false] [] [])) (.c (nT h1) (.c gy (.c (And.intro gy (nn0 (k))) (.c gx (.c (And.intro gx (nn0 (k))) (.c (dT (show (↑k : Int) < (↑a.ws.length : Int) by omega)) (.c (congrArg (fun z => DV.p (PD.v (Go.Value.int IntKind.i64 z))) rwa) .n))))))) (by kernel_rfl) ?_
      exact hQ
set_option maxHeartbeats 2000000 in
theorem sports_pure (a b : GraphM) (ha : SmG a) (hb : SmG b) : Pure Tryz.prog 57 [encG a, encG b] (.ret (boolP (eqF portE a.ins b.ins && eqF weightE a.ws b.ws))) := by
  have rwa : ((a.ins.map encPort).length : Int) = (a.ins.length : Int) := by rw [List.length_map]
  have rwb : ((b.ins.map encPort).length : Int) = (b.ins.length : Int) := by rw [List.length_map]
  have rwc : ((a.ws.map encWeight).length : Int) = (a.ws.length : Int) := by rw [List.length_map]
  have rwd : ((b.ws.map encWeight).length : Int) = (b.ws.length : Int) := by rw [List.length_map]
  have e0 : spS a b 0 = ⟨mkT 95 [(2, .loc 0 0), (3, .loc 1 0), (5, .p (intP 0))], ⟨[boxG a, boxG b], [], []⟩⟩ := rfl
  have f0 : swS a b 0 = ⟨mkT 95 [(2, .loc 0 0), (3, .loc 1 0), (6, .p (intP 0))], ⟨[boxG a, boxG b], [], []⟩⟩ := rfl
  by_cases hl : a.ins.length = b.ins.length
  · by_cases hl2 : a.ws.length = b.ws.length
    · rcases eqF_cases (g := portE) hl with ⟨e, h⟩ | ⟨e, d, u, v, g1, g2, g3, g4, g5⟩
      · have hlo := sp_all a b hl (by have := ha.il; omega) ha.i hb.i h
        rw [e, Bool.true_and]
        rw [e0] at hlo
        rcases eqF_cases (g := weightE) hl2 with ⟨e', h'⟩ | ⟨e', d, u, v, g1, g2, g3, g4, g5⟩
        · have hlo2 := sw_all a b hl2 (by have := ha.wl; omega) ha.w hb.w h'
          rw [e']
          rw [f0] at hlo2
          unfold boxG at hlo hlo2
          clear e0 f0 h h' ha hb
          refine pure_eq (prun [] [(12, .w (DV.p (PD.v (Value.int IntKind.i64 (↑a.ins.length : Int))))), (15, .w (DV.p (PD.v (Value.int IntKind.i64 (↑b.ins.length : Int))))), (16, .b false), (20, .w (DV.p (PD.v (Value.int IntKind.i64 (↑a.ws.length : Int))))), (23, .w (DV.p (PD.v (Value.int IntKind.i64 (↑b.ws.length : Int))))), (24, .b false), (35, .code [2, 3, 5] (AX.exit 0) (St.mk (mkT 95 [(2, DV.loc 0 0), (3, DV.loc 1 0)]) (Mem.mk [Box.mk 29 [DV.p (intP a.ver), DV.p (PD.sl (List.map encPort a.ins)), DV.p (PD.sl (List.map encWeight a.ws)), DV.p (PD.sl (List.map encNode a.bn)), DV.p (intL a.bo), DV.p (boolP a.has), DV.p (PD.sl (List.map encNode a.vn)), DV.p (intL a.vo)] false, Box.mk 29 [DV.p (intP b.ver), DV.p (PD.sl (List.map encPort b.ins)), DV.p (PD.sl (List.map encWeight b.ws)), DV.p (PD.sl (List.map encNode b.bn)), DV.p (intL b.bo), DV.p (boolP b.has), DV.p (PD.sl (List.map encNode b.vn)), DV.p (intL b.vo)] false] [] []))), (42, .code [2, 3, 6] (AX.exit 2) (St.mk (mkT 95 []) (Mem.mk [Box.mk 29 [DV.p (intP a.ver), DV.p (PD.sl (List.map encPort a.ins)), DV.p (PD.sl (List.map encWeight a.ws)), DV.p (PD.sl (List.map encNode a.bn)), DV.p (intL a.bo), DV.p (boolP a.has), DV.p (PD.sl (List.map encNode a.vn)), DV.p (intL a.vo)] false, Box.mk 29 [DV.p (intP b.ver), DV.p (PD.sl (List.map encPort b.ins)), DV.p (PD.sl (List.map encWeight b.ws)), DV.p (PD.sl (List.map encNode b.bn)), DV.p (intL b.bo), DV.p (boolP b.has), DV.p (PD.sl (List.map encNode b.vn)), DV.p (intL b.vo)] false] [] [])))] (e := AEnd.ret (PD.v (Value.bool true))) (.c (hlo2) (.c (hlo) (.c (neF (show (↑a.ws.length : Int) = (↑b.ws.length : Int) by omega)) (.c (congrArg (fun z => DV.p (PD.v (Go.Value.int IntKind.i64 z))) rwd) (.c (congrArg (fun z => DV.p (PD.v (Go.Value.int IntKind.i64 z))) rwc) (.c (neF (show (↑a.ins.length : Int) = (↑b.ins.length : Int) by omega)) (.c (congrArg (fun z => DV.p (PD.v (Go.Value.int IntKind.i64 z))) rwb) (.c (congrArg (fun z => DV.p (PD.v (Go.Value.int IntKind.i64 z))) rwa) .n)))))))) (by kernel_rfl)) ?_
          rfl
        · have hlo2 := sw_diff a b hl2 (by have := ha.wl; omega) ha.w hb.w d u v g1 g2 g3 g4 g5
          rw [e']
          rw [f0] at hlo2
          unfold boxG at hlo hlo2
          clear e0 f0 h g5 ha hb
          refine pure_eq (prun [] [(12, .w (DV.p (PD.v (Value.int IntKind.i64 (↑a.ins.length : Int))))), (15, .w (DV.p (PD.v (Value.int IntKind.i64 (↑b.ins.length : Int))))), (16, .b false), (20, .w (DV.p (PD.v (Value.int IntKind.i64 (↑a.ws.length : Int))))), (23, .w (DV.p (PD.v (Value.int IntKind.i64 (↑b.ws.length : Int))))), (24, .b false), (35, .code [2, 3, 5] (AX.exit 0) (St.mk (mkT 95 [(2, DV.loc 0 0), (3, DV.loc 1 0)]) (Mem.mk [Box.mk 29 [DV.p (intP a.ver), DV.p (PD.sl (List.map encPort a.ins)), DV.p (PD.sl (List.map encWeight a.ws)), DV.p (PD.sl (List.map encNode a.bn)), DV.p (intL a.bo), DV.p (boolP a.has), DV.p (PD.sl (List.map encNode a.vn)), DV.p (intL a.vo)] false, Box.mk 29 [DV.p (intP b.ver), DV.p (PD.sl (List.map encPort b.ins)), DV.p (PD.sl (List.map encWeight b.ws)), DV.p (PD.sl (List.map encNode b.bn)), DV.p (intL b.bo), DV.p (boolP b.has), DV.p (PD.sl (List.map encNode b.vn)), DV.p (intL b.vo)] false] [] []))), (42, .code [2, 3, 6] (AX.ret) (St.mk (mkT 95 [(4, DV.p (boolP false))]) (Mem.mk [Box.mk 29 [DV.p (intP a.ver), DV.p (PD.sl (List.map encPort a.ins)), DV.p (PD.sl (List.map encWeight a.ws)), DV.p (PD.sl (List.map encNode a.bn)), DV.p (intL a.bo), DV.p (boolP a.has), DV.p (PD.sl (List.map encNode a.vn)), DV.p (intL a.vo)] false, Box.mk 29 [DV.p (intP b.ver), DV.p (PD.sl (List.map encPort b.ins)), DV.p (PD.sl (List.map encWeight b.ws)), DV.p (PD.sl (List.map encNode b.bn)), DV.p (intL b.bo), DV.p (boolP b.has), DV.p (PD.sl (List.map encNode b.vn)), DV.p (intL b.vo)] false] [] [])))] (e := AEnd.ret (PD.v (Value.bool false))) (.c (hlo2) (.c (hlo) (.c (neF (show (↑a.ws.length : Int) = (↑b.ws.length : Int) by omega)) (.c (congrArg (fun z => DV.p (PD.v (Go.Value.int IntKind.i64 z))) rwd) (.c (congrArg (fun z => DV.p (PD.v (Go.Value.int IntKind.i64 z))) rwc) (.c (neF (show (↑a.ins.length : Int) = (↑b.ins.length : Int) by omega)) (.c (congrArg (fun z => DV.p (PD.v (Go.Value.int IntKind.i64 z))) rwb) (.c (congrArg (fun z => DV.p (PD.v (Go.Value.int IntKind.i64 z))) rwa) .n)))))))) (by kernel_rfl)) ?_
          rfl
      · have hlo := sp_diff a b hl (by have := ha.il; omega) ha.i hb.i d u v g1 g2 g3 g4 g5
        rw [e, Bool.false_and]
        rw [e0] at hlo
        unfold boxG at hlo
        clear e0 f0 g5 ha hb
        refine pure_eq (prun [] [(12, .w (DV.p (PD.v (Value.int IntKind.i64 (↑a.ins.length : Int))))), (15, .w (DV.p (PD.v (Value.int IntKind.i64 (↑b.ins.length : Int))))), (16, .b false), (20, .w (DV.p (PD.v (Value.int IntKind.i64 (↑a.ws.length : Int))))), (23, .w (DV.p (PD.v (Value.int IntKind.i64 (↑b.ws.length : Int))))), (24, .b false), (35, .code [2, 3, 5] (AX.ret) (St.mk (mkT 95 [(4, DV.p (boolP false))]) (Mem.mk [Box.mk 29 [DV.p (intP a.ver), DV.p (PD.sl (List.map encPort a.ins)), DV.p (PD.sl (List.map encWeight a.ws)), DV.p (PD.sl (List.map encNode a.bn)), DV.p (intL a.bo), DV.p (boolP a.has), DV.p (PD.sl (List.map encNode a.vn)), DV.p (intL a.vo)] false, Box.mk 29 [DV.p (intP b.ver), DV.p (PD.sl (List.map encPort b.ins)), DV.p (PD.sl (List.map encWeight b.ws)), DV.p (PD.sl (List.map encNode b.bn)), DV.p (intL b.bo), DV.p (boolP b.has), DV.p (PD.sl (List.map encNode b.vn)), DV.p (intL b.vo)] false] [] [])))] (e := AEnd.ret (PD.v (Value.bool false))) (.c (hlo) (.c (neF (show (↑a.ws.length : Int) = (↑b.ws.length : Int) by omega)) (.c (congrArg (fun z => DV.p (PD.v (Go.Value.int IntKind.i64 z))) rwd) (.c (congrArg (fun z => DV.p (PD.v (Go.Value.int IntKind.i64 z))) rwc) (.c (neF (show (↑a.ins.length : Int) = (↑b.ins.length : Int) by omega)) (.c (congrArg (fun z => DV.p (PD.v (Go.Value.int IntKind.i64 z))) rwb) (.c (congrArg (fun z => DV.p (PD.v (Go.Value.int IntKind.i64 z))) rwa) .n))))))) (by kernel_rfl)) ?_
        rfl
    · rw [eqF_len hl2, Bool.and_false]
      clear ha hb e0 f0
      refine pure_eq (prun [] [(12, .w (DV.p (PD.v (Value.int IntKind.i64 (↑a.ins.length : Int))))), (15, .w (DV.p (PD.v (Value.int IntKind.i64 (↑b.ins.length : Int))))), (16, .b false), (20, .w (DV.p (PD.v (Value.int IntKind.i64 (↑a.ws.length : Int))))), (23, .w (DV.p (PD.v (Value.int IntKind.i64 (↑b.ws.length : Int))))), (24, .b true)] (e := AEnd.ret (PD.v (Value.bool false))) (.c (neT (show ¬ (↑a.ws.length : Int) = (↑b.ws.length : Int) by omega)) (.c (congrArg (fun z => DV.p (PD.v (Go.Value.int IntKind.i64 z))) rwd) (.c (congrArg (fun z => DV.p (PD.v (Go.Value.int IntKind.i64 z))) rwc) (.c (neF (show (↑a.ins.length : Int) = (↑b.ins.length : Int) by omega)) (.c (congrArg (fun z => DV.p (PD.v (Go.Value.int IntKind.i64 z))) rwb) (.c (congrArg (fun z => DV.p (PD.v (Go.Value.int IntKind.i64 z))) rwa) .n)))))) (by kernel_rfl)) ?_
      rfl
  · rw [eqF_len hl, Bool.false_and]
    clear ha hb e0 f0
    refine pure_eq (prun [] [(12, .w (DV.p (PD.v (Value.int IntKind.i64 (↑a.ins.length : Int))))), (15, .w (DV.p (PD.v (Value.int IntKind.i64 (↑b.ins.length : Int))))), (16, .b true)] (e := AEnd.ret (PD.v (Value.bool false))) (.c (neT (show ¬ (↑a.ins.length : Int) = (↑b.ins.length : Int) by omega)) (.c (congrArg (fun z => DV.p (PD.v (Go.Value.int IntKind.i64 z))) rwb) (.c (congrArg (fun z => DV.p (PD.v (Go.Value.int IntKind.i64 z))) rwa) .n))) (by kernel_rfl)) ?_
    rfl
set_option maxHeartbeats 2000000 in
theorem gsame2_pure (a b : GraphM) (ha : SmG a) (hb : SmG b) : Pure Tryz.prog 31 [encG a, encG b] (.ret (boolP (graphE a b))) := by
  have e2 := sports_pure a b ha hb
  have e3 := sbody2_pure a.bn a.bo b.bn b.bo ha.bl ha.bo hb.bl hb.bo ha.b hb.b
  have e4 := sbody2_pure a.vn a.vo b.vn b.vo ha.vl ha.vo hb.vl hb.vo ha.v hb.v
  have hgE : graphE a b = (decide (a.ver = b.ver) && (decide (a.has = b.has) && ((eqF portE a.ins b.ins && eqF weightE a.ws b.ws) && (bodyE a.bn a.bo b.bn b.bo && bodyE a.vn a.vo b.vn b.vo)))) := by
    unfold graphE; rw [Bool.and_assoc]
  rw [hgE]
  clear ha hb hgE
  obtain ⟨a1, a2, a3, a4, a5, a6, a7, a8⟩ := a
  obtain ⟨b1, b2, b3, b4, b5, b6, b7, b8⟩ := b
  simp only at e2 e3 e4 ⊢
  generalize (eqF portE a2 b2 && eqF weightE a3 b3) = q at *
  generalize bodyE a4 a5 b4 b5 = r at *
  generalize bodyE a7 a8 b7 b8 = s at *
  unfold encG intL at *
  simp only at *
  generalize a2.map encPort = A2 at *
  generalize b2.map encPort = B2 at *
  generalize a3.map encWeight = A3 at *
  generalize b3.map encWeight = B3 at *
  generalize a4.map encNode = A4 at *
  generalize b4.map encNode = B4 at *
  generalize a7.map encNode = A7 at *
  generalize b7.map encNode = B7 at *
  generalize nums .i64 a5 = A5 at *
  generalize nums .i64 b5 = B5 at *
  generalize nums .i64 a8 = A8 at *
  generalize nums .i64 b8 = B8 at *
  by_cases h1 : a1 = b1
  · rw [decide_eq_true h1, Bool.true_and]
    by_cases h2 : a6 = b6
    · rw [decide_eq_true h2, Bool.true_and]
      have hx : id (a6 == b6) = true := by simpa using h2
      cases q with
      | true =>
        rw [Bool.true_and]
        cases r with
        | true =>
          rw [Bool.true_and]
          cases s with
          | true =>
            refine pure_eq (prun [] [(13, .b true), (19, .b true), (24, .call (AEnd.ret (PD.v (Value.bool true)))), (31, .call (AEnd.ret (PD.v (Value.bool true)))), (38, .call (AEnd.ret (PD.v (Value.bool true))))] (e := AEnd.ret (PD.v (Value.bool true))) (.c (e4) (.c (e3) (.c (e2) (.c hx (.c (eT h1) .n))))) (by kernel_rfl)) ?_
            rfl
          | false =>
            refine pure_eq (prun [] [(13, .b true), (19, .b true), (24, .call (AEnd.ret (PD.v (Value.bool true)))), (31, .call (AEnd.ret (PD.v (Value.bool true)))), (38, .call (AEnd.ret (PD.v (Value.bool false))))] (e := AEnd.ret (PD.v (Value.bool false))) (.c (e4) (.c (e3) (.c (e2) (.c hx (.c (eT h1) .n))))) (by kernel_rfl)) ?_
            rfl
        | false =>
          rw [Bool.false_and]
          clear e4
          refine pure_eq (prun [] [(13, .b true), (19, .b true), (24, .call (AEnd.ret (PD.v (Value.bool true)))), (31, .call (AEnd.ret (PD.v (Value.bool false))))] (e := AEnd.ret (PD.v (Value.bool false))) (.c (e3) (.c (e2) (.c hx (.c (eT h1) .n)))) (by kernel_rfl)) ?_
          rfl
      | false =>
        rw [Bool.false_and]
        clear e4 e3
        refine pure_eq (prun [] [(13, .b true), (19, .b true), (24, .call (AEnd.ret (PD.v (Value.bool false))))] (e := AEnd.ret (PD.v (Value.bool false))) (.c (e2) (.c hx (.c (eT h1) .n))) (by kernel_rfl)) ?_
        rfl
    · rw [decide_eq_false h2, Bool.false_and]
      have hx : id (a6 == b6) = false := by simpa using h2
      clear e2 e3 e4
      refine pure_eq (prun [] [(13, .b true), (19, .b false)] (e := AEnd.ret (PD.v (Value.bool false))) (.c hx (.c (eT h1) .n)) (by kernel_rfl)) ?_
      rfl
  · rw [decide_eq_false h1, Bool.false_and]
    clear e2 e3 e4
    refine pure_eq (prun [] [(13, .b false)] (e := AEnd.ret (PD.v (Value.bool false))) (.c (eF h1) .n) (by kernel_rfl)) ?_
    rfl
end Go.Proofs.YtikfefjaeejeeaaGreatDoor
/- Walks: in memory of one's own. -/
namespace Go.Proofs.YtikfefjaeejeeaaGreatDoor
open Go.RowKit
set_option maxRecDepth 100000
theorem nown_pure (l : List Int) (hl : l.length ≤ 1073741824) : Pure Tryz.prog 102 [natL l] (.ret (natL l)) := by
  have hs := nums_sized .u32 l
  have hn : (nums .u32 l).length ≤ 1073741824 := by rw [nums_length]; exact hl
  unfold natL
  generalize nums .u32 l = L at *
  refine pure_eq (prun [] [(8, .m)] (e := AEnd.ret (PD.sl L)) (.c (show AppN (1 : Nat) (4 : Nat) L by exact ⟨by first | assumption | exact nums_sized _ _ | simp [sized_nil, sized_one, sized_append, sized_map, nums_sized, nums_append], by first | omega | (simp <;> omega), by first | omega | (simp <;> omega)⟩) .n) (by kernel_rfl)) ?_
  rfl
theorem rown_pure (r : RatM) (h1 : r.num.length ≤ 1073741824) (h2 : r.den.length ≤ 1073741824) : Pure Tryz.prog 67 [encRat r] (.ret (encRat r)) := by
  have e1 := nown_pure r.num h1
  have e2 := nown_pure r.den h2
  obtain ⟨x, n, d⟩ := r
  unfold encRat natL at *
  simp only at *
  generalize nums .u32 n = N at *
  generalize nums .u32 d = D at *
  refine pure_eq (prun [] [(12, .call (AEnd.ret (PD.sl N))), (15, .call (AEnd.ret (PD.sl D)))] (e := AEnd.ret (PD.agg [PD.v (Value.bool x), PD.sl N, PD.sl D])) (.c (e2) (.c (e1) .n)) (by kernel_rfl)) ?_
  rfl
def toM (sh : List Int) (rs : List RatM) (k : Nat) : Mem := ⟨[boxT sh rs, ⟨65, [.p (.v (.slice none 0 0)), .p (.v (.slice none 0 0))], false⟩, ⟨65, [.p (intL sh), rowC k ((rs.take k).map encRat)], false⟩], tokC 84 3 k, []⟩
def toS (sh : List Int) (rs : List RatM) (k : Nat) : St := ⟨mkT 28 [(1, .loc 0 0), (2, .loc 1 0), (3, .loc 2 0), (4, .p (intP (k : Nat)))], toM sh rs k⟩
theorem to_loop (sh : List Int) (rs : List RatM) (hl : rs.length ≤ 1073741824) (hr : ∀ r ∈ rs, r.num.length ≤ 1073741824 ∧ r.den.length ≤ 1073741824) : LoopOK Tryz.prog (loopB Tryz.prog 35 0) (toS sh rs 0) (.exit 0) ⟨mkT 28 [(2, .loc 1 0), (3, .loc 2 0)], toM sh rs rs.length⟩ := by
  refine loop_ix [1, 2, 3, 4] (toS sh rs) rs.length (fun _ => True) trivial (fun _ => rfl) ?_
  intro k hk _ ro K Q hQ hK
  have rwa : ((rs.map encRat).length : Int) = (rs.length : Int) := by rw [List.length_map]
  by_cases hlt : k < rs.length
  · obtain ⟨n, hx0, hd⟩ := get_of_lt hlt
    have gx : (rs.map encRat)[(k : Int).toNat]? = some (encRat n) := map_get hx0
    have hw := wrap64_succ (k := k) (by omega)
    obtain ⟨b1, b2⟩ := hr n (List.mem_of_getElem? hx0)
    have sn : sized 3 [encRat n] := sized_one rfl
    have c1 := rown_pure n b1 b2
    have hts := take_snoc hx0
    by_cases h0 : k = 0
    · subst h0
      have s0 := sized_nil 3
      unfold toS toM rowC tokC boxT
      refine crun [] ⟨[1, 2, 3, 4], [], [], (some (3, 1, 0))⟩ [(6, .w (DV.p (PD.v (Value.int IntKind.i64 (↑rs.length : Int))))), (7, .b true), (19, .el (encRat n)), (20, .el (encRat n)), (21, .call (AEnd.ret (PD.agg [PD.v (Value.bool n.neg), PD.sl (nums IntKind.u32 n.num), PD.sl (nums IntKind.u32 n.den)])))] (AX.norm) (St.mk (mkT 28 [(1, DV.loc 0 0), (2, DV.loc 1 0), (3, DV.loc 2 0), (4, DV.p (PD.v (Value.int IntKind.i64 1)))]) (Mem.mk [Box.mk 65 [DV.p (PD.sl (nums IntKind.i64 sh)), DV.p (PD.sl (List.map encRat rs))] false, Box.mk 65 [DV.p (PD.v (Value.slice none 0 0)), DV.p (PD.v (Value.slice none 0 0))] false, Box.mk 65 [DV.p (PD.sl (nums IntKind.i64 sh)), DV.row 0 [PD.agg [PD.v (Value.bool n.neg), PD.sl (nums IntKind.u32 n.num), PD.sl (nums IntKind.u32 n.den)]]] false] [some (84, 3, 1)] [])) (.c (@rfl DV (DV.p (PD.v (Value.slice none 0 0)))) (.c (c1) (.c gx (.c (And.intro gx (show (0 : Int) ≤ 0 by omega)) (.c (dT (show (0 : Int) < (↑rs.length : Int) by omega)) (.c (congrArg (fun z => DV.p (PD.v (Go.Value.int IntKind.i64 z))) rwa) .n)))))) (by kernel_rfl) ?_
      exact hK _ hlt (by unfold toS toM rowC tokC boxT; simp only [hw, hts]; rfl) trivial
    · have hl2 : ((rs.take k).map encRat).length = k := by simp; omega
      have s0 : sized 3 ((rs.take k).map encRat) := sized_map fun _ => rfl
      have e1 := rowC_pos h0
      have e2 := tokC_pos h0
      have e3 : toS sh rs (k + 1) = ⟨mkT 28 [(1, .loc 0 0), (2, .loc 1 0), (3, .loc 2 0), (4, .p (intP (k + 1 : Nat)))], ⟨[boxT sh rs, ⟨65, [.p (.v (.slice none 0 0)), .p (.v (.slice none 0 0))], false⟩, ⟨65, [.p (intL sh), .row 0 ((rs.take k).map encRat ++ [encRat n])], false⟩], [some (84, 3, ((rs.take k).map encRat).length + 1)], []⟩⟩ := by
        unfold toS toM rowC tokC
        rw [hts, hl2, List.map_append]
        rfl
      rw [e3] at hK
      clear e3 hts
      unfold toS toM boxT
      unfold boxT at hK
      rw [e1, e2]
      clear e1 e2
      generalize (rs.take k).map encRat = L at hl2 s0 hK ⊢
      subst hl2
      refine crun [] ⟨[1, 2, 3, 4], [], [], (some (3, 1, 0))⟩ [(6, .w (DV.p (PD.v (Value.int IntKind.i64 (↑rs.length : Int))))), (7, .b true), (19, .el (encRat n)), (20, .el (encRat n)), (21, .call (AEnd.ret (PD.agg [PD.v (Value.bool n.neg), PD.sl (nums IntKind.u32 n.num), PD.sl (nums IntKind.u32 n.den)]))), (23, .m)] (AX.norm) (St.mk (mkT 28 [(1, DV.loc 0 0), (2, DV.loc 1 0), (3, DV.loc 2 0), (4, DV.p (PD.v (Value.int IntKind.i64 (IntKind.i64.wrap ((↑L.length : Int) + 1)))))]) (Mem.mk [Box.mk 65 [DV.p (PD.sl (nums IntKind.i64 sh)), DV.p (PD.sl (List.map encRat rs))] false, Box.mk 65 [DV.p (PD.v (Value.slice none 0 0)), DV.p (PD.v (Value.slice none 0 0))] false, Box.mk 65 [DV.p (PD.sl (nums IntKind.i64 sh)), DV.row 0 (L ++ [PD.agg [PD.v (Value.bool n.neg), PD.sl (nums IntKind.u32 n.num), PD.sl (nums IntKind.u32 n.den)]])] false] [some (84, 3, L.length + [PD.agg [PD.v (Value.bool n.neg), PD.sl (nums IntKind.u32 n.num), PD.sl (nums IntKind.u32 n.den)]].length)] [])) (.c (show AppOK (3 : Nat) (56 : Nat) L.length L [PD.agg [PD.v (Value.bool n.neg), PD.sl (nums IntKind.u32 n.num), PD.sl (nums IntKind.u32 n.den)]] by exact ⟨by first | rfl | omega | (simp; done) | (simp; omega), by first | assumption | exact nums_sized _ _ | simp [sized_nil, sized_one, sized_append, sized_map, nums_sized, nums_append], by first | assumption | exact nums_sized _ _ | simp [sized_nil, sized_one, sized_append, sized_map, nums_sized, nums_append], by first | omega | (simp <;> omega), by first | omega | (simp <;> omega)⟩) (.c (@rfl DV (DV.row 0 L)) (.c (c1) (.c gx (.c (And.intro gx (nn0 (L.length))) (.c (dT (show (↑L.length : Int) < (↑rs.length : Int) by omega)) (.c (congrArg (fun z => DV.p (PD.v (Go.Value.int IntKind.i64 z))) rwa) .n))))))) (by kernel_rfl) ?_
      exact hK _ hlt (by simp only [hw]; rfl) trivial
  · obtain rfl : k = rs.length := by omega
    clear hr
    unfold toS toM boxT
    unfold toM boxT at hQ
    by_cases h0 : rs.length = 0
    · have e1 : ∀ L, rowC rs.length L = .p (.v (.slice none 0 0)) := fun L => by rw [h0]; rfl
      have e2 : tokC 84 3 rs.length = [] := by rw [h0]; rfl
      rw [e1, e2] at hQ ⊢
      refine crun [] ⟨[2, 3], [], [], none⟩ [(6, .w (DV.p (PD.v (Value.int IntKind.i64 (↑rs.length : Int))))), (7, .b false)] (AX.exit 0) (St.mk (mkT 28 [(2, DV.loc 1 0), (3, DV.loc 2 0)]) (Mem.mk [Box.mk 65 [DV.p (PD.sl (nums IntKind.i64 sh)), DV.p (PD.sl (List.map encRat rs))] false, Box.mk 65 [DV.p (PD.v (Value.slice none 0 0)), DV.p (PD.v (Value.slice none 0 0))] false, Box.mk 65 [DV.p (PD.sl (nums IntKind.i64 sh)), DV.p (PD.v (Value.slice none 0 0))] false] [] [])) (.c (dF (show ¬ (↑rs.length : Int) < (↑rs.length : Int) by omega)) (.c (congrArg (fun z => DV.p (PD.v (Go.Value.int IntKind.i64 z))) rwa) .n)) (by kernel_rfl) ?_
      exact hQ
    · rw [rowC_pos h0, tokC_pos h0] at hQ ⊢
      refine crun [] ⟨[2, 3], [], [], none⟩ [(6, .w (DV.p (PD.v (Value.int IntKind.i64 (↑rs.length : Int))))), (7, .b false)] (AX.exit 0) (St.mk (mkT 28 [(2, DV.loc 1 0), (3, DV.loc 2 0)]) (Mem.mk [Box.mk 65 [DV.p (PD.sl (nums IntKind.i64 sh)), DV.p (PD.sl (List.map encRat rs))] false, Box.mk 65 [DV.p (PD.v (Value.slice none 0 0)), DV.p (PD.v (Value.slice none 0 0))] false, Box.mk 65 [DV.p (PD.sl (nums IntKind.i64 sh)), DV.row 0 (List.map encRat (List.take rs.length rs))] false] [some (84, 3, rs.length)] [])) (.c (dF (show ¬ (↑rs.length : Int) < (↑rs.length : Int) by omega)) (.c (congrArg (fun z => DV.p (PD.v (Go.Value.int IntKind.i64 z))) rwa) .n)) (by kernel_rfl) ?_
      exact hQ
theorem town_pure (sh : List Int) (rs : List RatM) (hs : sh.length ≤ 1073741824) (hl : rs.length ≤ 1073741824) (hr : ∀ r ∈ rs, r.num.length ≤ 1073741824 ∧ r.den.length ≤ 1073741824) : Pure Tryz.prog 35 [.agg [intL sh, .sl (rs.map encRat)]] (.ret (.agg [intL sh, .sl (rs.map encRat)])) := by
  have hlo := to_loop sh rs hl hr
  have hss := nums_sized .i64 sh
  have hsn : (nums .i64 sh).length ≤ 1073741824 := by rw [nums_length]; exact hs
  have ht : rs.take rs.length = rs := List.take_length
  have e0 : toS sh rs 0 = ⟨mkT 28 [(1, .loc 0 0), (2, .loc 1 0), (3, .loc 2 0), (4, .p (intP 0))], ⟨[boxT sh rs, ⟨65, [.p (.v (.slice none 0 0)), .p (.v (.slice none 0 0))], false⟩, ⟨65, [.p (intL sh), .p (.v (.slice none 0 0))], false⟩], [], []⟩⟩ := rfl
  rw [e0] at hlo
  unfold toM boxT at hlo
  rw [ht] at hlo
  clear e0 ht hr
  unfold intL at *
  generalize nums .i64 sh = SH at *
  by_cases h0 : rs.length = 0
  · have e1 : ∀ L, rowC rs.length L = .p (.v (.slice none 0 0)) := fun L => by rw [h0]; rfl
    have e2 : tokC 84 3 rs.length = [] := by rw [h0]; rfl
    rw [e1, e2] at hlo
    refine pure_eq (prun [] [(10, .m), (21, .code [1, 2, 3, 4] (AX.exit 0) (St.mk (mkT 28 [(2, DV.loc 1 0), (3, DV.loc 2 0)]) (Mem.mk [Box.mk 65 [DV.p (PD.sl SH), DV.p (PD.sl (List.map encRat rs))] false, Box.mk 65 [DV.p (PD.v (Value.slice none 0 0)), DV.p (PD.v (Value.slice none 0 0))] false, Box.mk 65 [DV.p (PD.sl SH), DV.p (PD.v (Value.slice none 0 0))] false] [] [])))] (e := AEnd.ret (PD.agg [PD.sl SH, PD.sl []])) (.c (hlo) (.c (show AppN (1 : Nat) (8 : Nat) SH by exact ⟨by first | assumption | exact nums_sized _ _ | simp [sized_nil, sized_one, sized_append, sized_map, nums_sized, nums_append], by first | omega | (simp <;> omega), by first | omega | (simp <;> omega)⟩) .n)) (by kernel_rfl)) ?_
    obtain rfl : rs = [] := List.length_eq_zero_iff.1 h0; rfl
  · rw [rowC_pos h0, tokC_pos h0] at hlo
    refine pure_eq (prun [] [(10, .m), (21, .code [1, 2, 3, 4] (AX.exit 0) (St.mk (mkT 28 [(2, DV.loc 1 0), (3, DV.loc 2 0)]) (Mem.mk [Box.mk 65 [DV.p (PD.sl SH), DV.p (PD.sl (List.map encRat rs))] false, Box.mk 65 [DV.p (PD.v (Value.slice none 0 0)), DV.p (PD.v (Value.slice none 0 0))] false, Box.mk 65 [DV.p (PD.sl SH), DV.row 0 (List.map encRat rs)] false] [some (84, 3, rs.length)] [])))] (e := AEnd.ret (PD.agg [PD.sl SH, PD.sl (List.map encRat rs)])) (.c (hlo) (.c (show AppN (1 : Nat) (8 : Nat) SH by exact ⟨by first | assumption | exact nums_sized _ _ | simp [sized_nil, sized_one, sized_append, sized_map, nums_sized, nums_append], by first | omega | (simp <;> omega), by first | omega | (simp <;> omega)⟩) .n)) (by kernel_rfl)) ?_
    rfl
def obM (ns : List NodeM) (os : List Int) (k : Nat) : Mem := ⟨[boxB ns os, ⟨27, [.p (.v (.slice none 0 0)), .p (.v (.slice none 0 0))], false⟩, ⟨27, [rowC k ((ns.take k).map encNode), .p (intL os)], false⟩], tokC 48 3 k, []⟩
def obS (ns : List NodeM) (os : List Int) (k : Nat) : St := ⟨mkT 37 [(1, .loc 0 0), (2, .loc 1 0), (3, .loc 2 0), (4, .p (intP (k : Nat)))], obM ns os k⟩
theorem ob_loop (ns : List NodeM) (os : List Int) (hl : ns.length ≤ 1073741824) (hr : ∀ n ∈ ns, n.args.length ≤ 1073741824 ∧ n.attrs.length ≤ 1073741824) : LoopOK Tryz.prog (loopB Tryz.prog 34 0) (obS ns os 0) (.exit 0) ⟨mkT 37 [(2, .loc 1 0), (3, .loc 2 0)], obM ns os ns.length⟩ := by
  refine loop_ix [1, 2, 3, 4] (obS ns os) ns.length (fun _ => True) trivial (fun _ => rfl) ?_
  intro k hk _ ro K Q hQ hK
  have rwa : ((ns.map encNode).length : Int) = (ns.length : Int) := by rw [List.length_map]
  by_cases hlt : k < ns.length
  · obtain ⟨n, hx0, hd⟩ := get_of_lt hlt
    have gx : (ns.map encNode)[(k : Int).toNat]? = some (encNode n) := map_get hx0
    have hw := wrap64_succ (k := k) (by omega)
    obtain ⟨b1, b2⟩ := hr n (List.mem_of_getElem? hx0)
    have sn : sized 3 [encNode n] := sized_one rfl
    have sa := nums_sized .i64 n.args
    have st := nums_sized .i64 n.attrs
    have la : (nums .i64 n.args).length ≤ 1073741824 := by rw [nums_length]; exact b1
    have lt : (nums .i64 n.attrs).length ≤ 1073741824 := by rw [nums_length]; exact b2
    have hts := take_snoc hx0
    by_cases h0 : k = 0
    · subst h0
      have s0 := sized_nil 3
      unfold obS obM rowC tokC boxB
      refine crun [] ⟨[1, 2, 3, 4], [], [], (some (3, 1, 0))⟩ [(6, .w (DV.p (PD.v (Value.int IntKind.i64 (↑ns.length : Int))))), (7, .b true), (18, .el (encNode n)), (19, .el (encNode n)), (30, .m), (33, .m)] (AX.norm) (St.mk (mkT 37 [(1, DV.loc 0 0), (2, DV.loc 1 0), (3, DV.loc 2 0), (4, DV.p (PD.v (Value.int IntKind.i64 1)))]) (Mem.mk [Box.mk 27 [DV.p (PD.sl (List.map encNode ns)), DV.p (PD.sl (nums IntKind.i64 os))] false, Box.mk 27 [DV.p (PD.v (Value.slice none 0 0)), DV.p (PD.v (Value.slice none 0 0))] false, Box.mk 27 [DV.row 0 [PD.agg [PD.v (Value.int IntKind.i64 n.op), PD.sl (nums IntKind.i64 n.args), PD.sl (nums IntKind.i64 n.attrs)]], DV.p (PD.sl (nums IntKind.i64 os))] false] [some (48, 3, 1)] [])) (.c (@rfl DV (DV.p (PD.v (Value.slice none 0 0)))) (.c (show AppN (1 : Nat) (8 : Nat) (nums IntKind.i64 n.attrs) by exact ⟨by first | assumption | exact nums_sized _ _ | simp [sized_nil, sized_one, sized_append, sized_map, nums_sized, nums_append], by first | omega | (simp <;> omega), by first | omega | (simp <;> omega)⟩) (.c (show AppN (1 : Nat) (8 : Nat) (nums IntKind.i64 n.args) by exact ⟨by first | assumption | exact nums_sized _ _ | simp [sized_nil, sized_one, sized_append, sized_map, nums_sized, nums_append], by first | omega | (simp <;> omega), by first | omega | (simp <;> omega)⟩) (.c gx (.c (And.intro gx (show (0 : Int) ≤ 0 by omega)) (.c (dT (show (0 : Int) < (↑ns.length : Int) by omega)) (.c (congrArg (fun z => DV.p (PD.v (Go.Value.int IntKind.i64 z))) rwa) .n))))))) (by kernel_rfl) ?_
      exact hK _ hlt (by unfold obS obM rowC tokC boxB; simp only [hw, hts]; rfl) trivial
    · have hl2 : ((ns.take k).map encNode).length = k := by simp; omega
      have s0 : sized 3 ((ns.take k).map encNode) := sized_map fun _ => rfl
      have e1 := rowC_pos h0
      have e2 := tokC_pos h0
      have e3 : obS ns os (k + 1) = ⟨mkT 37 [(1, .loc 0 0), (2, .loc 1 0), (3, .loc 2 0), (4, .p (intP (k + 1 : Nat)))], ⟨[boxB ns os, ⟨27, [.p (.v (.slice none 0 0)), .p (.v (.slice none 0 0))], false⟩, ⟨27, [.row 0 ((ns.take k).map encNode ++ [encNode n]), .p (intL os)], false⟩], [some (48, 3, ((ns.take k).map encNode).length + 1)], []⟩⟩ := by
        unfold obS obM rowC tokC
        rw [hts, hl2, List.map_append]
        rfl
      rw [e3] at hK
      clear e3 hts
      unfold obS obM boxB
      unfold boxB at hK
      rw [e1, e2]
      clear e1 e2
      generalize (ns.take k).map encNode = L at hl2 s0 hK ⊢
      subst hl2
      refine crun [] ⟨[1, 2, 3, 4], [], [], (some (3, 1, 0))⟩ [(6, .w (DV.p (PD.v (Value.int IntKind.i64 (↑ns.length : Int))))), (7, .b true), (18, .el (encNode n)), (19, .el (encNode n)), (30, .m), (33, .m), (36, .m)] (AX.norm) (St.mk (mkT 37 [(1, DV.loc 0 0), (2, DV.loc 1 0), (3, DV.loc 2 0), (4, DV.p (PD.v (Value.int IntKind.i64 (IntKind.i64.wrap ((↑L.length : Int) + 1)))))]) (Mem.mk [Box.mk 27 [DV.p (PD.sl (List.map encNode ns)), DV.p (PD.sl (nums IntKind.i64 os))] false, Box.mk 27 [DV.p (PD.v (Value.slice none 0 0)), DV.p (PD.v (Value.slice none 0 0))] false, Box.mk 27 [DV.row 0 (L ++ [PD.agg [PD.v (Value.int IntKind.i64 n.op), PD.sl (nums IntKind.i64 n.args), PD.sl (nums IntKind.i64 n.attrs)]]), DV.p (PD.sl (nums IntKind.i64 os))] false] [some (48, 3, L.length + [PD.agg [PD.v (Value.int IntKind.i64 n.op), PD.sl (nums IntKind.i64 n.args), PD.sl (nums IntKind.i64 n.attrs)]].length)] [])) (.c (show AppOK (3 : Nat) (56 : Nat) L.length L [PD.agg [PD.v (Value.int IntKind.i64 n.op), PD.sl (nums IntKind.i64 n.args), PD.sl (nums IntKind.i64 n.attrs)]] by exact ⟨by first | rfl | omega | (simp; done) | (simp; omega), by first | assumption | exact nums_sized _ _ | simp [sized_nil, sized_one, sized_append, sized_map, nums_sized, nums_append], by first | assumption | exact nums_sized _ _ | simp [sized_nil, sized_one, sized_append, sized_map, nums_sized, nums_append], by first | omega | (simp <;> omega), by first | omega | (simp <;> omega)⟩) (.c (@rfl DV (DV.row 0 L)) (.c (show AppN (1 : Nat) (8 : Nat) (nums IntKind.i64 n.attrs) by exact ⟨by first | assumption | exact nums_sized _ _ | simp [sized_nil, sized_one, sized_append, sized_map, nums_sized, nums_append], by first | omega | (simp <;> omega), by first | omega | (simp <;> omega)⟩) (.c (show AppN (1 : Nat) (8 : Nat) (nums IntKind.i64 n.args) by exact ⟨by first | assumption | exact nums_sized _ _ | simp [sized_nil, sized_one, sized_append, sized_map, nums_sized, nums_append], by first | omega | (simp <;> omega), by first | omega | (simp <;> omega)⟩) (.c gx (.c (And.intro gx (nn0 (L.length))) (.c (dT (show (↑L.length : Int) < (↑ns.length : Int) by omega)) (.c (congrArg (fun z => DV.p (PD.v (Go.Value.int IntKind.i64 z))) rwa) .n)))))))) (by kernel_rfl) ?_
      exact hK _ hlt (by simp only [hw]; rfl) trivial
  · obtain rfl : k = ns.length := by omega
    clear hr
    unfold obS obM boxB
    unfold obM boxB at hQ
    by_cases h0 : ns.length = 0
    · have e1 : ∀ L, rowC ns.length L = .p (.v (.slice none 0 0)) := fun L => by rw [h0]; rfl
      have e2 : tokC 48 3 ns.length = [] := by rw [h0]; rfl
      rw [e1, e2] at hQ ⊢
      refine crun [] ⟨[2, 3], [], [], none⟩ [(6, .w (DV.p (PD.v (Value.int IntKind.i64 (↑ns.length : Int))))), (7, .b false)] (AX.exit 0) (St.mk (mkT 37 [(2, DV.loc 1 0), (3, DV.loc 2 0)]) (Mem.mk [Box.mk 27 [DV.p (PD.sl (List.map encNode ns)), DV.p (PD.sl (nums IntKind.i64 os))] false, Box.mk 27 [DV.p (PD.v (Value.slice none 0 0)), DV.p (PD.v (Value.slice none 0 0))] false, Box.mk 27 [DV.p (PD.v (Value.slice none 0 0)), DV.p (PD.sl (nums IntKind.i64 os))] false] [] [])) (.c (dF (show ¬ (↑ns.length : Int) < (↑ns.length : Int) by omega)) (.c (congrArg (fun z => DV.p (PD.v (Go.Value.int IntKind.i64 z))) rwa) .n)) (by kernel_rfl) ?_
      exact hQ
    · rw [rowC_pos h0, tokC_pos h0] at hQ ⊢
      refine crun [] ⟨[2, 3], [], [], none⟩ [(6, .w (DV.p (PD.v (Value.int IntKind.i64 (↑ns.length : Int))))), (7, .b false)] (AX.exit 0) (St.mk (mkT 37 [(2, DV.loc 1 0), (3, DV.loc 2 0)]) (Mem.mk [Box.mk 27 [DV.p (PD.sl (List.map encNode ns)), DV.p (PD.sl (nums IntKind.i64 os))] false, Box.mk 27 [DV.p (PD.v (Value.slice none 0 0)), DV.p (PD.v (Value.slice none 0 0))] false, Box.mk 27 [DV.row 0 (List.map encNode (List.take ns.length ns)), DV.p (PD.sl (nums IntKind.i64 os))] false] [some (48, 3, ns.length)] [])) (.c (dF (show ¬ (↑ns.length : Int) < (↑ns.length : Int) by omega)) (.c (congrArg (fun z => DV.p (PD.v (Go.Value.int IntKind.i64 z))) rwa) .n)) (by kernel_rfl) ?_
      exact hQ
theorem ownBody_pure (ns : List NodeM) (os : List Int) (hl : ns.length ≤ 1073741824) (ho : os.length ≤ 1073741824) (hr : ∀ n ∈ ns, n.args.length ≤ 1073741824 ∧ n.attrs.length ≤ 1073741824) : Pure Tryz.prog 34 [.agg [.sl (ns.map encNode), intL os]] (.ret (.agg [.sl (ns.map encNode), intL os])) := by
  have hlo := ob_loop ns os hl hr
  have hss := nums_sized .i64 os
  have hsn : (nums .i64 os).length ≤ 1073741824 := by rw [nums_length]; exact ho
  have ht : ns.take ns.length = ns := List.take_length
  have e0 : obS ns os 0 = ⟨mkT 37 [(1, .loc 0 0), (2, .loc 1 0), (3, .loc 2 0), (4, .p (intP 0))], ⟨[boxB ns os, ⟨27, [.p (.v (.slice none 0 0)), .p (.v (.slice none 0 0))], false⟩, ⟨27, [.p (.v (.slice none 0 0)), .p (intL os)], false⟩], [], []⟩⟩ := rfl
  rw [e0] at hlo
  unfold obM boxB at hlo
  rw [ht] at hlo
  clear e0 ht hr
  unfold intL at *
  generalize nums .i64 os = SH at *
  by_cases h0 : ns.length = 0
  · have e1 : ∀ L, rowC ns.length L = .p (.v (.slice none 0 0)) := fun L => by rw [h0]; rfl
    have e2 : tokC 48 3 ns.length = [] := by rw [h0]; rfl
    rw [e1, e2] at hlo
    refine pure_eq (prun [] [(10, .m), (21, .code [1, 2, 3, 4] (AX.exit 0) (St.mk (mkT 37 [(2, DV.loc 1 0), (3, DV.loc 2 0)]) (Mem.mk [Box.mk 27 [DV.p (PD.sl (List.map encNode ns)), DV.p (PD.sl SH)] false, Box.mk 27 [DV.p (PD.v (Value.slice none 0 0)), DV.p (PD.v (Value.slice none 0 0))] false, Box.mk 27 [DV.p (PD.v (Value.slice none 0 0)), DV.p (PD.sl SH)] false] [] [])))] (e := AEnd.ret (PD.agg [PD.sl [], PD.sl SH])) (.c (hlo) (.c (show AppN (1 : Nat) (8 : Nat) SH by exact ⟨by first | assumption | exact nums_sized _ _ | simp [sized_nil, sized_one, sized_append, sized_map, nums_sized, nums_append], by first | omega | (simp <;> omega), by first | omega | (simp <;> omega)⟩) .n)) (by kernel_rfl)) ?_
    obtain rfl : ns = [] := List.length_eq_zero_iff.1 h0; rfl
  · rw [rowC_pos h0, tokC_pos h0] at hlo
    refine pure_eq (prun [] [(10, .m), (21, .code [1, 2, 3, 4] (AX.exit 0) (St.mk (mkT 37 [(2, DV.loc 1 0), (3, DV.loc 2 0)]) (Mem.mk [Box.mk 27 [DV.p (PD.sl (List.map encNode ns)), DV.p (PD.sl SH)] false, Box.mk 27 [DV.p (PD.v (Value.slice none 0 0)), DV.p (PD.v (Value.slice none 0 0))] false, Box.mk 27 [DV.row 0 (List.map encNode ns), DV.p (PD.sl SH)] false] [some (48, 3, ns.length)] [])))] (e := AEnd.ret (PD.agg [PD.sl (List.map encNode ns), PD.sl SH])) (.c (hlo) (.c (show AppN (1 : Nat) (8 : Nat) SH by exact ⟨by first | assumption | exact nums_sized _ _ | simp [sized_nil, sized_one, sized_append, sized_map, nums_sized, nums_append], by first | omega | (simp <;> omega), by first | omega | (simp <;> omega)⟩) .n)) (by kernel_rfl)) ?_
    rfl
end Go.Proofs.YtikfefjaeejeeaaGreatDoor
