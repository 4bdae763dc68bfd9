/- Walks and laws, laid together: WfB TMath WeA WeB WeC WeD. -/
import Derived.Test.YtikfefjaeejeeaaGreatDoorMa1
import Derived.WalkKit
/- Walks: lists held against one another: structs. -/
namespace Go.Proofs.YtikfefjaeejeeaaGreatDoor
open Go.RowKit
set_option maxRecDepth 100000
def efRS (a b : List RatM) (k : Nat) : St := ⟨mkT 32 [(0, .p (.sl (a.map encRat))), (1, .p (.sl (b.map encRat))), (2, .p (fnP 63)), (15, .p (.sl (a.map encRat))), (16, .p (intP (a.length : Nat))), (17, .p (intP (k : Nat)))], ⟨[], [], []⟩⟩
theorem efR_all (a b : List RatM) (hl : a.length = b.length) (hm : a.length ≤ 1073741824) (h : ∀ (i : Nat) (x y : RatM), a[i]? = some x → b[i]? = some y → Pure Tryz.prog 63 [encRat x, encRat y] (.ret (boolP true))) : LoopOK Tryz.prog (loopB Tryz.prog 62 0) (efRS a b 0) (.exit 0) ⟨mkT 32 [], ⟨[], [], []⟩⟩ := by
  refine loop_ix [0, 1, 2, 15, 16, 17] (efRS a b) a.length (fun _ => True) trivial (fun _ => rfl) ?_
  intro k hk _ ro K Q hQ hK
  have rwa : ((a.map encRat).length : Int) = (a.length : Int) := by rw [List.length_map]
  have rwb : ((b.map encRat).length : Int) = (b.length : Int) := by rw [List.length_map]
  unfold efRS at hK ⊢
  by_cases hlt : k < a.length
  · have hw := wrap64_succ (k := k) (by omega)
    obtain ⟨x, hx, _⟩ := get_of_lt hlt
    obtain ⟨y, hy, _⟩ := get_of_lt (show k < b.length by omega)
    have hc := h k x y hx hy
    have gx : (a.map encRat)[(k : Int).toNat]? = some (encRat x) := map_get hx
    have gy : (b.map encRat)[(k : Int).toNat]? = some (encRat y) := map_get hy
    clear h
    refine crun [] ⟨[0, 1, 2, 15, 16, 17], [], [], (some (0, 0, 0))⟩ [(2, .b true), (12, .el (encRat x)), (13, .el (encRat x)), (22, .el (encRat y)), (23, .el (encRat y)), (32, .call (AEnd.ret (PD.v (Value.bool true))))] (AX.norm) (St.mk (mkT 32 [(0, DV.p (PD.sl (List.map encRat a))), (1, DV.p (PD.sl (List.map encRat b))), (2, DV.p (PD.v (Value.func (Fn.func 63) #[] #[]))), (15, DV.p (PD.sl (List.map encRat a))), (16, DV.p (PD.v (Value.int IntKind.i64 (↑a.length : Int)))), (17, DV.p (PD.v (Value.int IntKind.i64 (IntKind.i64.wrap ((↑k : Int) + 1)))))]) (Mem.mk [] [] [])) (.c (hc) (.c gy (.c (And.intro gy (nn0 (k))) (.c gx (.c (And.intro gx (nn0 (k))) (.c (dT (show (↑k : Int) < (↑a.length : Int) by omega)) .n)))))) (by kernel_rfl) ?_
    exact hK _ hlt (by simp only [hw]; rfl) trivial
  · obtain rfl : k = a.length := by omega
    clear h
    refine crun [] ⟨[], [], [], none⟩ [(2, .b false)] (AX.exit 0) (St.mk (mkT 32 []) (Mem.mk [] [] [])) (.c (dF (show ¬ (↑a.length : Int) < (↑a.length : Int) by omega)) .n) (by kernel_rfl) ?_
    exact hQ
theorem efR_diff (a b : List RatM) (hl : a.length = b.length) (hm : a.length ≤ 1073741824) (d : Nat) (u v : RatM) (hd : d < a.length) (hu : a[d]? = some u) (hv : b[d]? = some v) (hc2 : Pure Tryz.prog 63 [encRat u, encRat v] (.ret (boolP false))) (h : ∀ (i : Nat) (x y : RatM), i < d → a[i]? = some x → b[i]? = some y → Pure Tryz.prog 63 [encRat x, encRat y] (.ret (boolP true))) : LoopOK Tryz.prog (loopB Tryz.prog 62 0) (efRS a b 0) .ret ⟨mkT 32 [(6, .p (boolP false))], ⟨[], [], []⟩⟩ := by
  refine loop_ix [0, 1, 2, 15, 16, 17] (efRS a b) d (fun _ => True) trivial (fun _ => rfl) ?_
  intro k hk _ ro K Q hQ hK
  have rwa : ((a.map encRat).length : Int) = (a.length : Int) := by rw [List.length_map]
  have rwb : ((b.map encRat).length : Int) = (b.length : Int) := by rw [List.length_map]
  unfold efRS at hK ⊢
  have hlt : k < a.length := by omega
  by_cases hkd : k < d
  · have hw := wrap64_succ (k := k) (by omega)
    obtain ⟨x, hx, _⟩ := get_of_lt hlt
    obtain ⟨y, hy, _⟩ := get_of_lt (show k < b.length by omega)
    have hc := h k x y hkd hx hy
    have gx : (a.map encRat)[(k : Int).toNat]? = some (encRat x) := map_get hx
    have gy : (b.map encRat)[(k : Int).toNat]? = some (encRat y) := map_get hy
    clear h hc2
    refine crun [] ⟨[0, 1, 2, 15, 16, 17], [], [], (some (0, 0, 0))⟩ [(2, .b true), (12, .el (encRat x)), (13, .el (encRat x)), (22, .el (encRat y)), (23, .el (encRat y)), (32, .call (AEnd.ret (PD.v (Value.bool true))))] (AX.norm) (St.mk (mkT 32 [(0, DV.p (PD.sl (List.map encRat a))), (1, DV.p (PD.sl (List.map encRat b))), (2, DV.p (PD.v (Value.func (Fn.func 63) #[] #[]))), (15, DV.p (PD.sl (List.map encRat a))), (16, DV.p (PD.v (Value.int IntKind.i64 (↑a.length : Int)))), (17, DV.p (PD.v (Value.int IntKind.i64 (IntKind.i64.wrap ((↑k : Int) + 1)))))]) (Mem.mk [] [] [])) (.c (hc) (.c gy (.c (And.intro gy (nn0 (k))) (.c gx (.c (And.intro gx (nn0 (k))) (.c (dT (show (↑k : Int) < (↑a.length : Int) by omega)) .n)))))) (by kernel_rfl) ?_
    exact hK _ hkd (by simp only [hw]; rfl) trivial
  · obtain rfl : k = d := by omega
    have gx : (a.map encRat)[(k : Int).toNat]? = some (encRat u) := map_get hu
    have gy : (b.map encRat)[(k : Int).toNat]? = some (encRat v) := map_get hv
    clear h
    refine crun [] ⟨[6], [], [], (some (0, 0, 0))⟩ [(2, .b true), (12, .el (encRat u)), (13, .el (encRat u)), (22, .el (encRat v)), (23, .el (encRat v)), (32, .call (AEnd.ret (PD.v (Value.bool false))))] (AX.ret) (St.mk (mkT 32 [(6, DV.p (PD.v (Value.bool false)))]) (Mem.mk [] [] [])) (.c (hc2) (.c gy (.c (And.intro gy (nn0 (k))) (.c gx (.c (And.intro gx (nn0 (k))) (.c (dT (show (↑k : Int) < (↑a.length : Int) by omega)) .n)))))) (by kernel_rfl) ?_
    exact hQ
theorem efR_pure (g : RatM → RatM → Bool) (a b : List RatM) (ha : a.length ≤ 1073741824) (hb : b.length ≤ 1073741824) (hg : ∀ x ∈ a, ∀ y ∈ b, Pure Tryz.prog 63 [encRat x, encRat y] (.ret (boolP (g x y)))) : Pure Tryz.prog 62 [.sl (a.map encRat), .sl (b.map encRat), fnP 63] (.ret (boolP (eqF g a b))) := by
  have rwa : ((a.map encRat).length : Int) = (a.length : Int) := by rw [List.length_map]
  have rwb : ((b.map encRat).length : Int) = (b.length : Int) := by rw [List.length_map]
  by_cases hl : a.length = b.length
  · rcases eqF_cases (g := g) hl with ⟨e, h⟩ | ⟨e, d, u, v, h1, h2, h3, h4, h5⟩
    · have hlo := efR_all a b hl ha (fun i x y hx hy => by
        have := hg x (List.mem_of_getElem? hx) y (List.mem_of_getElem? hy)
        rwa [h i x y hx hy] at this)
      rw [e]
      have e0 : efRS a b 0 = ⟨mkT 32 [(0, .p (.sl (a.map encRat))), (1, .p (.sl (b.map encRat))), (2, .p (fnP 63)), (15, .p (.sl (a.map encRat))), (16, .p (intP (a.length : Nat))), (17, .p (intP 0))], ⟨[], [], []⟩⟩ := rfl
      rw [e0] at hlo
      clear e0 h hg
      refine pure_eq (prun [] [(9, .w (DV.p (PD.v (Value.int IntKind.i64 (↑a.length : Int))))), (11, .w (DV.p (PD.v (Value.int IntKind.i64 (↑b.length : Int))))), (12, .b false), (20, .w (DV.p (PD.v (Value.int IntKind.i64 (↑a.length : Int))))), (24, .code [0, 1, 2, 15, 16, 17] (AX.exit 0) (St.mk (mkT 32 []) (Mem.mk [] [] [])))] (e := AEnd.ret (PD.v (Value.bool true))) (.c (hlo) (.c (congrArg (fun z => DV.p (PD.v (Go.Value.int IntKind.i64 z))) rwa) (.c (neF (show (↑a.length : Int) = (↑b.length : Int) by omega)) (.c (congrArg (fun z => DV.p (PD.v (Go.Value.int IntKind.i64 z))) rwb) (.c (congrArg (fun z => DV.p (PD.v (Go.Value.int IntKind.i64 z))) rwa) .n))))) (by kernel_rfl)) ?_
      rfl
    · have hlo := efR_diff a b hl ha d u v h1 h2 h3 (by
        have := hg u (List.mem_of_getElem? h2) v (List.mem_of_getElem? h3)
        rwa [h4] at this) (fun i x y hi hx hy => by
        have := hg x (List.mem_of_getElem? hx) y (List.mem_of_getElem? hy)
        rwa [h5 i x y hi hx hy] at this)
      rw [e]
      have e0 : efRS a b 0 = ⟨mkT 32 [(0, .p (.sl (a.map encRat))), (1, .p (.sl (b.map encRat))), (2, .p (fnP 63)), (15, .p (.sl (a.map encRat))), (16, .p (intP (a.length : Nat))), (17, .p (intP 0))], ⟨[], [], []⟩⟩ := rfl
      rw [e0] at hlo
      clear e0 h5 hg
      refine pure_eq (prun [] [(9, .w (DV.p (PD.v (Value.int IntKind.i64 (↑a.length : Int))))), (11, .w (DV.p (PD.v (Value.int IntKind.i64 (↑b.length : Int))))), (12, .b false), (20, .w (DV.p (PD.v (Value.int IntKind.i64 (↑a.length : Int))))), (24, .code [0, 1, 2, 15, 16, 17] (AX.ret) (St.mk (mkT 32 [(6, DV.p (boolP false))]) (Mem.mk [] [] [])))] (e := AEnd.ret (PD.v (Value.bool false))) (.c (hlo) (.c (congrArg (fun z => DV.p (PD.v (Go.Value.int IntKind.i64 z))) rwa) (.c (neF (show (↑a.length : Int) = (↑b.length : Int) by omega)) (.c (congrArg (fun z => DV.p (PD.v (Go.Value.int IntKind.i64 z))) rwb) (.c (congrArg (fun z => DV.p (PD.v (Go.Value.int IntKind.i64 z))) rwa) .n))))) (by kernel_rfl)) ?_
      rfl
  · rw [eqF_len hl]
    clear hg
    refine pure_eq (prun [] [(9, .w (DV.p (PD.v (Value.int IntKind.i64 (↑a.length : Int))))), (11, .w (DV.p (PD.v (Value.int IntKind.i64 (↑b.length : Int))))), (12, .b true)] (e := AEnd.ret (PD.v (Value.bool false))) (.c (neT (show ¬ (↑a.length : Int) = (↑b.length : Int) by omega)) (.c (congrArg (fun z => DV.p (PD.v (Go.Value.int IntKind.i64 z))) rwb) (.c (congrArg (fun z => DV.p (PD.v (Go.Value.int IntKind.i64 z))) rwa) .n))) (by kernel_rfl)) ?_
    rfl
def efPS (a b : List PortM) (k : Nat) : St := ⟨mkT 32 [(0, .p (.sl (a.map encPort))), (1, .p (.sl (b.map encPort))), (2, .p (fnP 59)), (15, .p (.sl (a.map encPort))), (16, .p (intP (a.length : Nat))), (17, .p (intP (k : Nat)))], ⟨[], [], []⟩⟩
theorem efP_all (a b : List PortM) (hl : a.length = b.length) (hm : a.length ≤ 1073741824) (h : ∀ (i : Nat) (x y : PortM), a[i]? = some x → b[i]? = some y → Pure Tryz.prog 59 [encPort x, encPort y] (.ret (boolP true))) : LoopOK Tryz.prog (loopB Tryz.prog 64 0) (efPS a b 0) (.exit 0) ⟨mkT 32 [], ⟨[], [], []⟩⟩ := by
  refine loop_ix [0, 1, 2, 15, 16, 17] (efPS a b) a.length (fun _ => True) trivial (fun _ => rfl) ?_
  intro k hk _ ro K Q hQ hK
  have rwa : ((a.map encPort).length : Int) = (a.length : Int) := by rw [List.length_map]
  have rwb : ((b.map encPort).length : Int) = (b.length : Int) := by rw [List.length_map]
  unfold efPS at hK ⊢
  by_cases hlt : k < a.length
  · have hw := wrap64_succ (k := k) (by omega)
    obtain ⟨x, hx, _⟩ := get_of_lt hlt
    obtain ⟨y, hy, _⟩ := get_of_lt (show k < b.length by omega)
    have hc := h k x y hx hy
    have gx : (a.map encPort)[(k : Int).toNat]? = some (encPort x) := map_get hx
    have gy : (b.map encPort)[(k : Int).toNat]? = some (encPort y) := map_get hy
    clear h
    refine crun [] ⟨[0, 1, 2, 15, 16, 17], [], [], (some (0, 0, 0))⟩ [(2, .b true), (12, .el (encPort x)), (13, .el (encPort x)), (22, .el (encPort y)), (23, .el (encPort y)), (32, .call (AEnd.ret (PD.v (Value.bool true))))] (AX.norm) (St.mk (mkT 32 [(0, DV.p (PD.sl (List.map encPort a))), (1, DV.p (PD.sl (List.map encPort b))), (2, DV.p (PD.v (Value.func (Fn.func 59) #[] #[]))), (15, DV.p (PD.sl (List.map encPort a))), (16, DV.p (PD.v (Value.int IntKind.i64 (↑a.length : Int)))), (17, DV.p (PD.v (Value.int IntKind.i64 (IntKind.i64.wrap ((↑k : Int) + 1)))))]) (Mem.mk [] [] [])) (.c (hc) (.c gy (.c (And.intro gy (nn0 (k))) (.c gx (.c (And.intro gx (nn0 (k))) (.c (dT (show (↑k : Int) < (↑a.length : Int) by omega)) .n)))))) (by kernel_rfl) ?_
    exact hK _ hlt (by simp only [hw]; rfl) trivial
  · obtain rfl : k = a.length := by omega
    clear h
    refine crun [] ⟨[], [], [], none⟩ [(2, .b false)] (AX.exit 0) (St.mk (mkT 32 []) (Mem.mk [] [] [])) (.c (dF (show ¬ (↑a.length : Int) < (↑a.length : Int) by omega)) .n) (by kernel_rfl) ?_
    exact hQ
theorem efP_diff (a b : List PortM) (hl : a.length = b.length) (hm : a.length ≤ 1073741824) (d : Nat) (u v : PortM) (hd : d < a.length) (hu : a[d]? = some u) (hv : b[d]? = some v) (hc2 : Pure Tryz.prog 59 [encPort u, encPort v] (.ret (boolP false))) (h : ∀ (i : Nat) (x y : PortM), i < d → a[i]? = some x → b[i]? = some y → Pure Tryz.prog 59 [encPort x, encPort y] (.ret (boolP true))) : LoopOK Tryz.prog (loopB Tryz.prog 64 0) (efPS a b 0) .ret ⟨mkT 32 [(6, .p (boolP false))], ⟨[], [], []⟩⟩ := by
  refine loop_ix [0, 1, 2, 15, 16, 17] (efPS a b) d (fun _ => True) trivial (fun _ => rfl) ?_
  intro k hk _ ro K Q hQ hK
  have rwa : ((a.map encPort).length : Int) = (a.length : Int) := by rw [List.length_map]
  have rwb : ((b.map encPort).length : Int) = (b.length : Int) := by rw [List.length_map]
  unfold efPS at hK ⊢
  have hlt : k < a.length := by omega
  by_cases hkd : k < d
  · have hw := wrap64_succ (k := k) (by omega)
    obtain ⟨x, hx, _⟩ := get_of_lt hlt
    obtain ⟨y, hy, _⟩ := get_of_lt (show k < b.length by omega)
    have hc := h k x y hkd hx hy
    have gx : (a.map encPort)[(k : Int).toNat]? = some (encPort x) := map_get hx
    have gy : (b.map encPort)[(k : Int).toNat]? = some (encPort y) := map_get hy
    clear h hc2
    refine crun [] ⟨[0, 1, 2, 15, 16, 17], [], [], (some (0, 0, 0))⟩ [(2, .b true), (12, .el (encPort x)), (13, .el (encPort x)), (22, .el (encPort y)), (23, .el (encPort y)), (32, .call (AEnd.ret (PD.v (Value.bool true))))] (AX.norm) (St.mk (mkT 32 [(0, DV.p (PD.sl (List.map encPort a))), (1, DV.p (PD.sl (List.map encPort b))), (2, DV.p (PD.v (Value.func (Fn.func 59) #[] #[]))), (15, DV.p (PD.sl (List.map encPort a))), (16, DV.p (PD.v (Value.int IntKind.i64 (↑a.length : Int)))), (17, DV.p (PD.v (Value.int IntKind.i64 (IntKind.i64.wrap ((↑k : Int) + 1)))))]) (Mem.mk [] [] [])) (.c (hc) (.c gy (.c (And.intro gy (nn0 (k))) (.c gx (.c (And.intro gx (nn0 (k))) (.c (dT (show (↑k : Int) < (↑a.length : Int) by omega)) .n)))))) (by kernel_rfl) ?_
    exact hK _ hkd (by simp only [hw]; rfl) trivial
  · obtain rfl : k = d := by omega
    have gx : (a.map encPort)[(k : Int).toNat]? = some (encPort u) := map_get hu
    have gy : (b.map encPort)[(k : Int).toNat]? = some (encPort v) := map_get hv
    clear h
    refine crun [] ⟨[6], [], [], (some (0, 0, 0))⟩ [(2, .b true), (12, .el (encPort u)), (13, .el (encPort u)), (22, .el (encPort v)), (23, .el (encPort v)), (32, .call (AEnd.ret (PD.v (Value.bool false))))] (AX.ret) (St.mk (mkT 32 [(6, DV.p (PD.v (Value.bool false)))]) (Mem.mk [] [] [])) (.c (hc2) (.c gy (.c (And.intro gy (nn0 (k))) (.c gx (.c (And.intro gx (nn0 (k))) (.c (dT (show (↑k : Int) < (↑a.length : Int) by omega)) .n)))))) (by kernel_rfl) ?_
    exact hQ
theorem efP_pure (g : PortM → PortM → Bool) (a b : List PortM) (ha : a.length ≤ 1073741824) (hb : b.length ≤ 1073741824) (hg : ∀ x ∈ a, ∀ y ∈ b, Pure Tryz.prog 59 [encPort x, encPort y] (.ret (boolP (g x y)))) : Pure Tryz.prog 64 [.sl (a.map encPort), .sl (b.map encPort), fnP 59] (.ret (boolP (eqF g a b))) := by
  have rwa : ((a.map encPort).length : Int) = (a.length : Int) := by rw [List.length_map]
  have rwb : ((b.map encPort).length : Int) = (b.length : Int) := by rw [List.length_map]
  by_cases hl : a.length = b.length
  · rcases eqF_cases (g := g) hl with ⟨e, h⟩ | ⟨e, d, u, v, h1, h2, h3, h4, h5⟩
    · have hlo := efP_all a b hl ha (fun i x y hx hy => by
        have := hg x (List.mem_of_getElem? hx) y (List.mem_of_getElem? hy)
        rwa [h i x y hx hy] at this)
      rw [e]
      have e0 : efPS a b 0 = ⟨mkT 32 [(0, .p (.sl (a.map encPort))), (1, .p (.sl (b.map encPort))), (2, .p (fnP 59)), (15, .p (.sl (a.map encPort))), (16, .p (intP (a.length : Nat))), (17, .p (intP 0))], ⟨[], [], []⟩⟩ := rfl
      rw [e0] at hlo
      clear e0 h hg
      refine pure_eq (prun [] [(9, .w (DV.p (PD.v (Value.int IntKind.i64 (↑a.length : Int))))), (11, .w (DV.p (PD.v (Value.int IntKind.i64 (↑b.length : Int))))), (12, .b false), (20, .w (DV.p (PD.v (Value.int IntKind.i64 (↑a.length : Int))))), (24, .code [0, 1, 2, 15, 16, 17] (AX.exit 0) (St.mk (mkT 32 []) (Mem.mk [] [] [])))] (e := AEnd.ret (PD.v (Value.bool true))) (.c (hlo) (.c (congrArg (fun z => DV.p (PD.v (Go.Value.int IntKind.i64 z))) rwa) (.c (neF (show (↑a.length : Int) = (↑b.length : Int) by omega)) (.c (congrArg (fun z => DV.p (PD.v (Go.Value.int IntKind.i64 z))) rwb) (.c (congrArg (fun z => DV.p (PD.v (Go.Value.int IntKind.i64 z))) rwa) .n))))) (by kernel_rfl)) ?_
      rfl
    · have hlo := efP_diff a b hl ha d u v h1 h2 h3 (by
        have := hg u (List.mem_of_getElem? h2) v (List.mem_of_getElem? h3)
        rwa [h4] at this) (fun i x y hi hx hy => by
        have := hg x (List.mem_of_getElem? hx) y (List.mem_of_getElem? hy)
        rwa [h5 i x y hi hx hy] at this)
      rw [e]
      have e0 : efPS a b 0 = ⟨mkT 32 [(0, .p (.sl (a.map encPort))), (1, .p (.sl (b.map encPort))), (2, .p (fnP 59)), (15, .p (.sl (a.map encPort))), (16, .p (intP (a.length : Nat))), (17, .p (intP 0))], ⟨[], [], []⟩⟩ := rfl
      rw [e0] at hlo
      clear e0 h5 hg
      refine pure_eq (prun [] [(9, .w (DV.p (PD.v (Value.int IntKind.i64 (↑a.length : Int))))), (11, .w (DV.p (PD.v (Value.int IntKind.i64 (↑b.length : Int))))), (12, .b false), (20, .w (DV.p (PD.v (Value.int IntKind.i64 (↑a.length : Int))))), (24, .code [0, 1, 2, 15, 16, 17] (AX.ret) (St.mk (mkT 32 [(6, DV.p (boolP false))]) (Mem.mk [] [] [])))] (e := AEnd.ret (PD.v (Value.bool false))) (.c (hlo) (.c (congrArg (fun z => DV.p (PD.v (Go.Value.int IntKind.i64 z))) rwa) (.c (neF (show (↑a.length : Int) = (↑b.length : Int) by omega)) (.c (congrArg (fun z => DV.p (PD.v (Go.Value.int IntKind.i64 z))) rwb) (.c (congrArg (fun z => DV.p (PD.v (Go.Value.int IntKind.i64 z))) rwa) .n))))) (by kernel_rfl)) ?_
      rfl
  · rw [eqF_len hl]
    clear hg
    refine pure_eq (prun [] [(9, .w (DV.p (PD.v (Value.int IntKind.i64 (↑a.length : Int))))), (11, .w (DV.p (PD.v (Value.int IntKind.i64 (↑b.length : Int))))), (12, .b true)] (e := AEnd.ret (PD.v (Value.bool false))) (.c (neT (show ¬ (↑a.length : Int) = (↑b.length : Int) by omega)) (.c (congrArg (fun z => DV.p (PD.v (Go.Value.int IntKind.i64 z))) rwb) (.c (congrArg (fun z => DV.p (PD.v (Go.Value.int IntKind.i64 z))) rwa) .n))) (by kernel_rfl)) ?_
    rfl
def efWS (a b : List WeightM) (k : Nat) : St := ⟨mkT 32 [(0, .p (.sl (a.map encWeight))), (1, .p (.sl (b.map encWeight))), (2, .p (fnP 61)), (15, .p (.sl (a.map encWeight))), (16, .p (intP (a.length : Nat))), (17, .p (intP (k : Nat)))], ⟨[], [], []⟩⟩
theorem efW_all (a b : List WeightM) (hl : a.length = b.length) (hm : a.length ≤ 1073741824) (h : ∀ (i : Nat) (x y : WeightM), a[i]? = some x → b[i]? = some y → Pure Tryz.prog 61 [encWeight x, encWeight y] (.ret (boolP true))) : LoopOK Tryz.prog (loopB Tryz.prog 65 0) (efWS a b 0) (.exit 0) ⟨mkT 32 [], ⟨[], [], []⟩⟩ := by
  refine loop_ix [0, 1, 2, 15, 16, 17] (efWS a b) a.length (fun _ => True) trivial (fun _ => rfl) ?_
  intro k hk _ ro K Q hQ hK
  have rwa : ((a.map encWeight).length : Int) = (a.length : Int) := by rw [List.length_map]
  have rwb : ((b.map encWeight).length : Int) = (b.length : Int) := by rw [List.length_map]
  unfold efWS at hK ⊢
  by_cases hlt : k < a.length
  · have hw := wrap64_succ (k := k) (by omega)
    obtain ⟨x, hx, _⟩ := get_of_lt hlt
    obtain ⟨y, hy, _⟩ := get_of_lt (show k < b.length by omega)
    have hc := h k x y hx hy
    have gx : (a.map encWeight)[(k : Int).toNat]? = some (encWeight x) := map_get hx
    have gy : (b.map encWeight)[(k : Int).toNat]? = some (encWeight y) := map_get hy
    clear h
    refine crun [] ⟨[0, 1, 2, 15, 16, 17], [], [], (some (0, 0, 0))⟩ [(2, .b true), (12, .el (encWeight x)), (13, .el (encWeight x)), (22, .el (encWeight y)), (23, .el (encWeight y)), (32, .call (AEnd.ret (PD.v (Value.bool true))))] (AX.norm) (St.mk (mkT 32 [(0, DV.p (PD.sl (List.map encWeight a))), (1, DV.p (PD.sl (List.map encWeight b))), (2, DV.p (PD.v (Value.func (Fn.func 61) #[] #[]))), (15, DV.p (PD.sl (List.map encWeight a))), (16, DV.p (PD.v (Value.int IntKind.i64 (↑a.length : Int)))), (17, DV.p (PD.v (Value.int IntKind.i64 (IntKind.i64.wrap ((↑k : Int) + 1)))))]) (Mem.mk [] [] [])) (.c (hc) (.c gy (.c (And.intro gy (nn0 (k))) (.c gx (.c (And.intro gx (nn0 (k))) (.c (dT (show (↑k : Int) < (↑a.length : Int) by omega)) .n)))))) (by kernel_rfl) ?_
    exact hK _ hlt (by simp only [hw]; rfl) trivial
  · obtain rfl : k = a.length := by omega
    clear h
    refine crun [] ⟨[], [], [], none⟩ [(2, .b false)] (AX.exit 0) (St.mk (mkT 32 []) (Mem.mk [] [] [])) (.c (dF (show ¬ (↑a.length : Int) < (↑a.length : Int) by omega)) .n) (by kernel_rfl) ?_
    exact hQ
theorem efW_diff (a b : List WeightM) (hl : a.length = b.length) (hm : a.length ≤ 1073741824) (d : Nat) (u v : WeightM) (hd : d < a.length) (hu : a[d]? = some u) (hv : b[d]? = some v) (hc2 : Pure Tryz.prog 61 [encWeight u, encWeight v] (.ret (boolP false))) (h : ∀ (i : Nat) (x y : WeightM), i < d → a[i]? = some x → b[i]? = some y → Pure Tryz.prog 61 [encWeight x, encWeight y] (.ret (boolP true))) : LoopOK Tryz.prog (loopB Tryz.prog 65 0) (efWS a b 0) .ret ⟨mkT 32 [(6, .p (boolP false))], ⟨[], [], []⟩⟩ := by
  refine loop_ix [0, 1, 2, 15, 16, 17] (efWS a b) d (fun _ => True) trivial (fun _ => rfl) ?_
  intro k hk _ ro K Q hQ hK
  have rwa : ((a.map encWeight).length : Int) = (a.length : Int) := by rw [List.length_map]
  have rwb : ((b.map encWeight).length : Int) = (b.length : Int) := by rw [List.length_map]
  unfold efWS at hK ⊢
  have hlt : k < a.length := by omega
  by_cases hkd : k < d
  · have hw := wrap64_succ (k := k) (by omega)
    obtain ⟨x, hx, _⟩ := get_of_lt hlt
    obtain ⟨y, hy, _⟩ := get_of_lt (show k < b.length by omega)
    have hc := h k x y hkd hx hy
    have gx : (a.map encWeight)[(k : Int).toNat]? = some (encWeight x) := map_get hx
    have gy : (b.map encWeight)[(k : Int).toNat]? = some (encWeight y) := map_get hy
    clear h hc2
    refine crun [] ⟨[0, 1, 2, 15, 16, 17], [], [], (some (0, 0, 0))⟩ [(2, .b true), (12, .el (encWeight x)), (13, .el (encWeight x)), (22, .el (encWeight y)), (23, .el (encWeight y)), (32, .call (AEnd.ret (PD.v (Value.bool true))))] (AX.norm) (St.mk (mkT 32 [(0, DV.p (PD.sl (List.map encWeight a))), (1, DV.p (PD.sl (List.map encWeight b))), (2, DV.p (PD.v (Value.func (Fn.func 61) #[] #[]))), (15, DV.p (PD.sl (List.map encWeight a))), (16, DV.p (PD.v (Value.int IntKind.i64 (↑a.length : Int)))), (17, DV.p (PD.v (Value.int IntKind.i64 (IntKind.i64.wrap ((↑k : Int) + 1)))))]) (Mem.mk [] [] [])) (.c (hc) (.c gy (.c (And.intro gy (nn0 (k))) (.c gx (.c (And.intro gx (nn0 (k))) (.c (dT (show (↑k : Int) < (↑a.length : Int) by omega)) .n)))))) (by kernel_rfl) ?_
    exact hK _ hkd (by simp only [hw]; rfl) trivial
  · obtain rfl : k = d := by omega
    have gx : (a.map encWeight)[(k : Int).toNat]? = some (encWeight u) := map_get hu
    have gy : (b.map encWeight)[(k : Int).toNat]? = some (encWeight v) := map_get hv
    clear h
    refine crun [] ⟨[6], [], [], (some (0, 0, 0))⟩ [(2, .b true), (12, .el (encWeight u)), (13, .el (encWeight u)), (22, .el (encWeight v)), (23, .el (encWeight v)), (32, .call (AEnd.ret (PD.v (Value.bool false))))] (AX.ret) (St.mk (mkT 32 [(6, DV.p (PD.v (Value.bool false)))]) (Mem.mk [] [] [])) (.c (hc2) (.c gy (.c (And.intro gy (nn0 (k))) (.c gx (.c (And.intro gx (nn0 (k))) (.c (dT (show (↑k : Int) < (↑a.length : Int) by omega)) .n)))))) (by kernel_rfl) ?_
    exact hQ
theorem efW_pure (g : WeightM → WeightM → Bool) (a b : List WeightM) (ha : a.length ≤ 1073741824) (hb : b.length ≤ 1073741824) (hg : ∀ x ∈ a, ∀ y ∈ b, Pure Tryz.prog 61 [encWeight x, encWeight y] (.ret (boolP (g x y)))) : Pure Tryz.prog 65 [.sl (a.map encWeight), .sl (b.map encWeight), fnP 61] (.ret (boolP (eqF g a b))) := by
  have rwa : ((a.map encWeight).length : Int) = (a.length : Int) := by rw [List.length_map]
  have rwb : ((b.map encWeight).length : Int) = (b.length : Int) := by rw [List.length_map]
  by_cases hl : a.length = b.length
  · rcases eqF_cases (g := g) hl with ⟨e, h⟩ | ⟨e, d, u, v, h1, h2, h3, h4, h5⟩
    · have hlo := efW_all a b hl ha (fun i x y hx hy => by
        have := hg x (List.mem_of_getElem? hx) y (List.mem_of_getElem? hy)
        rwa [h i x y hx hy] at this)
      rw [e]
      have e0 : efWS a b 0 = ⟨mkT 32 [(0, .p (.sl (a.map encWeight))), (1, .p (.sl (b.map encWeight))), (2, .p (fnP 61)), (15, .p (.sl (a.map encWeight))), (16, .p (intP (a.length : Nat))), (17, .p (intP 0))], ⟨[], [], []⟩⟩ := rfl
      rw [e0] at hlo
      clear e0 h hg
      refine pure_eq (prun [] [(9, .w (DV.p (PD.v (Value.int IntKind.i64 (↑a.length : Int))))), (11, .w (DV.p (PD.v (Value.int IntKind.i64 (↑b.length : Int))))), (12, .b false), (20, .w (DV.p (PD.v (Value.int IntKind.i64 (↑a.length : Int))))), (24, .code [0, 1, 2, 15, 16, 17] (AX.exit 0) (St.mk (mkT 32 []) (Mem.mk [] [] [])))] (e := AEnd.ret (PD.v (Value.bool true))) (.c (hlo) (.c (congrArg (fun z => DV.p (PD.v (Go.Value.int IntKind.i64 z))) rwa) (.c (neF (show (↑a.length : Int) = (↑b.length : Int) by omega)) (.c (congrArg (fun z => DV.p (PD.v (Go.Value.int IntKind.i64 z))) rwb) (.c (congrArg (fun z => DV.p (PD.v (Go.Value.int IntKind.i64 z))) rwa) .n))))) (by kernel_rfl)) ?_
      rfl
    · have hlo := efW_diff a b hl ha d u v h1 h2 h3 (by
        have := hg u (List.mem_of_getElem? h2) v (List.mem_of_getElem? h3)
        rwa [h4] at this) (fun i x y hi hx hy => by
        have := hg x (List.mem_of_getElem? hx) y (List.mem_of_getElem? hy)
        rwa [h5 i x y hi hx hy] at this)
      rw [e]
      have e0 : efWS a b 0 = ⟨mkT 32 [(0, .p (.sl (a.map encWeight))), (1, .p (.sl (b.map encWeight))), (2, .p (fnP 61)), (15, .p (.sl (a.map encWeight))), (16, .p (intP (a.length : Nat))), (17, .p (intP 0))], ⟨[], [], []⟩⟩ := rfl
      rw [e0] at hlo
      clear e0 h5 hg
      refine pure_eq (prun [] [(9, .w (DV.p (PD.v (Value.int IntKind.i64 (↑a.length : Int))))), (11, .w (DV.p (PD.v (Value.int IntKind.i64 (↑b.length : Int))))), (12, .b false), (20, .w (DV.p (PD.v (Value.int IntKind.i64 (↑a.length : Int))))), (24, .code [0, 1, 2, 15, 16, 17] (AX.ret) (St.mk (mkT 32 [(6, DV.p (boolP false))]) (Mem.mk [] [] [])))] (e := AEnd.ret (PD.v (Value.bool false))) (.c (hlo) (.c (congrArg (fun z => DV.p (PD.v (Go.Value.int IntKind.i64 z))) rwa) (.c (neF (show (↑a.length : Int) = (↑b.length : Int) by omega)) (.c (congrArg (fun z => DV.p (PD.v (Go.Value.int IntKind.i64 z))) rwb) (.c (congrArg (fun z => DV.p (PD.v (Go.Value.int IntKind.i64 z))) rwa) .n))))) (by kernel_rfl)) ?_
      rfl
  · rw [eqF_len hl]
    clear hg
    refine pure_eq (prun [] [(9, .w (DV.p (PD.v (Value.int IntKind.i64 (↑a.length : Int))))), (11, .w (DV.p (PD.v (Value.int IntKind.i64 (↑b.length : Int))))), (12, .b true)] (e := AEnd.ret (PD.v (Value.bool false))) (.c (neT (show ¬ (↑a.length : Int) = (↑b.length : Int) by omega)) (.c (congrArg (fun z => DV.p (PD.v (Go.Value.int IntKind.i64 z))) rwb) (.c (congrArg (fun z => DV.p (PD.v (Go.Value.int IntKind.i64 z))) rwa) .n))) (by kernel_rfl)) ?_
    rfl
def efNS (a b : List NodeM) (k : Nat) : St := ⟨mkT 32 [(0, .p (.sl (a.map encNode))), (1, .p (.sl (b.map encNode))), (2, .p (fnP 101)), (15, .p (.sl (a.map encNode))), (16, .p (intP (a.length : Nat))), (17, .p (intP (k : Nat)))], ⟨[], [], []⟩⟩
theorem efN_all (a b : List NodeM) (hl : a.length = b.length) (hm : a.length ≤ 1073741824) (h : ∀ (i : Nat) (x y : NodeM), a[i]? = some x → b[i]? = some y → Pure Tryz.prog 101 [encNode x, encNode y] (.ret (boolP true))) : LoopOK Tryz.prog (loopB Tryz.prog 100 0) (efNS a b 0) (.exit 0) ⟨mkT 32 [], ⟨[], [], []⟩⟩ := by
  refine loop_ix [0, 1, 2, 15, 16, 17] (efNS a b) a.length (fun _ => True) trivial (fun _ => rfl) ?_
  intro k hk _ ro K Q hQ hK
  have rwa : ((a.map encNode).length : Int) = (a.length : Int) := by rw [List.length_map]
  have rwb : ((b.map encNode).length : Int) = (b.length : Int) := by rw [List.length_map]
  unfold efNS at hK ⊢
  by_cases hlt : k < a.length
  · have hw := wrap64_succ (k := k) (by omega)
    obtain ⟨x, hx, _⟩ := get_of_lt hlt
    obtain ⟨y, hy, _⟩ := get_of_lt (show k < b.length by omega)
    have hc := h k x y hx hy
    have gx : (a.map encNode)[(k : Int).toNat]? = some (encNode x) := map_get hx
    have gy : (b.map encNode)[(k : Int).toNat]? = some (encNode y) := map_get hy
    clear h
    refine crun [] ⟨[0, 1, 2, 15, 16, 17], [], [], (some (0, 0, 0))⟩ [(2, .b true), (12, .el (encNode x)), (13, .el (encNode x)), (22, .el (encNode y)), (23, .el (encNode y)), (32, .call (AEnd.ret (PD.v (Value.bool true))))] (AX.norm) (St.mk (mkT 32 [(0, DV.p (PD.sl (List.map encNode a))), (1, DV.p (PD.sl (List.map encNode b))), (2, DV.p (PD.v (Value.func (Fn.func 101) #[] #[]))), (15, DV.p (PD.sl (List.map encNode a))), (16, DV.p (PD.v (Value.int IntKind.i64 (↑a.length : Int)))), (17, DV.p (PD.v (Value.int IntKind.i64 (IntKind.i64.wrap ((↑k : Int) + 1)))))]) (Mem.mk [] [] [])) (.c (hc) (.c gy (.c (And.intro gy (nn0 (k))) (.c gx (.c (And.intro gx (nn0 (k))) (.c (dT (show (↑k : Int) < (↑a.length : Int) by omega)) .n)))))) (by kernel_rfl) ?_
    exact hK _ hlt (by simp only [hw]; rfl) trivial
  · obtain rfl : k = a.length := by omega
    clear h
    refine crun [] ⟨[], [], [], none⟩ [(2, .b false)] (AX.exit 0) (St.mk (mkT 32 []) (Mem.mk [] [] [])) (.c (dF (show ¬ (↑a.length : Int) < (↑a.length : Int) by omega)) .n) (by kernel_rfl) ?_
    exact hQ
theorem efN_diff (a b : List NodeM) (hl : a.length = b.length) (hm : a.length ≤ 1073741824) (d : Nat) (u v : NodeM) (hd : d < a.length) (hu : a[d]? = some u) (hv : b[d]? = some v) (hc2 : Pure Tryz.prog 101 [encNode u, encNode v] (.ret (boolP false))) (h : ∀ (i : Nat) (x y : NodeM), i < d → a[i]? = some x → b[i]? = some y → Pure Tryz.prog 101 [encNode x, encNode y] (.ret (boolP true))) : LoopOK Tryz.prog (loopB Tryz.prog 100 0) (efNS a b 0) .ret ⟨mkT 32 [(6, .p (boolP false))], ⟨[], [], []⟩⟩ := by
  refine loop_ix [0, 1, 2, 15, 16, 17] (efNS a b) d (fun _ => True) trivial (fun _ => rfl) ?_
  intro k hk _ ro K Q hQ hK
  have rwa : ((a.map encNode).length : Int) = (a.length : Int) := by rw [List.length_map]
  have rwb : ((b.map encNode).length : Int) = (b.length : Int) := by rw [List.length_map]
  unfold efNS at hK ⊢
  have hlt : k < a.length := by omega
  by_cases hkd : k < d
  · have hw := wrap64_succ (k := k) (by omega)
    obtain ⟨x, hx, _⟩ := get_of_lt hlt
    obtain ⟨y, hy, _⟩ := get_of_lt (show k < b.length by omega)
    have hc := h k x y hkd hx hy
    have gx : (a.map encNode)[(k : Int).toNat]? = some (encNode x) := map_get hx
    have gy : (b.map encNode)[(k : Int).toNat]? = some (encNode y) := map_get hy
    clear h hc2
    refine crun [] ⟨[0, 1, 2, 15, 16, 17], [], [], (some (0, 0, 0))⟩ [(2, .b true), (12, .el (encNode x)), (13, .el (encNode x)), (22, .el (encNode y)), (23, .el (encNode y)), (32, .call (AEnd.ret (PD.v (Value.bool true))))] (AX.norm) (St.mk (mkT 32 [(0, DV.p (PD.sl (List.map encNode a))), (1, DV.p (PD.sl (List.map encNode b))), (2, DV.p (PD.v (Value.func (Fn.func 101) #[] #[]))), (15, DV.p (PD.sl (List.map encNode a))), (16, DV.p (PD.v (Value.int IntKind.i64 (↑a.length : Int)))), (17, DV.p (PD.v (Value.int IntKind.i64 (IntKind.i64.wrap ((↑k : Int) + 1)))))]) (Mem.mk [] [] [])) (.c (hc) (.c gy (.c (And.intro gy (nn0 (k))) (.c gx (.c (And.intro gx (nn0 (k))) (.c (dT (show (↑k : Int) < (↑a.length : Int) by omega)) .n)))))) (by kernel_rfl) ?_
    exact hK _ hkd (by simp only [hw]; rfl) trivial
  · obtain rfl : k = d := by omega
    have gx : (a.map encNode)[(k : Int).toNat]? = some (encNode u) := map_get hu
    have gy : (b.map encNode)[(k : Int).toNat]? = some (encNode v) := map_get hv
    clear h
    refine crun [] ⟨[6], [], [], (some (0, 0, 0))⟩ [(2, .b true), (12, .el (encNode u)), (13, .el (encNode u)), (22, .el (encNode v)), (23, .el (encNode v)), (32, .call (AEnd.ret (PD.v (Value.bool false))))] (AX.ret) (St.mk (mkT 32 [(6, DV.p (PD.v (Value.bool false)))]) (Mem.mk [] [] [])) (.c (hc2) (.c gy (.c (And.intro gy (nn0 (k))) (.c gx (.c (And.intro gx (nn0 (k))) (.c (dT (show (↑k : Int) < (↑a.length : Int) by omega)) .n)))))) (by kernel_rfl) ?_
    exact hQ
theorem efN_pure (g : NodeM → NodeM → Bool) (a b : List NodeM) (ha : a.length ≤ 1073741824) (hb : b.length ≤ 1073741824) (hg : ∀ x ∈ a, ∀ y ∈ b, Pure Tryz.prog 101 [encNode x, encNode y] (.ret (boolP (g x y)))) : Pure Tryz.prog 100 [.sl (a.map encNode), .sl (b.map encNode), fnP 101] (.ret (boolP (eqF g a b))) := by
  have rwa : ((a.map encNode).length : Int) = (a.length : Int) := by rw [List.length_map]
  have rwb : ((b.map encNode).length : Int) = (b.length : Int) := by rw [List.length_map]
  by_cases hl : a.length = b.length
  · rcases eqF_cases (g := g) hl with ⟨e, h⟩ | ⟨e, d, u, v, h1, h2, h3, h4, h5⟩
    · have hlo := efN_all a b hl ha (fun i x y hx hy => by
        have := hg x (List.mem_of_getElem? hx) y (List.mem_of_getElem? hy)
        rwa [h i x y hx hy] at this)
      rw [e]
      have e0 : efNS a b 0 = ⟨mkT 32 [(0, .p (.sl (a.map encNode))), (1, .p (.sl (b.map encNode))), (2, .p (fnP 101)), (15, .p (.sl (a.map encNode))), (16, .p (intP (a.length : Nat))), (17, .p (intP 0))], ⟨[], [], []⟩⟩ := rfl
      rw [e0] at hlo
      clear e0 h hg
      refine pure_eq (prun [] [(9, .w (DV.p (PD.v (Value.int IntKind.i64 (↑a.length : Int))))), (11, .w (DV.p (PD.v (Value.int IntKind.i64 (↑b.length : Int))))), (12, .b false), (20, .w (DV.p (PD.v (Value.int IntKind.i64 (↑a.length : Int))))), (24, .code [0, 1, 2, 15, 16, 17] (AX.exit 0) (St.mk (mkT 32 []) (Mem.mk [] [] [])))] (e := AEnd.ret (PD.v (Value.bool true))) (.c (hlo) (.c (congrArg (fun z => DV.p (PD.v (Go.Value.int IntKind.i64 z))) rwa) (.c (neF (show (↑a.length : Int) = (↑b.length : Int) by omega)) (.c (congrArg (fun z => DV.p (PD.v (Go.Value.int IntKind.i64 z))) rwb) (.c (congrArg (fun z => DV.p (PD.v (Go.Value.int IntKind.i64 z))) rwa) .n))))) (by kernel_rfl)) ?_
      rfl
    · have hlo := efN_diff a b hl ha d u v h1 h2 h3 (by
        have := hg u (List.mem_of_getElem? h2) v (List.mem_of_getElem? h3)
        rwa [h4] at this) (fun i x y hi hx hy => by
        have := hg x (List.mem_of_getElem? hx) y (List.mem_of_getElem? hy)
        rwa [h5 i x y hi hx hy] at this)
      rw [e]
      have e0 : efNS a b 0 = ⟨mkT 32 [(0, .p (.sl (a.map encNode))), (1, .p (.sl (b.map encNode))), (2, .p (fnP 101)), (15, .p (.sl (a.map encNode))), (16, .p (intP (a.length : Nat))), (17, .p (intP 0))], ⟨[], [], []⟩⟩ := rfl
      rw [e0] at hlo
      clear e0 h5 hg
      refine pure_eq (prun [] [(9, .w (DV.p (PD.v (Value.int IntKind.i64 (↑a.length : Int))))), (11, .w (DV.p (PD.v (Value.int IntKind.i64 (↑b.length : Int))))), (12, .b false), (20, .w (DV.p (PD.v (Value.int IntKind.i64 (↑a.length : Int))))), (24, .code [0, 1, 2, 15, 16, 17] (AX.ret) (St.mk (mkT 32 [(6, DV.p (boolP false))]) (Mem.mk [] [] [])))] (e := AEnd.ret (PD.v (Value.bool false))) (.c (hlo) (.c (congrArg (fun z => DV.p (PD.v (Go.Value.int IntKind.i64 z))) rwa) (.c (neF (show (↑a.length : Int) = (↑b.length : Int) by omega)) (.c (congrArg (fun z => DV.p (PD.v (Go.Value.int IntKind.i64 z))) rwb) (.c (congrArg (fun z => DV.p (PD.v (Go.Value.int IntKind.i64 z))) rwa) .n))))) (by kernel_rfl)) ?_
      rfl
  · rw [eqF_len hl]
    clear hg
    refine pure_eq (prun [] [(9, .w (DV.p (PD.v (Value.int IntKind.i64 (↑a.length : Int))))), (11, .w (DV.p (PD.v (Value.int IntKind.i64 (↑b.length : Int))))), (12, .b true)] (e := AEnd.ret (PD.v (Value.bool false))) (.c (neT (show ¬ (↑a.length : Int) = (↑b.length : Int) by omega)) (.c (congrArg (fun z => DV.p (PD.v (Go.Value.int IntKind.i64 z))) rwb) (.c (congrArg (fun z => DV.p (PD.v (Go.Value.int IntKind.i64 z))) rwa) .n))) (by kernel_rfl)) ?_
    rfl
end Go.Proofs.YtikfefjaeejeeaaGreatDoor
/- Limbs: lists of digits of 10000 and the numbers that they are. Plain Lean, no program. -/
namespace Go.Proofs.YtikfefjaeejeeaaGreatDoor

/-- the number of a list of decs, the lowest first -/
def valT : List Int → Nat
  | [] => 0
  | x :: xs => x.toNat + 10000 * valT xs
def DigT (l : List Int) : Prop := ∀ x ∈ l, 0 ≤ x ∧ x < 10000
/-- without noughts at the end -/
def trimT : List Int → List Int
  | [] => []
  | x :: xs => if trimT xs = [] ∧ x = 0 then [] else x :: trimT xs
/-- a number's decs, without noughts at the end -/
def decs (n : Nat) : List Int := if h : n = 0 then [] else ((n % 10000 : Nat) : Int) :: decs (n / 10000)
termination_by n
decreasing_by omega

theorem decs_zero : decs 0 = [] := by rw [decs]; simp
theorem decs_pos {n : Nat} (h : n ≠ 0) : decs n = ((n % 10000 : Nat) : Int) :: decs (n / 10000) := by rw [decs]; simp [h]
theorem decs_nil {n : Nat} : decs n = [] ↔ n = 0 := by
  constructor
  · intro h
    by_cases h0 : n = 0
    · exact h0
    · rw [decs_pos h0] at h; cases h
  · rintro rfl; exact decs_zero
theorem DigT.nil : DigT [] := fun _ h => by cases h
theorem DigT.cons {x : Int} {l : List Int} (h0 : 0 ≤ x) (h1 : x < 10000) (h : DigT l) : DigT (x :: l) := by
  intro y hy
  rcases List.mem_cons.1 hy with rfl | hy
  · exact ⟨h0, h1⟩
  · exact h y hy
theorem DigT.head {x : Int} {l : List Int} (h : DigT (x :: l)) : 0 ≤ x ∧ x < 10000 := h x List.mem_cons_self
theorem DigT.tail {x : Int} {l : List Int} (h : DigT (x :: l)) : DigT l := fun y hy => h y (List.mem_cons_of_mem _ hy)
theorem DigT.append {a b : List Int} (ha : DigT a) (hb : DigT b) : DigT (a ++ b) := by
  intro y hy
  rcases List.mem_append.1 hy with hy | hy
  · exact ha y hy
  · exact hb y hy
theorem DigT.take {a : List Int} (ha : DigT a) (n : Nat) : DigT (a.take n) := fun y hy => ha y (List.mem_of_mem_take hy)
theorem DigT.drop {a : List Int} (ha : DigT a) (n : Nat) : DigT (a.drop n) := fun y hy => ha y (List.mem_of_mem_drop hy)
theorem DigT.getD {a : List Int} (ha : DigT a) (n : Nat) : 0 ≤ a.getD n 0 ∧ a.getD n 0 < 10000 := by
  rw [List.getD_eq_getElem?_getD]
  cases h : a[n]? with
  | none => simp
  | some x => exact ha x (List.mem_of_getElem? h)
theorem dig_decs : ∀ n : Nat, DigT (decs n) := by
  intro n
  induction n using Nat.strongRecOn with
  | ind n ih =>
    by_cases h : n = 0
    · rw [h, decs_zero]; exact DigT.nil
    · rw [decs_pos h]
      exact DigT.cons (by omega) (by omega) (ih _ (by omega))
theorem valT_decs : ∀ n : Nat, valT (decs n) = n := by
  intro n
  induction n using Nat.strongRecOn with
  | ind n ih =>
    by_cases h : n = 0
    · rw [h, decs_zero]; rfl
    · rw [decs_pos h, valT, ih _ (by omega)]
      simp only [Int.toNat_natCast]
      omega
theorem valT_trimT : ∀ l : List Int, valT (trimT l) = valT l
  | [] => rfl
  | x :: xs => by
    rw [trimT]
    split
    · rename_i h
      have ih := valT_trimT xs
      rw [h.1] at ih
      show 0 = x.toNat + 10000 * valT xs
      rw [← ih, h.2]; rfl
    · rw [valT, valT, valT_trimT xs]
theorem decs_valT : ∀ {l : List Int}, DigT l → decs (valT l) = trimT l
  | [], _ => decs_zero
  | x :: xs, h => by
    have ih := decs_valT h.tail
    obtain ⟨h0, h1⟩ := h.head
    rw [trimT, valT, ← ih]
    by_cases hz : x.toNat + 10000 * valT xs = 0
    · have hx : x = 0 := by omega
      have hv : valT xs = 0 := by omega
      rw [hv, hx]; simp [decs_zero]
    · rw [decs_pos hz, if_neg (by rw [decs_nil]; omega)]
      congr 1
      · omega
      · congr 1; omega
theorem trimT_decs (n : Nat) : trimT (decs n) = decs n := by rw [← decs_valT (dig_decs n), valT_decs]
theorem valT_append : ∀ a b : List Int, valT (a ++ b) = valT a + 10000 ^ a.length * valT b
  | [], b => by simp [valT]
  | x :: xs, b => by
    rw [List.cons_append, valT, valT, valT_append xs b, List.length_cons, Nat.pow_succ, Nat.mul_add, Nat.mul_comm (10000 ^ xs.length) 10000, Nat.mul_assoc]
    omega
theorem valT_lt : ∀ {l : List Int}, DigT l → valT l < 10000 ^ l.length
  | [], _ => by simp [valT]
  | x :: xs, h => by
    have ih := valT_lt h.tail
    have h1 := h.head
    rw [valT, List.length_cons, Nat.pow_succ]
    have : x.toNat < 10000 := by omega
    have h2 : 10000 * (valT xs + 1) ≤ 10000 * 10000 ^ xs.length := Nat.mul_le_mul_left _ ih
    rw [Nat.mul_comm (10000 ^ xs.length)]
    omega
theorem trimT_nil_of {l : List Int} (h : ∀ j, j < l.length → l.getD j 0 = 0) : trimT l = [] := by
  induction l with
  | nil => rfl
  | cons x xs ih =>
    have h0 : x = 0 := by simpa using h 0 (by simp)
    rw [trimT, if_pos ⟨ih (fun j hj => by simpa using h (j + 1) (by simpa using hj)), h0⟩]
theorem trimT_take : ∀ (l : List Int) (n : Nat), n ≤ l.length → (∀ j, n ≤ j → j < l.length → l.getD j 0 = 0) → (n = 0 ∨ l.getD (n - 1) 0 ≠ 0) → trimT l = l.take n
  | l, 0, _, h, _ => by rw [List.take_zero]; exact trimT_nil_of (fun j hj => h j (Nat.zero_le _) hj)
  | [], n + 1, hn, _, _ => by simp at hn
  | x :: xs, n + 1, hn, h, h1 => by
    rw [List.take_succ_cons, trimT]
    rcases h1 with h1 | h1
    · omega
    have ih := trimT_take xs n (by simpa using hn) (fun j hj hl => by simpa using h (j + 1) (by omega) (by simpa using hl))
    cases n with
    | zero =>
      have ih := ih (.inl rfl)
      rw [List.take_zero] at ih
      rw [ih, List.take_zero, if_neg]
      simp at h1
      simp [h1]
    | succ m =>
      have ih := ih (.inr (by simpa using h1))
      rw [ih, if_neg]
      rintro ⟨h2, _⟩
      have : (xs.take (m + 1)).length = 0 := by rw [h2]; rfl
      rw [List.length_take] at this
      simp only [List.length_cons] at hn
      omega
theorem trimT_length_le : ∀ l : List Int, (trimT l).length ≤ l.length
  | [] => Nat.le_refl _
  | x :: xs => by
    rw [trimT]
    split
    · simp
    · simp [trimT_length_le xs]
theorem trimT_is_take : ∀ l : List Int, trimT l = l.take (trimT l).length
  | [] => rfl
  | x :: xs => by
    rw [trimT]
    split
    · rfl
    · rw [List.length_cons, List.take_succ_cons, ← trimT_is_take xs]
/-- how many decs there are without noughts at the end -/
def topT (l : List Int) : Nat := (trimT l).length
theorem topT_le (l : List Int) : topT l ≤ l.length := trimT_length_le l
theorem topT_eq {l : List Int} {n : Nat} (hn : n ≤ l.length) (h : ∀ j, n ≤ j → j < l.length → l.getD j 0 = 0) (h1 : n = 0 ∨ l.getD (n - 1) 0 ≠ 0) : topT l = n := by
  unfold topT; rw [trimT_take l n hn h h1, List.length_take]; omega
theorem take_topT (l : List Int) : l.take (topT l) = trimT l := (trimT_is_take l).symm
theorem valT_snoc (l : List Int) (x : Int) : valT (l ++ [x]) = valT l + 10000 ^ l.length * x.toNat := by
  rw [valT_append]; simp [valT]
theorem valT_nil_of (l : List Int) (h : trimT l = []) : valT l = 0 := by rw [← valT_trimT, h]; rfl
end Go.Proofs.YtikfefjaeejeeaaGreatDoor
/- Walks: the document's numbers: a digit, a small number. -/
namespace Go.Proofs.YtikfefjaeejeeaaGreatDoor
open Go.RowKit
set_option maxRecDepth 100000
theorem digit_pure (l : List Int) (i : Nat) (hl : l.length ≤ 1073741824) (hi : i ≤ 9223372036854775807) : Pure Tryz.prog 177 [intL l, intP i] (.ret (intP (l.getD i 0))) := by
  have hlen : (nums .i64 l).length = l.length := nums_length _ _
  by_cases h : i < l.length
  · have hx : (nums .i64 l)[i]? = some (.v (.int .i64 (l.getD i 0))) := nums_at (by rw [List.getElem?_eq_getElem h]; simp [List.getD, h])
    generalize l.getD i 0 = x at *
    refine pure_eq (prun [] [(11, .b true), (18, .el (PD.v (Value.int IntKind.i64 x))), (19, .el (PD.v (Value.int IntKind.i64 x)))] (e := AEnd.ret (PD.v (Value.int IntKind.i64 x))) (.c hx (.c (And.intro hx (nn0 (i))) (.c (dT (show (↑i : Int) < (↑(nums IntKind.i64 l).length : Int) by omega)) .n))) (by kernel_rfl)) ?_
    rfl
  · have e : l.getD i 0 = 0 := by simp [List.getD, List.getElem?_eq_none (show l.length ≤ i by omega)]
    rw [e]
    refine pure_eq (prun [] [(11, .b false)] (e := AEnd.ret (PD.v (Value.int IntKind.i64 0))) (.c (dF (show ¬ (↑i : Int) < (↑(nums IntKind.i64 l).length : Int) by omega)) .n) (by kernel_rfl)) ?_
    rfl
theorem decs_drop : ∀ (k n : Nat), (decs n).drop k = decs (n / 10000 ^ k)
  | 0, n => by simp
  | k + 1, n => by
    by_cases h : n = 0
    · subst h; simp [decs_zero]
    · rw [decs_pos h, List.drop_succ_cons, decs_drop k, Nat.div_div_eq_div_mul, Nat.pow_succ, Nat.mul_comm]
def smS (n k : Nat) : St := ⟨mkT 14 [(0, .p (intP (n / 10000 ^ k : Nat))), (3, rowC k (nums .i64 ((decs n).take k)))], ⟨[], tokC 3 1 k, []⟩⟩
set_option maxHeartbeats 1000000 in
theorem small_loop (n : Nat) (hn : n ≤ 9223372036854775807) (hl : (decs n).length ≤ 1073741824) : LoopOK Tryz.prog (loopB Tryz.prog 146 0) (smS n 0) (.exit 0) ⟨mkT 14 [(3, rowC (decs n).length (nums .i64 (decs n)))], ⟨[], tokC 3 1 (decs n).length, []⟩⟩ := by
  refine loop_ix [0, 3] (smS n) (decs n).length (fun _ => True) trivial (fun _ => rfl) ?_
  intro k hk _ ro K Q hQ hK
  have hdr := decs_drop k n
  have hnk : n / 10000 ^ k ≤ n := Nat.div_le_self _ _
  have hsucc : n / 10000 ^ (k + 1) = n / 10000 ^ k / 10000 := by rw [Nat.pow_succ, Nat.div_div_eq_div_mul]
  by_cases hz : n / 10000 ^ k = 0
  · rw [hz, decs_zero] at hdr
    have hkl : k = (decs n).length := by have := congrArg List.length hdr; simp at this; omega
    unfold smS
    rw [hz]
    have ht : (decs n).take k = decs n := by rw [hkl]; exact List.take_length
    rw [ht]
    rw [← hkl] at hQ
    by_cases h0 : k = 0
    · have e1 : ∀ L, rowC k L = .p (.v (.slice none 0 0)) := fun L => by rw [h0]; rfl
      have e2 : tokC 3 1 k = [] := by rw [h0]; rfl
      rw [e1, e2] at hQ ⊢
      refine crun [] ⟨[3], [], [], none⟩ [] (AX.exit 0) (St.mk (mkT 14 [(3, DV.p (PD.v (Value.slice none 0 0)))]) (Mem.mk [] [] [])) .n (by kernel_rfl) ?_
      exact hQ
    · rw [rowC_pos h0, tokC_pos h0] at hQ ⊢
      generalize nums .i64 (decs n) = L at *
      refine crun [] ⟨[3], [], [], none⟩ [] (AX.exit 0) (St.mk (mkT 14 [(3, DV.row 0 L)]) (Mem.mk [] [some (3, 1, k)] [])) .n (by kernel_rfl) ?_
      exact hQ
  · rw [decs_pos hz] at hdr
    have hlt : k < (decs n).length := by
      rcases Nat.lt_or_ge k (decs n).length with h | h
      · exact h
      · rw [List.drop_eq_nil_of_le h] at hdr; cases hdr
    have hx0 : (decs n)[k]? = some ((n / 10000 ^ k % 10000 : Nat) : Int) := by
      have : ((decs n).drop k)[0]? = some ((n / 10000 ^ k % 10000 : Nat) : Int) := by rw [hdr]; rfl
      simpa using this
    have hts := take_snoc hx0
    have e3 : smS n (k + 1) = ⟨mkT 14 [(0, .p (intP (n / 10000 ^ k / 10000 : Nat))), (3, .row 0 (nums .i64 ((decs n).take k) ++ [.v (.int .i64 ((n / 10000 ^ k % 10000 : Nat) : Int))]))], ⟨[], [some (3, 1, (nums .i64 ((decs n).take k)).length + 1)], []⟩⟩ := by
      unfold smS
      rw [rowC_pos (by omega), tokC_pos (by omega), hts, hsucc, ← nums_snoc, nums_length, List.length_take, Nat.min_eq_left (by omega)]
    rw [e3] at hK
    have hl2 : (nums .i64 ((decs n).take k)).length = k := by rw [nums_length, List.length_take]; omega
    have s0 := nums_sized .i64 ((decs n).take k)
    unfold smS
    generalize hm : n / 10000 ^ k = m at *
    have rw1 : (m : Int).tmod 10000 = ((m % 10000 : Nat) : Int) := by rw [Int.tmod_eq_emod_of_nonneg (by omega)]; rfl
    have rw2 : IntKind.i64.wrap ((m : Int).tdiv 10000) = ((m / 10000 : Nat) : Int) := by rw [Int.tdiv_eq_ediv_of_nonneg (by omega), wrap64_id (by omega) (by omega)]; rfl
    have sn : sized 1 [PD.v (.int .i64 ((m % 10000 : Nat) : Int))] := sized_one rfl
    by_cases h0 : k = 0
    · have s1 := sized_nil 1
      have e1 : ∀ L, rowC k L = .p (.v (.slice none 0 0)) := fun L => by rw [h0]; rfl
      have e2 : tokC 3 1 k = [] := by rw [h0]; rfl
      have e4 : nums .i64 ((decs n).take k) = [] := by rw [h0]; rfl
      rw [e1, e2]
      rw [e4] at hK
      refine crun [] ⟨[0, 3], [], [], (some (0, 1, 0))⟩ [(4, .b true), (13, .w (DV.p (PD.v (Value.int IntKind.i64 (↑(m % 10000) : Int))))), (20, .w (DV.p (PD.v (Value.int IntKind.i64 (↑(m / 10000) : Int)))))] (AX.norm) (St.mk (mkT 14 [(0, DV.p (PD.v (Value.int IntKind.i64 (↑(m / 10000) : Int)))), (3, DV.row 0 [PD.v (Value.int IntKind.i64 (↑(m % 10000) : Int))])]) (Mem.mk [] [some (3, 1, 1)] [])) (.c (congrArg (fun z => DV.p (PD.v (Go.Value.int IntKind.i64 z))) rw2) (.c (congrArg (fun z => DV.p (PD.v (Go.Value.int IntKind.i64 z))) rw1) (.c (dT (show (0 : Int) < (↑m : Int) by omega)) .n))) (by kernel_rfl) ?_
      exact hK _ hlt rfl trivial
    · rw [rowC_pos h0, tokC_pos h0]
      generalize nums .i64 ((decs n).take k) = L at *
      subst hl2
      refine crun [] ⟨[0, 3], [], [], (some (0, 1, 0))⟩ [(4, .b true), (13, .w (DV.p (PD.v (Value.int IntKind.i64 (↑(m % 10000) : Int))))), (15, .m), (20, .w (DV.p (PD.v (Value.int IntKind.i64 (↑(m / 10000) : Int)))))] (AX.norm) (St.mk (mkT 14 [(0, DV.p (PD.v (Value.int IntKind.i64 (↑(m / 10000) : Int)))), (3, DV.row 0 (L ++ [PD.v (Value.int IntKind.i64 (↑(m % 10000) : Int))]))]) (Mem.mk [] [some (3, 1, L.length + [PD.v (Value.int IntKind.i64 (↑(m % 10000) : Int))].length)] [])) (.c (congrArg (fun z => DV.p (PD.v (Go.Value.int IntKind.i64 z))) rw2) (.c (show AppOK (1 : Nat) (8 : Nat) L.length L [PD.v (Value.int IntKind.i64 (↑(m % (10000 : Nat)) : Int))] by exact ⟨by first | rfl | omega | (simp; done) | (simp; omega), by first | assumption | exact nums_sized _ _ | simp [sized_nil, sized_one, sized_append, sized_map, nums_sized, nums_append], by first | assumption | exact nums_sized _ _ | simp [sized_nil, sized_one, sized_append, sized_map, nums_sized, nums_append], by first | omega | (simp <;> omega), by first | omega | (simp <;> omega)⟩) (.c (congrArg (fun z => DV.p (PD.v (Go.Value.int IntKind.i64 z))) rw1) (.c (dT (show (0 : Int) < (↑m : Int) by omega)) .n)))) (by kernel_rfl) ?_
      exact hK _ hlt rfl trivial
theorem small_pure (n : Nat) (hn : n ≤ 9223372036854775807) (hl : (decs n).length ≤ 1073741824) : Pure Tryz.prog 146 [intP n] (.ret (intL (decs n))) := by
  have hlo := small_loop n hn hl
  have e0 : smS n 0 = ⟨mkT 14 [(0, .p (intP (n : Nat))), (3, .p (.v (.slice none 0 0)))], ⟨[], [], []⟩⟩ := by
    unfold smS
    rw [Nat.pow_zero, Nat.div_one]
    rfl
  rw [e0] at hlo
  by_cases h0 : (decs n).length = 0
  · have e1 : ∀ L, rowC (decs n).length L = .p (.v (.slice none 0 0)) := fun L => by rw [h0]; rfl
    have e2 : tokC 3 1 (decs n).length = [] := by rw [h0]; rfl
    have e3 : intL (decs n) = .sl [] := by rw [List.eq_nil_of_length_eq_zero h0]; rfl
    rw [e1, e2] at hlo
    rw [e3]
    refine pure_eq (prun [] [(11, .code [0, 3] (AX.exit 0) (St.mk (mkT 14 [(3, DV.p (PD.v (Value.slice none 0 0)))]) (Mem.mk [] [] [])))] (e := AEnd.ret (PD.sl [])) (.c (hlo) .n) (by kernel_rfl)) ?_
    rfl
  · rw [rowC_pos h0, tokC_pos h0] at hlo
    show Pure _ _ _ (.ret (.sl (nums .i64 (decs n))))
    generalize nums .i64 (decs n) = L at *
    refine pure_eq (prun [] [(11, .code [0, 3] (AX.exit 0) (St.mk (mkT 14 [(3, DV.row 0 L)]) (Mem.mk [] [some (3, 1, (decs n).length)] [])))] (e := AEnd.ret (PD.sl L)) (.c (hlo) .n) (by kernel_rfl)) ?_
    rfl
end Go.Proofs.YtikfefjaeejeeaaGreatDoor
/- Walks: the document's sum. -/
namespace Go.Proofs.YtikfefjaeejeeaaGreatDoor
open Go.RowKit
set_option maxRecDepth 100000
theorem decs_len_le (n k : Nat) : (decs n).length ≤ k ↔ n / 10000 ^ k = 0 := by
  have h := decs_drop k n
  constructor
  · intro hk
    rw [List.drop_eq_nil_of_le hk] at h
    exact decs_nil.1 h.symm
  · intro hz
    rw [hz, decs_zero] at h
    have := congrArg List.length h
    simp at this
    omega
theorem decs_lt (n k : Nat) : k < (decs n).length ↔ n / 10000 ^ k ≠ 0 := by
  have := decs_len_le n k
  omega
theorem decs_get {n k : Nat} (h : n / 10000 ^ k ≠ 0) : (decs n)[k]? = some ((n / 10000 ^ k % 10000 : Nat) : Int) := by
  have hdr := decs_drop k n
  rw [decs_pos h] at hdr
  have : ((decs n).drop k)[0]? = some ((n / 10000 ^ k % 10000 : Nat) : Int) := by rw [hdr]; rfl
  simpa using this
theorem decs_getD (n k : Nat) : (decs n).getD k 0 = ((n / 10000 ^ k % 10000 : Nat) : Int) := by
  by_cases h : n / 10000 ^ k = 0
  · rw [h]
    have := (decs_len_le n k).2 h
    simp [List.getD, List.getElem?_eq_none this]
  · simp [List.getD, decs_get h]
/-- what is carried into place k -/
def cyA (x y k : Nat) : Nat := (x + y) / 10000 ^ k - x / 10000 ^ k - y / 10000 ^ k
theorem cyA_spec (x y : Nat) : ∀ k, (x + y) / 10000 ^ k = x / 10000 ^ k + y / 10000 ^ k + cyA x y k ∧ cyA x y k ≤ 1 := by
  intro k
  have hP : 0 < 10000 ^ k := Nat.pow_pos (by decide)
  unfold cyA
  generalize 10000 ^ k = P at *
  have h1 := Nat.div_add_mod x P
  have h2 := Nat.div_add_mod y P
  have h3 := Nat.mod_lt x hP
  have h4 := Nat.mod_lt y hP
  have e : x + y = (x % P + y % P) + P * (x / P + y / P) := by rw [Nat.mul_add]; omega
  have e2 : (x + y) / P = (x % P + y % P) / P + (x / P + y / P) := by rw [e, Nat.add_mul_div_left _ _ hP]
  have h5 : (x % P + y % P) / P ≤ 1 := by
    have : (x % P + y % P) / P < 2 := (Nat.div_lt_iff_lt_mul hP).2 (by omega)
    omega
  rw [e2]
  clear e e2 h1 h2 h3 h4
  generalize (x % P + y % P) / P = q at *
  generalize x / P = X
  generalize y / P = Y
  omega
theorem cyA_next (x y k : Nat) : x / 10000 ^ k % 10000 + y / 10000 ^ k % 10000 + cyA x y k = (x + y) / 10000 ^ k % 10000 + 10000 * cyA x y (k + 1) := by
  obtain ⟨h1, h2⟩ := cyA_spec x y k
  obtain ⟨h3, h4⟩ := cyA_spec x y (k + 1)
  rw [Nat.pow_succ, ← Nat.div_div_eq_div_mul, ← Nat.div_div_eq_div_mul, ← Nat.div_div_eq_div_mul] at h3
  omega
theorem add_len (x y L : Nat) (hx : (decs x).length ≤ L) (hy : (decs y).length ≤ L) : (decs (x + y)).length ≤ L + 1 := by
  rw [decs_len_le]
  have h1 := (decs_len_le x L).1 hx
  have h2 := (decs_len_le y L).1 hy
  obtain ⟨h3, h4⟩ := cyA_spec x y L
  rw [Nat.pow_succ, ← Nat.div_div_eq_div_mul, h3, h1, h2]
  omega
def adS (x y k : Nat) : St := ⟨mkT 42 [(0, .p (intL (decs x))), (1, .p (intL (decs y))), (5, rowC k (nums .i64 ((decs (x + y)).take k))), (6, .p (intP (cyA x y k))), (7, .p (intP k))], ⟨[], tokC 3 1 k, []⟩⟩
set_option maxHeartbeats 2000000 in
theorem add_loop (x y : Nat) (hx : (decs x).length ≤ 1073741823) (hy : (decs y).length ≤ 1073741823) : LoopOK Tryz.prog (loopB Tryz.prog 144 0) (adS x y 0) (.exit 0) ⟨mkT 42 [(5, rowC (decs (x + y)).length (nums .i64 (decs (x + y))))], ⟨[], tokC 3 1 (decs (x + y)).length, []⟩⟩ := by
  have hmax : (decs (x + y)).length ≤ 1073741824 := add_len x y 1073741823 hx hy
  refine loop_ix [0, 1, 5, 6, 7] (adS x y) (decs (x + y)).length (fun _ => True) trivial (fun _ => rfl) ?_
  intro k hk _ ro K Q hQ hK
  obtain ⟨hs, hc⟩ := cyA_spec x y k
  have hnx := cyA_next x y k
  obtain ⟨_, hc2⟩ := cyA_spec x y (k + 1)
  have lx := decs_lt x k
  have ly := decs_lt y k
  have d1 := digit_pure (decs x) k (by omega) (by omega)
  have d2 := digit_pure (decs y) k (by omega) (by omega)
  rw [decs_getD] at d1 d2
  have hlx : (nums .i64 (decs x)).length = (decs x).length := nums_length _ _
  have hly : (nums .i64 (decs y)).length = (decs y).length := nums_length _ _
  have hw := wrap64_succ (k := k) (by omega)
  by_cases hz : (x + y) / 10000 ^ k = 0
  · have hkl : k = (decs (x + y)).length := by have := (decs_len_le (x + y) k).2 hz; omega
    have ht : (decs (x + y)).take k = decs (x + y) := by rw [hkl]; exact List.take_length
    rw [hz] at hs
    obtain ⟨g1, hc0⟩ := Nat.add_eq_zero_iff.1 hs.symm
    obtain ⟨g2, g3⟩ := Nat.add_eq_zero_iff.1 g1
    have nlx : ¬ k < (decs x).length := by rw [lx]; exact fun h => h g2
    have nly : ¬ k < (decs y).length := by rw [ly]; exact fun h => h g3
    clear g1 g2 g3
    unfold adS
    rw [ht, hc0]
    rw [← hkl] at hQ
    clear hs hnx lx ly d1 d2 hz hkl ht
    by_cases h0 : k = 0
    · have e1 : ∀ L, rowC k L = .p (.v (.slice none 0 0)) := fun L => by rw [h0]; rfl
      have e2 : tokC 3 1 k = [] := by rw [h0]; rfl
      rw [e1, e2] at hQ ⊢
      refine crun [] ⟨[5], [], [], none⟩ [(6, .b false), (11, .b false)] (AX.exit 0) (St.mk (mkT 42 [(5, DV.p (PD.v (Value.slice none 0 0)))]) (Mem.mk [] [] [])) (.c (dF (show ¬ (↑k : Int) < (↑(nums IntKind.i64 (decs y)).length : Int) by omega)) (.c (dF (show ¬ (↑k : Int) < (↑(nums IntKind.i64 (decs x)).length : Int) by omega)) .n)) (by kernel_rfl) ?_
      exact hQ
    · rw [rowC_pos h0, tokC_pos h0] at hQ ⊢
      generalize nums .i64 (decs (x + y)) = L at *
      refine crun [] ⟨[5], [], [], none⟩ [(6, .b false), (11, .b false)] (AX.exit 0) (St.mk (mkT 42 [(5, DV.row 0 L)]) (Mem.mk [] [some (3, 1, k)] [])) (.c (dF (show ¬ (↑k : Int) < (↑(nums IntKind.i64 (decs y)).length : Int) by omega)) (.c (dF (show ¬ (↑k : Int) < (↑(nums IntKind.i64 (decs x)).length : Int) by omega)) .n)) (by kernel_rfl) ?_
      exact hQ
  · have hlt : k < (decs (x + y)).length := (decs_lt _ _).2 hz
    have hx0 := decs_get hz
    have hts := take_snoc hx0
    have hgo2 : True := trivial
    have hgo : (k < (decs x).length ∨ k < (decs y).length) ∨ 0 < cyA x y k := by
      rw [lx, ly]
      rcases Nat.eq_zero_or_pos (cyA x y k) with h | h
      · by_cases h1 : x / 10000 ^ k = 0
        · by_cases h2 : y / 10000 ^ k = 0
          · rw [h, h1, h2] at hs; exact absurd hs hz
          · exact .inl (.inr h2)
        · exact .inl (.inl h1)
      · exact .inr h
    have e3 : adS x y (k + 1) = ⟨mkT 42 [(0, .p (intL (decs x))), (1, .p (intL (decs y))), (5, .row 0 (nums .i64 ((decs (x + y)).take k) ++ [.v (.int .i64 (((x + y) / 10000 ^ k % 10000 : Nat) : Int))])), (6, .p (intP (cyA x y (k + 1)))), (7, .p (intP (k + 1 : Nat)))], ⟨[], [some (3, 1, (nums .i64 ((decs (x + y)).take k)).length + 1)], []⟩⟩ := by
      unfold adS
      rw [rowC_pos (by omega), tokC_pos (by omega), hts, ← nums_snoc, nums_length, List.length_take, Nat.min_eq_left (by omega)]
    rw [e3] at hK
    have hl2 : (nums .i64 ((decs (x + y)).take k)).length = k := by rw [nums_length, List.length_take]; omega
    have s0 := nums_sized .i64 ((decs (x + y)).take k)
    have hm : (x + y) / 10000 ^ k % 10000 < 10000 := Nat.mod_lt _ (by decide)
    unfold adS
    have X1 : x / 10000 ^ k % 10000 < 10000 := Nat.mod_lt _ (by decide)
    have Y1 : y / 10000 ^ k % 10000 < 10000 := Nat.mod_lt _ (by decide)
    clear hs hz hts hx0 e3 lx ly hgo2
    generalize x / 10000 ^ k % 10000 = X at d1 hnx X1
    generalize y / 10000 ^ k % 10000 = Y at d2 hnx Y1
    generalize (x + y) / 10000 ^ k % 10000 = M at hnx hK hm
    generalize cyA x y (k + 1) = c2 at hnx hc2 hK
    generalize cyA x y k = c at hnx hc hgo ⊢
    have rwa : IntKind.i64.wrap ((X : Int) + (Y : Int)) = (X : Int) + Y := wrap64_id (by omega) (by omega)
    have rwb : IntKind.i64.wrap ((X : Int) + (Y : Int) + (c : Int)) = (X : Int) + Y + c := wrap64_id (by omega) (by omega)
    have rwc : ((X : Int) + (Y : Int) + (c : Int)).tmod 10000 = (M : Int) := by rw [Int.tmod_eq_emod_of_nonneg (by omega)]; omega
    have rwd : IntKind.i64.wrap (((X : Int) + (Y : Int) + (c : Int)).tdiv 10000) = (c2 : Int) := by rw [Int.tdiv_eq_ediv_of_nonneg (by omega), wrap64_id (by omega) (by omega)]; omega
    have sn : sized 1 [PD.v (.int .i64 (M : Int))] := sized_one rfl
    by_cases h0 : k = 0
    · have s1 := sized_nil 1
      have e1 : ∀ L, rowC k L = .p (.v (.slice none 0 0)) := fun L => by rw [h0]; rfl
      have e2 : tokC 3 1 k = [] := by rw [h0]; rfl
      have e4 : nums .i64 ((decs (x + y)).take k) = [] := by rw [h0]; rfl
      rw [e1, e2]
      rw [e4] at hK
      by_cases h0 : (↑k : Int) < (↑(nums IntKind.i64 (decs x)).length : Int)
      ·
        refine crun [] ⟨[0, 1, 5, 6, 7], [], [], (some (0, 1, 0))⟩ [(6, .b true), (26, .call (AEnd.ret (PD.v (Value.int IntKind.i64 (↑X : Int))))), (29, .call (AEnd.ret (PD.v (Value.int IntKind.i64 (↑Y : Int))))), (30, .w (DV.p (PD.v (Value.int IntKind.i64 ((↑X : Int) + (↑Y : Int)))))), (32, .w (DV.p (PD.v (Value.int IntKind.i64 ((↑X : Int) + (↑Y : Int) + (↑c : Int)))))), (39, .w (DV.p (PD.v (Value.int IntKind.i64 (↑M : Int))))), (46, .w (DV.p (PD.v (Value.int IntKind.i64 (↑c2 : Int)))))] (AX.norm) (St.mk (mkT 42 [(0, DV.p (PD.sl (nums IntKind.i64 (decs x)))), (1, DV.p (PD.sl (nums IntKind.i64 (decs y)))), (5, DV.row 0 [PD.v (Value.int IntKind.i64 (↑M : Int))]), (6, DV.p (PD.v (Value.int IntKind.i64 (↑c2 : Int)))), (7, DV.p (PD.v (Value.int IntKind.i64 (IntKind.i64.wrap ((↑k : Int) + 1)))))]) (Mem.mk [] [some (3, 1, 1)] [])) (.c (congrArg (fun z => DV.p (PD.v (Go.Value.int IntKind.i64 z))) rwd) (.c (congrArg (fun z => DV.p (PD.v (Go.Value.int IntKind.i64 z))) rwc) (.c (congrArg (fun z => DV.p (PD.v (Go.Value.int IntKind.i64 z))) rwb) (.c (congrArg (fun z => DV.p (PD.v (Go.Value.int IntKind.i64 z))) rwa) (.c (d2) (.c (d1) (.c (dT h0) .n))))))) (by kernel_rfl) ?_
        exact hK _ hlt (by simp only [hw]; rfl) trivial
      ·
        by_cases h1 : (↑k : Int) < (↑(nums IntKind.i64 (decs y)).length : Int)
        ·
          refine crun [] ⟨[0, 1, 5, 6, 7], [], [], (some (0, 1, 0))⟩ [(6, .b false), (11, .b true), (26, .call (AEnd.ret (PD.v (Value.int IntKind.i64 (↑X : Int))))), (29, .call (AEnd.ret (PD.v (Value.int IntKind.i64 (↑Y : Int))))), (30, .w (DV.p (PD.v (Value.int IntKind.i64 ((↑X : Int) + (↑Y : Int)))))), (32, .w (DV.p (PD.v (Value.int IntKind.i64 ((↑X : Int) + (↑Y : Int) + (↑c : Int)))))), (39, .w (DV.p (PD.v (Value.int IntKind.i64 (↑M : Int))))), (46, .w (DV.p (PD.v (Value.int IntKind.i64 (↑c2 : Int)))))] (AX.norm) (St.mk (mkT 42 [(0, DV.p (PD.sl (nums IntKind.i64 (decs x)))), (1, DV.p (PD.sl (nums IntKind.i64 (decs y)))), (5, DV.row 0 [PD.v (Value.int IntKind.i64 (↑M : Int))]), (6, DV.p (PD.v (Value.int IntKind.i64 (↑c2 : Int)))), (7, DV.p (PD.v (Value.int IntKind.i64 (IntKind.i64.wrap ((↑k : Int) + 1)))))]) (Mem.mk [] [some (3, 1, 1)] [])) (.c (congrArg (fun z => DV.p (PD.v (Go.Value.int IntKind.i64 z))) rwd) (.c (congrArg (fun z => DV.p (PD.v (Go.Value.int IntKind.i64 z))) rwc) (.c (congrArg (fun z => DV.p (PD.v (Go.Value.int IntKind.i64 z))) rwb) (.c (congrArg (fun z => DV.p (PD.v (Go.Value.int IntKind.i64 z))) rwa) (.c (d2) (.c (d1) (.c (dT h1) (.c (dF h0) .n)))))))) (by kernel_rfl) ?_
          exact hK _ hlt (by simp only [hw]; rfl) trivial
        ·
          refine crun [] ⟨[0, 1, 5, 6, 7], [], [], (some (0, 1, 0))⟩ [(6, .b false), (11, .b false), (15, .b true), (26, .call (AEnd.ret (PD.v (Value.int IntKind.i64 (↑X : Int))))), (29, .call (AEnd.ret (PD.v (Value.int IntKind.i64 (↑Y : Int))))), (30, .w (DV.p (PD.v (Value.int IntKind.i64 ((↑X : Int) + (↑Y : Int)))))), (32, .w (DV.p (PD.v (Value.int IntKind.i64 ((↑X : Int) + (↑Y : Int) + (↑c : Int)))))), (39, .w (DV.p (PD.v (Value.int IntKind.i64 (↑M : Int))))), (46, .w (DV.p (PD.v (Value.int IntKind.i64 (↑c2 : Int)))))] (AX.norm) (St.mk (mkT 42 [(0, DV.p (PD.sl (nums IntKind.i64 (decs x)))), (1, DV.p (PD.sl (nums IntKind.i64 (decs y)))), (5, DV.row 0 [PD.v (Value.int IntKind.i64 (↑M : Int))]), (6, DV.p (PD.v (Value.int IntKind.i64 (↑c2 : Int)))), (7, DV.p (PD.v (Value.int IntKind.i64 (IntKind.i64.wrap ((↑k : Int) + 1)))))]) (Mem.mk [] [some (3, 1, 1)] [])) (.c (congrArg (fun z => DV.p (PD.v (Go.Value.int IntKind.i64 z))) rwd) (.c (congrArg (fun z => DV.p (PD.v (Go.Value.int IntKind.i64 z))) rwc) (.c (congrArg (fun z => DV.p (PD.v (Go.Value.int IntKind.i64 z))) rwb) (.c (congrArg (fun z => DV.p (PD.v (Go.Value.int IntKind.i64 z))) rwa) (.c (d2) (.c (d1) (.c (dT (show (0 : Int) < (↑c : Int) by omega)) (.c (dF h1) (.c (dF h0) .n))))))))) (by kernel_rfl) ?_
          exact hK _ hlt (by simp only [hw]; rfl) trivial
    · rw [rowC_pos h0, tokC_pos h0]
      generalize nums .i64 ((decs (x + y)).take k) = L at *
      subst hl2
      by_cases h0 : (↑L.length : Int) < (↑(nums IntKind.i64 (decs x)).length : Int)
      ·
        refine crun [] ⟨[0, 1, 5, 6, 7], [], [], (some (0, 1, 0))⟩ [(6, .b true), (26, .call (AEnd.ret (PD.v (Value.int IntKind.i64 (↑X : Int))))), (29, .call (AEnd.ret (PD.v (Value.int IntKind.i64 (↑Y : Int))))), (30, .w (DV.p (PD.v (Value.int IntKind.i64 ((↑X : Int) + (↑Y : Int)))))), (32, .w (DV.p (PD.v (Value.int IntKind.i64 ((↑X : Int) + (↑Y : Int) + (↑c : Int)))))), (39, .w (DV.p (PD.v (Value.int IntKind.i64 (↑M : Int))))), (41, .m), (46, .w (DV.p (PD.v (Value.int IntKind.i64 (↑c2 : Int)))))] (AX.norm) (St.mk (mkT 42 [(0, DV.p (PD.sl (nums IntKind.i64 (decs x)))), (1, DV.p (PD.sl (nums IntKind.i64 (decs y)))), (5, DV.row 0 (L ++ [PD.v (Value.int IntKind.i64 (↑M : Int))])), (6, DV.p (PD.v (Value.int IntKind.i64 (↑c2 : Int)))), (7, DV.p (PD.v (Value.int IntKind.i64 (IntKind.i64.wrap ((↑L.length : Int) + 1)))))]) (Mem.mk [] [some (3, 1, L.length + [PD.v (Value.int IntKind.i64 (↑M : Int))].length)] [])) (.c (congrArg (fun z => DV.p (PD.v (Go.Value.int IntKind.i64 z))) rwd) (.c (show AppOK (1 : Nat) (8 : Nat) L.length L [PD.v (Value.int IntKind.i64 (↑M : Int))] by exact ⟨by first | rfl | omega | (simp; done) | (simp; omega), by first | assumption | exact nums_sized _ _ | simp [sized_nil, sized_one, sized_append, sized_map, nums_sized, nums_append], by first | assumption | exact nums_sized _ _ | simp [sized_nil, sized_one, sized_append, sized_map, nums_sized, nums_append], by first | omega | (simp <;> omega), by first | omega | (simp <;> omega)⟩) (.c (congrArg (fun z => DV.p (PD.v (Go.Value.int IntKind.i64 z))) rwc) (.c (congrArg (fun z => DV.p (PD.v (Go.Value.int IntKind.i64 z))) rwb) (.c (congrArg (fun z => DV.p (PD.v (Go.Value.int IntKind.i64 z))) rwa) (.c (d2) (.c (d1) (.c (dT h0) .n)))))))) (by kernel_rfl) ?_
        exact hK _ hlt (by simp only [hw]; rfl) trivial
      ·
        by_cases h1 : (↑L.length : Int) < (↑(nums IntKind.i64 (decs y)).length : Int)
        ·
          refine crun [] ⟨[0, 1, 5, 6, 7], [], [], (some (0, 1, 0))⟩ [(6, .b false), (11, .b true), (26, .call (AEnd.ret (PD.v (Value.int IntKind.i64 (↑X : Int))))), (29, .call (AEnd.ret (PD.v (Value.int IntKind.i64 (↑Y : Int))))), (30, .w (DV.p (PD.v (Value.int IntKind.i64 ((↑X : Int) + (↑Y : Int)))))), (32, .w (DV.p (PD.v (Value.int IntKind.i64 ((↑X : Int) + (↑Y : Int) + (↑c : Int)))))), (39, .w (DV.p (PD.v (Value.int IntKind.i64 (↑M : Int))))), (41, .m), (46, .w (DV.p (PD.v (Value.int IntKind.i64 (↑c2 : Int)))))] (AX.norm) (St.mk (mkT 42 [(0, DV.p (PD.sl (nums IntKind.i64 (decs x)))), (1, DV.p (PD.sl (nums IntKind.i64 (decs y)))), (5, DV.row 0 (L ++ [PD.v (Value.int IntKind.i64 (↑M : Int))])), (6, DV.p (PD.v (Value.int IntKind.i64 (↑c2 : Int)))), (7, DV.p (PD.v (Value.int IntKind.i64 (IntKind.i64.wrap ((↑L.length : Int) + 1)))))]) (Mem.mk [] [some (3, 1, L.length + [PD.v (Value.int IntKind.i64 (↑M : Int))].length)] [])) (.c (congrArg (fun z => DV.p (PD.v (Go.Value.int IntKind.i64 z))) rwd) (.c (show AppOK (1 : Nat) (8 : Nat) L.length L [PD.v (Value.int IntKind.i64 (↑M : Int))] by exact ⟨by first | rfl | omega | (simp; done) | (simp; omega), by first | assumption | exact nums_sized _ _ | simp [sized_nil, sized_one, sized_append, sized_map, nums_sized, nums_append], by first | assumption | exact nums_sized _ _ | simp [sized_nil, sized_one, sized_append, sized_map, nums_sized, nums_append], by first | omega | (simp <;> omega), by first | omega | (simp <;> omega)⟩) (.c (congrArg (fun z => DV.p (PD.v (Go.Value.int IntKind.i64 z))) rwc) (.c (congrArg (fun z => DV.p (PD.v (Go.Value.int IntKind.i64 z))) rwb) (.c (congrArg (fun z => DV.p (PD.v (Go.Value.int IntKind.i64 z))) rwa) (.c (d2) (.c (d1) (.c (dT h1) (.c (dF h0) .n))))))))) (by kernel_rfl) ?_
          exact hK _ hlt (by simp only [hw]; rfl) trivial
        ·
          refine crun [] ⟨[0, 1, 5, 6, 7], [], [], (some (0, 1, 0))⟩ [(6, .b false), (11, .b false), (15, .b true), (26, .call (AEnd.ret (PD.v (Value.int IntKind.i64 (↑X : Int))))), (29, .call (AEnd.ret (PD.v (Value.int IntKind.i64 (↑Y : Int))))), (30, .w (DV.p (PD.v (Value.int IntKind.i64 ((↑X : Int) + (↑Y : Int)))))), (32, .w (DV.p (PD.v (Value.int IntKind.i64 ((↑X : Int) + (↑Y : Int) + (↑c : Int)))))), (39, .w (DV.p (PD.v (Value.int IntKind.i64 (↑M : Int))))), (41, .m), (46, .w (DV.p (PD.v (Value.int IntKind.i64 (↑c2 : Int)))))] (AX.norm) (St.mk (mkT 42 [(0, DV.p (PD.sl (nums IntKind.i64 (decs x)))), (1, DV.p (PD.sl (nums IntKind.i64 (decs y)))), (5, DV.row 0 (L ++ [PD.v (Value.int IntKind.i64 (↑M : Int))])), (6, DV.p (PD.v (Value.int IntKind.i64 (↑c2 : Int)))), (7, DV.p (PD.v (Value.int IntKind.i64 (IntKind.i64.wrap ((↑L.length : Int) + 1)))))]) (Mem.mk [] [some (3, 1, L.length + [PD.v (Value.int IntKind.i64 (↑M : Int))].length)] [])) (.c (congrArg (fun z => DV.p (PD.v (Go.Value.int IntKind.i64 z))) rwd) (.c (show AppOK (1 : Nat) (8 : Nat) L.length L [PD.v (Value.int IntKind.i64 (↑M : Int))] by exact ⟨by first | rfl | omega | (simp; done) | (simp; omega), by first | assumption | exact nums_sized _ _ | simp [sized_nil, sized_one, sized_append, sized_map, nums_sized, nums_append], by first | assumption | exact nums_sized _ _ | simp [sized_nil, sized_one, sized_append, sized_map, nums_sized, nums_append], by first | omega | (simp <;> omega), by first | omega | (simp <;> omega)⟩) (.c (congrArg (fun z => DV.p (PD.v (Go.Value.int IntKind.i64 z))) rwc) (.c (congrArg (fun z => DV.p (PD.v (Go.Value.int IntKind.i64 z))) rwb) (.c (congrArg (fun z => DV.p (PD.v (Go.Value.int IntKind.i64 z))) rwa) (.c (d2) (.c (d1) (.c (dT (show (0 : Int) < (↑c : Int) by omega)) (.c (dF h1) (.c (dF h0) .n)))))))))) (by kernel_rfl) ?_
          exact hK _ hlt (by simp only [hw]; rfl) trivial
theorem cyA_zero (x y : Nat) : cyA x y 0 = 0 := by
  unfold cyA
  simp only [Nat.pow_zero, Nat.div_one]
  omega
theorem add_pure (x y : Nat) (hx : (decs x).length ≤ 1073741823) (hy : (decs y).length ≤ 1073741823) : Pure Tryz.prog 144 [intL (decs x), intL (decs y)] (.ret (intL (decs (x + y)))) := by
  have hlo := add_loop x y hx hy
  have e0 : adS x y 0 = ⟨mkT 42 [(0, .p (intL (decs x))), (1, .p (intL (decs y))), (5, .p (.v (.slice none 0 0))), (6, .p (intP 0)), (7, .p (intP 0))], ⟨[], [], []⟩⟩ := by
    unfold adS
    rw [cyA_zero]
    rfl
  rw [e0] at hlo
  by_cases h0 : (decs (x + y)).length = 0
  · have e1 : ∀ L, rowC (decs (x + y)).length L = .p (.v (.slice none 0 0)) := fun L => by rw [h0]; rfl
    have e2 : tokC 3 1 (decs (x + y)).length = [] := by rw [h0]; rfl
    have e3 : intL (decs (x + y)) = .sl [] := by rw [List.eq_nil_of_length_eq_zero h0]; rfl
    rw [e1, e2] at hlo
    rw [e3]
    refine pure_eq (prun [] [(19, .code [0, 1, 5, 6, 7] (AX.exit 0) (St.mk (mkT 42 [(5, DV.p (PD.v (Value.slice none 0 0)))]) (Mem.mk [] [] [])))] (e := AEnd.ret (PD.sl [])) (.c (hlo) .n) (by kernel_rfl)) ?_
    rfl
  · rw [rowC_pos h0, tokC_pos h0] at hlo
    show Pure _ _ _ (.ret (.sl (nums .i64 (decs (x + y)))))
    generalize nums .i64 (decs (x + y)) = L at *
    refine pure_eq (prun [] [(19, .code [0, 1, 5, 6, 7] (AX.exit 0) (St.mk (mkT 42 [(5, DV.row 0 L)]) (Mem.mk [] [some (3, 1, (decs (x + y)).length)] [])))] (e := AEnd.ret (PD.sl L)) (.c (hlo) .n) (by kernel_rfl)) ?_
    rfl
end Go.Proofs.YtikfefjaeejeeaaGreatDoor
/- Walks: the document's numbers without noughts at the end; a product with a small one. -/
namespace Go.Proofs.YtikfefjaeejeeaaGreatDoor
open Go.RowKit
set_option maxRecDepth 100000
def tpAt (l : List Int) : Nat → Nat
  | 0 => 0
  | n + 1 => if l[n]? = some 0 then tpAt l n else n + 1
def tpW (l : List Int) : Nat := tpAt l l.length
theorem tpAt_le (l : List Int) : ∀ n, tpAt l n ≤ n
  | 0 => Nat.le_refl _
  | n + 1 => by
    unfold tpAt
    split
    · exact Nat.le_succ_of_le (tpAt_le l n)
    · exact Nat.le_refl _
theorem tpW_le (l : List Int) : tpW l ≤ l.length := tpAt_le l _
theorem tpAt_spec (l : List Int) : ∀ n, n ≤ l.length → (∀ j, tpAt l n ≤ j → j < n → l.getD j 0 = 0) ∧ (tpAt l n = 0 ∨ l.getD (tpAt l n - 1) 0 ≠ 0)
  | 0, _ => ⟨fun j _ h => by omega, .inl rfl⟩
  | n + 1, hn => by
    obtain ⟨h1, h2⟩ := tpAt_spec l n (by omega)
    by_cases h : l[n]? = some 0
    · have e : tpAt l (n + 1) = tpAt l n := if_pos h
      rw [e]
      refine ⟨fun j hj hlt => ?_, h2⟩
      by_cases hjn : j = n
      · subst hjn; simp [List.getD, h]
      · exact h1 j hj (by omega)
    · have e : tpAt l (n + 1) = n + 1 := if_neg h
      rw [e]
      refine ⟨fun j hj hlt => by omega, .inr ?_⟩
      rw [Nat.add_sub_cancel]
      intro hz
      apply h
      rw [List.getElem?_eq_getElem (by omega)]
      simp only [List.getD, List.getElem?_eq_getElem (show n < l.length by omega), Option.getD_some] at hz
      rw [hz]
theorem tpW_eq (l : List Int) : tpW l = topT l := by
  obtain ⟨h1, h2⟩ := tpAt_spec l l.length (Nat.le_refl _)
  exact (topT_eq (tpW_le l) h1 h2).symm
def trS (l : List Int) (m : Nat) : St := ⟨mkT 21 [(0, .p (intL l)), (3, .p (intP m))], ⟨[], [], []⟩⟩
theorem tr_loop (l : List Int) (hl : l.length ≤ 9223372036854775807) : LoopOK Tryz.prog (loopB Tryz.prog 178 0) (trS l l.length) (.exit 0) ⟨mkT 21 [(0, .p (intL l)), (3, .p (intP (tpW l)))], ⟨[], [], []⟩⟩ := by
  refine loop_ix [0, 3] (fun k => trS l (l.length - k)) l.length (fun k => tpW l = tpAt l (l.length - k)) rfl (fun _ => rfl) ?_
  intro k hk hp ro K Q hQ hK
  obtain ⟨m, hm⟩ : ∃ m, m = l.length - k := ⟨_, rfl⟩
  have hlen : (nums .i64 l).length = l.length := nums_length _ _
  simp only [← hm] at hp ⊢
  unfold trS
  cases m with
  | zero =>
    have e : tpW l = 0 := hp
    rw [e] at hQ
    refine crun [] ⟨[0, 3], [], [], none⟩ [] (AX.exit 0) (St.mk (mkT 21 [(0, DV.p (PD.sl (nums IntKind.i64 l))), (3, DV.p (PD.v (Value.int IntKind.i64 0)))]) (Mem.mk [] [] [])) .n (by kernel_rfl) ?_
    exact hQ
  | succ j =>
    have hj : j < l.length := by omega
    obtain ⟨x, hx0, hd⟩ := get_of_lt hj
    have hw : IntKind.i64.wrap (((j + 1 : Nat) : Int) - 1) = (j : Int) := by rw [show (((j + 1 : Nat) : Int) - 1) = (j : Int) by omega, wrap64_id (by omega) (by omega)]
    have hx : (nums .i64 l)[(IntKind.i64.wrap (((j + 1 : Nat) : Int) - 1)).toNat]? = some (.v (.int .i64 x)) := by rw [hw]; exact nums_at hx0
    have hn : 0 ≤ IntKind.i64.wrap (((j + 1 : Nat) : Int) - 1) := by rw [hw]; omega
    by_cases h0 : x = 0
    · subst h0
      have hp2 : tpW l = tpAt l j := by rw [hp]; exact if_pos hx0
      refine crun [] ⟨[0, 3], [], [], none⟩ [(4, .b true), (9, .el (PD.v (Value.int IntKind.i64 0))), (10, .el (PD.v (Value.int IntKind.i64 0)))] (AX.norm) (St.mk (mkT 21 [(0, DV.p (PD.sl (nums IntKind.i64 l))), (3, DV.p (PD.v (Value.int IntKind.i64 (IntKind.i64.wrap ((↑(j + 1) : Int) - 1)))))]) (Mem.mk [] [] [])) (.c hx (.c (And.intro hx (show (0 : Int) ≤ IntKind.i64.wrap ((↑(j + 1) : Int) - 1) by omega)) (.c (dT (show (0 : Int) < (↑(j + (1 : Nat)) : Int) by omega)) .n))) (by kernel_rfl) ?_
      exact hK _ (by omega) (by simp only [hw]; rw [show l.length - (k + 1) = j by omega]; rfl) (by show tpW l = tpAt l (l.length - (k + 1)); rw [show l.length - (k + 1) = j by omega]; exact hp2)
    · have hp2 : tpW l = j + 1 := by rw [hp]; exact if_neg (by rw [hx0]; simpa using h0)
      rw [hp2] at hQ
      refine crun [] ⟨[0, 3], [], [], none⟩ [(4, .b true), (9, .el (PD.v (Value.int IntKind.i64 x))), (10, .el (PD.v (Value.int IntKind.i64 x))), (11, .b false)] (AX.exit 0) (St.mk (mkT 21 [(0, DV.p (PD.sl (nums IntKind.i64 l))), (3, DV.p (PD.v (Value.int IntKind.i64 (↑(j + 1) : Int))))]) (Mem.mk [] [] [])) (.c (eF h0) (.c hx (.c (And.intro hx (show (0 : Int) ≤ IntKind.i64.wrap ((↑(j + 1) : Int) - 1) by omega)) (.c (dT (show (0 : Int) < (↑(j + (1 : Nat)) : Int) by omega)) .n)))) (by kernel_rfl) ?_
      exact hQ
theorem trimR_pure (l : List Int) (hl : l.length ≤ 1073741824) : Pure Tryz.prog 178 [intL l] (.ret (intL (trimT l))) := by
  have h := tr_loop l (by omega)
  have hle := tpW_le l
  have hlen : (nums .i64 l).length = l.length := nums_length _ _
  have e : intL (trimT l) = .sl (((nums .i64 l).drop 0).take (((tpW l : Nat) : Int).toNat - 0)) := by
    rw [← take_topT, ← tpW_eq]
    simp [intL, nums, List.map_take]
  rw [e]
  have hs := nums_sized .i64 l
  unfold trS at h
  rw [← hlen] at h
  rw [← hlen] at hle
  generalize tpW l = T at *
  refine pure_eq (prun [] [(13, .code [0, 3] (AX.exit 0) (St.mk (mkT 21 [(0, DV.p (intL l)), (3, DV.p (intP (↑T : Int)))]) (Mem.mk [] [] []))), (18, .sc)] (e := AEnd.ret (PD.sl (List.take ((↑T : Int).toNat - 0) (List.drop 0 (nums IntKind.i64 l))))) (.c (show SlOK (0 : Nat) (↑T : Int).toNat (nums IntKind.i64 l).length True ((0 : Int) ≤ (↑T : Int)) ∧ sized ((fun x => x.size) Tryz.prog.types[(3 : Nat)]) (nums IntKind.i64 l) by first | exact ⟨by first | trivial | omega, by first | trivial | omega, by first | omega | (simp <;> omega), by first | omega | (simp <;> omega)⟩ | exact ⟨⟨by first | trivial | omega, by first | trivial | omega, by first | omega | (simp <;> omega), by first | omega | (simp <;> omega)⟩, by first | assumption | exact nums_sized _ _ | simp [sized_nil, sized_one, sized_append, sized_map, nums_sized, nums_append]⟩ | exact ⟨⟨by first | trivial | omega, by first | trivial | omega, by first | omega | (simp <;> omega), by first | omega | (simp <;> omega)⟩, by first | omega | (simp <;> omega)⟩) (.c (h) .n)) (by kernel_rfl)) ?_
  rfl
end Go.Proofs.YtikfefjaeejeeaaGreatDoor
/- Walks: the document's product with a small number. -/
namespace Go.Proofs.YtikfefjaeejeeaaGreatDoor
open Go.RowKit
set_option maxRecDepth 100000
def cyT (x d k : Nat) : Nat := x * d / 10000 ^ k - x / 10000 ^ k * d
theorem cyT_spec (x d k : Nat) : x * d / 10000 ^ k = x / 10000 ^ k * d + cyT x d k ∧ cyT x d k ≤ d := by
  have hP : 0 < 10000 ^ k := Nat.pow_pos (by decide)
  unfold cyT
  generalize 10000 ^ k = P at *
  have h1 := Nat.div_add_mod x P
  have h3 := Nat.mod_lt x hP
  have e2 : x * d / P = x % P * d / P + x / P * d := by
    have : x * d = x % P * d + P * (x / P * d) := by
      have : x * d = (P * (x / P) + x % P) * d := by rw [h1]
      rw [this, Nat.add_mul, Nat.mul_assoc]; omega
    rw [this, Nat.add_mul_div_left _ _ hP]
  have h5 : x % P * d / P ≤ d := by
    have : x % P * d ≤ d * P := by rw [Nat.mul_comm d P]; exact Nat.mul_le_mul_right _ (by omega)
    exact Nat.div_le_of_le_mul (by rw [Nat.mul_comm P d]; exact this)
  rw [e2]
  generalize x % P * d / P = q at *
  generalize x / P * d = X
  omega
theorem cyT_next (x d k : Nat) : x / 10000 ^ k % 10000 * d + cyT x d k = x * d / 10000 ^ k % 10000 + 10000 * cyT x d (k + 1) := by
  obtain ⟨h1, _⟩ := cyT_spec x d k
  obtain ⟨h3, _⟩ := cyT_spec x d (k + 1)
  rw [Nat.pow_succ, ← Nat.div_div_eq_div_mul, ← Nat.div_div_eq_div_mul] at h3
  generalize cyT x d (k + 1) = c2 at *
  generalize cyT x d k = c at *
  generalize x * d / 10000 ^ k = S at *
  generalize x / 10000 ^ k = X at *
  have e : X * d = 10000 * (X / 10000 * d) + X % 10000 * d := by
    have : X * d = (10000 * (X / 10000) + X % 10000) * d := by rw [Nat.div_add_mod]
    rw [this, Nat.add_mul, Nat.mul_assoc]
  rw [e] at h1
  generalize X / 10000 * d = u at *
  generalize X % 10000 * d = v at *
  omega
def digT (x d k : Nat) : List Int := (List.range k).map fun i => ((x * d / 10000 ^ i % 10000 : Nat) : Int)
theorem digT_len (x d k : Nat) : (digT x d k).length = k := by simp [digT]
theorem digT_succ (x d k : Nat) : digT x d (k + 1) = digT x d k ++ [((x * d / 10000 ^ k % 10000 : Nat) : Int)] := by simp [digT, List.range_succ]
theorem digT_dig (x d k : Nat) : DigT (digT x d k) := fun z hz => by
  simp only [digT, List.mem_map] at hz
  obtain ⟨i, _, rfl⟩ := hz
  have := Nat.mod_lt (x * d / 10000 ^ i) (show 0 < 10000 by decide)
  omega
theorem digT_val (x d : Nat) : ∀ k, valT (digT x d k) = x * d % 10000 ^ k
  | 0 => by simp [digT, valT, Nat.mod_one]
  | k + 1 => by
    rw [digT_succ, valT_snoc, digT_val x d k, digT_len, Int.toNat_natCast, Nat.pow_succ, Nat.mod_mul]
/-- how many rounds -/
def tiK (x d : Nat) : Nat := max (decs x).length (decs (x * d)).length
theorem tiK_lt (x d k : Nat) : k < tiK x d ↔ (x / 10000 ^ k ≠ 0 ∨ 0 < cyT x d k) := by
  obtain ⟨h1, _⟩ := cyT_spec x d k
  have l1 := decs_lt x k
  have l2 := decs_lt (x * d) k
  unfold tiK
  have hmx : k < max (decs x).length (decs (x * d)).length ↔ (k < (decs x).length ∨ k < (decs (x * d)).length) := by omega
  rw [hmx, l1, l2, h1]
  constructor
  · rintro (h | h)
    · exact .inl h
    · by_cases h0 : x / 10000 ^ k = 0
      · rw [h0, Nat.zero_mul, Nat.zero_add] at h; exact .inr (Nat.pos_of_ne_zero h)
      · exact .inl h0
  · rintro (h | h)
    · exact .inl h
    · right
      have : 0 < x / 10000 ^ k * d + cyT x d k := Nat.add_pos_right _ h
      omega
theorem tiK_trim (x d : Nat) : trimT (digT x d (tiK x d)) = decs (x * d) := by
  rw [← decs_valT (digT_dig _ _ _), digT_val]
  have : x * d / 10000 ^ (tiK x d) = 0 := (decs_len_le _ _).1 (Nat.le_max_right _ _)
  have hlt : x * d < 10000 ^ tiK x d := by
    rcases Nat.lt_or_ge (x * d) (10000 ^ tiK x d) with h | h
    · exact h
    · have := Nat.div_pos h (Nat.pow_pos (by decide)); omega
  rw [Nat.mod_eq_of_lt hlt]
def tiS (x d k : Nat) : St := ⟨mkT 35 [(0, .p (intL (decs x))), (1, .p (intP d)), (5, rowC k (nums .i64 (digT x d k))), (6, .p (intP (cyT x d k))), (7, .p (intP k))], ⟨[], tokC 3 1 k, []⟩⟩
set_option maxHeartbeats 2000000 in
theorem times_loop (x d : Nat) (hx : (decs x).length ≤ 1073741824) (hd : d ≤ 4294967296) (hK1 : tiK x d ≤ 1073741824) : LoopOK Tryz.prog (loopB Tryz.prog 145 0) (tiS x d 0) (.exit 0) ⟨mkT 35 [(5, rowC (tiK x d) (nums .i64 (digT x d (tiK x d))))], ⟨[], tokC 3 1 (tiK x d), []⟩⟩ := by
  refine loop_ix [0, 1, 5, 6, 7] (tiS x d) (tiK x d) (fun _ => True) trivial (fun _ => rfl) ?_
  intro k hk _ ro K Q hQ hK
  obtain ⟨_, hc⟩ := cyT_spec x d k
  have hnx := cyT_next x d k
  obtain ⟨_, hc2⟩ := cyT_spec x d (k + 1)
  have hgo := tiK_lt x d k
  rw [← decs_lt] at hgo
  have d1 := digit_pure (decs x) k (by omega) (by omega)
  rw [decs_getD] at d1
  have hlx : (nums .i64 (decs x)).length = (decs x).length := nums_length _ _
  have hw := wrap64_succ (k := k) (by omega)
  by_cases hlt : k < tiK x d
  · have hgo := hgo.1 hlt
    have hts := digT_succ x d k
    have e3 : tiS x d (k + 1) = ⟨mkT 35 [(0, .p (intL (decs x))), (1, .p (intP d)), (5, .row 0 (nums .i64 (digT x d k) ++ [.v (.int .i64 ((x * d / 10000 ^ k % 10000 : Nat) : Int))])), (6, .p (intP (cyT x d (k + 1)))), (7, .p (intP (k + 1 : Nat)))], ⟨[], [some (3, 1, (nums .i64 (digT x d k)).length + 1)], []⟩⟩ := by
      unfold tiS
      rw [rowC_pos (by omega), tokC_pos (by omega), hts, ← nums_snoc, nums_length, digT_len]
    rw [e3] at hK
    have hl2 : (nums .i64 (digT x d k)).length = k := by rw [nums_length, digT_len]
    have s0 := nums_sized .i64 (digT x d k)
    have hm : x * d / 10000 ^ k % 10000 < 10000 := Nat.mod_lt _ (by decide)
    have X1 : x / 10000 ^ k % 10000 < 10000 := Nat.mod_lt _ (by decide)
    unfold tiS
    clear hts e3
    generalize x / 10000 ^ k % 10000 = X at d1 hnx X1
    generalize x * d / 10000 ^ k % 10000 = M at hnx hK hm
    generalize cyT x d (k + 1) = c2 at hnx hc2 hK
    generalize cyT x d k = c at hnx hc hgo ⊢
    have hv : X * d ≤ 9999 * 4294967296 := Nat.mul_le_mul (by omega) hd
    have rwa : IntKind.i64.wrap ((X : Int) * (d : Int)) = ((X * d : Nat) : Int) := by rw [← Int.natCast_mul]; exact wrap64_id (by omega) (by omega)
    generalize X * d = v at *
    have rwb : IntKind.i64.wrap ((v : Int) + (c : Int)) = (v : Int) + c := wrap64_id (by omega) (by omega)
    have rwc : ((v : Int) + (c : Int)).tmod 10000 = (M : Int) := by rw [Int.tmod_eq_emod_of_nonneg (by omega)]; omega
    have rwd : IntKind.i64.wrap (((v : Int) + (c : Int)).tdiv 10000) = (c2 : Int) := by rw [Int.tdiv_eq_ediv_of_nonneg (by omega), wrap64_id (by omega) (by omega)]; omega
    have sn : sized 1 [PD.v (.int .i64 (M : Int))] := sized_one rfl
    by_cases h0 : k = 0
    · have s1 := sized_nil 1
      have e1 : ∀ L, rowC k L = .p (.v (.slice none 0 0)) := fun L => by rw [h0]; rfl
      have e2 : tokC 3 1 k = [] := by rw [h0]; rfl
      have e4 : nums .i64 (digT x d k) = [] := by rw [h0]; rfl
      rw [e1, e2]
      rw [e4] at hK
      by_cases h0 : (↑k : Int) < (↑(nums IntKind.i64 (decs x)).length : Int)
      ·
        refine crun [] ⟨[0, 1, 5, 6, 7], [], [], (some (0, 1, 0))⟩ [(6, .b true), (20, .call (AEnd.ret (PD.v (Value.int IntKind.i64 (↑X : Int))))), (22, .w (DV.p (PD.v (Value.int IntKind.i64 (↑v : Int))))), (24, .w (DV.p (PD.v (Value.int IntKind.i64 ((↑v : Int) + (↑c : Int)))))), (31, .w (DV.p (PD.v (Value.int IntKind.i64 (↑M : Int))))), (38, .w (DV.p (PD.v (Value.int IntKind.i64 (↑c2 : Int)))))] (AX.norm) (St.mk (mkT 35 [(0, DV.p (PD.sl (nums IntKind.i64 (decs x)))), (1, DV.p (PD.v (Value.int IntKind.i64 (↑d : Int)))), (5, DV.row 0 [PD.v (Value.int IntKind.i64 (↑M : Int))]), (6, DV.p (PD.v (Value.int IntKind.i64 (↑c2 : Int)))), (7, DV.p (PD.v (Value.int IntKind.i64 (IntKind.i64.wrap ((↑k : Int) + 1)))))]) (Mem.mk [] [some (3, 1, 1)] [])) (.c (congrArg (fun z => DV.p (PD.v (Go.Value.int IntKind.i64 z))) rwd) (.c (congrArg (fun z => DV.p (PD.v (Go.Value.int IntKind.i64 z))) rwc) (.c (congrArg (fun z => DV.p (PD.v (Go.Value.int IntKind.i64 z))) rwb) (.c (congrArg (fun z => DV.p (PD.v (Go.Value.int IntKind.i64 z))) rwa) (.c (d1) (.c (dT h0) .n)))))) (by kernel_rfl) ?_
        exact hK _ hlt (by simp only [hw]; rfl) trivial
      ·
        refine crun [] ⟨[0, 1, 5, 6, 7], [], [], (some (0, 1, 0))⟩ [(6, .b false), (9, .b true), (20, .call (AEnd.ret (PD.v (Value.int IntKind.i64 (↑X : Int))))), (22, .w (DV.p (PD.v (Value.int IntKind.i64 (↑v : Int))))), (24, .w (DV.p (PD.v (Value.int IntKind.i64 ((↑v : Int) + (↑c : Int)))))), (31, .w (DV.p (PD.v (Value.int IntKind.i64 (↑M : Int))))), (38, .w (DV.p (PD.v (Value.int IntKind.i64 (↑c2 : Int)))))] (AX.norm) (St.mk (mkT 35 [(0, DV.p (PD.sl (nums IntKind.i64 (decs x)))), (1, DV.p (PD.v (Value.int IntKind.i64 (↑d : Int)))), (5, DV.row 0 [PD.v (Value.int IntKind.i64 (↑M : Int))]), (6, DV.p (PD.v (Value.int IntKind.i64 (↑c2 : Int)))), (7, DV.p (PD.v (Value.int IntKind.i64 (IntKind.i64.wrap ((↑k : Int) + 1)))))]) (Mem.mk [] [some (3, 1, 1)] [])) (.c (congrArg (fun z => DV.p (PD.v (Go.Value.int IntKind.i64 z))) rwd) (.c (congrArg (fun z => DV.p (PD.v (Go.Value.int IntKind.i64 z))) rwc) (.c (congrArg (fun z => DV.p (PD.v (Go.Value.int IntKind.i64 z))) rwb) (.c (congrArg (fun z => DV.p (PD.v (Go.Value.int IntKind.i64 z))) rwa) (.c (d1) (.c (dT (show (0 : Int) < (↑c : Int) by omega)) (.c (dF h0) .n))))))) (by kernel_rfl) ?_
        exact hK _ hlt (by simp only [hw]; rfl) trivial
    · rw [rowC_pos h0, tokC_pos h0]
      generalize nums .i64 (digT x d k) = L at *
      subst hl2
      by_cases h0 : (↑L.length : Int) < (↑(nums IntKind.i64 (decs x)).length : Int)
      ·
        refine crun [] ⟨[0, 1, 5, 6, 7], [], [], (some (0, 1, 0))⟩ [(6, .b true), (20, .call (AEnd.ret (PD.v (Value.int IntKind.i64 (↑X : Int))))), (22, .w (DV.p (PD.v (Value.int IntKind.i64 (↑v : Int))))), (24, .w (DV.p (PD.v (Value.int IntKind.i64 ((↑v : Int) + (↑c : Int)))))), (31, .w (DV.p (PD.v (Value.int IntKind.i64 (↑M : Int))))), (33, .m), (38, .w (DV.p (PD.v (Value.int IntKind.i64 (↑c2 : Int)))))] (AX.norm) (St.mk (mkT 35 [(0, DV.p (PD.sl (nums IntKind.i64 (decs x)))), (1, DV.p (PD.v (Value.int IntKind.i64 (↑d : Int)))), (5, DV.row 0 (L ++ [PD.v (Value.int IntKind.i64 (↑M : Int))])), (6, DV.p (PD.v (Value.int IntKind.i64 (↑c2 : Int)))), (7, DV.p (PD.v (Value.int IntKind.i64 (IntKind.i64.wrap ((↑L.length : Int) + 1)))))]) (Mem.mk [] [some (3, 1, L.length + [PD.v (Value.int IntKind.i64 (↑M : Int))].length)] [])) (.c (congrArg (fun z => DV.p (PD.v (Go.Value.int IntKind.i64 z))) rwd) (.c (show AppOK (1 : Nat) (8 : Nat) L.length L [PD.v (Value.int IntKind.i64 (↑M : Int))] by exact ⟨by first | rfl | omega | (simp; done) | (simp; omega), by first | assumption | exact nums_sized _ _ | simp [sized_nil, sized_one, sized_append, sized_map, nums_sized, nums_append], by first | assumption | exact nums_sized _ _ | simp [sized_nil, sized_one, sized_append, sized_map, nums_sized, nums_append], by first | omega | (simp <;> omega), by first | omega | (simp <;> omega)⟩) (.c (congrArg (fun z => DV.p (PD.v (Go.Value.int IntKind.i64 z))) rwc) (.c (congrArg (fun z => DV.p (PD.v (Go.Value.int IntKind.i64 z))) rwb) (.c (congrArg (fun z => DV.p (PD.v (Go.Value.int IntKind.i64 z))) rwa) (.c (d1) (.c (dT h0) .n))))))) (by kernel_rfl) ?_
        exact hK _ hlt (by simp only [hw]; rfl) trivial
      ·
        refine crun [] ⟨[0, 1, 5, 6, 7], [], [], (some (0, 1, 0))⟩ [(6, .b false), (9, .b true), (20, .call (AEnd.ret (PD.v (Value.int IntKind.i64 (↑X : Int))))), (22, .w (DV.p (PD.v (Value.int IntKind.i64 (↑v : Int))))), (24, .w (DV.p (PD.v (Value.int IntKind.i64 ((↑v : Int) + (↑c : Int)))))), (31, .w (DV.p (PD.v (Value.int IntKind.i64 (↑M : Int))))), (33, .m), (38, .w (DV.p (PD.v (Value.int IntKind.i64 (↑c2 : Int)))))] (AX.norm) (St.mk (mkT 35 [(0, DV.p (PD.sl (nums IntKind.i64 (decs x)))), (1, DV.p (PD.v (Value.int IntKind.i64 (↑d : Int)))), (5, DV.row 0 (L ++ [PD.v (Value.int IntKind.i64 (↑M : Int))])), (6, DV.p (PD.v (Value.int IntKind.i64 (↑c2 : Int)))), (7, DV.p (PD.v (Value.int IntKind.i64 (IntKind.i64.wrap ((↑L.length : Int) + 1)))))]) (Mem.mk [] [some (3, 1, L.length + [PD.v (Value.int IntKind.i64 (↑M : Int))].length)] [])) (.c (congrArg (fun z => DV.p (PD.v (Go.Value.int IntKind.i64 z))) rwd) (.c (show AppOK (1 : Nat) (8 : Nat) L.length L [PD.v (Value.int IntKind.i64 (↑M : Int))] by exact ⟨by first | rfl | omega | (simp; done) | (simp; omega), by first | assumption | exact nums_sized _ _ | simp [sized_nil, sized_one, sized_append, sized_map, nums_sized, nums_append], by first | assumption | exact nums_sized _ _ | simp [sized_nil, sized_one, sized_append, sized_map, nums_sized, nums_append], by first | omega | (simp <;> omega), by first | omega | (simp <;> omega)⟩) (.c (congrArg (fun z => DV.p (PD.v (Go.Value.int IntKind.i64 z))) rwc) (.c (congrArg (fun z => DV.p (PD.v (Go.Value.int IntKind.i64 z))) rwb) (.c (congrArg (fun z => DV.p (PD.v (Go.Value.int IntKind.i64 z))) rwa) (.c (d1) (.c (dT (show (0 : Int) < (↑c : Int) by omega)) (.c (dF h0) .n)))))))) (by kernel_rfl) ?_
        exact hK _ hlt (by simp only [hw]; rfl) trivial
  · have hkl : k = tiK x d := by omega
    have hno : ¬ (k < (decs x).length ∨ 0 < cyT x d k) := fun h => hlt (hgo.2 h)
    unfold tiS
    rw [← hkl] at hQ
    generalize cyT x d k = c at *
    clear hnx d1
    by_cases h0 : k = 0
    · have e1 : ∀ L, rowC k L = .p (.v (.slice none 0 0)) := fun L => by rw [h0]; rfl
      have e2 : tokC 3 1 k = [] := by rw [h0]; rfl
      rw [e1, e2] at hQ ⊢
      refine crun [] ⟨[5], [], [], none⟩ [(6, .b false), (9, .b false)] (AX.exit 0) (St.mk (mkT 35 [(5, DV.p (PD.v (Value.slice none 0 0)))]) (Mem.mk [] [] [])) (.c (dF (show ¬ (0 : Int) < (↑c : Int) by omega)) (.c (dF (show ¬ (↑k : Int) < (↑(nums IntKind.i64 (decs x)).length : Int) by omega)) .n)) (by kernel_rfl) ?_
      exact hQ
    · rw [rowC_pos h0, tokC_pos h0] at hQ ⊢
      generalize nums .i64 (digT x d k) = L at *
      refine crun [] ⟨[5], [], [], none⟩ [(6, .b false), (9, .b false)] (AX.exit 0) (St.mk (mkT 35 [(5, DV.row 0 L)]) (Mem.mk [] [some (3, 1, k)] [])) (.c (dF (show ¬ (0 : Int) < (↑c : Int) by omega)) (.c (dF (show ¬ (↑k : Int) < (↑(nums IntKind.i64 (decs x)).length : Int) by omega)) .n)) (by kernel_rfl) ?_
      exact hQ
theorem cyT_zero (x d : Nat) : cyT x d 0 = 0 := by
  unfold cyT
  simp only [Nat.pow_zero, Nat.div_one]
  omega
theorem times_pure (x d : Nat) (hx : (decs x).length ≤ 1073741824) (hd : d ≤ 4294967296) (hK1 : tiK x d ≤ 1073741824) : Pure Tryz.prog 145 [intL (decs x), intP d] (.ret (intL (decs (x * d)))) := by
  have hlo := times_loop x d hx hd hK1
  have e0 : tiS x d 0 = ⟨mkT 35 [(0, .p (intL (decs x))), (1, .p (intP d)), (5, .p (.v (.slice none 0 0))), (6, .p (intP 0)), (7, .p (intP 0))], ⟨[], [], []⟩⟩ := by
    unfold tiS
    rw [cyT_zero]
    rfl
  rw [e0] at hlo
  have ht := trimR_pure (digT x d (tiK x d)) (by rw [digT_len]; exact hK1)
  rw [tiK_trim] at ht
  by_cases h0 : tiK x d = 0
  · have e1 : ∀ L, rowC (tiK x d) L = .p (.v (.slice none 0 0)) := fun L => by rw [h0]; rfl
    have e2 : tokC 3 1 (tiK x d) = [] := by rw [h0]; rfl
    have e3 : digT x d (tiK x d) = [] := by rw [h0]; rfl
    rw [e1, e2] at hlo
    rw [e3] at ht
    unfold intL at *
    generalize nums .i64 (decs (x * d)) = R at *
    refine pure_eq (prun [] [(19, .code [0, 1, 5, 6, 7] (AX.exit 0) (St.mk (mkT 35 [(5, DV.p (PD.v (Value.slice none 0 0)))]) (Mem.mk [] [] []))), (23, .call (AEnd.ret (PD.sl R)))] (e := AEnd.ret (PD.sl R)) (.c (ht) (.c (hlo) .n)) (by kernel_rfl)) ?_
    rfl
  · rw [rowC_pos h0, tokC_pos h0] at hlo
    have ht2 : Pure Tryz.prog 178 [.sl (nums .i64 (digT x d (tiK x d)))] (.ret (intL (decs (x * d)))) := ht
    clear ht
    unfold intL at *
    generalize nums .i64 (decs (x * d)) = R at *
    generalize nums .i64 (digT x d (tiK x d)) = L at *
    refine pure_eq (prun [] [(19, .code [0, 1, 5, 6, 7] (AX.exit 0) (St.mk (mkT 35 [(5, DV.row 0 L)]) (Mem.mk [] [some (3, 1, tiK x d)] []))), (23, .call (AEnd.ret (PD.sl R)))] (e := AEnd.ret (PD.sl R)) (.c (ht2) (.c (hlo) .n)) (by kernel_rfl)) ?_
    rfl
end Go.Proofs.YtikfefjaeejeeaaGreatDoor
