/- Walks: iterators. -/
import Derived.Test.YtmhpccchgbdiiaaGreatDoorAeX
import Derived.Test.YtmhpccchgbdiiaaGreatDoorWaG
namespace Go.Proofs.YtmhpccchgbdiiaaGreatDoor
open Go.RowKit
set_option maxRecDepth 100000
/-- an enumerated list -/
def enumP (els : List PD) : List (List PD) := els.zipIdx.map fun q => [intP (q.2 : Nat), q.1]
theorem enumP_get {els : List PD} {k : Nat} {x : PD} (h : els[k]? = some x) : (enumP els)[k]? = some [intP (k : Nat), x] := by simp [enumP, h]
theorem enumP_len (els : List PD) : (enumP els).length = els.length := by simp [enumP]
theorem all_it (sh : PD) (rs : List RatM) (hl : rs.length ≤ 9223372036854775807) : ItOK Tryz.prog 119 (.agg [sh, .sl (rs.map encRat)]) (enumP (rs.map encRat)) := by
  refine it_ok (Callable.mk Tryz.func119 rfl rfl) rfl rfl (fun k v => mkT 19 [(0, .p (.v v)), (6, .p (.sl (rs.map encRat))), (7, .p (intP (rs.map encRat).length)), (8, .p (intP k))]) ?_ ?_
  · intro l
    refine crun [] ⟨[0, 6, 7, 8], [], [], none⟩ [] (AX.norm) (St.mk (mkT 19 [(0, DV.p (PD.v (Value.func (Fn.yield l) #[] #[]))), (6, DV.p (PD.sl (List.map encRat rs))), (7, DV.p (PD.v (Value.int IntKind.i64 (↑(List.map encRat rs).length : Int)))), (8, DV.p (PD.v (Value.int IntKind.i64 0)))]) (Mem.mk [] [] [])) .n (by kernel_rfl) ?_
    exact ⟨rfl, rfl⟩
  · intro J Jx l k hJ hy hk
    rw [enumP_len] at hk ⊢
    have hlen : (rs.map encRat).length = rs.length := List.length_map ..
    by_cases hlt : k < rs.length
    · obtain ⟨r, hx0, hd⟩ := get_of_lt hlt
      have hx := map_get (f := encRat) hx0
      have hw := wrap64_succ (k := k) (by omega)
      refine fi_seq1 ⟨mkT 19 [(0, .p (.v (yV l))), (6, .p (.sl (rs.map encRat))), (7, .p (intP (rs.map encRat).length)), (8, .p (intP k)), (9, .p (boolP true))], μ0⟩ ?_ ?_
      · refine crun [] ⟨[0, 6, 7, 8, 9], [], [], none⟩ [(1, .b true)] (AX.norm) (St.mk (mkT 19 [(0, DV.p (PD.v (Value.func (Fn.yield l) #[] #[]))), (6, DV.p (PD.sl (List.map encRat rs))), (7, DV.p (PD.v (Value.int IntKind.i64 (↑(List.map encRat rs).length : Int)))), (8, DV.p (PD.v (Value.int IntKind.i64 (↑k : Int)))), (9, DV.p (PD.v (Value.bool true)))]) (Mem.mk [] [] [])) (.c (dT (show (↑k : Int) < (↑(List.map encRat rs).length : Int) by omega)) .n) (by kernel_rfl) ?_
        exact ⟨rfl, rfl⟩
      refine fi_seq' (fi_cond (b := true) rfl (fi_end hJ (tm := mkT 19 [(0, .p (.v (yV l))), (6, .p (.sl (rs.map encRat))), (7, .p (intP (rs.map encRat).length)), (8, .p (intP k)), (9, .p (boolP true))]) (.inl ⟨rfl, fun a w hI => fi_is ?_ hI⟩) rfl))
      refine fi_seq' (fi_block (fi_seq1 ⟨mkT 19 [(0, .p (.v (yV l))), (3, .p (intP k)), (4, .loc 0 0), (6, .p (.sl (rs.map encRat))), (7, .p (intP (rs.map encRat).length)), (8, .p (intP k))], ⟨[⟨92, [.p (boolP r.neg), .p (natL r.num), .p (natL r.den)], false⟩], [], []⟩⟩ ?_ ?_))
      · refine crun [] ⟨[0, 3, 4, 6, 7, 8], [], [], none⟩ [(2, .el (encRat r)), (3, .el (encRat r))] (AX.norm) (St.mk (mkT 19 [(0, DV.p (PD.v (Value.func (Fn.yield l) #[] #[]))), (3, DV.p (PD.v (Value.int IntKind.i64 (↑k : Int)))), (4, DV.loc 0 0), (6, DV.p (PD.sl (List.map encRat rs))), (7, DV.p (PD.v (Value.int IntKind.i64 (↑(List.map encRat rs).length : Int)))), (8, DV.p (PD.v (Value.int IntKind.i64 (↑k : Int))))]) (Mem.mk [Box.mk 92 [DV.p (PD.v (Value.bool r.neg)), DV.p (PD.sl (nums IntKind.u32 r.num)), DV.p (PD.sl (nums IntKind.u32 r.den))] false] [] [])) (.c hx (.c (And.intro hx (nn0 (k))) .n)) (by kernel_rfl) ?_
        exact ⟨rfl, rfl⟩
      refine fi_yield hJ hy 3 rfl rfl rfl rfl rfl rfl rfl (tm := mkT 19 [(0, .p (.v (yV l))), (6, .p (.sl (rs.map encRat))), (7, .p (intP (rs.map encRat).length)), (8, .p (intP k)), (13, .p (.v (yV l))), (14, .p (intP k)), (15, .p (encRat r))]) ?_ (by show (16 : Nat) < 19; decide) (by show (17 : Nat) < 19; decide) rfl (enumP_get hx) rfl ?_ ?_
      · exact lrun [] [0, 6, 7, 8, 13, 14, 15] [] (by kernel_rfl)
      · intro a w hI
        refine fi_is (fi_last hJ ?_ (fun a w hI => ⟨by omega, hI⟩)) hI
        refine crun [] ⟨[0, 6, 7, 8], [], [], none⟩ [] (AX.norm) (St.mk (mkT 19 [(0, DV.p (PD.v (Value.func (Fn.yield l) #[] #[]))), (6, DV.p (PD.sl (List.map encRat rs))), (7, DV.p (PD.v (Value.int IntKind.i64 (↑(List.map encRat rs).length : Int)))), (8, DV.p (PD.v (Value.int IntKind.i64 (IntKind.i64.wrap ((↑k : Int) + 1)))))]) (Mem.mk [] [] [])) .n (by kernel_rfl) ?_
        exact ⟨rfl, by rw [hw]; rfl⟩
      · intro a w hd hj
        exact ⟨by omega, hd, hj⟩
    · obtain rfl : k = rs.length := by omega
      refine fi_seq1 ⟨mkT 19 [(0, .p (.v (yV l))), (6, .p (.sl (rs.map encRat))), (7, .p (intP (rs.map encRat).length)), (8, .p (intP rs.length)), (9, .p (boolP false))], μ0⟩ ?_ ?_
      · refine crun [] ⟨[0, 6, 7, 8, 9], [], [], none⟩ [(1, .b false)] (AX.norm) (St.mk (mkT 19 [(0, DV.p (PD.v (Value.func (Fn.yield l) #[] #[]))), (6, DV.p (PD.sl (List.map encRat rs))), (7, DV.p (PD.v (Value.int IntKind.i64 (↑(List.map encRat rs).length : Int)))), (8, DV.p (PD.v (Value.int IntKind.i64 (↑rs.length : Int)))), (9, DV.p (PD.v (Value.bool false)))]) (Mem.mk [] [] [])) (.c (dF (show ¬ (↑rs.length : Int) < (↑(List.map encRat rs).length : Int) by omega)) .n) (by kernel_rfl) ?_
        exact ⟨rfl, rfl⟩
      exact fi_seq' (fi_cond (b := false) rfl (fi_end hJ (.inr ⟨0, rfl, fun a w hI => ⟨rfl, hlen.symm, _, hI⟩⟩) rfl))
end Go.Proofs.YtmhpccchgbdiiaaGreatDoor
