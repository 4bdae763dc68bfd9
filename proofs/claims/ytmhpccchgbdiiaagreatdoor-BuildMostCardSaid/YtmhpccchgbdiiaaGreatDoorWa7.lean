/- Walks: nat.down's iterator. -/
import Derived.Test.YtmhpccchgbdiiaaGreatDoorAeX
import Derived.Test.YtmhpccchgbdiiaaGreatDoorWaG
namespace Go.Proofs.YtmhpccchgbdiiaaGreatDoor
open Go.RowKit
set_option maxRecDepth 100000
/-- n - 1, .., 0 -/
def downP (n : Nat) : List (List PD) := (List.range n).map fun (k : Nat) => [intP ((n : Int) - 1 - k)]
theorem downP_get {n k : Nat} (h : k < n) : (downP n)[k]? = some [intP ((n : Int) - 1 - k)] := by simp [downP, h]
theorem downP_len (n : Nat) : (downP n).length = n := by simp [downP]
theorem down_it (n : Nat) (hn : n ≤ 9223372036854775807) : ItOK Tryz.prog 170 (intP n) (downP n) := by
  refine it_ok (Callable.mk Tryz.func170 rfl rfl) rfl rfl (fun k v => mkT 14 [(0, .p (.v v)), (3, .p (intP ((n : Int) - 1 - k)))]) ?_ ?_
  · intro l
    have hw : IntKind.i64.wrap ((n : Int) - 1) = (n : Int) - 1 - (0 : Nat) := by rw [wrap64_id (by omega) (by omega)]; omega
    refine crun [] ⟨[0, 3], [], [], none⟩ [] (AX.norm) (St.mk (mkT 14 [(0, DV.p (PD.v (Value.func (Fn.yield l) #[] #[]))), (3, DV.p (PD.v (Value.int IntKind.i64 (IntKind.i64.wrap ((↑n : Int) - 1)))))]) (Mem.mk [] [] [])) .n (by kernel_rfl) ?_
    exact ⟨rfl, by rw [hw]; rfl⟩
  · intro J Jx l k hJ hy hk
    rw [downP_len] at hk ⊢
    by_cases hlt : k < n
    · have hw : IntKind.i64.wrap ((n : Int) - 1 - k - 1) = (n : Int) - 1 - (k + 1 : Nat) := by rw [wrap64_id (by omega) (by omega)]; omega
      refine fi_seq' (fi_seq1 ⟨mkT 14 [(0, .p (.v (yV l))), (3, .p (intP ((n : Int) - 1 - k))), (7, .p (boolP true))], μ0⟩ ?_ ?_)
      · refine crun [] ⟨[0, 3, 7], [], [], none⟩ [(2, .b true)] (AX.norm) (St.mk (mkT 14 [(0, DV.p (PD.v (Value.func (Fn.yield l) #[] #[]))), (3, DV.p (PD.v (Value.int IntKind.i64 ((↑n : Int) - 1 - (↑k : Int))))), (7, DV.p (PD.v (Value.bool true)))]) (Mem.mk [] [] [])) (.c (dT (show (0 : Int) ≤ (↑n : Int) - (1 : Int) - (↑k : Int) by omega)) .n) (by kernel_rfl) ?_
        exact ⟨rfl, rfl⟩
      refine fi_cond (b := true) rfl (fi_end hJ (tm := mkT 14 [(0, .p (.v (yV l))), (3, .p (intP ((n : Int) - 1 - k))), (7, .p (boolP true))]) (.inl ⟨rfl, fun a w hI => fi_is ?_ hI⟩) rfl)
      refine fi_seq' (fi_block ?_)
      refine fi_yield hJ hy 2 rfl rfl rfl rfl rfl rfl rfl (tm := mkT 14 [(0, .p (.v (yV l))), (3, .p (intP ((n : Int) - 1 - k))), (10, .p (.v (yV l))), (11, .p (intP ((n : Int) - 1 - k)))]) ?_ (by show (12 : Nat) < 14; decide) (by show (13 : Nat) < 14; decide) rfl (downP_get hlt) rfl ?_ ?_
      · exact lrun [] [0, 3, 10, 11] [] (by kernel_rfl)
      · intro a w hI
        refine fi_is (fi_last hJ ?_ (fun a w hI => ⟨by omega, hI⟩)) hI
        refine crun [] ⟨[0, 3], [], [], none⟩ [] (AX.norm) (St.mk (mkT 14 [(0, DV.p (PD.v (Value.func (Fn.yield l) #[] #[]))), (3, DV.p (PD.v (Value.int IntKind.i64 (IntKind.i64.wrap ((↑n : Int) - 1 - (↑k : Int) - 1)))))]) (Mem.mk [] [] [])) .n (by kernel_rfl) ?_
        exact ⟨rfl, by rw [hw]; rfl⟩
      · intro a w hd hj
        exact ⟨by omega, hd, hj⟩
    · obtain rfl : k = n := by omega
      refine fi_seq' (fi_seq1 ⟨mkT 14 [(0, .p (.v (yV l))), (3, .p (intP ((k : Int) - 1 - k))), (7, .p (boolP false))], μ0⟩ ?_ ?_)
      · refine crun [] ⟨[0, 3, 7], [], [], none⟩ [(2, .b false)] (AX.norm) (St.mk (mkT 14 [(0, DV.p (PD.v (Value.func (Fn.yield l) #[] #[]))), (3, DV.p (PD.v (Value.int IntKind.i64 ((↑k : Int) - 1 - (↑k : Int))))), (7, DV.p (PD.v (Value.bool false)))]) (Mem.mk [] [] [])) (.c (dF (show ¬ (0 : Int) ≤ (↑k : Int) - (1 : Int) - (↑k : Int) by omega)) .n) (by kernel_rfl) ?_
        exact ⟨rfl, rfl⟩
      exact fi_cond (b := false) rfl (fi_end hJ (.inr ⟨0, rfl, fun a w hI => ⟨rfl, rfl, _, hI⟩⟩) rfl)
end Go.Proofs.YtmhpccchgbdiiaaGreatDoor
