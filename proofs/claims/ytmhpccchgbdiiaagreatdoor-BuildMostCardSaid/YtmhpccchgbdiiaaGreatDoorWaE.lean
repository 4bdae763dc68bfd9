/- Walks: tensor.May. -/
import Derived.Test.YtmhpccchgbdiiaaGreatDoorWa6
namespace Go.Proofs.YtmhpccchgbdiiaaGreatDoor
open Go.RowKit
set_option maxRecDepth 100000
def encT (sh : List Int) (rs : List RatM) : PD := .agg [intL sh, .sl (rs.map encRat)]
theorem enumP_some {els : List PD} {k : Nat} {x : List PD} (h : (enumP els)[k]? = some x) : ∃ e, els[k]? = some e ∧ x = [intP (k : Nat), e] := by
  simp only [enumP, List.getElem?_map, Option.map_eq_some_iff] at h
  obtain ⟨q, hq, rfl⟩ := h
  rw [List.getElem?_zipIdx] at hq
  cases he : els[k]? with
  | none => rw [he] at hq; cases hq
  | some e =>
    rw [he] at hq
    simp at hq
    subst hq
    exact ⟨e, rfl, rfl⟩
def tmB (sh : List Int) (rs : List RatM) (b : Bool) : Mem := ⟨[⟨63, [.p (intL sh), .p (.sl (rs.map encRat))], false⟩, ⟨36, [.p (intP 0)], false⟩, ⟨63, [.p (intL sh), .p (.sl (rs.map encRat))], false⟩, ⟨130, [.p (intL sh), .p (.sl (rs.map encRat))], false⟩, ⟨130, [.p (intL sh), .p (.sl (rs.map encRat))], b⟩], [], []⟩
theorem tmay_ok (sh : List Int) (rs : List RatM) (hl : rs.length ≤ 9223372036854775807) (hf : Pure Tryz.prog 110 [encT sh rs] (.ret (intP 0))) (hr : ∀ r ∈ rs, Pure Tryz.prog 111 [encRat r] (.ret (intP 0))) : Pure Tryz.prog 87 [encT sh rs] (.ret (intP 0)) := by
  refine pure_of_fm (Callable.mk Tryz.func87 rfl rfl) rfl ?_
  refine fm_seq1 ⟨mkT 22 [(1, .loc 0 0), (2, .loc 1 0)], ⟨[⟨63, [.p (intL sh), .p (.sl (rs.map encRat))], false⟩, ⟨36, [.p (intP 0)], false⟩], [], []⟩⟩ ?_ ?_
  · refine crun [] ⟨[1, 2], [], [], none⟩ [] (AX.norm) (St.mk (mkT 22 [(1, DV.loc 0 0), (2, DV.loc 1 0)]) (Mem.mk [Box.mk 63 [DV.p (PD.sl (nums IntKind.i64 sh)), DV.p (PD.sl (List.map encRat rs))] false, Box.mk 36 [DV.p (PD.v (Value.int IntKind.i64 0))] false] [] [])) .n (by kernel_rfl) ?_
    exact ⟨rfl, rfl⟩
  refine fm_seq1 ⟨mkT 22 [(1, .loc 0 0), (2, .loc 1 0)], ⟨[⟨63, [.p (intL sh), .p (.sl (rs.map encRat))], false⟩, ⟨36, [.p (intP 0)], false⟩], [], []⟩⟩ ?_ ?_
  · refine crun [] ⟨[1, 2], [], [], none⟩ [(3, .call (AEnd.ret (PD.v (Value.int IntKind.i64 0))))] (AX.norm) (St.mk (mkT 22 [(1, DV.loc 0 0), (2, DV.loc 1 0)]) (Mem.mk [Box.mk 63 [DV.p (PD.sl (nums IntKind.i64 sh)), DV.p (PD.sl (List.map encRat rs))] false, Box.mk 36 [DV.p (PD.v (Value.int IntKind.i64 0))] false] [] [])) (.c (hf) .n) (by kernel_rfl) ?_
    exact ⟨rfl, rfl⟩
  refine fm_range (all_it (intL sh) rs hl) (eg_fn Tryz.func119 rfl rfl) (s := ⟨mkT 22 [(1, .loc 0 0), (2, .loc 1 0), (14, .fn 119 [.loc 4 0])], tmB sh rs false⟩) (n := 2) (μ0 := tmB sh rs true) ?_ rfl rfl (fun _ => tmB sh rs true) rfl (fun k => True) trivial (fun k s2 => False) ?_ ?_ ?_ ?_
  · refine crun [77, 106] ⟨[1, 2, 14], [], [], none⟩ [] (AX.norm) (St.mk (mkT 22 [(1, DV.loc 0 0), (2, DV.loc 1 0), (14, DV.fn 119 [DV.loc 4 0])]) (Mem.mk [Box.mk 63 [DV.p (PD.sl (nums IntKind.i64 sh)), DV.p (PD.sl (List.map encRat rs))] false, Box.mk 36 [DV.p (PD.v (Value.int IntKind.i64 0))] false, Box.mk 63 [DV.p (PD.sl (nums IntKind.i64 sh)), DV.p (PD.sl (List.map encRat rs))] false, Box.mk 130 [DV.p (PD.sl (nums IntKind.i64 sh)), DV.p (PD.sl (List.map encRat rs))] false, Box.mk 130 [DV.p (PD.sl (nums IntKind.i64 sh)), DV.p (PD.sl (List.map encRat rs))] false] [] [])) .n (by kernel_rfl) ?_
    exact ⟨rfl, rfl⟩
  · intro x hx
    obtain ⟨k, hk⟩ := List.mem_iff_getElem?.1 hx
    obtain ⟨e, _, rfl⟩ := enumP_some hk
    rfl
  · intro l k x hx _
    obtain ⟨e, he, rfl⟩ := enumP_some hx
    simp only [List.getElem?_map, Option.map_eq_some_iff] at he
    obtain ⟨r, hrk, rfl⟩ := he
    have hm := hr r (List.mem_of_getElem? hrk)
    refine awp_then ⟨mkT 22 [(1, .loc 0 0), (2, .loc 1 0), (5, .loc 5 0)], ⟨(tmB sh rs true).boxes ++ [⟨92, [.p (boolP r.neg), .p (natL r.num), .p (natL r.den)], false⟩], [], []⟩⟩ ?_ ?_
    · refine crun [] ⟨[1, 2, 5], [], [], none⟩ [] (AX.norm) (St.mk (mkT 22 [(1, DV.loc 0 0), (2, DV.loc 1 0), (5, DV.loc 5 0)]) (Mem.mk [Box.mk 63 [DV.p (PD.sl (nums IntKind.i64 sh)), DV.p (PD.sl (List.map encRat rs))] false, Box.mk 36 [DV.p (PD.v (Value.int IntKind.i64 0))] false, Box.mk 63 [DV.p (PD.sl (nums IntKind.i64 sh)), DV.p (PD.sl (List.map encRat rs))] false, Box.mk 130 [DV.p (PD.sl (nums IntKind.i64 sh)), DV.p (PD.sl (List.map encRat rs))] false, Box.mk 130 [DV.p (PD.sl (nums IntKind.i64 sh)), DV.p (PD.sl (List.map encRat rs))] true, Box.mk 92 [DV.p (PD.v (Value.bool r.neg)), DV.p (PD.sl (nums IntKind.u32 r.num)), DV.p (PD.sl (nums IntKind.u32 r.den))] false] [] [])) .n (by kernel_rfl) ?_
      exact ⟨rfl, rfl⟩
    refine crun [] ⟨[1, 2], [], [], none⟩ [(4, .call (AEnd.ret (PD.v (Value.int IntKind.i64 0))))] (AX.norm) (St.mk (mkT 22 [(1, DV.loc 0 0), (2, DV.loc 1 0)]) (Mem.mk [Box.mk 63 [DV.p (PD.sl (nums IntKind.i64 sh)), DV.p (PD.sl (List.map encRat rs))] false, Box.mk 36 [DV.p (PD.v (Value.int IntKind.i64 0))] false, Box.mk 63 [DV.p (PD.sl (nums IntKind.i64 sh)), DV.p (PD.sl (List.map encRat rs))] false, Box.mk 130 [DV.p (PD.sl (nums IntKind.i64 sh)), DV.p (PD.sl (List.map encRat rs))] false, Box.mk 130 [DV.p (PD.sl (nums IntKind.i64 sh)), DV.p (PD.sl (List.map encRat rs))] true, Box.mk 92 [DV.p (PD.v (Value.bool r.neg)), DV.p (PD.sl (nums IntKind.u32 r.num)), DV.p (PD.sl (nums IntKind.u32 r.den))] false] [] [])) (.c (hm) .n) (by kernel_rfl) ?_
    exact ⟨⟨5, 0, 0, Nat.le_refl _, Nat.le_refl _, Nat.le_refl _, rfl, rfl⟩, trivial⟩
  · intro _
    refine crun [] ⟨[2], [], [], none⟩ [] (AX.ret) (St.mk (mkT 22 [(2, DV.loc 1 0)]) (Mem.mk [Box.mk 63 [DV.p (PD.sl (nums IntKind.i64 sh)), DV.p (PD.sl (List.map encRat rs))] false, Box.mk 36 [DV.p (PD.v (Value.int IntKind.i64 0))] false, Box.mk 63 [DV.p (PD.sl (nums IntKind.i64 sh)), DV.p (PD.sl (List.map encRat rs))] false, Box.mk 130 [DV.p (PD.sl (nums IntKind.i64 sh)), DV.p (PD.sl (List.map encRat rs))] false, Box.mk 130 [DV.p (PD.sl (nums IntKind.i64 sh)), DV.p (PD.sl (List.map encRat rs))] true] [] [])) .n (by kernel_rfl) ?_
    exact fpost_ret rfl rfl rfl
  · intro k s2 hk h
    exact h.elim
end Go.Proofs.YtmhpccchgbdiiaaGreatDoor
