/- Walks: a body's copy; a tensor's copy. -/
import Derived.Test.YtmhpccchgbdiiaaGreatDoorWbA
import Derived.Test.YtmhpccchgbdiiaaGreatDoorWaE
namespace Go.Proofs.YtmhpccchgbdiiaaGreatDoor
open Go.RowKit
set_option maxRecDepth 100000
theorem bodyCopy_pure (ns : List NodeM) (os : List Int) (hn : ns.length ≤ 1073741824) (ho : os.length ≤ 1073741824) (hns : ∀ n ∈ ns, n.args.length ≤ 1073741824 ∧ n.attrs.length ≤ 1073741824) : Pure Tryz.prog 36 [encBody ns os] (.ret (encBody ns os)) := by
  have hl := body_loop ns os hn hns
  have c1 := clone87 os ho
  have hlen : (ns.map encNode).length = ns.length := List.length_map ..
  unfold bcSt bcEnd at hl
  rw [List.take_length] at hl
  by_cases h0 : ns.length = 0
  · have e1 : rowC 0 ((ns.take 0).map encNode) = .p (.v (.slice none 0 0)) := rfl
    have e2 : tokC 55 3 0 = [] := rfl
    have e3 : rowC 0 (ns.map encNode) = .p (.v (.slice none 0 0)) := rfl
    rw [e1, e2, h0, e2, e3] at hl
    refine pure_eq (prun [] [(10, .call (AEnd.ret (PD.sl (nums IntKind.i64 os)))), (24, .code [2, 3, 11, 12, 13] (AX.exit 0) (St.mk (mkT 33 [(2, DV.loc 1 0), (3, DV.loc 2 0)]) (Mem.mk [Box.mk 28 [DV.p (PD.sl (List.map encNode ns)), DV.p (intL os)] false, Box.mk 28 [DV.p (PD.v (Value.slice none 0 0)), DV.p (PD.v (Value.slice none 0 0))] false, Box.mk 28 [DV.p (PD.v (Value.slice none 0 0)), DV.p (intL os)] false] [] [])))] (e := AEnd.ret (PD.agg [PD.sl [], PD.sl (nums IntKind.i64 os)])) (.c (hl) (.c (c1) .n)) (by kernel_rfl)) ?_
    obtain rfl : ns = [] := List.length_eq_zero_iff.1 h0; rfl
  · have e1 : rowC 0 ((ns.take 0).map encNode) = .p (.v (.slice none 0 0)) := rfl
    have e2 : tokC 55 3 0 = [] := rfl
    rw [e1, e2, rowC_pos h0, tokC_pos h0] at hl
    refine pure_eq (prun [] [(10, .call (AEnd.ret (PD.sl (nums IntKind.i64 os)))), (24, .code [2, 3, 11, 12, 13] (AX.exit 0) (St.mk (mkT 33 [(2, DV.loc 1 0), (3, DV.loc 2 0)]) (Mem.mk [Box.mk 28 [DV.p (PD.sl (List.map encNode ns)), DV.p (intL os)] false, Box.mk 28 [DV.p (PD.v (Value.slice none 0 0)), DV.p (PD.v (Value.slice none 0 0))] false, Box.mk 28 [DV.row 0 (List.map encNode ns), DV.p (intL os)] false] [some (55, 3, ns.length)] [])))] (e := AEnd.ret (PD.agg [PD.sl (List.map encNode ns), PD.sl (nums IntKind.i64 os)])) (.c (hl) (.c (c1) .n)) (by kernel_rfl)) ?_
    rfl
theorem copyRat (r : RatM) (h1 : r.num.length ≤ 1073741824) (h2 : r.den.length ≤ 1073741824) : Pure Tryz.prog 79 [encRat r] (.ret (encRat r)) := by
  have c1 := clone92 r.num h1
  have c2 := clone92 r.den h2
  refine pure_eq (prun [] [(12, .call (AEnd.ret (PD.sl (nums IntKind.u32 r.num)))), (15, .call (AEnd.ret (PD.sl (nums IntKind.u32 r.den))))] (e := AEnd.ret (PD.agg [PD.v (Value.bool r.neg), PD.sl (nums IntKind.u32 r.num), PD.sl (nums IntKind.u32 r.den)])) (.c (c2) (.c (c1) .n)) (by kernel_rfl)) ?_
  rfl
def fnP (f : Nat) : PD := .v (.func (.func f) #[] #[])
def tuM (sh : List Int) (rs : List RatM) (k : Nat) (b : Bool) : Mem := ⟨[⟨130, [.p (intL sh), .p (.sl (rs.map encRat))], false⟩, ⟨135, [.p (fnP 79)], false⟩, ⟨130, [.p (.v (.slice none 0 0)), .p (.v (.slice none 0 0))], false⟩, ⟨130, [.p (intL sh), rowC k ((rs.take k).map encRat)], false⟩, ⟨130, [.p (intL sh), .p (.sl (rs.map encRat))], b⟩], tokC 92 3 k, []⟩
theorem turned_pure (sh : List Int) (rs : List RatM) (hs : sh.length ≤ 1073741824) (hl : rs.length ≤ 1073741824) (hr : ∀ r ∈ rs, r.num.length ≤ 1073741824 ∧ r.den.length ≤ 1073741824) : Pure Tryz.prog 78 [encT sh rs, fnP 79] (.ret (encT sh rs)) := by
  have c0 := clone48 sh hs
  have hlen : (rs.map encRat).length = rs.length := List.length_map ..
  refine pure_of_fm (Callable.mk Tryz.func78 rfl rfl) rfl ?_
  refine fm_seq1 ⟨mkT 25 [(2, .loc 0 0), (3, .loc 1 0), (4, .loc 2 0)], ⟨[⟨130, [.p (intL sh), .p (.sl (rs.map encRat))], false⟩, ⟨135, [.p (fnP 79)], false⟩, ⟨130, [.p (.v (.slice none 0 0)), .p (.v (.slice none 0 0))], false⟩], [], []⟩⟩ ?_ ?_
  · refine crun [] ⟨[2, 3, 4], [], [], none⟩ [] (AX.norm) (St.mk (mkT 25 [(2, DV.loc 0 0), (3, DV.loc 1 0), (4, DV.loc 2 0)]) (Mem.mk [Box.mk 130 [DV.p (PD.sl (nums IntKind.i64 sh)), DV.p (PD.sl (List.map encRat rs))] false, Box.mk 135 [DV.p (PD.v (Value.func (Fn.func 79) #[] #[]))] false, Box.mk 130 [DV.p (PD.v (Value.slice none 0 0)), DV.p (PD.v (Value.slice none 0 0))] false] [] [])) .n (by kernel_rfl) ?_
    exact ⟨rfl, rfl⟩
  refine fm_seq1 ⟨mkT 25 [(2, .loc 0 0), (3, .loc 1 0), (4, .loc 2 0), (5, .loc 3 0)], ⟨[⟨130, [.p (intL sh), .p (.sl (rs.map encRat))], false⟩, ⟨135, [.p (fnP 79)], false⟩, ⟨130, [.p (.v (.slice none 0 0)), .p (.v (.slice none 0 0))], false⟩, ⟨130, [.p (intL sh), .p (.v (.slice none 0 0))], false⟩], [], []⟩⟩ ?_ ?_
  · refine crun [] ⟨[2, 3, 4, 5], [], [], none⟩ [(3, .call (AEnd.ret (PD.sl (nums IntKind.i64 sh))))] (AX.norm) (St.mk (mkT 25 [(2, DV.loc 0 0), (3, DV.loc 1 0), (4, DV.loc 2 0), (5, DV.loc 3 0)]) (Mem.mk [Box.mk 130 [DV.p (PD.sl (nums IntKind.i64 sh)), DV.p (PD.sl (List.map encRat rs))] false, Box.mk 135 [DV.p (PD.v (Value.func (Fn.func 79) #[] #[]))] false, Box.mk 130 [DV.p (PD.v (Value.slice none 0 0)), DV.p (PD.v (Value.slice none 0 0))] false, Box.mk 130 [DV.p (PD.sl (nums IntKind.i64 sh)), DV.p (PD.v (Value.slice none 0 0))] false] [] [])) (.c (c0) .n) (by kernel_rfl) ?_
    exact ⟨rfl, rfl⟩
  refine fm_range (all_it (intL sh) rs (by omega)) (eg_fn Tryz.func119 rfl rfl) (s := ⟨mkT 25 [(2, .loc 0 0), (3, .loc 1 0), (4, .loc 2 0), (5, .loc 3 0), (13, .fn 119 [.loc 4 0])], tuM sh rs 0 false⟩) (n := 2) (μ0 := tuM sh rs 0 true) ?_ rfl rfl (fun k => tuM sh rs k true) rfl (fun k => True) trivial (fun k s2 => False) ?_ ?_ ?_ ?_
  · refine crun [106] ⟨[2, 3, 4, 5, 13], [], [], none⟩ [] (AX.norm) (St.mk (mkT 25 [(2, DV.loc 0 0), (3, DV.loc 1 0), (4, DV.loc 2 0), (5, DV.loc 3 0), (13, DV.fn 119 [DV.loc 4 0])]) (Mem.mk [Box.mk 130 [DV.p (PD.sl (nums IntKind.i64 sh)), DV.p (PD.sl (List.map encRat rs))] false, Box.mk 135 [DV.p (PD.v (Value.func (Fn.func 79) #[] #[]))] false, Box.mk 130 [DV.p (PD.v (Value.slice none 0 0)), DV.p (PD.v (Value.slice none 0 0))] false, Box.mk 130 [DV.p (PD.sl (nums IntKind.i64 sh)), DV.p (PD.v (Value.slice none 0 0))] false, Box.mk 130 [DV.p (PD.sl (nums IntKind.i64 sh)), DV.p (PD.sl (List.map encRat rs))] false] [] [])) .n (by kernel_rfl) ?_
    exact ⟨rfl, rfl⟩
  · intro x hx
    obtain ⟨k, hk⟩ := List.mem_iff_getElem?.1 hx
    obtain ⟨e, _, rfl⟩ := enumP_some hk
    rfl
  · intro l k x hx _
    obtain ⟨e, he, rfl⟩ := enumP_some hx
    simp only [List.getElem?_map, Option.map_eq_some_iff] at he
    obtain ⟨r, hrk, rfl⟩ := he
    have hk : k < rs.length := (List.getElem?_eq_some_iff.1 hrk).1
    obtain ⟨b1, b2⟩ := hr r (List.mem_of_getElem? hrk)
    have hm := copyRat r b1 b2
    have sn : sized 3 [encRat r] := sized_one rfl
    have hts := take_snoc hrk
    refine awp_then ⟨mkT 25 [(2, .loc 0 0), (3, .loc 1 0), (4, .loc 2 0), (5, .loc 3 0), (7, .loc 5 0)], ⟨(tuM sh rs k true).boxes ++ [⟨92, [.p (boolP r.neg), .p (natL r.num), .p (natL r.den)], false⟩], tokC 92 3 k, []⟩⟩ ?_ ?_
    · refine crun [] ⟨[2, 3, 4, 5, 7], [], [], none⟩ [] (AX.norm) (St.mk (mkT 25 [(2, DV.loc 0 0), (3, DV.loc 1 0), (4, DV.loc 2 0), (5, DV.loc 3 0), (7, DV.loc 5 0)]) (Mem.mk [Box.mk 130 [DV.p (PD.sl (nums IntKind.i64 sh)), DV.p (PD.sl (List.map encRat rs))] false, Box.mk 135 [DV.p (PD.v (Value.func (Fn.func 79) #[] #[]))] false, Box.mk 130 [DV.p (PD.v (Value.slice none 0 0)), DV.p (PD.v (Value.slice none 0 0))] false, Box.mk 130 [DV.p (PD.sl (nums IntKind.i64 sh)), rowC k (List.map encRat (List.take k rs))] false, Box.mk 130 [DV.p (PD.sl (nums IntKind.i64 sh)), DV.p (PD.sl (List.map encRat rs))] true, Box.mk 92 [DV.p (PD.v (Value.bool r.neg)), DV.p (PD.sl (nums IntKind.u32 r.num)), DV.p (PD.sl (nums IntKind.u32 r.den))] false] (St.keep [2, 3, 4, 5, 7] (St.mk [DV.undef, DV.undef, DV.loc 0 0, DV.loc 1 0, DV.loc 2 0, DV.loc 3 0, DV.undef, DV.loc 5 0, DV.undef, DV.undef, DV.undef, DV.undef, DV.undef, DV.fn 119 [DV.loc 4 0], DV.p (PD.v (Value.int IntKind.i64 (↑k : Int))), DV.p (PD.agg [PD.v (Value.bool r.neg), PD.sl (nums IntKind.u32 r.num), PD.sl (nums IntKind.u32 r.den)]), DV.undef, DV.undef, DV.undef, DV.undef, DV.undef, DV.undef, DV.undef, DV.undef, DV.undef] (Mem.mk [Box.mk 130 [DV.p (PD.sl (nums IntKind.i64 sh)), DV.p (PD.sl (List.map encRat rs))] false, Box.mk 135 [DV.p (PD.v (Value.func (Fn.func 79) #[] #[]))] false, Box.mk 130 [DV.p (PD.v (Value.slice none 0 0)), DV.p (PD.v (Value.slice none 0 0))] false, Box.mk 130 [DV.p (PD.sl (nums IntKind.i64 sh)), rowC k (List.map encRat (List.take k rs))] false, Box.mk 130 [DV.p (PD.sl (nums IntKind.i64 sh)), DV.p (PD.sl (List.map encRat rs))] true, Box.mk 92 [DV.p (PD.v (Value.bool r.neg)), DV.p (PD.sl (nums IntKind.u32 r.num)), DV.p (PD.sl (nums IntKind.u32 r.den))] false] (St.mk [DV.undef, DV.undef, DV.loc 0 0, DV.loc 1 0, DV.loc 2 0, DV.loc 3 0, DV.undef, DV.loc 5 0, DV.undef, DV.undef, DV.undef, DV.undef, DV.undef, DV.fn 119 [DV.loc 4 0], DV.p (PD.v (Value.int IntKind.i64 (↑k : Int))), DV.p (PD.agg [PD.v (Value.bool r.neg), PD.sl (nums IntKind.u32 r.num), PD.sl (nums IntKind.u32 r.den)]), DV.undef, DV.undef, DV.undef, DV.undef, DV.undef, DV.undef, DV.undef, DV.undef, DV.undef] (Mem.mk [Box.mk 130 [DV.p (PD.sl (nums IntKind.i64 sh)), DV.p (PD.sl (List.map encRat rs))] false, Box.mk 135 [DV.p (PD.v (Value.func (Fn.func 79) #[] #[]))] false, Box.mk 130 [DV.p (PD.v (Value.slice none 0 0)), DV.p (PD.v (Value.slice none 0 0))] false, Box.mk 130 [DV.p (PD.sl (nums IntKind.i64 sh)), rowC k (List.map encRat (List.take k rs))] false, Box.mk 130 [DV.p (PD.sl (nums IntKind.i64 sh)), DV.p (PD.sl (List.map encRat rs))] true, Box.mk 92 [DV.p (PD.v (Value.bool false)), DV.p (PD.v (Value.slice none 0 0)), DV.p (PD.v (Value.slice none 0 0))] false] (St.mk [DV.undef, DV.undef, DV.loc 0 0, DV.loc 1 0, DV.loc 2 0, DV.loc 3 0, DV.undef, DV.undef, DV.undef, DV.undef, DV.undef, DV.undef, DV.undef, DV.fn 119 [DV.loc 4 0], DV.p (PD.v (Value.int IntKind.i64 (↑k : Int))), DV.p (PD.agg [PD.v (Value.bool r.neg), PD.sl (nums IntKind.u32 r.num), PD.sl (nums IntKind.u32 r.den)]), DV.undef, DV.undef, DV.undef, DV.undef, DV.undef, DV.undef, DV.undef, DV.undef, DV.undef] (Mem.mk [Box.mk 130 [DV.p (PD.sl (nums IntKind.i64 sh)), DV.p (PD.sl (List.map encRat rs))] false, Box.mk 135 [DV.p (PD.v (Value.func (Fn.func 79) #[] #[]))] false, Box.mk 130 [DV.p (PD.v (Value.slice none 0 0)), DV.p (PD.v (Value.slice none 0 0))] false, Box.mk 130 [DV.p (PD.sl (nums IntKind.i64 sh)), rowC k (List.map encRat (List.take k rs))] false, Box.mk 130 [DV.p (PD.sl (nums IntKind.i64 sh)), DV.p (PD.sl (List.map encRat rs))] true] (tokC 92 3 k) [])).μ.toks [])).μ.toks []))).μ.toks [])) .n (by kernel_rfl) ?_
      exact ⟨rfl, rfl⟩
    by_cases h0 : k = 0
    · subst h0
      have s0 := sized_nil 3
      unfold tuM rowC tokC
      refine crun [] ⟨[2, 3, 4, 5], [], [], none⟩ [(6, .call (AEnd.ret (PD.agg [PD.v (Value.bool r.neg), PD.sl (nums IntKind.u32 r.num), PD.sl (nums IntKind.u32 r.den)])))] (AX.norm) (St.mk (mkT 25 [(2, DV.loc 0 0), (3, DV.loc 1 0), (4, DV.loc 2 0), (5, DV.loc 3 0)]) (Mem.mk [Box.mk 130 [DV.p (PD.sl (nums IntKind.i64 sh)), DV.p (PD.sl (List.map encRat rs))] false, Box.mk 135 [DV.p (PD.v (Value.func (Fn.func 79) #[] #[]))] false, Box.mk 130 [DV.p (PD.v (Value.slice none 0 0)), DV.p (PD.v (Value.slice none 0 0))] false, Box.mk 130 [DV.p (PD.sl (nums IntKind.i64 sh)), DV.row 0 [PD.agg [PD.v (Value.bool r.neg), PD.sl (nums IntKind.u32 r.num), PD.sl (nums IntKind.u32 r.den)]]] false, Box.mk 130 [DV.p (PD.sl (nums IntKind.i64 sh)), DV.p (PD.sl (List.map encRat rs))] true, Box.mk 92 [DV.p (PD.v (Value.bool r.neg)), DV.p (PD.sl (nums IntKind.u32 r.num)), DV.p (PD.sl (nums IntKind.u32 r.den))] false, Box.mk 92 [DV.p (PD.v (Value.bool r.neg)), DV.p (PD.sl (nums IntKind.u32 r.num)), DV.p (PD.sl (nums IntKind.u32 r.den))] true] [some (92, 3, 1)] [])) (.c (@rfl DV (DV.p (PD.v (Value.slice none 0 0)))) (.c (hm) .n)) (by kernel_rfl) ?_
      exact ⟨⟨5, 1, 0, Nat.le_refl _, Nat.zero_le _, Nat.le_refl _, rfl, by simp only [tuM, rowC, tokC, hts]; rfl⟩, trivial⟩
    · have hl2 : ((rs.take k).map encRat).length = k := by simp; omega
      have s0 : sized 3 ((rs.take k).map encRat) := sized_map fun _ => rfl
      have e1 := rowC_pos h0
      have e2 := tokC_pos h0
      have e3 : tuM sh rs (k + 1) true = ⟨[⟨130, [.p (intL sh), .p (.sl (rs.map encRat))], false⟩, ⟨135, [.p (fnP 79)], false⟩, ⟨130, [.p (.v (.slice none 0 0)), .p (.v (.slice none 0 0))], false⟩, ⟨130, [.p (intL sh), .row 0 ((rs.take k).map encRat ++ [encRat r])], false⟩, ⟨130, [.p (intL sh), .p (.sl (rs.map encRat))], true⟩], [some (92, 3, ((rs.take k).map encRat).length + 1)], []⟩ := by
        unfold tuM rowC tokC
        rw [hts, hl2, List.map_append]
        rfl
      rw [e3]
      clear e3 hts
      unfold tuM
      rw [e1, e2]
      clear e1 e2
      generalize (rs.take k).map encRat = L at hl2 s0 ⊢
      subst hl2
      refine crun [] ⟨[2, 3, 4, 5], [], [], none⟩ [(6, .call (AEnd.ret (PD.agg [PD.v (Value.bool r.neg), PD.sl (nums IntKind.u32 r.num), PD.sl (nums IntKind.u32 r.den)]))), (8, .m)] (AX.norm) (St.mk (mkT 25 [(2, DV.loc 0 0), (3, DV.loc 1 0), (4, DV.loc 2 0), (5, DV.loc 3 0)]) (Mem.mk [Box.mk 130 [DV.p (PD.sl (nums IntKind.i64 sh)), DV.p (PD.sl (List.map encRat rs))] false, Box.mk 135 [DV.p (PD.v (Value.func (Fn.func 79) #[] #[]))] false, Box.mk 130 [DV.p (PD.v (Value.slice none 0 0)), DV.p (PD.v (Value.slice none 0 0))] false, Box.mk 130 [DV.p (PD.sl (nums IntKind.i64 sh)), DV.row 0 (L ++ [PD.agg [PD.v (Value.bool r.neg), PD.sl (nums IntKind.u32 r.num), PD.sl (nums IntKind.u32 r.den)]])] false, Box.mk 130 [DV.p (PD.sl (nums IntKind.i64 sh)), DV.p (PD.sl (List.map encRat rs))] true, Box.mk 92 [DV.p (PD.v (Value.bool r.neg)), DV.p (PD.sl (nums IntKind.u32 r.num)), DV.p (PD.sl (nums IntKind.u32 r.den))] false, Box.mk 92 [DV.p (PD.v (Value.bool r.neg)), DV.p (PD.sl (nums IntKind.u32 r.num)), DV.p (PD.sl (nums IntKind.u32 r.den))] true] [some (92, 3, L.length + [PD.agg [PD.v (Value.bool r.neg), PD.sl (nums IntKind.u32 r.num), PD.sl (nums IntKind.u32 r.den)]].length)] [])) (.c (show AppOK (3 : Nat) (56 : Nat) L.length L [PD.agg [PD.v (Value.bool r.neg), PD.sl (nums IntKind.u32 r.num), PD.sl (nums IntKind.u32 r.den)]] by exact ⟨by first | rfl | omega | (simp; done) | (simp; omega), by first | assumption | exact nums_sized _ _ | simp [sized_nil, sized_one, sized_append, sized_map, nums_sized, nums_append], by first | assumption | exact nums_sized _ _ | simp [sized_nil, sized_one, sized_append, sized_map, nums_sized, nums_append], by first | omega | (simp <;> omega), by first | omega | (simp <;> omega)⟩) (.c (@rfl DV (DV.row 0 L)) (.c (hm) .n))) (by kernel_rfl) ?_
      exact ⟨⟨5, 1, 0, Nat.le_refl _, Nat.zero_le _, Nat.le_refl _, rfl, rfl⟩, trivial⟩
  · intro _
    rw [enumP_len, hlen]
    unfold tuM
    rw [List.take_length]
    by_cases h0 : rs.length = 0
    · obtain rfl : rs = [] := List.length_eq_zero_iff.1 h0
      unfold rowC tokC
      refine crun [] ⟨[4], [], [], none⟩ [] (AX.ret) (St.mk (mkT 25 [(4, DV.loc 2 0)]) (Mem.mk [Box.mk 130 [DV.p (PD.sl (nums IntKind.i64 sh)), DV.p (PD.sl [])] false, Box.mk 135 [DV.p (PD.v (Value.func (Fn.func 79) #[] #[]))] false, Box.mk 130 [DV.p (PD.sl (nums IntKind.i64 sh)), DV.p (PD.v (Value.slice none 0 0))] false, Box.mk 130 [DV.p (PD.sl (nums IntKind.i64 sh)), DV.p (PD.v (Value.slice none 0 0))] false, Box.mk 130 [DV.p (PD.sl (nums IntKind.i64 sh)), DV.p (PD.sl [])] true] [] [])) .n (by kernel_rfl) ?_
      exact fpost_ret rfl rfl rfl
    · rw [rowC_pos h0, tokC_pos h0]
      refine crun [] ⟨[4], [], [], none⟩ [] (AX.ret) (St.mk (mkT 25 [(4, DV.loc 2 0)]) (Mem.mk [Box.mk 130 [DV.p (PD.sl (nums IntKind.i64 sh)), DV.p (PD.sl (List.map encRat rs))] false, Box.mk 135 [DV.p (PD.v (Value.func (Fn.func 79) #[] #[]))] false, Box.mk 130 [DV.p (PD.sl (nums IntKind.i64 sh)), DV.row 0 (List.map encRat rs)] false, Box.mk 130 [DV.p (PD.sl (nums IntKind.i64 sh)), DV.row 0 (List.map encRat rs)] false, Box.mk 130 [DV.p (PD.sl (nums IntKind.i64 sh)), DV.p (PD.sl (List.map encRat rs))] true] [some (92, 3, rs.length)] [])) .n (by kernel_rfl) ?_
      exact fpost_ret rfl rfl rfl
  · intro k s2 hk h
    exact h.elim
theorem copyT (sh : List Int) (rs : List RatM) (hs : sh.length ≤ 1073741824) (hl : rs.length ≤ 1073741824) (hr : ∀ r ∈ rs, r.num.length ≤ 1073741824 ∧ r.den.length ≤ 1073741824) : Pure Tryz.prog 59 [encT sh rs] (.ret (encT sh rs)) := by
  have h := turned_pure sh rs hs hl hr
  refine pure_eq (prun [] [(25, .call (AEnd.ret (PD.agg [PD.sl (nums IntKind.i64 sh), PD.sl (List.map encRat rs)])))] (e := AEnd.ret (PD.agg [PD.sl (nums IntKind.i64 sh), PD.sl (List.map encRat rs)])) (.c (h) .n) (by kernel_rfl)) ?_
  rfl
end Go.Proofs.YtmhpccchgbdiiaaGreatDoor
