/- Walks: copies of lists and of bodies. -/
import Derived.Test.YtmhpccchgbdiiaaGreatDoorAeU
import Derived.Test.YtmhpccchgbdiiaaGreatDoorWaG
import Derived.Test.YtmhpccchgbdiiaaGreatDoorKn1
namespace Go.Proofs.YtmhpccchgbdiiaaGreatDoor
open Go.RowKit
set_option maxRecDepth 100000
/-- what reads as one also reads as the other -/
def LeD (d d' : PD) : Prop := ∀ Z w x, PRel Z w d x → PRel Z w d' x
theorem LeD.refl (d : PD) : LeD d d := fun _ _ _ h => h
theorem LeD.nil : LeD (.v (.slice none 0 0)) (.sl []) := by
  intro Z w x h
  cases h
  exact .sl [] none 0 0 (fun _ => undef) (by simp) (by simp) (fun d hd => by cases hd) (fun i j d e hd => by simp at hd) (fun i j d e hd => by simp at hd)
theorem LeD.agg {cs cs' : List PD} (hl : cs.length = cs'.length) (h : ∀ (i : Nat) (d d' : PD), cs[i]? = some d → cs'[i]? = some d' → LeD d d') : LeD (.agg cs) (.agg cs') := by
  intro Z w x hx
  cases hx with
  | agg cs vs hvl hv =>
    refine .agg cs' vs (by omega) fun i d' x hd hx => ?_
    have hi : i < cs.length := by rw [hl]; exact (List.getElem?_eq_some_iff.1 hd).1
    exact h i _ _ (List.getElem?_eq_getElem hi) hd Z w x (hv i _ x (List.getElem?_eq_getElem hi) hx)
theorem pure_le {P : Program} {f : FuncId} {args : List PD} {d d' : PD} (h : Pure P f args (.ret d)) (hle : LeD d d') : Pure P f args (.ret d') := by
  refine ⟨h.1, fun Z w xs h1 h2 h3 => (h.2 Z w xs h1 h2 h3).mono ?_⟩
  intro e w' he
  cases e with
  | returned x => exact ⟨hle _ _ _ he.1, he.2⟩
  | panicked ch => exact he.elim
  | outgrown => exact he.elim
theorem sized_nil (s : Nat) : sized s [] := fun d hd => by cases hd
theorem sized_one {s : Nat} {d : PD} (h : d.cells.length = s) : sized s [d] := fun e he => by rw [List.mem_singleton.1 he]; exact h
theorem sized_append {s : Nat} {a b : List PD} (h1 : sized s a) (h2 : sized s b) : sized s (a ++ b) := fun d hd => by
  rcases List.mem_append.1 hd with hd | hd
  · exact h1 d hd
  · exact h2 d hd
theorem sized_map {α : Type} {s : Nat} {f : α → PD} {l : List α} (h : ∀ x, (f x).cells.length = s) : sized s (l.map f) := fun d hd => by
  obtain ⟨x, _, rfl⟩ := List.mem_map.1 hd
  exact h x
theorem clone48' (a : Int) (qs : List PD) (hs : sized 1 (.v (.int .i64 a) :: qs)) (hl : qs.length + 1 ≤ 1073741824) : Pure Tryz.prog 18 [.sl (.v (.int .i64 a) :: qs)] (.ret (.sl (.v (.int .i64 a) :: qs))) := by
  have hn := sized_nil 1
  refine pure_eq (prun [] [(17, .m)] (e := AEnd.ret (PD.sl (PD.v (Value.int IntKind.i64 a) :: qs))) (.c (show AppOK (1 : Nat) (8 : Nat) (0 : Nat) [] (PD.v (Value.int IntKind.i64 a) :: qs) by exact ⟨by first | rfl | omega | (simp; done) | (simp; omega), by first | assumption | exact nums_sized _ _ | simp [sized_nil, sized_one, sized_append, sized_map, nums_sized, nums_append], by first | assumption | exact nums_sized _ _ | simp [sized_nil, sized_one, sized_append, sized_map, nums_sized, nums_append], by first | omega | (simp <;> omega), by first | omega | (simp <;> omega)⟩) .n) (by kernel_rfl)) ?_
  rfl
theorem clone87' (a : Int) (qs : List PD) (hs : sized 1 (.v (.int .i64 a) :: qs)) (hl : qs.length + 1 ≤ 1073741824) : Pure Tryz.prog 14 [.sl (.v (.int .i64 a) :: qs)] (.ret (.sl (.v (.int .i64 a) :: qs))) := by
  have hn := sized_nil 1
  refine pure_eq (prun [] [(17, .m)] (e := AEnd.ret (PD.sl (PD.v (Value.int IntKind.i64 a) :: qs))) (.c (show AppOK (1 : Nat) (8 : Nat) (0 : Nat) [] (PD.v (Value.int IntKind.i64 a) :: qs) by exact ⟨by first | rfl | omega | (simp; done) | (simp; omega), by first | assumption | exact nums_sized _ _ | simp [sized_nil, sized_one, sized_append, sized_map, nums_sized, nums_append], by first | assumption | exact nums_sized _ _ | simp [sized_nil, sized_one, sized_append, sized_map, nums_sized, nums_append], by first | omega | (simp <;> omega), by first | omega | (simp <;> omega)⟩) .n) (by kernel_rfl)) ?_
  rfl
theorem clone92' (a : Int) (qs : List PD) (hs : sized 1 (.v (.int .u32 a) :: qs)) (hl : qs.length + 1 ≤ 1073741824) : Pure Tryz.prog 80 [.sl (.v (.int .u32 a) :: qs)] (.ret (.sl (.v (.int .u32 a) :: qs))) := by
  have hn := sized_nil 1
  refine pure_eq (prun [] [(17, .m)] (e := AEnd.ret (PD.sl (PD.v (Value.int IntKind.u32 a) :: qs))) (.c (show AppOK (1 : Nat) (4 : Nat) (0 : Nat) [] (PD.v (Value.int IntKind.u32 a) :: qs) by exact ⟨by first | rfl | omega | (simp; done) | (simp; omega), by first | assumption | exact nums_sized _ _ | simp [sized_nil, sized_one, sized_append, sized_map, nums_sized, nums_append], by first | assumption | exact nums_sized _ _ | simp [sized_nil, sized_one, sized_append, sized_map, nums_sized, nums_append], by first | omega | (simp <;> omega), by first | omega | (simp <;> omega)⟩) .n) (by kernel_rfl)) ?_
  rfl
theorem clone48 (l : List Int) (h : l.length ≤ 1073741824) : Pure Tryz.prog 18 [intL l] (.ret (intL l)) := by
  cases l with
  | nil => exact clone48_empty
  | cons a r => exact clone48' a (nums .i64 r) (nums_sized .i64 (a :: r)) (by simpa [nums] using h)
theorem clone87 (l : List Int) (h : l.length ≤ 1073741824) : Pure Tryz.prog 14 [intL l] (.ret (intL l)) := by
  cases l with
  | nil => exact clone87_empty
  | cons a r => exact clone87' a (nums .i64 r) (nums_sized .i64 (a :: r)) (by simpa [nums] using h)
theorem clone92 (l : List Int) (h : l.length ≤ 1073741824) : Pure Tryz.prog 80 [natL l] (.ret (natL l)) := by
  cases l with
  | nil => exact clone92_empty
  | cons a r => exact clone92' a (nums .u32 r) (nums_sized .u32 (a :: r)) (by simpa [nums] using h)
def encBody (ns : List NodeM) (os : List Int) : PD := .agg [.sl (ns.map encNode), intL os]
/-- a list that is built: none yet, or so many -/
def rowC (k : Nat) (els : List PD) : DV := match k with
  | 0 => .p (.v (.slice none 0 0))
  | _ + 1 => .row 0 els
def tokC (t : TypeId) (sz k : Nat) : List (Option (TypeId × Nat × Nat)) := match k with
  | 0 => []
  | k + 1 => [some (t, sz, k + 1)]
theorem rowC_pos {k : Nat} (h : k ≠ 0) (L : List PD) : rowC k L = .row 0 L := by
  cases k with
  | zero => exact absurd rfl h
  | succ k => rfl
theorem tokC_pos {k : Nat} (h : k ≠ 0) (t : TypeId) (s : Nat) : tokC t s k = [some (t, s, k)] := by
  cases k with
  | zero => exact absurd rfl h
  | succ k => rfl
theorem take_snoc {α : Type} {l : List α} {k : Nat} {p : α} (h : l[k]? = some p) : l.take (k + 1) = l.take k ++ [p] := by
  rw [List.take_add_one, h]; rfl
def bcSt (ns : List NodeM) (os : List Int) (k : Nat) : St := ⟨mkT 33 [(2, .loc 1 0), (3, .loc 2 0), (11, .p (.sl (ns.map encNode))), (12, .p (intP (ns.map encNode).length)), (13, .p (intP k))], ⟨[⟨28, [.p (.sl (ns.map encNode)), .p (intL os)], false⟩, ⟨28, [.p (.v (.slice none 0 0)), .p (.v (.slice none 0 0))], false⟩, ⟨28, [rowC k ((ns.take k).map encNode), .p (intL os)], false⟩], tokC 55 3 k, []⟩⟩
def bcEnd (ns : List NodeM) (os : List Int) : St := ⟨mkT 33 [(2, .loc 1 0), (3, .loc 2 0)], ⟨[⟨28, [.p (.sl (ns.map encNode)), .p (intL os)], false⟩, ⟨28, [.p (.v (.slice none 0 0)), .p (.v (.slice none 0 0))], false⟩, ⟨28, [rowC ns.length ((ns.take ns.length).map encNode), .p (intL os)], false⟩], tokC 55 3 ns.length, []⟩⟩
theorem body_loop (ns : List NodeM) (os : List Int) (hn : ns.length ≤ 1073741824) (hns : ∀ n ∈ ns, n.args.length ≤ 1073741824 ∧ n.attrs.length ≤ 1073741824) : LoopOK Tryz.prog (loopB Tryz.prog 36 0) (bcSt ns os 0) (.exit 0) (bcEnd ns os) := by
  refine loop_ix [2, 3, 11, 12, 13] (bcSt ns os) ns.length (fun _ => True) trivial (fun _ => rfl) ?_
  intro k hk _ ro K Q hQ hK
  have hlen : (ns.map encNode).length = ns.length := List.length_map ..
  by_cases hlt : k < ns.length
  · obtain ⟨n, hx0, hd⟩ := get_of_lt hlt
    have hx := map_get (f := encNode) hx0
    have hw := wrap64_succ (k := k) (by omega)
    obtain ⟨b1, b2⟩ := hns n (List.mem_of_getElem? hx0)
    have sn : sized 3 [encNode n] := sized_one rfl
    have c1 := clone87 n.args b1
    have c2 := clone87 n.attrs b2
    have hts := take_snoc hx0
    by_cases h0 : k = 0
    · subst h0
      have s0 := sized_nil 3
      unfold bcSt rowC tokC
      refine crun [] ⟨[2, 3, 11, 12, 13], [], [], (some (3, 1, 0))⟩ [(2, .b true), (11, .el (encNode n)), (12, .el (encNode n)), (23, .call (AEnd.ret (PD.sl (nums IntKind.i64 n.args)))), (26, .call (AEnd.ret (PD.sl (nums IntKind.i64 n.attrs))))] (AX.norm) (St.mk (mkT 33 [(2, DV.loc 1 0), (3, DV.loc 2 0), (11, DV.p (PD.sl (List.map encNode ns))), (12, DV.p (PD.v (Value.int IntKind.i64 (↑(List.map encNode ns).length : Int)))), (13, DV.p (PD.v (Value.int IntKind.i64 1)))]) (Mem.mk [Box.mk 28 [DV.p (PD.sl (List.map encNode ns)), DV.p (PD.sl (nums IntKind.i64 os))] false, Box.mk 28 [DV.p (PD.v (Value.slice none 0 0)), DV.p (PD.v (Value.slice none 0 0))] false, Box.mk 28 [DV.row 0 [PD.agg [PD.v (Value.int IntKind.i64 n.op), PD.sl (nums IntKind.i64 n.args), PD.sl (nums IntKind.i64 n.attrs)]], DV.p (PD.sl (nums IntKind.i64 os))] false] [some (55, 3, 1)] [])) (.c (@rfl DV (DV.p (PD.v (Value.slice none 0 0)))) (.c (c2) (.c (c1) (.c hx (.c (And.intro hx (show (0 : Int) ≤ 0 by omega)) (.c (dT (show (0 : Int) < (↑(List.map encNode ns).length : Int) by omega)) .n)))))) (by kernel_rfl) ?_
      exact hK _ hlt (by unfold bcSt rowC tokC; simp only [hw, hts]; rfl) trivial
    · have hl2 : ((ns.take k).map encNode).length = k := by simp; omega
      have s0 : sized 3 ((ns.take k).map encNode) := sized_map fun _ => rfl
      have e1 := rowC_pos h0
      have e2 := tokC_pos h0
      have e3 : bcSt ns os (k + 1) = ⟨mkT 33 [(2, .loc 1 0), (3, .loc 2 0), (11, .p (.sl (ns.map encNode))), (12, .p (intP (ns.map encNode).length)), (13, .p (intP (k + 1 : Nat)))], ⟨[⟨28, [.p (.sl (ns.map encNode)), .p (intL os)], false⟩, ⟨28, [.p (.v (.slice none 0 0)), .p (.v (.slice none 0 0))], false⟩, ⟨28, [.row 0 ((ns.take k).map encNode ++ [encNode n]), .p (intL os)], false⟩], [some (55, 3, ((ns.take k).map encNode).length + 1)], []⟩⟩ := by
        unfold bcSt rowC tokC
        rw [hts, hl2, List.map_append]
        rfl
      rw [e3] at hK
      clear e3 hts
      unfold bcSt
      rw [e1, e2]
      clear e1 e2
      generalize (ns.take k).map encNode = L at hl2 s0 hK ⊢
      subst hl2
      refine crun [] ⟨[2, 3, 11, 12, 13], [], [], (some (3, 1, 0))⟩ [(2, .b true), (11, .el (encNode n)), (12, .el (encNode n)), (23, .call (AEnd.ret (PD.sl (nums IntKind.i64 n.args)))), (26, .call (AEnd.ret (PD.sl (nums IntKind.i64 n.attrs)))), (29, .m)] (AX.norm) (St.mk (mkT 33 [(2, DV.loc 1 0), (3, DV.loc 2 0), (11, DV.p (PD.sl (List.map encNode ns))), (12, DV.p (PD.v (Value.int IntKind.i64 (↑(List.map encNode ns).length : Int)))), (13, DV.p (PD.v (Value.int IntKind.i64 (IntKind.i64.wrap ((↑L.length : Int) + 1)))))]) (Mem.mk [Box.mk 28 [DV.p (PD.sl (List.map encNode ns)), DV.p (PD.sl (nums IntKind.i64 os))] false, Box.mk 28 [DV.p (PD.v (Value.slice none 0 0)), DV.p (PD.v (Value.slice none 0 0))] false, Box.mk 28 [DV.row 0 (L ++ [PD.agg [PD.v (Value.int IntKind.i64 n.op), PD.sl (nums IntKind.i64 n.args), PD.sl (nums IntKind.i64 n.attrs)]]), DV.p (PD.sl (nums IntKind.i64 os))] false] [some (55, 3, L.length + [PD.agg [PD.v (Value.int IntKind.i64 n.op), PD.sl (nums IntKind.i64 n.args), PD.sl (nums IntKind.i64 n.attrs)]].length)] [])) (.c (show AppOK (3 : Nat) (56 : Nat) L.length L [PD.agg [PD.v (Value.int IntKind.i64 n.op), PD.sl (nums IntKind.i64 n.args), PD.sl (nums IntKind.i64 n.attrs)]] by exact ⟨by first | rfl | omega | (simp; done) | (simp; omega), by first | assumption | exact nums_sized _ _ | simp [sized_nil, sized_one, sized_append, sized_map, nums_sized, nums_append], by first | assumption | exact nums_sized _ _ | simp [sized_nil, sized_one, sized_append, sized_map, nums_sized, nums_append], by first | omega | (simp <;> omega), by first | omega | (simp <;> omega)⟩) (.c (@rfl DV (DV.row 0 L)) (.c (c2) (.c (c1) (.c hx (.c (And.intro hx (nn0 (L.length))) (.c (dT (show (↑L.length : Int) < (↑(List.map encNode ns).length : Int) by omega)) .n))))))) (by kernel_rfl) ?_
      exact hK _ hlt (by simp only [hw]; rfl) trivial
  · obtain rfl : k = ns.length := by omega
    refine crun [] ⟨[2, 3], [], [], none⟩ [(2, .b false)] (AX.exit 0) (St.mk (mkT 33 [(2, DV.loc 1 0), (3, DV.loc 2 0)]) (Mem.mk [Box.mk 28 [DV.p (PD.sl (List.map encNode ns)), DV.p (PD.sl (nums IntKind.i64 os))] false, Box.mk 28 [DV.p (PD.v (Value.slice none 0 0)), DV.p (PD.v (Value.slice none 0 0))] false, Box.mk 28 [rowC ns.length (List.map encNode (List.take ns.length ns)), DV.p (PD.sl (nums IntKind.i64 os))] false] (St.keep [2, 3] (St.mk [DV.undef, DV.undef, DV.loc 1 0, DV.loc 2 0, DV.undef, DV.undef, DV.undef, DV.undef, DV.undef, DV.undef, DV.undef, DV.p (PD.sl (List.map encNode ns)), DV.p (PD.v (Value.int IntKind.i64 (↑(List.map encNode ns).length : Int))), DV.p (PD.v (Value.int IntKind.i64 (↑ns.length : Int))), DV.p (PD.v (Value.bool false)), DV.undef, DV.undef, DV.undef, DV.undef, DV.undef, DV.undef, DV.undef, DV.undef, DV.undef, DV.undef, DV.undef, DV.undef, DV.undef, DV.undef, DV.undef, DV.undef, DV.undef, DV.undef] (Mem.mk [Box.mk 28 [DV.p (PD.sl (List.map encNode ns)), DV.p (PD.sl (nums IntKind.i64 os))] false, Box.mk 28 [DV.p (PD.v (Value.slice none 0 0)), DV.p (PD.v (Value.slice none 0 0))] false, Box.mk 28 [rowC ns.length (List.map encNode (List.take ns.length ns)), DV.p (PD.sl (nums IntKind.i64 os))] false] (tokC 55 3 ns.length) []))).μ.toks [])) (.c (dF (show ¬ (↑ns.length : Int) < (↑(List.map encNode ns).length : Int) by omega)) .n) (by kernel_rfl) ?_
    exact hQ
end Go.Proofs.YtmhpccchgbdiiaaGreatDoor
