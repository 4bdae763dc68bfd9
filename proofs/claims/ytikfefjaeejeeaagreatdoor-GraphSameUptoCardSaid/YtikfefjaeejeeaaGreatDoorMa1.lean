/- Walks and laws, laid together: WaG WbA Wa6 WaE WbB WfA. -/
import Derived.Test.YtikfefjaeejeeaaGreatDoorAeU
import Derived.Test.YtikfefjaeejeeaaGreatDoorKn1
import Derived.Test.YtikfefjaeejeeaaGreatDoorAeX
/- A graph as data. -/
namespace Go.Proofs.YtikfefjaeejeeaaGreatDoor
open Go.RowKit
structure RatM where
  neg : Bool
  num : List Int
  den : List Int
structure PortM where
  name : ByteArray
  shape : List Int
structure WeightM where
  name : ByteArray
  shape : List Int
  elems : List RatM
structure NodeM where
  op : Int
  args : List Int
  attrs : List Int
structure GraphM where
  ver : Int
  ins : List PortM
  ws : List WeightM
  bn : List NodeM
  bo : List Int
  has : Bool
  vn : List NodeM
  vo : List Int
def intL (l : List Int) : PD := .sl (nums .i64 l)
def natL (l : List Int) : PD := .sl (nums .u32 l)
def strP (s : ByteArray) : PD := .v (.string s)
def intP (n : Int) : PD := .v (.int .i64 n)
def boolP (b : Bool) : PD := .v (.bool b)
def encRat (r : RatM) : PD := .agg [.v (.bool r.neg), natL r.num, natL r.den]
def encPort (p : PortM) : PD := .agg [strP p.name, intL p.shape]
def encWeight (p : WeightM) : PD := .agg [strP p.name, intL p.shape, .sl (p.elems.map encRat)]
def encNode (n : NodeM) : PD := .agg [intP n.op, intL n.args, intL n.attrs]
def encG (g : GraphM) : PD := .agg [intP g.ver, .sl (g.ins.map encPort), .sl (g.ws.map encWeight), .sl (g.bn.map encNode), intL g.bo, boolP g.has, .sl (g.vn.map encNode), intL g.vo]
/-- a graph in a box -/
def boxG (g : GraphM) : Box := ⟨29, [.p (intP g.ver), .p (.sl (g.ins.map encPort)), .p (.sl (g.ws.map encWeight)), .p (.sl (g.bn.map encNode)), .p (intL g.bo), .p (boolP g.has), .p (.sl (g.vn.map encNode)), .p (intL g.vo)], false⟩
theorem map_get {α β : Type} {l : List α} {f : α → β} {k : Nat} {p : α} (h : l[k]? = some p) : (l.map f)[k]? = some (f p) := by simp [h]
theorem get_of_lt {α : Type} {l : List α} {k : Nat} (h : k < l.length) : ∃ p, l[k]? = some p ∧ l.drop k = p :: l.drop (k + 1) := ⟨l[k], List.getElem?_eq_getElem h, List.drop_eq_getElem_cons h⟩
theorem drop_end {α : Type} {l : List α} {k : Nat} (h : ¬ k < l.length) : l.drop k = [] := List.drop_eq_nil_of_le (Nat.le_of_not_lt h)
theorem nums_at {q : IntKind} {l : List Int} {k : Nat} {x : Int} (h : l[k]? = some x) : (nums q l)[k]? = some (.v (.int q x)) := nums_get h
end Go.Proofs.YtikfefjaeejeeaaGreatDoor
/- Walks: copies of lists and of bodies. -/
namespace Go.Proofs.YtikfefjaeejeeaaGreatDoor
open Go.RowKit
set_option maxRecDepth 100000
/-- what reads as one also reads as the other -/
def LeD (d d' : PD) : Prop := ∀ Z w x, PRel Z w d x → PRel Z w d' x
theorem LeD.refl (d : PD) : LeD d d := fun _ _ _ h => h
theorem LeD.nil : LeD (.v (.slice none 0 0)) (.sl []) := by
  intro Z w x h
  cases h
  exact .sl [] none 0 0 (fun _ => undef) (by simp) (by simp) (fun d hd => by cases hd) (fun i j d e hd => by simp at hd) (fun i j d e hd => by simp at hd)
theorem LeD.agg {cs cs' : List PD} (hl : cs.length = cs'.length) (h : ∀ (i : Nat) (d d' : PD), cs[i]? = some d → cs'[i]? = some d' → LeD d d') : LeD (.agg cs) (.agg cs') := by
  intro Z w x hx
  cases hx with
  | agg cs vs hvl hv =>
    refine .agg cs' vs (by omega) fun i d' x hd hx => ?_
    have hi : i < cs.length := by rw [hl]; exact (List.getElem?_eq_some_iff.1 hd).1
    exact h i _ _ (List.getElem?_eq_getElem hi) hd Z w x (hv i _ x (List.getElem?_eq_getElem hi) hx)
theorem pure_le {P : Program} {f : FuncId} {args : List PD} {d d' : PD} (h : Pure P f args (.ret d)) (hle : LeD d d') : Pure P f args (.ret d') := by
  refine ⟨h.1, fun Z w xs h1 h2 h3 => (h.2 Z w xs h1 h2 h3).mono ?_⟩
  intro e w' he
  cases e with
  | returned x => exact ⟨hle _ _ _ he.1, he.2⟩
  | panicked ch => exact he.elim
  | outgrown => exact he.elim
theorem sized_nil (s : Nat) : sized s [] := fun d hd => by cases hd
theorem sized_one {s : Nat} {d : PD} (h : d.cells.length = s) : sized s [d] := fun e he => by rw [List.mem_singleton.1 he]; exact h
theorem sized_append {s : Nat} {a b : List PD} (h1 : sized s a) (h2 : sized s b) : sized s (a ++ b) := fun d hd => by
  rcases List.mem_append.1 hd with hd | hd
  · exact h1 d hd
  · exact h2 d hd
theorem sized_map {α : Type} {s : Nat} {f : α → PD} {l : List α} (h : ∀ x, (f x).cells.length = s) : sized s (l.map f) := fun d hd => by
  obtain ⟨x, _, rfl⟩ := List.mem_map.1 hd
  exact h x
theorem clone48' (a : Int) (qs : List PD) (hs : sized 1 (.v (.int .i64 a) :: qs)) (hl : qs.length + 1 ≤ 1073741824) : Pure Tryz.prog 48 [.sl (.v (.int .i64 a) :: qs)] (.ret (.sl (.v (.int .i64 a) :: qs))) := by
  have hn := sized_nil 1
  refine pure_eq (prun [] [(17, .m)] (e := AEnd.ret (PD.sl (PD.v (Value.int IntKind.i64 a) :: qs))) (.c (show AppOK (1 : Nat) (8 : Nat) (0 : Nat) [] (PD.v (Value.int IntKind.i64 a) :: qs) by exact ⟨by first | rfl | omega | (simp; done) | (simp; omega), by first | assumption | exact nums_sized _ _ | simp [sized_nil, sized_one, sized_append, sized_map, nums_sized, nums_append], by first | assumption | exact nums_sized _ _ | simp [sized_nil, sized_one, sized_append, sized_map, nums_sized, nums_append], by first | omega | (simp <;> omega), by first | omega | (simp <;> omega)⟩) .n) (by kernel_rfl)) ?_
  rfl
theorem clone87' (a : Int) (qs : List PD) (hs : sized 1 (.v (.int .i64 a) :: qs)) (hl : qs.length + 1 ≤ 1073741824) : Pure Tryz.prog 87 [.sl (.v (.int .i64 a) :: qs)] (.ret (.sl (.v (.int .i64 a) :: qs))) := by
  have hn := sized_nil 1
  refine pure_eq (prun [] [(17, .m)] (e := AEnd.ret (PD.sl (PD.v (Value.int IntKind.i64 a) :: qs))) (.c (show AppOK (1 : Nat) (8 : Nat) (0 : Nat) [] (PD.v (Value.int IntKind.i64 a) :: qs) by exact ⟨by first | rfl | omega | (simp; done) | (simp; omega), by first | assumption | exact nums_sized _ _ | simp [sized_nil, sized_one, sized_append, sized_map, nums_sized, nums_append], by first | assumption | exact nums_sized _ _ | simp [sized_nil, sized_one, sized_append, sized_map, nums_sized, nums_append], by first | omega | (simp <;> omega), by first | omega | (simp <;> omega)⟩) .n) (by kernel_rfl)) ?_
  rfl
theorem clone92' (a : Int) (qs : List PD) (hs : sized 1 (.v (.int .u32 a) :: qs)) (hl : qs.length + 1 ≤ 1073741824) : Pure Tryz.prog 92 [.sl (.v (.int .u32 a) :: qs)] (.ret (.sl (.v (.int .u32 a) :: qs))) := by
  have hn := sized_nil 1
  refine pure_eq (prun [] [(17, .m)] (e := AEnd.ret (PD.sl (PD.v (Value.int IntKind.u32 a) :: qs))) (.c (show AppOK (1 : Nat) (4 : Nat) (0 : Nat) [] (PD.v (Value.int IntKind.u32 a) :: qs) by exact ⟨by first | rfl | omega | (simp; done) | (simp; omega), by first | assumption | exact nums_sized _ _ | simp [sized_nil, sized_one, sized_append, sized_map, nums_sized, nums_append], by first | assumption | exact nums_sized _ _ | simp [sized_nil, sized_one, sized_append, sized_map, nums_sized, nums_append], by first | omega | (simp <;> omega), by first | omega | (simp <;> omega)⟩) .n) (by kernel_rfl)) ?_
  rfl
theorem clone48 (l : List Int) (h : l.length ≤ 1073741824) : Pure Tryz.prog 48 [intL l] (.ret (intL l)) := by
  cases l with
  | nil => exact clone48_empty
  | cons a r => exact clone48' a (nums .i64 r) (nums_sized .i64 (a :: r)) (by simpa [nums] using h)
theorem clone87 (l : List Int) (h : l.length ≤ 1073741824) : Pure Tryz.prog 87 [intL l] (.ret (intL l)) := by
  cases l with
  | nil => exact clone87_empty
  | cons a r => exact clone87' a (nums .i64 r) (nums_sized .i64 (a :: r)) (by simpa [nums] using h)
theorem clone92 (l : List Int) (h : l.length ≤ 1073741824) : Pure Tryz.prog 92 [natL l] (.ret (natL l)) := by
  cases l with
  | nil => exact clone92_empty
  | cons a r => exact clone92' a (nums .u32 r) (nums_sized .u32 (a :: r)) (by simpa [nums] using h)
def encBody (ns : List NodeM) (os : List Int) : PD := .agg [.sl (ns.map encNode), intL os]
/-- a list that is built: none yet, or so many -/
def rowC (k : Nat) (els : List PD) : DV := match k with
  | 0 => .p (.v (.slice none 0 0))
  | _ + 1 => .row 0 els
def tokC (t : TypeId) (sz k : Nat) : List (Option (TypeId × Nat × Nat)) := match k with
  | 0 => []
  | k + 1 => [some (t, sz, k + 1)]
theorem rowC_pos {k : Nat} (h : k ≠ 0) (L : List PD) : rowC k L = .row 0 L := by
  cases k with
  | zero => exact absurd rfl h
  | succ k => rfl
theorem tokC_pos {k : Nat} (h : k ≠ 0) (t : TypeId) (s : Nat) : tokC t s k = [some (t, s, k)] := by
  cases k with
  | zero => exact absurd rfl h
  | succ k => rfl
theorem take_snoc {α : Type} {l : List α} {k : Nat} {p : α} (h : l[k]? = some p) : l.take (k + 1) = l.take k ++ [p] := by
  rw [List.take_add_one, h]; rfl
def bcSt (ns : List NodeM) (os : List Int) (k : Nat) : St := ⟨mkT 33 [(2, .loc 1 0), (3, .loc 2 0), (11, .p (.sl (ns.map encNode))), (12, .p (intP (ns.map encNode).length)), (13, .p (intP k))], ⟨[⟨27, [.p (.sl (ns.map encNode)), .p (intL os)], false⟩, ⟨27, [.p (.v (.slice none 0 0)), .p (.v (.slice none 0 0))], false⟩, ⟨27, [rowC k ((ns.take k).map encNode), .p (intL os)], false⟩], tokC 48 3 k, []⟩⟩
def bcEnd (ns : List NodeM) (os : List Int) : St := ⟨mkT 33 [(2, .loc 1 0), (3, .loc 2 0)], ⟨[⟨27, [.p (.sl (ns.map encNode)), .p (intL os)], false⟩, ⟨27, [.p (.v (.slice none 0 0)), .p (.v (.slice none 0 0))], false⟩, ⟨27, [rowC ns.length ((ns.take ns.length).map encNode), .p (intL os)], false⟩], tokC 48 3 ns.length, []⟩⟩
theorem body_loop (ns : List NodeM) (os : List Int) (hn : ns.length ≤ 1073741824) (hns : ∀ n ∈ ns, n.args.length ≤ 1073741824 ∧ n.attrs.length ≤ 1073741824) : LoopOK Tryz.prog (loopB Tryz.prog 47 0) (bcSt ns os 0) (.exit 0) (bcEnd ns os) := by
  refine loop_ix [2, 3, 11, 12, 13] (bcSt ns os) ns.length (fun _ => True) trivial (fun _ => rfl) ?_
  intro k hk _ ro K Q hQ hK
  have hlen : (ns.map encNode).length = ns.length := List.length_map ..
  by_cases hlt : k < ns.length
  · obtain ⟨n, hx0, hd⟩ := get_of_lt hlt
    have hx := map_get (f := encNode) hx0
    have hw := wrap64_succ (k := k) (by omega)
    obtain ⟨b1, b2⟩ := hns n (List.mem_of_getElem? hx0)
    have sn : sized 3 [encNode n] := sized_one rfl
    have c1 := clone87 n.args b1
    have c2 := clone87 n.attrs b2
    have hts := take_snoc hx0
    by_cases h0 : k = 0
    · subst h0
      have s0 := sized_nil 3
      unfold bcSt rowC tokC
      refine crun [] ⟨[2, 3, 11, 12, 13], [], [], (some (3, 1, 0))⟩ [(2, .b true), (11, .el (encNode n)), (12, .el (encNode n)), (23, .call (AEnd.ret (PD.sl (nums IntKind.i64 n.args)))), (26, .call (AEnd.ret (PD.sl (nums IntKind.i64 n.attrs))))] (AX.norm) (St.mk (mkT 33 [(2, DV.loc 1 0), (3, DV.loc 2 0), (11, DV.p (PD.sl (List.map encNode ns))), (12, DV.p (PD.v (Value.int IntKind.i64 (↑(List.map encNode ns).length : Int)))), (13, DV.p (PD.v (Value.int IntKind.i64 1)))]) (Mem.mk [Box.mk 27 [DV.p (PD.sl (List.map encNode ns)), DV.p (PD.sl (nums IntKind.i64 os))] false, Box.mk 27 [DV.p (PD.v (Value.slice none 0 0)), DV.p (PD.v (Value.slice none 0 0))] false, Box.mk 27 [DV.row 0 [PD.agg [PD.v (Value.int IntKind.i64 n.op), PD.sl (nums IntKind.i64 n.args), PD.sl (nums IntKind.i64 n.attrs)]], DV.p (PD.sl (nums IntKind.i64 os))] false] [some (48, 3, 1)] [])) (.c (@rfl DV (DV.p (PD.v (Value.slice none 0 0)))) (.c (c2) (.c (c1) (.c hx (.c (And.intro hx (show (0 : Int) ≤ 0 by omega)) (.c (dT (show (0 : Int) < (↑(List.map encNode ns).length : Int) by omega)) .n)))))) (by kernel_rfl) ?_
      exact hK _ hlt (by unfold bcSt rowC tokC; simp only [hw, hts]; rfl) trivial
    · have hl2 : ((ns.take k).map encNode).length = k := by simp; omega
      have s0 : sized 3 ((ns.take k).map encNode) := sized_map fun _ => rfl
      have e1 := rowC_pos h0
      have e2 := tokC_pos h0
      have e3 : bcSt ns os (k + 1) = ⟨mkT 33 [(2, .loc 1 0), (3, .loc 2 0), (11, .p (.sl (ns.map encNode))), (12, .p (intP (ns.map encNode).length)), (13, .p (intP (k + 1 : Nat)))], ⟨[⟨27, [.p (.sl (ns.map encNode)), .p (intL os)], false⟩, ⟨27, [.p (.v (.slice none 0 0)), .p (.v (.slice none 0 0))], false⟩, ⟨27, [.row 0 ((ns.take k).map encNode ++ [encNode n]), .p (intL os)], false⟩], [some (48, 3, ((ns.take k).map encNode).length + 1)], []⟩⟩ := by
        unfold bcSt rowC tokC
        rw [hts, hl2, List.map_append]
        rfl
      rw [e3] at hK
      clear e3 hts
      unfold bcSt
      rw [e1, e2]
      clear e1 e2
      generalize (ns.take k).map encNode = L at hl2 s0 hK ⊢
      subst hl2
      refine crun [] ⟨[2, 3, 11, 12, 13], [], [], (some (3, 1, 0))⟩ [(2, .b true), (11, .el (encNode n)), (12, .el (encNode n)), (23, .call (AEnd.ret (PD.sl (nums IntKind.i64 n.args)))), (26, .call (AEnd.ret (PD.sl (nums IntKind.i64 n.attrs)))), (29, .m)] (AX.norm) (St.mk (mkT 33 [(2, DV.loc 1 0), (3, DV.loc 2 0), (11, DV.p (PD.sl (List.map encNode ns))), (12, DV.p (PD.v (Value.int IntKind.i64 (↑(List.map encNode ns).length : Int)))), (13, DV.p (PD.v (Value.int IntKind.i64 (IntKind.i64.wrap ((↑L.length : Int) + 1)))))]) (Mem.mk [Box.mk 27 [DV.p (PD.sl (List.map encNode ns)), DV.p (PD.sl (nums IntKind.i64 os))] false, Box.mk 27 [DV.p (PD.v (Value.slice none 0 0)), DV.p (PD.v (Value.slice none 0 0))] false, Box.mk 27 [DV.row 0 (L ++ [PD.agg [PD.v (Value.int IntKind.i64 n.op), PD.sl (nums IntKind.i64 n.args), PD.sl (nums IntKind.i64 n.attrs)]]), DV.p (PD.sl (nums IntKind.i64 os))] false] [some (48, 3, L.length + [PD.agg [PD.v (Value.int IntKind.i64 n.op), PD.sl (nums IntKind.i64 n.args), PD.sl (nums IntKind.i64 n.attrs)]].length)] [])) (.c (show AppOK (3 : Nat) (56 : Nat) L.length L [PD.agg [PD.v (Value.int IntKind.i64 n.op), PD.sl (nums IntKind.i64 n.args), PD.sl (nums IntKind.i64 n.attrs)]] by exact ⟨by first | rfl | omega | (simp; done) | (simp; omega), by first | assumption | exact nums_sized _ _ | simp [sized_nil, sized_one, sized_append, sized_map, nums_sized, nums_append], by first | assumption | exact nums_sized _ _ | simp [sized_nil, sized_one, sized_append, sized_map, nums_sized, nums_append], by first | omega | (simp <;> omega), by first | omega | (simp <;> omega)⟩) (.c (@rfl DV (DV.row 0 L)) (.c (c2) (.c (c1) (.c hx (.c (And.intro hx (nn0 (L.length))) (.c (dT (show (↑L.length : Int) < (↑(List.map encNode ns).length : Int) by omega)) .n))))))) (by kernel_rfl) ?_
      exact hK _ hlt (by simp only [hw]; rfl) trivial
  · obtain rfl : k = ns.length := by omega
    refine crun [] ⟨[2, 3], [], [], none⟩ [(2, .b false)] (AX.exit 0) (St.mk (mkT 33 [(2, DV.loc 1 0), (3, DV.loc 2 0)]) (Mem.mk [Box.mk 27 [DV.p (PD.sl (List.map encNode ns)), DV.p (PD.sl (nums IntKind.i64 os))] false, Box.mk 27 [DV.p (PD.v (Value.slice none 0 0)), DV.p (PD.v (Value.slice none 0 0))] false, Box.mk 27 [rowC ns.length (List.map encNode (List.take ns.length ns)), DV.p (PD.sl (nums IntKind.i64 os))] false] (St.keep (Fin_.mk [2, 3] [] [] none).ks (St.mk [DV.undef, DV.undef, DV.loc 1 0, DV.loc 2 0, DV.undef, DV.undef, DV.undef, DV.undef, DV.undef, DV.undef, DV.undef, DV.p (PD.sl (List.map encNode ns)), DV.p (PD.v (Value.int IntKind.i64 (↑(List.map encNode ns).length : Int))), DV.p (PD.v (Value.int IntKind.i64 (↑ns.length : Int))), DV.p (PD.v (Value.bool false)), DV.undef, DV.undef, DV.undef, DV.undef, DV.undef, DV.undef, DV.undef, DV.undef, DV.undef, DV.undef, DV.undef, DV.undef, DV.undef, DV.undef, DV.undef, DV.undef, DV.undef, DV.undef] (Mem.mk [Box.mk 27 [DV.p (PD.sl (List.map encNode ns)), DV.p (PD.sl (nums IntKind.i64 os))] false, Box.mk 27 [DV.p (PD.v (Value.slice none 0 0)), DV.p (PD.v (Value.slice none 0 0))] false, Box.mk 27 [rowC ns.length (List.map encNode (List.take ns.length ns)), DV.p (PD.sl (nums IntKind.i64 os))] false] (tokC 48 3 ns.length) []))).μ.toks [])) (.c (dF (show ¬ (↑ns.length : Int) < (↑(List.map encNode ns).length : Int) by omega)) .n) (by kernel_rfl) ?_
    exact hQ
end Go.Proofs.YtikfefjaeejeeaaGreatDoor
/- Walks: iterators. -/
namespace Go.Proofs.YtikfefjaeejeeaaGreatDoor
open Go.RowKit
set_option maxRecDepth 100000
/-- an enumerated list -/
def enumP (els : List PD) : List (List PD) := els.zipIdx.map fun q => [intP (q.2 : Nat), q.1]
theorem enumP_get {els : List PD} {k : Nat} {x : PD} (h : els[k]? = some x) : (enumP els)[k]? = some [intP (k : Nat), x] := by simp [enumP, h]
theorem enumP_len (els : List PD) : (enumP els).length = els.length := by simp [enumP]
theorem all_it (sh : PD) (rs : List RatM) (hl : rs.length ≤ 9223372036854775807) : ItOK Tryz.prog 141 (.agg [sh, .sl (rs.map encRat)]) (enumP (rs.map encRat)) := by
  refine it_ok (Callable.mk Tryz.func141 rfl rfl) rfl rfl (fun k v => mkT 19 [(0, .p (.v v)), (6, .p (.sl (rs.map encRat))), (7, .p (intP (rs.map encRat).length)), (8, .p (intP k))]) ?_ ?_
  · intro l
    refine crun [] ⟨[0, 6, 7, 8], [], [], none⟩ [] (AX.norm) (St.mk (mkT 19 [(0, DV.p (PD.v (Value.func (Fn.yield l) #[] #[]))), (6, DV.p (PD.sl (List.map encRat rs))), (7, DV.p (PD.v (Value.int IntKind.i64 (↑(List.map encRat rs).length : Int)))), (8, DV.p (PD.v (Value.int IntKind.i64 0)))]) (Mem.mk [] [] [])) .n (by kernel_rfl) ?_
    exact ⟨rfl, rfl⟩
  · intro J Jx l k hJ hy hk
    rw [enumP_len] at hk ⊢
    have hlen : (rs.map encRat).length = rs.length := List.length_map ..
    by_cases hlt : k < rs.length
    · obtain ⟨r, hx0, hd⟩ := get_of_lt hlt
      have hx := map_get (f := encRat) hx0
      have hw := wrap64_succ (k := k) (by omega)
      refine fi_seq1 ⟨mkT 19 [(0, .p (.v (yV l))), (6, .p (.sl (rs.map encRat))), (7, .p (intP (rs.map encRat).length)), (8, .p (intP k)), (9, .p (boolP true))], μ0⟩ ?_ ?_
      · refine crun [] ⟨[0, 6, 7, 8, 9], [], [], none⟩ [(1, .b true)] (AX.norm) (St.mk (mkT 19 [(0, DV.p (PD.v (Value.func (Fn.yield l) #[] #[]))), (6, DV.p (PD.sl (List.map encRat rs))), (7, DV.p (PD.v (Value.int IntKind.i64 (↑(List.map encRat rs).length : Int)))), (8, DV.p (PD.v (Value.int IntKind.i64 (↑k : Int)))), (9, DV.p (PD.v (Value.bool true)))]) (Mem.mk [] [] [])) (.c (dT (show (↑k : Int) < (↑(List.map encRat rs).length : Int) by omega)) .n) (by kernel_rfl) ?_
        exact ⟨rfl, rfl⟩
      refine fi_seq' (fi_cond (b := true) rfl (fi_end hJ (tm := mkT 19 [(0, .p (.v (yV l))), (6, .p (.sl (rs.map encRat))), (7, .p (intP (rs.map encRat).length)), (8, .p (intP k)), (9, .p (boolP true))]) (.inl ⟨rfl, fun a w hI => fi_is ?_ hI⟩) rfl))
      refine fi_seq' (fi_block (fi_seq1 ⟨mkT 19 [(0, .p (.v (yV l))), (3, .p (intP k)), (4, .loc 0 0), (6, .p (.sl (rs.map encRat))), (7, .p (intP (rs.map encRat).length)), (8, .p (intP k))], ⟨[⟨84, [.p (boolP r.neg), .p (natL r.num), .p (natL r.den)], false⟩], [], []⟩⟩ ?_ ?_))
      · refine crun [] ⟨[0, 3, 4, 6, 7, 8], [], [], none⟩ [(2, .el (encRat r)), (3, .el (encRat r))] (AX.norm) (St.mk (mkT 19 [(0, DV.p (PD.v (Value.func (Fn.yield l) #[] #[]))), (3, DV.p (PD.v (Value.int IntKind.i64 (↑k : Int)))), (4, DV.loc 0 0), (6, DV.p (PD.sl (List.map encRat rs))), (7, DV.p (PD.v (Value.int IntKind.i64 (↑(List.map encRat rs).length : Int)))), (8, DV.p (PD.v (Value.int IntKind.i64 (↑k : Int))))]) (Mem.mk [Box.mk 84 [DV.p (PD.v (Value.bool r.neg)), DV.p (PD.sl (nums IntKind.u32 r.num)), DV.p (PD.sl (nums IntKind.u32 r.den))] false] [] [])) (.c hx (.c (And.intro hx (nn0 (k))) .n)) (by kernel_rfl) ?_
        exact ⟨rfl, rfl⟩
      refine fi_yield hJ hy 3 rfl rfl rfl rfl rfl rfl rfl (tm := mkT 19 [(0, .p (.v (yV l))), (6, .p (.sl (rs.map encRat))), (7, .p (intP (rs.map encRat).length)), (8, .p (intP k)), (13, .p (.v (yV l))), (14, .p (intP k)), (15, .p (encRat r))]) ?_ (by show (16 : Nat) < 19; decide) (by show (17 : Nat) < 19; decide) rfl (enumP_get hx) rfl ?_ ?_
      · exact lrun [] [0, 6, 7, 8, 13, 14, 15] [] (by kernel_rfl)
      · intro a w hI
        refine fi_is (fi_last hJ ?_ (fun a w hI => ⟨by omega, hI⟩)) hI
        refine crun [] ⟨[0, 6, 7, 8], [], [], none⟩ [] (AX.norm) (St.mk (mkT 19 [(0, DV.p (PD.v (Value.func (Fn.yield l) #[] #[]))), (6, DV.p (PD.sl (List.map encRat rs))), (7, DV.p (PD.v (Value.int IntKind.i64 (↑(List.map encRat rs).length : Int)))), (8, DV.p (PD.v (Value.int IntKind.i64 (IntKind.i64.wrap ((↑k : Int) + 1)))))]) (Mem.mk [] [] [])) .n (by kernel_rfl) ?_
        exact ⟨rfl, by rw [hw]; rfl⟩
      · intro a w hd hj
        exact ⟨by omega, hd, hj⟩
    · obtain rfl : k = rs.length := by omega
      refine fi_seq1 ⟨mkT 19 [(0, .p (.v (yV l))), (6, .p (.sl (rs.map encRat))), (7, .p (intP (rs.map encRat).length)), (8, .p (intP rs.length)), (9, .p (boolP false))], μ0⟩ ?_ ?_
      · refine crun [] ⟨[0, 6, 7, 8, 9], [], [], none⟩ [(1, .b false)] (AX.norm) (St.mk (mkT 19 [(0, DV.p (PD.v (Value.func (Fn.yield l) #[] #[]))), (6, DV.p (PD.sl (List.map encRat rs))), (7, DV.p (PD.v (Value.int IntKind.i64 (↑(List.map encRat rs).length : Int)))), (8, DV.p (PD.v (Value.int IntKind.i64 (↑rs.length : Int)))), (9, DV.p (PD.v (Value.bool false)))]) (Mem.mk [] [] [])) (.c (dF (show ¬ (↑rs.length : Int) < (↑(List.map encRat rs).length : Int) by omega)) .n) (by kernel_rfl) ?_
        exact ⟨rfl, rfl⟩
      exact fi_seq' (fi_cond (b := false) rfl (fi_end hJ (.inr ⟨0, rfl, fun a w hI => ⟨rfl, hlen.symm, _, hI⟩⟩) rfl))
end Go.Proofs.YtikfefjaeejeeaaGreatDoor
/- Walks: tensor.May. -/
namespace Go.Proofs.YtikfefjaeejeeaaGreatDoor
open Go.RowKit
set_option maxRecDepth 100000
def encT (sh : List Int) (rs : List RatM) : PD := .agg [intL sh, .sl (rs.map encRat)]
theorem enumP_some {els : List PD} {k : Nat} {x : List PD} (h : (enumP els)[k]? = some x) : ∃ e, els[k]? = some e ∧ x = [intP (k : Nat), e] := by
  simp only [enumP, List.getElem?_map, Option.map_eq_some_iff] at h
  obtain ⟨q, hq, rfl⟩ := h
  rw [List.getElem?_zipIdx] at hq
  cases he : els[k]? with
  | none => rw [he] at hq; cases hq
  | some e =>
    rw [he] at hq
    simp at hq
    subst hq
    exact ⟨e, rfl, rfl⟩
def tmB (sh : List Int) (rs : List RatM) (b : Bool) : Mem := ⟨[⟨65, [.p (intL sh), .p (.sl (rs.map encRat))], false⟩, ⟨32, [.p (intP 0)], false⟩, ⟨65, [.p (intL sh), .p (.sl (rs.map encRat))], false⟩, ⟨115, [.p (intL sh), .p (.sl (rs.map encRat))], false⟩, ⟨115, [.p (intL sh), .p (.sl (rs.map encRat))], b⟩], [], []⟩
theorem tmay_ok (sh : List Int) (rs : List RatM) (hl : rs.length ≤ 9223372036854775807) (hf : Pure Tryz.prog 131 [encT sh rs] (.ret (intP 0))) (hr : ∀ r ∈ rs, Pure Tryz.prog 132 [encRat r] (.ret (intP 0))) : Pure Tryz.prog 107 [encT sh rs] (.ret (intP 0)) := by
  refine pure_of_fm (Callable.mk Tryz.func107 rfl rfl) rfl ?_
  refine fm_seq1 ⟨mkT 22 [(1, .loc 0 0), (2, .loc 1 0)], ⟨[⟨65, [.p (intL sh), .p (.sl (rs.map encRat))], false⟩, ⟨32, [.p (intP 0)], false⟩], [], []⟩⟩ ?_ ?_
  · refine crun [] ⟨[1, 2], [], [], none⟩ [] (AX.norm) (St.mk (mkT 22 [(1, DV.loc 0 0), (2, DV.loc 1 0)]) (Mem.mk [Box.mk 65 [DV.p (PD.sl (nums IntKind.i64 sh)), DV.p (PD.sl (List.map encRat rs))] false, Box.mk 32 [DV.p (PD.v (Value.int IntKind.i64 0))] false] [] [])) .n (by kernel_rfl) ?_
    exact ⟨rfl, rfl⟩
  refine fm_seq1 ⟨mkT 22 [(1, .loc 0 0), (2, .loc 1 0)], ⟨[⟨65, [.p (intL sh), .p (.sl (rs.map encRat))], false⟩, ⟨32, [.p (intP 0)], false⟩], [], []⟩⟩ ?_ ?_
  · refine crun [] ⟨[1, 2], [], [], none⟩ [(3, .call (AEnd.ret (PD.v (Value.int IntKind.i64 0))))] (AX.norm) (St.mk (mkT 22 [(1, DV.loc 0 0), (2, DV.loc 1 0)]) (Mem.mk [Box.mk 65 [DV.p (PD.sl (nums IntKind.i64 sh)), DV.p (PD.sl (List.map encRat rs))] false, Box.mk 32 [DV.p (PD.v (Value.int IntKind.i64 0))] false] [] [])) (.c (hf) .n) (by kernel_rfl) ?_
    exact ⟨rfl, rfl⟩
  refine fm_range (all_it (intL sh) rs hl) (eg_fn Tryz.func141 rfl rfl) (s := ⟨mkT 22 [(1, .loc 0 0), (2, .loc 1 0), (14, .fn 141 [.loc 4 0])], tmB sh rs false⟩) (n := 2) (μ0 := tmB sh rs true) ?_ rfl rfl (fun _ => tmB sh rs true) rfl (fun k => True) trivial (fun k s2 => False) ?_ ?_ ?_ ?_
  · refine crun [89, 121] ⟨[1, 2, 14], [], [], none⟩ [] (AX.norm) (St.mk (mkT 22 [(1, DV.loc 0 0), (2, DV.loc 1 0), (14, DV.fn 141 [DV.loc 4 0])]) (Mem.mk [Box.mk 65 [DV.p (PD.sl (nums IntKind.i64 sh)), DV.p (PD.sl (List.map encRat rs))] false, Box.mk 32 [DV.p (PD.v (Value.int IntKind.i64 0))] false, Box.mk 65 [DV.p (PD.sl (nums IntKind.i64 sh)), DV.p (PD.sl (List.map encRat rs))] false, Box.mk 115 [DV.p (PD.sl (nums IntKind.i64 sh)), DV.p (PD.sl (List.map encRat rs))] false, Box.mk 115 [DV.p (PD.sl (nums IntKind.i64 sh)), DV.p (PD.sl (List.map encRat rs))] false] [] [])) .n (by kernel_rfl) ?_
    exact ⟨rfl, rfl⟩
  · intro x hx
    obtain ⟨k, hk⟩ := List.mem_iff_getElem?.1 hx
    obtain ⟨e, _, rfl⟩ := enumP_some hk
    rfl
  · intro l k x hx _
    obtain ⟨e, he, rfl⟩ := enumP_some hx
    simp only [List.getElem?_map, Option.map_eq_some_iff] at he
    obtain ⟨r, hrk, rfl⟩ := he
    have hm := hr r (List.mem_of_getElem? hrk)
    refine awp_then ⟨mkT 22 [(1, .loc 0 0), (2, .loc 1 0), (5, .loc 5 0)], ⟨(tmB sh rs true).boxes ++ [⟨84, [.p (boolP r.neg), .p (natL r.num), .p (natL r.den)], false⟩], [], []⟩⟩ ?_ ?_
    · refine crun [] ⟨[1, 2, 5], [], [], none⟩ [] (AX.norm) (St.mk (mkT 22 [(1, DV.loc 0 0), (2, DV.loc 1 0), (5, DV.loc 5 0)]) (Mem.mk [Box.mk 65 [DV.p (PD.sl (nums IntKind.i64 sh)), DV.p (PD.sl (List.map encRat rs))] false, Box.mk 32 [DV.p (PD.v (Value.int IntKind.i64 0))] false, Box.mk 65 [DV.p (PD.sl (nums IntKind.i64 sh)), DV.p (PD.sl (List.map encRat rs))] false, Box.mk 115 [DV.p (PD.sl (nums IntKind.i64 sh)), DV.p (PD.sl (List.map encRat rs))] false, Box.mk 115 [DV.p (PD.sl (nums IntKind.i64 sh)), DV.p (PD.sl (List.map encRat rs))] true, Box.mk 84 [DV.p (PD.v (Value.bool r.neg)), DV.p (PD.sl (nums IntKind.u32 r.num)), DV.p (PD.sl (nums IntKind.u32 r.den))] false] [] [])) .n (by kernel_rfl) ?_
      exact ⟨rfl, rfl⟩
    refine crun [] ⟨[1, 2], [], [], none⟩ [(4, .call (AEnd.ret (PD.v (Value.int IntKind.i64 0))))] (AX.norm) (St.mk (mkT 22 [(1, DV.loc 0 0), (2, DV.loc 1 0)]) (Mem.mk [Box.mk 65 [DV.p (PD.sl (nums IntKind.i64 sh)), DV.p (PD.sl (List.map encRat rs))] false, Box.mk 32 [DV.p (PD.v (Value.int IntKind.i64 0))] false, Box.mk 65 [DV.p (PD.sl (nums IntKind.i64 sh)), DV.p (PD.sl (List.map encRat rs))] false, Box.mk 115 [DV.p (PD.sl (nums IntKind.i64 sh)), DV.p (PD.sl (List.map encRat rs))] false, Box.mk 115 [DV.p (PD.sl (nums IntKind.i64 sh)), DV.p (PD.sl (List.map encRat rs))] true, Box.mk 84 [DV.p (PD.v (Value.bool r.neg)), DV.p (PD.sl (nums IntKind.u32 r.num)), DV.p (PD.sl (nums IntKind.u32 r.den))] false] [] [])) (.c (hm) .n) (by kernel_rfl) ?_
    exact ⟨⟨5, 0, 0, Nat.le_refl _, Nat.le_refl _, Nat.le_refl _, rfl, rfl⟩, trivial⟩
  · intro _
    refine crun [] ⟨[2], [], [], none⟩ [] (AX.ret) (St.mk (mkT 22 [(2, DV.loc 1 0)]) (Mem.mk [Box.mk 65 [DV.p (PD.sl (nums IntKind.i64 sh)), DV.p (PD.sl (List.map encRat rs))] false, Box.mk 32 [DV.p (PD.v (Value.int IntKind.i64 0))] false, Box.mk 65 [DV.p (PD.sl (nums IntKind.i64 sh)), DV.p (PD.sl (List.map encRat rs))] false, Box.mk 115 [DV.p (PD.sl (nums IntKind.i64 sh)), DV.p (PD.sl (List.map encRat rs))] false, Box.mk 115 [DV.p (PD.sl (nums IntKind.i64 sh)), DV.p (PD.sl (List.map encRat rs))] true] [] [])) .n (by kernel_rfl) ?_
    exact fpost_ret rfl rfl rfl
  · intro k s2 hk h
    exact h.elim
end Go.Proofs.YtikfefjaeejeeaaGreatDoor
/- Walks: a body's copy; a tensor's copy. -/
namespace Go.Proofs.YtikfefjaeejeeaaGreatDoor
open Go.RowKit
set_option maxRecDepth 100000
theorem bodyCopy_pure (ns : List NodeM) (os : List Int) (hn : ns.length ≤ 1073741824) (ho : os.length ≤ 1073741824) (hns : ∀ n ∈ ns, n.args.length ≤ 1073741824 ∧ n.attrs.length ≤ 1073741824) : Pure Tryz.prog 47 [encBody ns os] (.ret (encBody ns os)) := by
  have hl := body_loop ns os hn hns
  have c1 := clone87 os ho
  have hlen : (ns.map encNode).length = ns.length := List.length_map ..
  unfold bcSt bcEnd at hl
  rw [List.take_length] at hl
  by_cases h0 : ns.length = 0
  · have e1 : rowC 0 ((ns.take 0).map encNode) = .p (.v (.slice none 0 0)) := rfl
    have e2 : tokC 48 3 0 = [] := rfl
    have e3 : rowC 0 (ns.map encNode) = .p (.v (.slice none 0 0)) := rfl
    rw [e1, e2, h0, e2, e3] at hl
    refine pure_eq (prun [] [(10, .call (AEnd.ret (PD.sl (nums IntKind.i64 os)))), (24, .code [2, 3, 11, 12, 13] (AX.exit 0) (St.mk (mkT 33 [(2, DV.loc 1 0), (3, DV.loc 2 0)]) (Mem.mk [Box.mk 27 [DV.p (PD.sl (List.map encNode ns)), DV.p (intL os)] false, Box.mk 27 [DV.p (PD.v (Value.slice none 0 0)), DV.p (PD.v (Value.slice none 0 0))] false, Box.mk 27 [DV.p (PD.v (Value.slice none 0 0)), DV.p (intL os)] false] [] [])))] (e := AEnd.ret (PD.agg [PD.sl [], PD.sl (nums IntKind.i64 os)])) (.c (hl) (.c (c1) .n)) (by kernel_rfl)) ?_
    obtain rfl : ns = [] := List.length_eq_zero_iff.1 h0; rfl
  · have e1 : rowC 0 ((ns.take 0).map encNode) = .p (.v (.slice none 0 0)) := rfl
    have e2 : tokC 48 3 0 = [] := rfl
    rw [e1, e2, rowC_pos h0, tokC_pos h0] at hl
    refine pure_eq (prun [] [(10, .call (AEnd.ret (PD.sl (nums IntKind.i64 os)))), (24, .code [2, 3, 11, 12, 13] (AX.exit 0) (St.mk (mkT 33 [(2, DV.loc 1 0), (3, DV.loc 2 0)]) (Mem.mk [Box.mk 27 [DV.p (PD.sl (List.map encNode ns)), DV.p (intL os)] false, Box.mk 27 [DV.p (PD.v (Value.slice none 0 0)), DV.p (PD.v (Value.slice none 0 0))] false, Box.mk 27 [DV.row 0 (List.map encNode ns), DV.p (intL os)] false] [some (48, 3, ns.length)] [])))] (e := AEnd.ret (PD.agg [PD.sl (List.map encNode ns), PD.sl (nums IntKind.i64 os)])) (.c (hl) (.c (c1) .n)) (by kernel_rfl)) ?_
    rfl
theorem copyRat (r : RatM) (h1 : r.num.length ≤ 1073741824) (h2 : r.den.length ≤ 1073741824) : Pure Tryz.prog 91 [encRat r] (.ret (encRat r)) := by
  have c1 := clone92 r.num h1
  have c2 := clone92 r.den h2
  refine pure_eq (prun [] [(12, .call (AEnd.ret (PD.sl (nums IntKind.u32 r.num)))), (15, .call (AEnd.ret (PD.sl (nums IntKind.u32 r.den))))] (e := AEnd.ret (PD.agg [PD.v (Value.bool r.neg), PD.sl (nums IntKind.u32 r.num), PD.sl (nums IntKind.u32 r.den)])) (.c (c2) (.c (c1) .n)) (by kernel_rfl)) ?_
  rfl
def fnP (f : Nat) : PD := .v (.func (.func f) #[] #[])
def tuM (sh : List Int) (rs : List RatM) (k : Nat) (b : Bool) : Mem := ⟨[⟨115, [.p (intL sh), .p (.sl (rs.map encRat))], false⟩, ⟨100, [.p (fnP 91)], false⟩, ⟨115, [.p (.v (.slice none 0 0)), .p (.v (.slice none 0 0))], false⟩, ⟨115, [.p (intL sh), rowC k ((rs.take k).map encRat)], false⟩, ⟨115, [.p (intL sh), .p (.sl (rs.map encRat))], b⟩], tokC 84 3 k, []⟩
theorem turned_pure (sh : List Int) (rs : List RatM) (hs : sh.length ≤ 1073741824) (hl : rs.length ≤ 1073741824) (hr : ∀ r ∈ rs, r.num.length ≤ 1073741824 ∧ r.den.length ≤ 1073741824) : Pure Tryz.prog 90 [encT sh rs, fnP 91] (.ret (encT sh rs)) := by
  have c0 := clone48 sh hs
  have hlen : (rs.map encRat).length = rs.length := List.length_map ..
  refine pure_of_fm (Callable.mk Tryz.func90 rfl rfl) rfl ?_
  refine fm_seq1 ⟨mkT 25 [(2, .loc 0 0), (3, .loc 1 0), (4, .loc 2 0)], ⟨[⟨115, [.p (intL sh), .p (.sl (rs.map encRat))], false⟩, ⟨100, [.p (fnP 91)], false⟩, ⟨115, [.p (.v (.slice none 0 0)), .p (.v (.slice none 0 0))], false⟩], [], []⟩⟩ ?_ ?_
  · refine crun [] ⟨[2, 3, 4], [], [], none⟩ [] (AX.norm) (St.mk (mkT 25 [(2, DV.loc 0 0), (3, DV.loc 1 0), (4, DV.loc 2 0)]) (Mem.mk [Box.mk 115 [DV.p (PD.sl (nums IntKind.i64 sh)), DV.p (PD.sl (List.map encRat rs))] false, Box.mk 100 [DV.p (PD.v (Value.func (Fn.func 91) #[] #[]))] false, Box.mk 115 [DV.p (PD.v (Value.slice none 0 0)), DV.p (PD.v (Value.slice none 0 0))] false] [] [])) .n (by kernel_rfl) ?_
    exact ⟨rfl, rfl⟩
  refine fm_seq1 ⟨mkT 25 [(2, .loc 0 0), (3, .loc 1 0), (4, .loc 2 0), (5, .loc 3 0)], ⟨[⟨115, [.p (intL sh), .p (.sl (rs.map encRat))], false⟩, ⟨100, [.p (fnP 91)], false⟩, ⟨115, [.p (.v (.slice none 0 0)), .p (.v (.slice none 0 0))], false⟩, ⟨115, [.p (intL sh), .p (.v (.slice none 0 0))], false⟩], [], []⟩⟩ ?_ ?_
  · refine crun [] ⟨[2, 3, 4, 5], [], [], none⟩ [(3, .call (AEnd.ret (PD.sl (nums IntKind.i64 sh))))] (AX.norm) (St.mk (mkT 25 [(2, DV.loc 0 0), (3, DV.loc 1 0), (4, DV.loc 2 0), (5, DV.loc 3 0)]) (Mem.mk [Box.mk 115 [DV.p (PD.sl (nums IntKind.i64 sh)), DV.p (PD.sl (List.map encRat rs))] false, Box.mk 100 [DV.p (PD.v (Value.func (Fn.func 91) #[] #[]))] false, Box.mk 115 [DV.p (PD.v (Value.slice none 0 0)), DV.p (PD.v (Value.slice none 0 0))] false, Box.mk 115 [DV.p (PD.sl (nums IntKind.i64 sh)), DV.p (PD.v (Value.slice none 0 0))] false] [] [])) (.c (c0) .n) (by kernel_rfl) ?_
    exact ⟨rfl, rfl⟩
  refine fm_range (all_it (intL sh) rs (by omega)) (eg_fn Tryz.func141 rfl rfl) (s := ⟨mkT 25 [(2, .loc 0 0), (3, .loc 1 0), (4, .loc 2 0), (5, .loc 3 0), (13, .fn 141 [.loc 4 0])], tuM sh rs 0 false⟩) (n := 2) (μ0 := tuM sh rs 0 true) ?_ rfl rfl (fun k => tuM sh rs k true) rfl (fun k => True) trivial (fun k s2 => False) ?_ ?_ ?_ ?_
  · refine crun [121] ⟨[2, 3, 4, 5, 13], [], [], none⟩ [] (AX.norm) (St.mk (mkT 25 [(2, DV.loc 0 0), (3, DV.loc 1 0), (4, DV.loc 2 0), (5, DV.loc 3 0), (13, DV.fn 141 [DV.loc 4 0])]) (Mem.mk [Box.mk 115 [DV.p (PD.sl (nums IntKind.i64 sh)), DV.p (PD.sl (List.map encRat rs))] false, Box.mk 100 [DV.p (PD.v (Value.func (Fn.func 91) #[] #[]))] false, Box.mk 115 [DV.p (PD.v (Value.slice none 0 0)), DV.p (PD.v (Value.slice none 0 0))] false, Box.mk 115 [DV.p (PD.sl (nums IntKind.i64 sh)), DV.p (PD.v (Value.slice none 0 0))] false, Box.mk 115 [DV.p (PD.sl (nums IntKind.i64 sh)), DV.p (PD.sl (List.map encRat rs))] false] [] [])) .n (by kernel_rfl) ?_
    exact ⟨rfl, rfl⟩
  · intro x hx
    obtain ⟨k, hk⟩ := List.mem_iff_getElem?.1 hx
    obtain ⟨e, _, rfl⟩ := enumP_some hk
    rfl
  · intro l k x hx _
    obtain ⟨e, he, rfl⟩ := enumP_some hx
    simp only [List.getElem?_map, Option.map_eq_some_iff] at he
    obtain ⟨r, hrk, rfl⟩ := he
    have hk : k < rs.length := (List.getElem?_eq_some_iff.1 hrk).1
    obtain ⟨b1, b2⟩ := hr r (List.mem_of_getElem? hrk)
    have hm := copyRat r b1 b2
    have sn : sized 3 [encRat r] := sized_one rfl
    have hts := take_snoc hrk
    refine awp_then ⟨mkT 25 [(2, .loc 0 0), (3, .loc 1 0), (4, .loc 2 0), (5, .loc 3 0), (7, .loc 5 0)], ⟨(tuM sh rs k true).boxes ++ [⟨84, [.p (boolP r.neg), .p (natL r.num), .p (natL r.den)], false⟩], tokC 84 3 k, []⟩⟩ ?_ ?_
    · refine crun [] ⟨[2, 3, 4, 5, 7], [], [], none⟩ [] (AX.norm) (St.mk (mkT 25 [(2, DV.loc 0 0), (3, DV.loc 1 0), (4, DV.loc 2 0), (5, DV.loc 3 0), (7, DV.loc 5 0)]) (Mem.mk [Box.mk 115 [DV.p (PD.sl (nums IntKind.i64 sh)), DV.p (PD.sl (List.map encRat rs))] false, Box.mk 100 [DV.p (PD.v (Value.func (Fn.func 91) #[] #[]))] false, Box.mk 115 [DV.p (PD.v (Value.slice none 0 0)), DV.p (PD.v (Value.slice none 0 0))] false, Box.mk 115 [DV.p (PD.sl (nums IntKind.i64 sh)), rowC k (List.map encRat (List.take k rs))] false, Box.mk 115 [DV.p (PD.sl (nums IntKind.i64 sh)), DV.p (PD.sl (List.map encRat rs))] true, Box.mk 84 [DV.p (PD.v (Value.bool r.neg)), DV.p (PD.sl (nums IntKind.u32 r.num)), DV.p (PD.sl (nums IntKind.u32 r.den))] false] (St.keep (Fin_.mk [2, 3, 4, 5, 7] [] [] none).ks (St.mk [DV.undef, DV.undef, DV.loc 0 0, DV.loc 1 0, DV.loc 2 0, DV.loc 3 0, DV.undef, DV.loc 5 0, DV.undef, DV.undef, DV.undef, DV.undef, DV.undef, DV.fn 141 [DV.loc 4 0], DV.p (PD.v (Value.int IntKind.i64 (↑k : Int))), DV.p (PD.agg [PD.v (Value.bool r.neg), PD.sl (nums IntKind.u32 r.num), PD.sl (nums IntKind.u32 r.den)]), DV.undef, DV.undef, DV.undef, DV.undef, DV.undef, DV.undef, DV.undef, DV.undef, DV.undef] (Mem.mk [Box.mk 115 [DV.p (PD.sl (nums IntKind.i64 sh)), DV.p (PD.sl (List.map encRat rs))] false, Box.mk 100 [DV.p (PD.v (Value.func (Fn.func 91) #[] #[]))] false, Box.mk 115 [DV.p (PD.v (Value.slice none 0 0)), DV.p (PD.v (Value.slice none 0 0))] false, Box.mk 115 [DV.p (PD.sl (nums IntKind.i64 sh)), rowC k (List.map encRat (List.take k rs))] false, Box.mk 115 [DV.p (PD.sl (nums IntKind.i64 sh)), DV.p (PD.sl (List.map encRat rs))] true, Box.mk 84 [DV.p (PD.v (Value.bool r.neg)), DV.p (PD.sl (nums IntKind.u32 r.num)), DV.p (PD.sl (nums IntKind.u32 r.den))] false] (St.mk [DV.undef, DV.undef, DV.loc 0 0, DV.loc 1 0, DV.loc 2 0, DV.loc 3 0, DV.undef, DV.loc 5 0, DV.undef, DV.undef, DV.undef, DV.undef, DV.undef, DV.fn 141 [DV.loc 4 0], DV.p (PD.v (Value.int IntKind.i64 (↑k : Int))), DV.p (PD.agg [PD.v (Value.bool r.neg), PD.sl (nums IntKind.u32 r.num), PD.sl (nums IntKind.u32 r.den)]), DV.undef, DV.undef, DV.undef, DV.undef, DV.undef, DV.undef, DV.undef, DV.undef, DV.undef] (Mem.mk [Box.mk 115 [DV.p (PD.sl (nums IntKind.i64 sh)), DV.p (PD.sl (List.map encRat rs))] false, Box.mk 100 [DV.p (PD.v (Value.func (Fn.func 91) #[] #[]))] false, Box.mk 115 [DV.p (PD.v (Value.slice none 0 0)), DV.p (PD.v (Value.slice none 0 0))] false, Box.mk 115 [DV.p (PD.sl (nums IntKind.i64 sh)), rowC k (List.map encRat (List.take k rs))] false, Box.mk 115 [DV.p (PD.sl (nums IntKind.i64 sh)), DV.p (PD.sl (List.map encRat rs))] true, Box.mk 84 [DV.p (PD.v (Value.bool false)), DV.p (PD.v (Value.slice none 0 0)), DV.p (PD.v (Value.slice none 0 0))] false] (St.mk [DV.undef, DV.undef, DV.loc 0 0, DV.loc 1 0, DV.loc 2 0, DV.loc 3 0, DV.undef, DV.undef, DV.undef, DV.undef, DV.undef, DV.undef, DV.undef, DV.fn 141 [DV.loc 4 0], DV.p (PD.v (Value.int IntKind.i64 (↑k : Int))), DV.p (PD.agg [PD.v (Value.bool r.neg), PD.sl (nums IntKind.u32 r.num), PD.sl (nums IntKind.u32 r.den)]), DV.undef, DV.undef, DV.undef, DV.undef, DV.undef, DV.undef, DV.undef, DV.undef, DV.undef] (Mem.mk [Box.mk 115 [DV.p (PD.sl (nums IntKind.i64 sh)), DV.p (PD.sl (List.map encRat rs))] false, Box.mk 100 [DV.p (PD.v (Value.func (Fn.func 91) #[] #[]))] false, Box.mk 115 [DV.p (PD.v (Value.slice none 0 0)), DV.p (PD.v (Value.slice none 0 0))] false, Box.mk 115 [DV.p (PD.sl (nums IntKind.i64 sh)), rowC k (List.map encRat (List.take k rs))] false, Box.mk 115 [DV.p (PD.sl (nums IntKind.i64 sh)), DV.p (PD.sl (List.map encRat rs))] true] (tokC 84 3 k) [])).μ.toks [])).μ.toks []))).μ.toks [])) .n (by as_aux_lemma => kernel_rfl) ?_
      exact ⟨rfl, rfl⟩
    by_cases h0 : k = 0
    · subst h0
      have s0 := sized_nil 3
      unfold tuM rowC tokC
      refine crun [] ⟨[2, 3, 4, 5], [], [], none⟩ [(6, .call (AEnd.ret (PD.agg [PD.v (Value.bool r.neg), PD.sl (nums IntKind.u32 r.num), PD.sl (nums IntKind.u32 r.den)])))] (AX.norm) (St.mk (mkT 25 [(2, DV.loc 0 0), (3, DV.loc 1 0), (4, DV.loc 2 0), (5, DV.loc 3 0)]) (Mem.mk [Box.mk 115 [DV.p (PD.sl (nums IntKind.i64 sh)), DV.p (PD.sl (List.map encRat rs))] false, Box.mk 100 [DV.p (PD.v (Value.func (Fn.func 91) #[] #[]))] false, Box.mk 115 [DV.p (PD.v (Value.slice none 0 0)), DV.p (PD.v (Value.slice none 0 0))] false, Box.mk 115 [DV.p (PD.sl (nums IntKind.i64 sh)), DV.row 0 [PD.agg [PD.v (Value.bool r.neg), PD.sl (nums IntKind.u32 r.num), PD.sl (nums IntKind.u32 r.den)]]] false, Box.mk 115 [DV.p (PD.sl (nums IntKind.i64 sh)), DV.p (PD.sl (List.map encRat rs))] true, Box.mk 84 [DV.p (PD.v (Value.bool r.neg)), DV.p (PD.sl (nums IntKind.u32 r.num)), DV.p (PD.sl (nums IntKind.u32 r.den))] false, Box.mk 84 [DV.p (PD.v (Value.bool r.neg)), DV.p (PD.sl (nums IntKind.u32 r.num)), DV.p (PD.sl (nums IntKind.u32 r.den))] true] [some (84, 3, 1)] [])) (.c (@rfl DV (DV.p (PD.v (Value.slice none 0 0)))) (.c (hm) .n)) (by kernel_rfl) ?_
      exact ⟨⟨5, 1, 0, Nat.le_refl _, Nat.zero_le _, Nat.le_refl _, rfl, by simp only [tuM, rowC, tokC, hts]; rfl⟩, trivial⟩
    · have hl2 : ((rs.take k).map encRat).length = k := by simp; omega
      have s0 : sized 3 ((rs.take k).map encRat) := sized_map fun _ => rfl
      have e1 := rowC_pos h0
      have e2 := tokC_pos h0
      have e3 : tuM sh rs (k + 1) true = ⟨[⟨115, [.p (intL sh), .p (.sl (rs.map encRat))], false⟩, ⟨100, [.p (fnP 91)], false⟩, ⟨115, [.p (.v (.slice none 0 0)), .p (.v (.slice none 0 0))], false⟩, ⟨115, [.p (intL sh), .row 0 ((rs.take k).map encRat ++ [encRat r])], false⟩, ⟨115, [.p (intL sh), .p (.sl (rs.map encRat))], true⟩], [some (84, 3, ((rs.take k).map encRat).length + 1)], []⟩ := by
        unfold tuM rowC tokC
        rw [hts, hl2, List.map_append]
        rfl
      rw [e3]
      clear e3 hts
      unfold tuM
      rw [e1, e2]
      clear e1 e2
      generalize (rs.take k).map encRat = L at hl2 s0 ⊢
      subst hl2
      refine crun [] ⟨[2, 3, 4, 5], [], [], none⟩ [(6, .call (AEnd.ret (PD.agg [PD.v (Value.bool r.neg), PD.sl (nums IntKind.u32 r.num), PD.sl (nums IntKind.u32 r.den)]))), (8, .m)] (AX.norm) (St.mk (mkT 25 [(2, DV.loc 0 0), (3, DV.loc 1 0), (4, DV.loc 2 0), (5, DV.loc 3 0)]) (Mem.mk [Box.mk 115 [DV.p (PD.sl (nums IntKind.i64 sh)), DV.p (PD.sl (List.map encRat rs))] false, Box.mk 100 [DV.p (PD.v (Value.func (Fn.func 91) #[] #[]))] false, Box.mk 115 [DV.p (PD.v (Value.slice none 0 0)), DV.p (PD.v (Value.slice none 0 0))] false, Box.mk 115 [DV.p (PD.sl (nums IntKind.i64 sh)), DV.row 0 (L ++ [PD.agg [PD.v (Value.bool r.neg), PD.sl (nums IntKind.u32 r.num), PD.sl (nums IntKind.u32 r.den)]])] false, Box.mk 115 [DV.p (PD.sl (nums IntKind.i64 sh)), DV.p (PD.sl (List.map encRat rs))] true, Box.mk 84 [DV.p (PD.v (Value.bool r.neg)), DV.p (PD.sl (nums IntKind.u32 r.num)), DV.p (PD.sl (nums IntKind.u32 r.den))] false, Box.mk 84 [DV.p (PD.v (Value.bool r.neg)), DV.p (PD.sl (nums IntKind.u32 r.num)), DV.p (PD.sl (nums IntKind.u32 r.den))] true] [some (84, 3, L.length + [PD.agg [PD.v (Value.bool r.neg), PD.sl (nums IntKind.u32 r.num), PD.sl (nums IntKind.u32 r.den)]].length)] [])) (.c (show AppOK (3 : Nat) (56 : Nat) L.length L [PD.agg [PD.v (Value.bool r.neg), PD.sl (nums IntKind.u32 r.num), PD.sl (nums IntKind.u32 r.den)]] by exact ⟨by first | rfl | omega | (simp; done) | (simp; omega), by first | assumption | exact nums_sized _ _ | simp [sized_nil, sized_one, sized_append, sized_map, nums_sized, nums_append], by first | assumption | exact nums_sized _ _ | simp [sized_nil, sized_one, sized_append, sized_map, nums_sized, nums_append], by first | omega | (simp <;> omega), by first | omega | (simp <;> omega)⟩) (.c (@rfl DV (DV.row 0 L)) (.c (hm) .n))) (by kernel_rfl) ?_
      exact ⟨⟨5, 1, 0, Nat.le_refl _, Nat.zero_le _, Nat.le_refl _, rfl, rfl⟩, trivial⟩
  · intro _
    rw [enumP_len, hlen]
    unfold tuM
    rw [List.take_length]
    by_cases h0 : rs.length = 0
    · obtain rfl : rs = [] := List.length_eq_zero_iff.1 h0
      unfold rowC tokC
      refine crun [] ⟨[4], [], [], none⟩ [] (AX.ret) (St.mk (mkT 25 [(4, DV.loc 2 0)]) (Mem.mk [Box.mk 115 [DV.p (PD.sl (nums IntKind.i64 sh)), DV.p (PD.sl [])] false, Box.mk 100 [DV.p (PD.v (Value.func (Fn.func 91) #[] #[]))] false, Box.mk 115 [DV.p (PD.sl (nums IntKind.i64 sh)), DV.p (PD.v (Value.slice none 0 0))] false, Box.mk 115 [DV.p (PD.sl (nums IntKind.i64 sh)), DV.p (PD.v (Value.slice none 0 0))] false, Box.mk 115 [DV.p (PD.sl (nums IntKind.i64 sh)), DV.p (PD.sl [])] true] [] [])) .n (by kernel_rfl) ?_
      exact fpost_ret rfl rfl rfl
    · rw [rowC_pos h0, tokC_pos h0]
      refine crun [] ⟨[4], [], [], none⟩ [] (AX.ret) (St.mk (mkT 25 [(4, DV.loc 2 0)]) (Mem.mk [Box.mk 115 [DV.p (PD.sl (nums IntKind.i64 sh)), DV.p (PD.sl (List.map encRat rs))] false, Box.mk 100 [DV.p (PD.v (Value.func (Fn.func 91) #[] #[]))] false, Box.mk 115 [DV.p (PD.sl (nums IntKind.i64 sh)), DV.row 0 (List.map encRat rs)] false, Box.mk 115 [DV.p (PD.sl (nums IntKind.i64 sh)), DV.row 0 (List.map encRat rs)] false, Box.mk 115 [DV.p (PD.sl (nums IntKind.i64 sh)), DV.p (PD.sl (List.map encRat rs))] true] [some (84, 3, rs.length)] [])) .n (by kernel_rfl) ?_
      exact fpost_ret rfl rfl rfl
  · intro k s2 hk h
    exact h.elim
theorem copyT (sh : List Int) (rs : List RatM) (hs : sh.length ≤ 1073741824) (hl : rs.length ≤ 1073741824) (hr : ∀ r ∈ rs, r.num.length ≤ 1073741824 ∧ r.den.length ≤ 1073741824) : Pure Tryz.prog 49 [encT sh rs] (.ret (encT sh rs)) := by
  have h := turned_pure sh rs hs hl hr
  refine pure_eq (prun [] [(25, .call (AEnd.ret (PD.agg [PD.sl (nums IntKind.i64 sh), PD.sl (List.map encRat rs)])))] (e := AEnd.ret (PD.agg [PD.sl (nums IntKind.i64 sh), PD.sl (List.map encRat rs)])) (.c (h) .n) (by kernel_rfl)) ?_
  rfl
end Go.Proofs.YtikfefjaeejeeaaGreatDoor
/- Walks: lists held against one another: numbers. -/
namespace Go.Proofs.YtikfefjaeejeeaaGreatDoor
open Go.RowKit
set_option maxRecDepth 100000
def eqF {α : Type} (g : α → α → Bool) : List α → List α → Bool
  | [], [] => true
  | x :: xs, y :: ys => g x y && eqF g xs ys
  | _, _ => false
theorem eqF_len {α : Type} {g : α → α → Bool} : ∀ {a b : List α}, a.length ≠ b.length → eqF g a b = false
  | [], [], h => absurd rfl h
  | [], _ :: _, _ => rfl
  | _ :: _, [], _ => rfl
  | x :: xs, y :: ys, h => by
    unfold eqF
    rw [eqF_len (fun e => h (by simp [e])), Bool.and_false]
theorem eqF_cases {α : Type} {g : α → α → Bool} : ∀ {a b : List α}, a.length = b.length → (eqF g a b = true ∧ ∀ (i : Nat) (x y : α), a[i]? = some x → b[i]? = some y → g x y = true) ∨
    (eqF g a b = false ∧ ∃ d x y, d < a.length ∧ a[d]? = some x ∧ b[d]? = some y ∧ g x y = false ∧ ∀ (i : Nat) (x y : α), i < d → a[i]? = some x → b[i]? = some y → g x y = true)
  | [], [], _ => .inl ⟨rfl, fun i x y h => by simp at h⟩
  | [], _ :: _, h => by simp at h
  | _ :: _, [], h => by simp at h
  | x :: xs, y :: ys, h => by
    unfold eqF
    cases hg : g x y with
    | false => exact .inr ⟨rfl, 0, x, y, by simp, rfl, rfl, hg, fun i _ _ hi => by omega⟩
    | true =>
      rw [Bool.true_and]
      rcases eqF_cases (g := g) (a := xs) (b := ys) (by simpa using h) with ⟨h1, h2⟩ | ⟨h1, d, u, v, h2, h3, h4, h5, h6⟩
      · refine .inl ⟨h1, fun i a b ha hb => ?_⟩
        cases i with
        | zero => simp at ha hb; subst ha; subst hb; exact hg
        | succ i => exact h2 i a b (by simpa using ha) (by simpa using hb)
      · refine .inr ⟨h1, d + 1, u, v, by simp; omega, by simpa using h3, by simpa using h4, h5, fun i a b hi ha hb => ?_⟩
        cases i with
        | zero => simp at ha hb; subst ha; subst hb; exact hg
        | succ i => exact h6 i a b (by omega) (by simpa using ha) (by simpa using hb)
theorem eqF_refl {α : Type} {g : α → α → Bool} : ∀ {a : List α}, (∀ x ∈ a, g x x = true) → eqF g a a = true
  | [], _ => rfl
  | x :: xs, h => by
    unfold eqF
    rw [h x List.mem_cons_self, eqF_refl (fun y hy => h y (List.mem_cons_of_mem _ hy))]; rfl
theorem eqF_congr {α : Type} {g g' : α → α → Bool} : ∀ {a b : List α}, (∀ x ∈ a, ∀ y ∈ b, g x y = g' x y) → eqF g a b = eqF g' a b
  | [], [], _ => rfl
  | [], _ :: _, _ => rfl
  | _ :: _, [], _ => rfl
  | x :: xs, y :: ys, h => by
    unfold eqF
    rw [h x List.mem_cons_self y List.mem_cons_self, eqF_congr (fun a ha b hb => h a (List.mem_cons_of_mem _ ha) b (List.mem_cons_of_mem _ hb))]
def eqI (x y : Int) : Bool := decide (x = y)
def eqL (a b : List Int) : Bool := eqF eqI a b
def slice99S (a b : List Int) (k : Nat) : St := ⟨mkT 26 [(0, .p (intL a)), (1, .p (intL b)), (12, .p (intP (a.length : Nat))), (13, .p (intP (k : Nat)))], ⟨[], [], []⟩⟩
theorem slice99_all (a b : List Int) (hl : a.length = b.length) (hm : a.length ≤ 1073741824) (h : ∀ (i : Nat) (x y : Int), a[i]? = some x → b[i]? = some y → eqI x y = true) : LoopOK Tryz.prog (loopB Tryz.prog 99 0) (slice99S a b 0) (.exit 0) ⟨mkT 26 [], ⟨[], [], []⟩⟩ := by
  refine loop_ix [0, 1, 12, 13] (slice99S a b) a.length (fun _ => True) trivial (fun _ => rfl) ?_
  intro k hk _ ro K Q hQ hK
  have rwa : ((nums .i64 a).length : Int) = (a.length : Int) := by rw [nums_length]
  have rwb : ((nums .i64 b).length : Int) = (b.length : Int) := by rw [nums_length]
  unfold slice99S at hK ⊢
  by_cases hlt : k < a.length
  · have hw := wrap64_succ (k := k) (by omega)
    obtain ⟨x, hx, _⟩ := get_of_lt hlt
    obtain ⟨y, hy, _⟩ := get_of_lt (show k < b.length by omega)
    have hxy : x = y := of_decide_eq_true (h k x y hx hy)
    have gx : (nums .i64 a)[(k : Int).toNat]? = some (.v (.int .i64 x)) := nums_at hx
    have gy : (nums .i64 b)[(k : Int).toNat]? = some (.v (.int .i64 y)) := nums_at hy
    subst hxy
    clear h
    unfold intL at *
    refine crun [] ⟨[0, 1, 12, 13], [], [], none⟩ [(2, .b true), (18, .el (PD.v (Value.int IntKind.i64 x))), (19, .el (PD.v (Value.int IntKind.i64 x))), (22, .el (PD.v (Value.int IntKind.i64 x))), (23, .el (PD.v (Value.int IntKind.i64 x))), (24, .b false)] (AX.norm) (St.mk (mkT 26 [(0, DV.p (PD.sl (nums IntKind.i64 a))), (1, DV.p (PD.sl (nums IntKind.i64 b))), (12, DV.p (PD.v (Value.int IntKind.i64 (↑a.length : Int)))), (13, DV.p (PD.v (Value.int IntKind.i64 (IntKind.i64.wrap ((↑k : Int) + 1)))))]) (Mem.mk [] [] [])) (.c (neF (show x = x by omega)) (.c gy (.c (And.intro gy (nn0 (k))) (.c gx (.c (And.intro gx (nn0 (k))) (.c (dT (show (↑k : Int) < (↑a.length : Int) by omega)) .n)))))) (by kernel_rfl) ?_
    exact hK _ hlt (by simp only [hw]; rfl) trivial
  · obtain rfl : k = a.length := by omega
    clear h
    unfold intL at *
    refine crun [] ⟨[], [], [], none⟩ [(2, .b false)] (AX.exit 0) (St.mk (mkT 26 []) (Mem.mk [] [] [])) (.c (dF (show ¬ (↑a.length : Int) < (↑a.length : Int) by omega)) .n) (by kernel_rfl) ?_
    exact hQ
theorem slice99_diff (a b : List Int) (hl : a.length = b.length) (hm : a.length ≤ 1073741824) (d : Nat) (u v : Int) (hd : d < a.length) (hu : a[d]? = some u) (hv : b[d]? = some v) (huv : eqI u v = false) (h : ∀ (i : Nat) (x y : Int), i < d → a[i]? = some x → b[i]? = some y → eqI x y = true) : LoopOK Tryz.prog (loopB Tryz.prog 99 0) (slice99S a b 0) .ret ⟨mkT 26 [(4, .p (boolP false))], ⟨[], [], []⟩⟩ := by
  refine loop_ix [0, 1, 12, 13] (slice99S a b) d (fun _ => True) trivial (fun _ => rfl) ?_
  intro k hk _ ro K Q hQ hK
  have rwa : ((nums .i64 a).length : Int) = (a.length : Int) := by rw [nums_length]
  have rwb : ((nums .i64 b).length : Int) = (b.length : Int) := by rw [nums_length]
  unfold slice99S at hK ⊢
  have hlt : k < a.length := by omega
  by_cases hkd : k < d
  · have hw := wrap64_succ (k := k) (by omega)
    obtain ⟨x, hx, _⟩ := get_of_lt hlt
    obtain ⟨y, hy, _⟩ := get_of_lt (show k < b.length by omega)
    have hxy : x = y := of_decide_eq_true (h k x y hkd hx hy)
    have gx : (nums .i64 a)[(k : Int).toNat]? = some (.v (.int .i64 x)) := nums_at hx
    have gy : (nums .i64 b)[(k : Int).toNat]? = some (.v (.int .i64 y)) := nums_at hy
    subst hxy
    clear h
    unfold intL at *
    refine crun [] ⟨[0, 1, 12, 13], [], [], none⟩ [(2, .b true), (18, .el (PD.v (Value.int IntKind.i64 x))), (19, .el (PD.v (Value.int IntKind.i64 x))), (22, .el (PD.v (Value.int IntKind.i64 x))), (23, .el (PD.v (Value.int IntKind.i64 x))), (24, .b false)] (AX.norm) (St.mk (mkT 26 [(0, DV.p (PD.sl (nums IntKind.i64 a))), (1, DV.p (PD.sl (nums IntKind.i64 b))), (12, DV.p (PD.v (Value.int IntKind.i64 (↑a.length : Int)))), (13, DV.p (PD.v (Value.int IntKind.i64 (IntKind.i64.wrap ((↑k : Int) + 1)))))]) (Mem.mk [] [] [])) (.c (neF (show x = x by omega)) (.c gy (.c (And.intro gy (nn0 (k))) (.c gx (.c (And.intro gx (nn0 (k))) (.c (dT (show (↑k : Int) < (↑a.length : Int) by omega)) .n)))))) (by kernel_rfl) ?_
    exact hK _ hkd (by simp only [hw]; rfl) trivial
  · obtain rfl : k = d := by omega
    have hxy : ¬ u = v := of_decide_eq_false huv
    have gx : (nums .i64 a)[(k : Int).toNat]? = some (.v (.int .i64 u)) := nums_at hu
    have gy : (nums .i64 b)[(k : Int).toNat]? = some (.v (.int .i64 v)) := nums_at hv
    clear h
    unfold intL at *
    refine crun [] ⟨[4], [], [], none⟩ [(2, .b true), (18, .el (PD.v (Value.int IntKind.i64 u))), (19, .el (PD.v (Value.int IntKind.i64 u))), (22, .el (PD.v (Value.int IntKind.i64 v))), (23, .el (PD.v (Value.int IntKind.i64 v))), (24, .b true)] (AX.ret) (St.mk (mkT 26 [(4, DV.p (PD.v (Value.bool false)))]) (Mem.mk [] [] [])) (.c (neT hxy) (.c gy (.c (And.intro gy (nn0 (k))) (.c gx (.c (And.intro gx (nn0 (k))) (.c (dT (show (↑k : Int) < (↑a.length : Int) by omega)) .n)))))) (by kernel_rfl) ?_
    exact hQ
theorem slice99_pure (a b : List Int) (ha : a.length ≤ 1073741824) (hb : b.length ≤ 1073741824) : Pure Tryz.prog 99 [intL a, intL b] (.ret (boolP (eqL a b))) := by
  have rwa : ((nums .i64 a).length : Int) = (a.length : Int) := by rw [nums_length]
  have rwb : ((nums .i64 b).length : Int) = (b.length : Int) := by rw [nums_length]
  unfold eqL
  by_cases hl : a.length = b.length
  · rcases eqF_cases (g := eqI) hl with ⟨e, h⟩ | ⟨e, d, u, v, h1, h2, h3, h4, h5⟩
    · have hlo := slice99_all a b hl ha h
      rw [e]
      have e0 : slice99S a b 0 = ⟨mkT 26 [(0, .p (intL a)), (1, .p (intL b)), (12, .p (intP (a.length : Nat))), (13, .p (intP 0))], ⟨[], [], []⟩⟩ := rfl
      rw [e0] at hlo
      clear e0 h
      unfold intL at *
      refine pure_eq (prun [] [(9, .w (DV.p (PD.v (Value.int IntKind.i64 (↑a.length : Int))))), (11, .w (DV.p (PD.v (Value.int IntKind.i64 (↑b.length : Int))))), (12, .b false), (20, .w (DV.p (PD.v (Value.int IntKind.i64 (↑a.length : Int))))), (24, .code [0, 1, 12, 13] (AX.exit 0) (St.mk (mkT 26 []) (Mem.mk [] [] [])))] (e := AEnd.ret (PD.v (Value.bool true))) (.c (hlo) (.c (congrArg (fun z => DV.p (PD.v (Go.Value.int IntKind.i64 z))) rwa) (.c (neF (show (↑a.length : Int) = (↑b.length : Int) by omega)) (.c (congrArg (fun z => DV.p (PD.v (Go.Value.int IntKind.i64 z))) rwb) (.c (congrArg (fun z => DV.p (PD.v (Go.Value.int IntKind.i64 z))) rwa) .n))))) (by kernel_rfl)) ?_
      rfl
    · have hlo := slice99_diff a b hl ha d u v h1 h2 h3 h4 h5
      rw [e]
      have e0 : slice99S a b 0 = ⟨mkT 26 [(0, .p (intL a)), (1, .p (intL b)), (12, .p (intP (a.length : Nat))), (13, .p (intP 0))], ⟨[], [], []⟩⟩ := rfl
      rw [e0] at hlo
      clear e0 h5
      unfold intL at *
      refine pure_eq (prun [] [(9, .w (DV.p (PD.v (Value.int IntKind.i64 (↑a.length : Int))))), (11, .w (DV.p (PD.v (Value.int IntKind.i64 (↑b.length : Int))))), (12, .b false), (20, .w (DV.p (PD.v (Value.int IntKind.i64 (↑a.length : Int))))), (24, .code [0, 1, 12, 13] (AX.ret) (St.mk (mkT 26 [(4, DV.p (boolP false))]) (Mem.mk [] [] [])))] (e := AEnd.ret (PD.v (Value.bool false))) (.c (hlo) (.c (congrArg (fun z => DV.p (PD.v (Go.Value.int IntKind.i64 z))) rwa) (.c (neF (show (↑a.length : Int) = (↑b.length : Int) by omega)) (.c (congrArg (fun z => DV.p (PD.v (Go.Value.int IntKind.i64 z))) rwb) (.c (congrArg (fun z => DV.p (PD.v (Go.Value.int IntKind.i64 z))) rwa) .n))))) (by kernel_rfl)) ?_
      rfl
  · rw [eqF_len hl]
    unfold intL at *
    refine pure_eq (prun [] [(9, .w (DV.p (PD.v (Value.int IntKind.i64 (↑a.length : Int))))), (11, .w (DV.p (PD.v (Value.int IntKind.i64 (↑b.length : Int))))), (12, .b true)] (e := AEnd.ret (PD.v (Value.bool false))) (.c (neT (show ¬ (↑a.length : Int) = (↑b.length : Int) by omega)) (.c (congrArg (fun z => DV.p (PD.v (Go.Value.int IntKind.i64 z))) rwb) (.c (congrArg (fun z => DV.p (PD.v (Go.Value.int IntKind.i64 z))) rwa) .n))) (by kernel_rfl)) ?_
    rfl
def slice60S (a b : List Int) (k : Nat) : St := ⟨mkT 26 [(0, .p (intL a)), (1, .p (intL b)), (12, .p (intP (a.length : Nat))), (13, .p (intP (k : Nat)))], ⟨[], [], []⟩⟩
theorem slice60_all (a b : List Int) (hl : a.length = b.length) (hm : a.length ≤ 1073741824) (h : ∀ (i : Nat) (x y : Int), a[i]? = some x → b[i]? = some y → eqI x y = true) : LoopOK Tryz.prog (loopB Tryz.prog 60 0) (slice60S a b 0) (.exit 0) ⟨mkT 26 [], ⟨[], [], []⟩⟩ := by
  refine loop_ix [0, 1, 12, 13] (slice60S a b) a.length (fun _ => True) trivial (fun _ => rfl) ?_
  intro k hk _ ro K Q hQ hK
  have rwa : ((nums .i64 a).length : Int) = (a.length : Int) := by rw [nums_length]
  have rwb : ((nums .i64 b).length : Int) = (b.length : Int) := by rw [nums_length]
  unfold slice60S at hK ⊢
  by_cases hlt : k < a.length
  · have hw := wrap64_succ (k := k) (by omega)
    obtain ⟨x, hx, _⟩ := get_of_lt hlt
    obtain ⟨y, hy, _⟩ := get_of_lt (show k < b.length by omega)
    have hxy : x = y := of_decide_eq_true (h k x y hx hy)
    have gx : (nums .i64 a)[(k : Int).toNat]? = some (.v (.int .i64 x)) := nums_at hx
    have gy : (nums .i64 b)[(k : Int).toNat]? = some (.v (.int .i64 y)) := nums_at hy
    subst hxy
    clear h
    unfold intL at *
    refine crun [] ⟨[0, 1, 12, 13], [], [], none⟩ [(2, .b true), (18, .el (PD.v (Value.int IntKind.i64 x))), (19, .el (PD.v (Value.int IntKind.i64 x))), (22, .el (PD.v (Value.int IntKind.i64 x))), (23, .el (PD.v (Value.int IntKind.i64 x))), (24, .b false)] (AX.norm) (St.mk (mkT 26 [(0, DV.p (PD.sl (nums IntKind.i64 a))), (1, DV.p (PD.sl (nums IntKind.i64 b))), (12, DV.p (PD.v (Value.int IntKind.i64 (↑a.length : Int)))), (13, DV.p (PD.v (Value.int IntKind.i64 (IntKind.i64.wrap ((↑k : Int) + 1)))))]) (Mem.mk [] [] [])) (.c (neF (show x = x by omega)) (.c gy (.c (And.intro gy (nn0 (k))) (.c gx (.c (And.intro gx (nn0 (k))) (.c (dT (show (↑k : Int) < (↑a.length : Int) by omega)) .n)))))) (by kernel_rfl) ?_
    exact hK _ hlt (by simp only [hw]; rfl) trivial
  · obtain rfl : k = a.length := by omega
    clear h
    unfold intL at *
    refine crun [] ⟨[], [], [], none⟩ [(2, .b false)] (AX.exit 0) (St.mk (mkT 26 []) (Mem.mk [] [] [])) (.c (dF (show ¬ (↑a.length : Int) < (↑a.length : Int) by omega)) .n) (by kernel_rfl) ?_
    exact hQ
theorem slice60_diff (a b : List Int) (hl : a.length = b.length) (hm : a.length ≤ 1073741824) (d : Nat) (u v : Int) (hd : d < a.length) (hu : a[d]? = some u) (hv : b[d]? = some v) (huv : eqI u v = false) (h : ∀ (i : Nat) (x y : Int), i < d → a[i]? = some x → b[i]? = some y → eqI x y = true) : LoopOK Tryz.prog (loopB Tryz.prog 60 0) (slice60S a b 0) .ret ⟨mkT 26 [(4, .p (boolP false))], ⟨[], [], []⟩⟩ := by
  refine loop_ix [0, 1, 12, 13] (slice60S a b) d (fun _ => True) trivial (fun _ => rfl) ?_
  intro k hk _ ro K Q hQ hK
  have rwa : ((nums .i64 a).length : Int) = (a.length : Int) := by rw [nums_length]
  have rwb : ((nums .i64 b).length : Int) = (b.length : Int) := by rw [nums_length]
  unfold slice60S at hK ⊢
  have hlt : k < a.length := by omega
  by_cases hkd : k < d
  · have hw := wrap64_succ (k := k) (by omega)
    obtain ⟨x, hx, _⟩ := get_of_lt hlt
    obtain ⟨y, hy, _⟩ := get_of_lt (show k < b.length by omega)
    have hxy : x = y := of_decide_eq_true (h k x y hkd hx hy)
    have gx : (nums .i64 a)[(k : Int).toNat]? = some (.v (.int .i64 x)) := nums_at hx
    have gy : (nums .i64 b)[(k : Int).toNat]? = some (.v (.int .i64 y)) := nums_at hy
    subst hxy
    clear h
    unfold intL at *
    refine crun [] ⟨[0, 1, 12, 13], [], [], none⟩ [(2, .b true), (18, .el (PD.v (Value.int IntKind.i64 x))), (19, .el (PD.v (Value.int IntKind.i64 x))), (22, .el (PD.v (Value.int IntKind.i64 x))), (23, .el (PD.v (Value.int IntKind.i64 x))), (24, .b false)] (AX.norm) (St.mk (mkT 26 [(0, DV.p (PD.sl (nums IntKind.i64 a))), (1, DV.p (PD.sl (nums IntKind.i64 b))), (12, DV.p (PD.v (Value.int IntKind.i64 (↑a.length : Int)))), (13, DV.p (PD.v (Value.int IntKind.i64 (IntKind.i64.wrap ((↑k : Int) + 1)))))]) (Mem.mk [] [] [])) (.c (neF (show x = x by omega)) (.c gy (.c (And.intro gy (nn0 (k))) (.c gx (.c (And.intro gx (nn0 (k))) (.c (dT (show (↑k : Int) < (↑a.length : Int) by omega)) .n)))))) (by kernel_rfl) ?_
    exact hK _ hkd (by simp only [hw]; rfl) trivial
  · obtain rfl : k = d := by omega
    have hxy : ¬ u = v := of_decide_eq_false huv
    have gx : (nums .i64 a)[(k : Int).toNat]? = some (.v (.int .i64 u)) := nums_at hu
    have gy : (nums .i64 b)[(k : Int).toNat]? = some (.v (.int .i64 v)) := nums_at hv
    clear h
    unfold intL at *
    refine crun [] ⟨[4], [], [], none⟩ [(2, .b true), (18, .el (PD.v (Value.int IntKind.i64 u))), (19, .el (PD.v (Value.int IntKind.i64 u))), (22, .el (PD.v (Value.int IntKind.i64 v))), (23, .el (PD.v (Value.int IntKind.i64 v))), (24, .b true)] (AX.ret) (St.mk (mkT 26 [(4, DV.p (PD.v (Value.bool false)))]) (Mem.mk [] [] [])) (.c (neT hxy) (.c gy (.c (And.intro gy (nn0 (k))) (.c gx (.c (And.intro gx (nn0 (k))) (.c (dT (show (↑k : Int) < (↑a.length : Int) by omega)) .n)))))) (by kernel_rfl) ?_
    exact hQ
theorem slice60_pure (a b : List Int) (ha : a.length ≤ 1073741824) (hb : b.length ≤ 1073741824) : Pure Tryz.prog 60 [intL a, intL b] (.ret (boolP (eqL a b))) := by
  have rwa : ((nums .i64 a).length : Int) = (a.length : Int) := by rw [nums_length]
  have rwb : ((nums .i64 b).length : Int) = (b.length : Int) := by rw [nums_length]
  unfold eqL
  by_cases hl : a.length = b.length
  · rcases eqF_cases (g := eqI) hl with ⟨e, h⟩ | ⟨e, d, u, v, h1, h2, h3, h4, h5⟩
    · have hlo := slice60_all a b hl ha h
      rw [e]
      have e0 : slice60S a b 0 = ⟨mkT 26 [(0, .p (intL a)), (1, .p (intL b)), (12, .p (intP (a.length : Nat))), (13, .p (intP 0))], ⟨[], [], []⟩⟩ := rfl
      rw [e0] at hlo
      clear e0 h
      unfold intL at *
      refine pure_eq (prun [] [(9, .w (DV.p (PD.v (Value.int IntKind.i64 (↑a.length : Int))))), (11, .w (DV.p (PD.v (Value.int IntKind.i64 (↑b.length : Int))))), (12, .b false), (20, .w (DV.p (PD.v (Value.int IntKind.i64 (↑a.length : Int))))), (24, .code [0, 1, 12, 13] (AX.exit 0) (St.mk (mkT 26 []) (Mem.mk [] [] [])))] (e := AEnd.ret (PD.v (Value.bool true))) (.c (hlo) (.c (congrArg (fun z => DV.p (PD.v (Go.Value.int IntKind.i64 z))) rwa) (.c (neF (show (↑a.length : Int) = (↑b.length : Int) by omega)) (.c (congrArg (fun z => DV.p (PD.v (Go.Value.int IntKind.i64 z))) rwb) (.c (congrArg (fun z => DV.p (PD.v (Go.Value.int IntKind.i64 z))) rwa) .n))))) (by kernel_rfl)) ?_
      rfl
    · have hlo := slice60_diff a b hl ha d u v h1 h2 h3 h4 h5
      rw [e]
      have e0 : slice60S a b 0 = ⟨mkT 26 [(0, .p (intL a)), (1, .p (intL b)), (12, .p (intP (a.length : Nat))), (13, .p (intP 0))], ⟨[], [], []⟩⟩ := rfl
      rw [e0] at hlo
      clear e0 h5
      unfold intL at *
      refine pure_eq (prun [] [(9, .w (DV.p (PD.v (Value.int IntKind.i64 (↑a.length : Int))))), (11, .w (DV.p (PD.v (Value.int IntKind.i64 (↑b.length : Int))))), (12, .b false), (20, .w (DV.p (PD.v (Value.int IntKind.i64 (↑a.length : Int))))), (24, .code [0, 1, 12, 13] (AX.ret) (St.mk (mkT 26 [(4, DV.p (boolP false))]) (Mem.mk [] [] [])))] (e := AEnd.ret (PD.v (Value.bool false))) (.c (hlo) (.c (congrArg (fun z => DV.p (PD.v (Go.Value.int IntKind.i64 z))) rwa) (.c (neF (show (↑a.length : Int) = (↑b.length : Int) by omega)) (.c (congrArg (fun z => DV.p (PD.v (Go.Value.int IntKind.i64 z))) rwb) (.c (congrArg (fun z => DV.p (PD.v (Go.Value.int IntKind.i64 z))) rwa) .n))))) (by kernel_rfl)) ?_
      rfl
  · rw [eqF_len hl]
    unfold intL at *
    refine pure_eq (prun [] [(9, .w (DV.p (PD.v (Value.int IntKind.i64 (↑a.length : Int))))), (11, .w (DV.p (PD.v (Value.int IntKind.i64 (↑b.length : Int))))), (12, .b true)] (e := AEnd.ret (PD.v (Value.bool false))) (.c (neT (show ¬ (↑a.length : Int) = (↑b.length : Int) by omega)) (.c (congrArg (fun z => DV.p (PD.v (Go.Value.int IntKind.i64 z))) rwb) (.c (congrArg (fun z => DV.p (PD.v (Go.Value.int IntKind.i64 z))) rwa) .n))) (by kernel_rfl)) ?_
    rfl
def sl42S (a b : List Int) (k : Nat) : St := ⟨mkT 26 [(0, .p (intL a)), (1, .p (intL b)), (5, .p (intP (k : Nat)))], ⟨[], [], []⟩⟩
theorem sl42_all (a b : List Int) (hl : a.length = b.length) (hm : a.length ≤ 1073741824) (h : ∀ (i : Nat) (x y : Int), a[i]? = some x → b[i]? = some y → eqI x y = true) : LoopOK Tryz.prog (loopB Tryz.prog 42 0) (sl42S a b 0) (.exit 0) ⟨mkT 26 [], ⟨[], [], []⟩⟩ := by
  refine loop_ix [0, 1, 5] (sl42S a b) a.length (fun _ => True) trivial (fun _ => rfl) ?_
  intro k hk _ ro K Q hQ hK
  have rwa : ((nums .i64 a).length : Int) = (a.length : Int) := by rw [nums_length]
  have rwb : ((nums .i64 b).length : Int) = (b.length : Int) := by rw [nums_length]
  unfold sl42S at hK ⊢
  by_cases hlt : k < a.length
  · have hw := wrap64_succ (k := k) (by omega)
    obtain ⟨x, hx, _⟩ := get_of_lt hlt
    obtain ⟨y, hy, _⟩ := get_of_lt (show k < b.length by omega)
    have hxy : x = y := of_decide_eq_true (h k x y hx hy)
    have gx : (nums .i64 a)[(k : Int).toNat]? = some (.v (.int .i64 x)) := nums_at hx
    have gy : (nums .i64 b)[(k : Int).toNat]? = some (.v (.int .i64 y)) := nums_at hy
    subst hxy
    clear h
    unfold intL at *
    refine crun [] ⟨[0, 1, 5], [], [], none⟩ [(5, .w (DV.p (PD.v (Value.int IntKind.i64 (↑a.length : Int))))), (6, .b true), (16, .el (PD.v (Value.int IntKind.i64 x))), (17, .el (PD.v (Value.int IntKind.i64 x))), (20, .el (PD.v (Value.int IntKind.i64 x))), (21, .el (PD.v (Value.int IntKind.i64 x))), (22, .b false)] (AX.norm) (St.mk (mkT 26 [(0, DV.p (PD.sl (nums IntKind.i64 a))), (1, DV.p (PD.sl (nums IntKind.i64 b))), (5, DV.p (PD.v (Value.int IntKind.i64 (IntKind.i64.wrap ((↑k : Int) + 1)))))]) (Mem.mk [] [] [])) (.c (neF (show x = x by omega)) (.c gy (.c (And.intro gy (nn0 (k))) (.c gx (.c (And.intro gx (nn0 (k))) (.c (dT (show (↑k : Int) < (↑a.length : Int) by omega)) (.c (congrArg (fun z => DV.p (PD.v (Go.Value.int IntKind.i64 z))) rwa) .n))))))) (by kernel_rfl) ?_
    exact hK _ hlt (by simp only [hw]; rfl) trivial
  · obtain rfl : k = a.length := by omega
    clear h
    unfold intL at *
    refine crun [] ⟨[], [], [], none⟩ [(5, .w (DV.p (PD.v (Value.int IntKind.i64 (↑a.length : Int))))), (6, .b false)] (AX.exit 0) (St.mk (mkT 26 []) (Mem.mk [] [] [])) (.c (dF (show ¬ (↑a.length : Int) < (↑a.length : Int) by omega)) (.c (congrArg (fun z => DV.p (PD.v (Go.Value.int IntKind.i64 z))) rwa) .n)) (by kernel_rfl) ?_
    exact hQ
theorem sl42_diff (a b : List Int) (hl : a.length = b.length) (hm : a.length ≤ 1073741824) (d : Nat) (u v : Int) (hd : d < a.length) (hu : a[d]? = some u) (hv : b[d]? = some v) (huv : eqI u v = false) (h : ∀ (i : Nat) (x y : Int), i < d → a[i]? = some x → b[i]? = some y → eqI x y = true) : LoopOK Tryz.prog (loopB Tryz.prog 42 0) (sl42S a b 0) .ret ⟨mkT 26 [(4, .p (boolP false))], ⟨[], [], []⟩⟩ := by
  refine loop_ix [0, 1, 5] (sl42S a b) d (fun _ => True) trivial (fun _ => rfl) ?_
  intro k hk _ ro K Q hQ hK
  have rwa : ((nums .i64 a).length : Int) = (a.length : Int) := by rw [nums_length]
  have rwb : ((nums .i64 b).length : Int) = (b.length : Int) := by rw [nums_length]
  unfold sl42S at hK ⊢
  have hlt : k < a.length := by omega
  by_cases hkd : k < d
  · have hw := wrap64_succ (k := k) (by omega)
    obtain ⟨x, hx, _⟩ := get_of_lt hlt
    obtain ⟨y, hy, _⟩ := get_of_lt (show k < b.length by omega)
    have hxy : x = y := of_decide_eq_true (h k x y hkd hx hy)
    have gx : (nums .i64 a)[(k : Int).toNat]? = some (.v (.int .i64 x)) := nums_at hx
    have gy : (nums .i64 b)[(k : Int).toNat]? = some (.v (.int .i64 y)) := nums_at hy
    subst hxy
    clear h
    unfold intL at *
    refine crun [] ⟨[0, 1, 5], [], [], none⟩ [(5, .w (DV.p (PD.v (Value.int IntKind.i64 (↑a.length : Int))))), (6, .b true), (16, .el (PD.v (Value.int IntKind.i64 x))), (17, .el (PD.v (Value.int IntKind.i64 x))), (20, .el (PD.v (Value.int IntKind.i64 x))), (21, .el (PD.v (Value.int IntKind.i64 x))), (22, .b false)] (AX.norm) (St.mk (mkT 26 [(0, DV.p (PD.sl (nums IntKind.i64 a))), (1, DV.p (PD.sl (nums IntKind.i64 b))), (5, DV.p (PD.v (Value.int IntKind.i64 (IntKind.i64.wrap ((↑k : Int) + 1)))))]) (Mem.mk [] [] [])) (.c (neF (show x = x by omega)) (.c gy (.c (And.intro gy (nn0 (k))) (.c gx (.c (And.intro gx (nn0 (k))) (.c (dT (show (↑k : Int) < (↑a.length : Int) by omega)) (.c (congrArg (fun z => DV.p (PD.v (Go.Value.int IntKind.i64 z))) rwa) .n))))))) (by kernel_rfl) ?_
    exact hK _ hkd (by simp only [hw]; rfl) trivial
  · obtain rfl : k = d := by omega
    have hxy : ¬ u = v := of_decide_eq_false huv
    have gx : (nums .i64 a)[(k : Int).toNat]? = some (.v (.int .i64 u)) := nums_at hu
    have gy : (nums .i64 b)[(k : Int).toNat]? = some (.v (.int .i64 v)) := nums_at hv
    clear h
    unfold intL at *
    refine crun [] ⟨[4], [], [], none⟩ [(5, .w (DV.p (PD.v (Value.int IntKind.i64 (↑a.length : Int))))), (6, .b true), (16, .el (PD.v (Value.int IntKind.i64 u))), (17, .el (PD.v (Value.int IntKind.i64 u))), (20, .el (PD.v (Value.int IntKind.i64 v))), (21, .el (PD.v (Value.int IntKind.i64 v))), (22, .b true)] (AX.ret) (St.mk (mkT 26 [(4, DV.p (PD.v (Value.bool false)))]) (Mem.mk [] [] [])) (.c (neT hxy) (.c gy (.c (And.intro gy (nn0 (k))) (.c gx (.c (And.intro gx (nn0 (k))) (.c (dT (show (↑k : Int) < (↑a.length : Int) by omega)) (.c (congrArg (fun z => DV.p (PD.v (Go.Value.int IntKind.i64 z))) rwa) .n))))))) (by kernel_rfl) ?_
    exact hQ
theorem sl42_pure (a b : List Int) (ha : a.length ≤ 1073741824) (hb : b.length ≤ 1073741824) : Pure Tryz.prog 42 [intL a, intL b] (.ret (boolP (eqL a b))) := by
  have rwa : ((nums .i64 a).length : Int) = (a.length : Int) := by rw [nums_length]
  have rwb : ((nums .i64 b).length : Int) = (b.length : Int) := by rw [nums_length]
  unfold eqL
  by_cases hl : a.length = b.length
  · rcases eqF_cases (g := eqI) hl with ⟨e, h⟩ | ⟨e, d, u, v, h1, h2, h3, h4, h5⟩
    · have hlo := sl42_all a b hl ha h
      rw [e]
      have e0 : sl42S a b 0 = ⟨mkT 26 [(0, .p (intL a)), (1, .p (intL b)), (5, .p (intP 0))], ⟨[], [], []⟩⟩ := rfl
      rw [e0] at hlo
      clear e0 h
      unfold intL at *
      refine pure_eq (prun [] [(9, .w (DV.p (PD.v (Value.int IntKind.i64 (↑a.length : Int))))), (11, .w (DV.p (PD.v (Value.int IntKind.i64 (↑b.length : Int))))), (12, .b false), (22, .code [0, 1, 5] (AX.exit 0) (St.mk (mkT 26 []) (Mem.mk [] [] [])))] (e := AEnd.ret (PD.v (Value.bool true))) (.c (hlo) (.c (neF (show (↑a.length : Int) = (↑b.length : Int) by omega)) (.c (congrArg (fun z => DV.p (PD.v (Go.Value.int IntKind.i64 z))) rwb) (.c (congrArg (fun z => DV.p (PD.v (Go.Value.int IntKind.i64 z))) rwa) .n)))) (by kernel_rfl)) ?_
      rfl
    · have hlo := sl42_diff a b hl ha d u v h1 h2 h3 h4 h5
      rw [e]
      have e0 : sl42S a b 0 = ⟨mkT 26 [(0, .p (intL a)), (1, .p (intL b)), (5, .p (intP 0))], ⟨[], [], []⟩⟩ := rfl
      rw [e0] at hlo
      clear e0 h5
      unfold intL at *
      refine pure_eq (prun [] [(9, .w (DV.p (PD.v (Value.int IntKind.i64 (↑a.length : Int))))), (11, .w (DV.p (PD.v (Value.int IntKind.i64 (↑b.length : Int))))), (12, .b false), (22, .code [0, 1, 5] (AX.ret) (St.mk (mkT 26 [(4, DV.p (boolP false))]) (Mem.mk [] [] [])))] (e := AEnd.ret (PD.v (Value.bool false))) (.c (hlo) (.c (neF (show (↑a.length : Int) = (↑b.length : Int) by omega)) (.c (congrArg (fun z => DV.p (PD.v (Go.Value.int IntKind.i64 z))) rwb) (.c (congrArg (fun z => DV.p (PD.v (Go.Value.int IntKind.i64 z))) rwa) .n)))) (by kernel_rfl)) ?_
      rfl
  · rw [eqF_len hl]
    unfold intL at *
    refine pure_eq (prun [] [(9, .w (DV.p (PD.v (Value.int IntKind.i64 (↑a.length : Int))))), (11, .w (DV.p (PD.v (Value.int IntKind.i64 (↑b.length : Int))))), (12, .b true)] (e := AEnd.ret (PD.v (Value.bool false))) (.c (neT (show ¬ (↑a.length : Int) = (↑b.length : Int) by omega)) (.c (congrArg (fun z => DV.p (PD.v (Go.Value.int IntKind.i64 z))) rwb) (.c (congrArg (fun z => DV.p (PD.v (Go.Value.int IntKind.i64 z))) rwa) .n))) (by kernel_rfl)) ?_
    rfl
def sl17S (a b : List Int) (k : Nat) : St := ⟨mkT 26 [(0, .p (intL a)), (1, .p (intL b)), (5, .p (intP (k : Nat)))], ⟨[], [], []⟩⟩
theorem sl17_all (a b : List Int) (hl : a.length = b.length) (hm : a.length ≤ 1073741824) (h : ∀ (i : Nat) (x y : Int), a[i]? = some x → b[i]? = some y → eqI x y = true) : LoopOK Tryz.prog (loopB Tryz.prog 17 0) (sl17S a b 0) (.exit 0) ⟨mkT 26 [], ⟨[], [], []⟩⟩ := by
  refine loop_ix [0, 1, 5] (sl17S a b) a.length (fun _ => True) trivial (fun _ => rfl) ?_
  intro k hk _ ro K Q hQ hK
  have rwa : ((nums .i64 a).length : Int) = (a.length : Int) := by rw [nums_length]
  have rwb : ((nums .i64 b).length : Int) = (b.length : Int) := by rw [nums_length]
  unfold sl17S at hK ⊢
  by_cases hlt : k < a.length
  · have hw := wrap64_succ (k := k) (by omega)
    obtain ⟨x, hx, _⟩ := get_of_lt hlt
    obtain ⟨y, hy, _⟩ := get_of_lt (show k < b.length by omega)
    have hxy : x = y := of_decide_eq_true (h k x y hx hy)
    have gx : (nums .i64 a)[(k : Int).toNat]? = some (.v (.int .i64 x)) := nums_at hx
    have gy : (nums .i64 b)[(k : Int).toNat]? = some (.v (.int .i64 y)) := nums_at hy
    subst hxy
    clear h
    unfold intL at *
    refine crun [] ⟨[0, 1, 5], [], [], none⟩ [(5, .w (DV.p (PD.v (Value.int IntKind.i64 (↑a.length : Int))))), (6, .b true), (16, .el (PD.v (Value.int IntKind.i64 x))), (17, .el (PD.v (Value.int IntKind.i64 x))), (20, .el (PD.v (Value.int IntKind.i64 x))), (21, .el (PD.v (Value.int IntKind.i64 x))), (22, .b false)] (AX.norm) (St.mk (mkT 26 [(0, DV.p (PD.sl (nums IntKind.i64 a))), (1, DV.p (PD.sl (nums IntKind.i64 b))), (5, DV.p (PD.v (Value.int IntKind.i64 (IntKind.i64.wrap ((↑k : Int) + 1)))))]) (Mem.mk [] [] [])) (.c (neF (show x = x by omega)) (.c gy (.c (And.intro gy (nn0 (k))) (.c gx (.c (And.intro gx (nn0 (k))) (.c (dT (show (↑k : Int) < (↑a.length : Int) by omega)) (.c (congrArg (fun z => DV.p (PD.v (Go.Value.int IntKind.i64 z))) rwa) .n))))))) (by kernel_rfl) ?_
    exact hK _ hlt (by simp only [hw]; rfl) trivial
  · obtain rfl : k = a.length := by omega
    clear h
    unfold intL at *
    refine crun [] ⟨[], [], [], none⟩ [(5, .w (DV.p (PD.v (Value.int IntKind.i64 (↑a.length : Int))))), (6, .b false)] (AX.exit 0) (St.mk (mkT 26 []) (Mem.mk [] [] [])) (.c (dF (show ¬ (↑a.length : Int) < (↑a.length : Int) by omega)) (.c (congrArg (fun z => DV.p (PD.v (Go.Value.int IntKind.i64 z))) rwa) .n)) (by kernel_rfl) ?_
    exact hQ
theorem sl17_diff (a b : List Int) (hl : a.length = b.length) (hm : a.length ≤ 1073741824) (d : Nat) (u v : Int) (hd : d < a.length) (hu : a[d]? = some u) (hv : b[d]? = some v) (huv : eqI u v = false) (h : ∀ (i : Nat) (x y : Int), i < d → a[i]? = some x → b[i]? = some y → eqI x y = true) : LoopOK Tryz.prog (loopB Tryz.prog 17 0) (sl17S a b 0) .ret ⟨mkT 26 [(4, .p (boolP false))], ⟨[], [], []⟩⟩ := by
  refine loop_ix [0, 1, 5] (sl17S a b) d (fun _ => True) trivial (fun _ => rfl) ?_
  intro k hk _ ro K Q hQ hK
  have rwa : ((nums .i64 a).length : Int) = (a.length : Int) := by rw [nums_length]
  have rwb : ((nums .i64 b).length : Int) = (b.length : Int) := by rw [nums_length]
  unfold sl17S at hK ⊢
  have hlt : k < a.length := by omega
  by_cases hkd : k < d
  · have hw := wrap64_succ (k := k) (by omega)
    obtain ⟨x, hx, _⟩ := get_of_lt hlt
    obtain ⟨y, hy, _⟩ := get_of_lt (show k < b.length by omega)
    have hxy : x = y := of_decide_eq_true (h k x y hkd hx hy)
    have gx : (nums .i64 a)[(k : Int).toNat]? = some (.v (.int .i64 x)) := nums_at hx
    have gy : (nums .i64 b)[(k : Int).toNat]? = some (.v (.int .i64 y)) := nums_at hy
    subst hxy
    clear h
    unfold intL at *
    refine crun [] ⟨[0, 1, 5], [], [], none⟩ [(5, .w (DV.p (PD.v (Value.int IntKind.i64 (↑a.length : Int))))), (6, .b true), (16, .el (PD.v (Value.int IntKind.i64 x))), (17, .el (PD.v (Value.int IntKind.i64 x))), (20, .el (PD.v (Value.int IntKind.i64 x))), (21, .el (PD.v (Value.int IntKind.i64 x))), (22, .b false)] (AX.norm) (St.mk (mkT 26 [(0, DV.p (PD.sl (nums IntKind.i64 a))), (1, DV.p (PD.sl (nums IntKind.i64 b))), (5, DV.p (PD.v (Value.int IntKind.i64 (IntKind.i64.wrap ((↑k : Int) + 1)))))]) (Mem.mk [] [] [])) (.c (neF (show x = x by omega)) (.c gy (.c (And.intro gy (nn0 (k))) (.c gx (.c (And.intro gx (nn0 (k))) (.c (dT (show (↑k : Int) < (↑a.length : Int) by omega)) (.c (congrArg (fun z => DV.p (PD.v (Go.Value.int IntKind.i64 z))) rwa) .n))))))) (by kernel_rfl) ?_
    exact hK _ hkd (by simp only [hw]; rfl) trivial
  · obtain rfl : k = d := by omega
    have hxy : ¬ u = v := of_decide_eq_false huv
    have gx : (nums .i64 a)[(k : Int).toNat]? = some (.v (.int .i64 u)) := nums_at hu
    have gy : (nums .i64 b)[(k : Int).toNat]? = some (.v (.int .i64 v)) := nums_at hv
    clear h
    unfold intL at *
    refine crun [] ⟨[4], [], [], none⟩ [(5, .w (DV.p (PD.v (Value.int IntKind.i64 (↑a.length : Int))))), (6, .b true), (16, .el (PD.v (Value.int IntKind.i64 u))), (17, .el (PD.v (Value.int IntKind.i64 u))), (20, .el (PD.v (Value.int IntKind.i64 v))), (21, .el (PD.v (Value.int IntKind.i64 v))), (22, .b true)] (AX.ret) (St.mk (mkT 26 [(4, DV.p (PD.v (Value.bool false)))]) (Mem.mk [] [] [])) (.c (neT hxy) (.c gy (.c (And.intro gy (nn0 (k))) (.c gx (.c (And.intro gx (nn0 (k))) (.c (dT (show (↑k : Int) < (↑a.length : Int) by omega)) (.c (congrArg (fun z => DV.p (PD.v (Go.Value.int IntKind.i64 z))) rwa) .n))))))) (by kernel_rfl) ?_
    exact hQ
theorem sl17_pure (a b : List Int) (ha : a.length ≤ 1073741824) (hb : b.length ≤ 1073741824) : Pure Tryz.prog 17 [intL a, intL b] (.ret (boolP (eqL a b))) := by
  have rwa : ((nums .i64 a).length : Int) = (a.length : Int) := by rw [nums_length]
  have rwb : ((nums .i64 b).length : Int) = (b.length : Int) := by rw [nums_length]
  unfold eqL
  by_cases hl : a.length = b.length
  · rcases eqF_cases (g := eqI) hl with ⟨e, h⟩ | ⟨e, d, u, v, h1, h2, h3, h4, h5⟩
    · have hlo := sl17_all a b hl ha h
      rw [e]
      have e0 : sl17S a b 0 = ⟨mkT 26 [(0, .p (intL a)), (1, .p (intL b)), (5, .p (intP 0))], ⟨[], [], []⟩⟩ := rfl
      rw [e0] at hlo
      clear e0 h
      unfold intL at *
      refine pure_eq (prun [] [(9, .w (DV.p (PD.v (Value.int IntKind.i64 (↑a.length : Int))))), (11, .w (DV.p (PD.v (Value.int IntKind.i64 (↑b.length : Int))))), (12, .b false), (22, .code [0, 1, 5] (AX.exit 0) (St.mk (mkT 26 []) (Mem.mk [] [] [])))] (e := AEnd.ret (PD.v (Value.bool true))) (.c (hlo) (.c (neF (show (↑a.length : Int) = (↑b.length : Int) by omega)) (.c (congrArg (fun z => DV.p (PD.v (Go.Value.int IntKind.i64 z))) rwb) (.c (congrArg (fun z => DV.p (PD.v (Go.Value.int IntKind.i64 z))) rwa) .n)))) (by kernel_rfl)) ?_
      rfl
    · have hlo := sl17_diff a b hl ha d u v h1 h2 h3 h4 h5
      rw [e]
      have e0 : sl17S a b 0 = ⟨mkT 26 [(0, .p (intL a)), (1, .p (intL b)), (5, .p (intP 0))], ⟨[], [], []⟩⟩ := rfl
      rw [e0] at hlo
      clear e0 h5
      unfold intL at *
      refine pure_eq (prun [] [(9, .w (DV.p (PD.v (Value.int IntKind.i64 (↑a.length : Int))))), (11, .w (DV.p (PD.v (Value.int IntKind.i64 (↑b.length : Int))))), (12, .b false), (22, .code [0, 1, 5] (AX.ret) (St.mk (mkT 26 [(4, DV.p (boolP false))]) (Mem.mk [] [] [])))] (e := AEnd.ret (PD.v (Value.bool false))) (.c (hlo) (.c (neF (show (↑a.length : Int) = (↑b.length : Int) by omega)) (.c (congrArg (fun z => DV.p (PD.v (Go.Value.int IntKind.i64 z))) rwb) (.c (congrArg (fun z => DV.p (PD.v (Go.Value.int IntKind.i64 z))) rwa) .n)))) (by kernel_rfl)) ?_
      rfl
  · rw [eqF_len hl]
    unfold intL at *
    refine pure_eq (prun [] [(9, .w (DV.p (PD.v (Value.int IntKind.i64 (↑a.length : Int))))), (11, .w (DV.p (PD.v (Value.int IntKind.i64 (↑b.length : Int))))), (12, .b true)] (e := AEnd.ret (PD.v (Value.bool false))) (.c (neT (show ¬ (↑a.length : Int) = (↑b.length : Int) by omega)) (.c (congrArg (fun z => DV.p (PD.v (Go.Value.int IntKind.i64 z))) rwb) (.c (congrArg (fun z => DV.p (PD.v (Go.Value.int IntKind.i64 z))) rwa) .n))) (by kernel_rfl)) ?_
    rfl
end Go.Proofs.YtikfefjaeejeeaaGreatDoor
