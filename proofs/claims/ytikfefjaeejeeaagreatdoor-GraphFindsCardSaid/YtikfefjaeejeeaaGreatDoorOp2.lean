/- A graph that is handed in, as data. -/
import Derived.Test.YtikfefjaeejeeaaGreatDoorOp1
import Derived.Test.YtikfefjaeejeeaaGreatDoorWaG
namespace Go.Proofs.YtikfefjaeejeeaaGreatDoor
open Go.RowKit
def wfI (k : IntKind) (z : Int) : Prop := (Lit.int k z).wf = true
def wfL (k : IntKind) (l : List Int) : Prop := l.length ≤ reachBytes ∧ ∀ z ∈ l, wfI k z
structure WfRat (r : RatM) : Prop where
  num : wfL .u32 r.num
  den : wfL .u32 r.den
structure WfPort (p : PortM) : Prop where
  name : p.name.size ≤ reachBytes
  shape : wfL .i64 p.shape
structure WfWeight (p : WeightM) : Prop where
  name : p.name.size ≤ reachBytes
  shape : wfL .i64 p.shape
  len : p.elems.length ≤ reachBytes
  elems : ∀ r ∈ p.elems, WfRat r
structure WfNode (n : NodeM) : Prop where
  op : wfI .i64 n.op
  args : wfL .i64 n.args
  attrs : wfL .i64 n.attrs
structure WfNodes (l : List NodeM) : Prop where
  len : l.length ≤ reachBytes
  el : ∀ n ∈ l, WfNode n
structure WfG (g : GraphM) : Prop where
  ver : wfI .i64 g.ver
  insL : g.ins.length ≤ reachBytes
  ins : ∀ p ∈ g.ins, WfPort p
  wsL : g.ws.length ≤ reachBytes
  ws : ∀ p ∈ g.ws, WfWeight p
  bn : WfNodes g.bn
  bo : wfL .i64 g.bo
  vn : WfNodes g.vn
  vo : wfL .i64 g.vo
def shInts : Sh := .sl (.i .i64)
def shRat : Sh := .pr .b (.pr (.sl (.i .u32)) (.pr (.sl (.i .u32)) .un))
def shPort : Sh := .pr .s (.pr shInts .un)
def shTensor : Sh := .pr shInts (.pr (.sl shRat) .un)
def shWeight : Sh := .pr .s (.pr shTensor .un)
def shNode : Sh := .pr (.i .i64) (.pr shInts (.pr shInts .un))
def shBody : Sh := .pr (.sl shNode) (.pr shInts .un)
def shGraph : Sh := .pr (.i .i64) (.pr (.sl shPort) (.pr (.sl shWeight) (.pr shBody (.pr .b (.pr shBody .un)))))
/-- numbers -/
theorem ty_ints {k : IntKind} {ps : List PD} (h : TyS (.sl (.i k)) ps) : ∃ l, ps = [.sl (nums k l)] ∧ wfL k l := by
  obtain ⟨els, rfl, hl, he⟩ := h
  obtain ⟨l, rfl, hw⟩ := map_of (f := fun z => PD.v (.int k z)) (Q := wfI k) (fun d hd => by
    obtain ⟨cs, rfl, z, rfl, hz⟩ := he d hd
    exact ⟨z, rfl, hz⟩)
  exact ⟨l, rfl, by simpa using hl, hw⟩
theorem ty_rat {d : PD} (h : ∃ cs, d = mkEl shRat cs ∧ TyS shRat cs) : ∃ r, d = encRat r ∧ WfRat r := by
  obtain ⟨cs, rfl, p1, q1, rfl, ⟨b, rfl⟩, p2, q2, rfl, h2, p3, q3, rfl, h3, h4⟩ := h
  obtain rfl : q3 = [] := h4
  obtain ⟨l1, rfl, w1⟩ := ty_ints h2
  obtain ⟨l2, rfl, w2⟩ := ty_ints h3
  exact ⟨⟨b, l1, l2⟩, rfl, w1, w2⟩
theorem ty_port {d : PD} (h : ∃ cs, d = mkEl shPort cs ∧ TyS shPort cs) : ∃ r, d = encPort r ∧ WfPort r := by
  obtain ⟨cs, rfl, p1, q1, rfl, ⟨b, rfl, hb⟩, p2, q2, rfl, h2, h4⟩ := h
  obtain rfl : q2 = [] := h4
  obtain ⟨l1, rfl, w1⟩ := ty_ints h2
  exact ⟨⟨b, l1⟩, rfl, hb, w1⟩
theorem ty_weight {d : PD} (h : ∃ cs, d = mkEl shWeight cs ∧ TyS shWeight cs) : ∃ r, d = encWeight r ∧ WfWeight r := by
  obtain ⟨cs, rfl, p1, q1, rfl, ⟨b, rfl, hb⟩, p2, q2, rfl, ⟨p3, q3, rfl, h2, p5, q5, rfl, ⟨els, rfl, hl, he⟩, h5⟩, h4⟩ := h
  obtain rfl : q2 = [] := h4
  obtain rfl : q5 = [] := h5
  obtain ⟨l1, rfl, w1⟩ := ty_ints h2
  obtain ⟨rs, rfl, w2⟩ := map_of (f := encRat) (Q := WfRat) (fun d hd => ty_rat (he d hd))
  exact ⟨⟨b, l1, rs⟩, rfl, hb, w1, by simpa using hl, w2⟩
theorem ty_node {d : PD} (h : ∃ cs, d = mkEl shNode cs ∧ TyS shNode cs) : ∃ r, d = encNode r ∧ WfNode r := by
  obtain ⟨cs, rfl, p1, q1, rfl, ⟨z, rfl, hz⟩, p2, q2, rfl, h2, p3, q3, rfl, h3, h4⟩ := h
  obtain rfl : q3 = [] := h4
  obtain ⟨l1, rfl, w1⟩ := ty_ints h2
  obtain ⟨l2, rfl, w2⟩ := ty_ints h3
  exact ⟨⟨z, l1, l2⟩, rfl, hz, w1, w2⟩
theorem ty_body {ps : List PD} (h : TyS shBody ps) : ∃ ns os, ps = [.sl (ns.map encNode), intL os] ∧ WfNodes ns ∧ wfL .i64 os := by
  obtain ⟨p1, q1, rfl, ⟨els, rfl, hl, he⟩, p2, q2, rfl, h2, h4⟩ := h
  obtain rfl : q2 = [] := h4
  obtain ⟨l1, rfl, w1⟩ := ty_ints h2
  obtain ⟨ns, rfl, w2⟩ := map_of (f := encNode) (Q := WfNode) (fun d hd => ty_node (he d hd))
  exact ⟨ns, l1, rfl, ⟨by simpa using hl, w2⟩, w1⟩
theorem ty_graph {ps : List PD} (h : TyS shGraph ps) : ∃ g, PD.agg ps = encG g ∧ WfG g := by
  obtain ⟨p1, q1, rfl, ⟨z, rfl, hz⟩, p2, q2, rfl, ⟨e2, rfl, l2, h2⟩, p3, q3, rfl, ⟨e3, rfl, l3, h3⟩, p4, q4, rfl, h4, p5, q5, rfl, ⟨b, rfl⟩, p6, q6, rfl, h6, h7⟩ := h
  obtain rfl : q6 = [] := h7
  obtain ⟨ins, rfl, w2⟩ := map_of (f := encPort) (Q := WfPort) (fun d hd => ty_port (h2 d hd))
  obtain ⟨ws, rfl, w3⟩ := map_of (f := encWeight) (Q := WfWeight) (fun d hd => ty_weight (h3 d hd))
  obtain ⟨bn, bo, rfl, w4, w5⟩ := ty_body h4
  obtain ⟨vn, vo, rfl, w6, w7⟩ := ty_body h6
  exact ⟨⟨z, ins, ws, bn, bo, b, vn, vo⟩, rfl, hz, by simpa using l2, w2, by simpa using l3, w3, w4, w5, w6, w7⟩
end Go.Proofs.YtikfefjaeejeeaaGreatDoor
