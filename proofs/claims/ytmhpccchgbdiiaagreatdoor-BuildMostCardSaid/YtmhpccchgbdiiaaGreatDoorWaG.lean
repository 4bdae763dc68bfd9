/- A graph as data. -/
import Derived.Test.YtmhpccchgbdiiaaGreatDoorAeU
namespace Go.Proofs.YtmhpccchgbdiiaaGreatDoor
open Go.RowKit
structure RatM where
  neg : Bool
  num : List Int
  den : List Int
structure PortM where
  name : ByteArray
  shape : List Int
structure WeightM where
  name : ByteArray
  shape : List Int
  elems : List RatM
structure NodeM where
  op : Int
  args : List Int
  attrs : List Int
structure GraphM where
  ver : Int
  ins : List PortM
  ws : List WeightM
  bn : List NodeM
  bo : List Int
  has : Bool
  vn : List NodeM
  vo : List Int
def intL (l : List Int) : PD := .sl (nums .i64 l)
def natL (l : List Int) : PD := .sl (nums .u32 l)
def strP (s : ByteArray) : PD := .v (.string s)
def intP (n : Int) : PD := .v (.int .i64 n)
def boolP (b : Bool) : PD := .v (.bool b)
def encRat (r : RatM) : PD := .agg [.v (.bool r.neg), natL r.num, natL r.den]
def encPort (p : PortM) : PD := .agg [strP p.name, intL p.shape]
def encWeight (p : WeightM) : PD := .agg [strP p.name, intL p.shape, .sl (p.elems.map encRat)]
def encNode (n : NodeM) : PD := .agg [intP n.op, intL n.args, intL n.attrs]
def encG (g : GraphM) : PD := .agg [intP g.ver, .sl (g.ins.map encPort), .sl (g.ws.map encWeight), .sl (g.bn.map encNode), intL g.bo, boolP g.has, .sl (g.vn.map encNode), intL g.vo]
/-- a graph in a box -/
def boxG (g : GraphM) : Box := ⟨30, [.p (intP g.ver), .p (.sl (g.ins.map encPort)), .p (.sl (g.ws.map encWeight)), .p (.sl (g.bn.map encNode)), .p (intL g.bo), .p (boolP g.has), .p (.sl (g.vn.map encNode)), .p (intL g.vo)], false⟩
theorem map_get {α β : Type} {l : List α} {f : α → β} {k : Nat} {p : α} (h : l[k]? = some p) : (l.map f)[k]? = some (f p) := by simp [h]
theorem get_of_lt {α : Type} {l : List α} {k : Nat} (h : k < l.length) : ∃ p, l[k]? = some p ∧ l.drop k = p :: l.drop (k + 1) := ⟨l[k], List.getElem?_eq_getElem h, List.drop_eq_getElem_cons h⟩
theorem drop_end {α : Type} {l : List α} {k : Nat} (h : ¬ k < l.length) : l.drop k = [] := List.drop_eq_nil_of_le (Nat.le_of_not_lt h)
theorem nums_at {q : IntKind} {l : List Int} {k : Nat} {x : Int} (h : l[k]? = some x) : (nums q l)[k]? = some (.v (.int q x)) := nums_get h
end Go.Proofs.YtmhpccchgbdiiaaGreatDoor
