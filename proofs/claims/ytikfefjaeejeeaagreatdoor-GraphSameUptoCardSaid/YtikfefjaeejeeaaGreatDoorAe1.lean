/- The abstract machine, 1: values, memory, and what they stand for in a world of the model. -/
import Derived.Test.YtikfefjaeejeeaaGreatDoorAe0
import Derived.WalkKit
import Derived.Below
import Derived.Laws.OwnMore
import Derived.Laws.CopyOwn
import Derived.Deep.MidRow
import Derived.Deep.AppendSrc
import Derived.Lib.AppendStr
namespace Go.Proofs.YtikfefjaeejeeaaGreatDoor
open Go.RowKit

/-- pure data: a scalar, a struct's cells, several results, a slice's elements -/
inductive PD where
  | v (x : Value)
  | agg (cs : List PD)
  | tup (vs : List PD)
  | sl (els : List PD)
def PD.cells : PD → List PD
  | .agg cs => cs
  | d => [d]

/-- pure data d reads, in w, as the value; Z: cells that stay -/
inductive PRel (Z : Nat → Nat → Prop) (w : World) : PD → Value → Prop
  | v (x : Value) : PRel Z w (.v x) x
  | agg (cs : List PD) (vs : Array Value) (hl : vs.size = cs.length) (h : ∀ (i : Nat) (d : PD) (x : Value), cs[i]? = some d → vs[i]? = some x → PRel Z w d x) : PRel Z w (.agg cs) (.agg vs)
  | tup (cs : List PD) (vs : Array Value) (hl : vs.size = cs.length) (h : ∀ (i : Nat) (d : PD) (x : Value), cs[i]? = some d → vs[i]? = some x → PRel Z w d x) : PRel Z w (.tup cs) (.tuple vs)
  | sl (els : List PD) (A : Option Addr) (c sz : Nat) (val : Nat → Value) (hc : els.length ≤ c) (hm : els.length ≤ 9223372036854775807)
      (hs : ∀ d ∈ els, d.cells.length = sz)
      (hA : ∀ (i j : Nat) (d e : PD), els[i]? = some d → d.cells[j]? = some e → ∃ g o, A = some ⟨g, o, none⟩ ∧ Z g (o + (i * sz + j)) ∧ w.cell? ⟨g, o + (i * sz + j), none⟩ = some (val (i * sz + j)) ∧ (val (i * sz + j)).oneCell' = true)
      (hr : ∀ (i j : Nat) (d e : PD), els[i]? = some d → d.cells[j]? = some e → PRel Z w e (val (i * sz + j))) : PRel Z w (.sl els) (.slice A els.length c)

theorem PRel.mono' {Z Z' : Nat → Nat → Prop} {w w' : World} (hZ : ∀ b o, Z b o → Z' b o) (hw : ∀ b o v, Z b o → w.cell? ⟨b, o, none⟩ = some v → w'.cell? ⟨b, o, none⟩ = some v) {d : PD} {x : Value} (h : PRel Z w d x) : PRel Z' w' d x := by
  induction h with
  | v x => exact .v x
  | agg cs vs hl h ih => exact .agg cs vs hl ih
  | tup cs vs hl h ih => exact .tup cs vs hl ih
  | sl els A c sz val hc hm hs hA hr ih =>
    refine .sl els A c sz val hc hm hs (fun i j d e hd he => ?_) ih
    obtain ⟨g, o, h1, h2, h3, h4⟩ := hA i j d e hd he
    exact ⟨g, o, h1, hZ _ _ h2, hw _ _ _ h2 h3, h4⟩
theorem PRel.mono {Z Z' : Nat → Nat → Prop} {w w' : World} (hZ : ∀ b o, Z b o → Z' b o) (hw : ∀ b o, Z b o → w'.cell? ⟨b, o, none⟩ = w.cell? ⟨b, o, none⟩) {d : PD} {x : Value} (h : PRel Z w d x) : PRel Z' w' d x := h.mono' hZ fun b o _ hz hv => (hw b o hz).trans hv

/-- values of the abstract machine -/
inductive DV where
  | undef
  | p (d : PD)
  | agg (cs : List DV)
  | tup (vs : List DV)
  | row (t : Nat) (els : List PD)
  | bsl (b off sz len cap : Nat)
  | fn (f : FuncId) (caps : List DV)
  | loc (b o : Nat)
  | ep (els : List PD) (i o : Nat)
  | cut0
  | mp (m : Nat)
  | it (m : Nat)
def DV.cells : DV → List DV
  | .agg cs => cs
  | .p (.agg cs) => cs.map .p
  | d => [d]
/-- one cell? -/
def DV.one : DV → Bool
  | .undef | .agg _ | .tup _ | .p (.agg _) | .p (.tup _) => false
  | .p (.v x) => x.oneCell'
  | _ => true
/-- a value that may be stored -/
def DV.okc (d : DV) : Bool := d.cells.all DV.one

structure Box where
  t : TypeId
  cells : List DV
  shut : Bool
/-- other things in memory: a map, a walk over a string -/
inductive AO where
  | mp (es : List (Value × Value))
  | it (s : ByteArray) (pos : Nat)
  | any
structure Mem where
  boxes : List Box
  toks : List (Option (TypeId × Nat × Nat))
  objs : List AO
structure St where
  tmps : List DV
  μ : Mem
structure Gh where
  base : Nat
  w0 : World
  Z0 : Nat → Nat → Prop
  Z : Nat → Nat → Prop
  bs : List Nat
  tv : List (Nat × Value)
  mps : List Nat
  df : List Deferred

inductive CRel (G : Gh) (w : World) : DV → Value → Prop
  | undef (x : Value) : CRel G w .undef x
  | p (d : PD) (x : Value) (h : PRel G.Z w d x) : CRel G w (.p d) x
  | agg (cs : List DV) (vs : Array Value) (hl : vs.size = cs.length) (h : ∀ (i : Nat) (d : DV) (x : Value), cs[i]? = some d → vs[i]? = some x → CRel G w d x) : CRel G w (.agg cs) (.agg vs)
  | tup (cs : List DV) (vs : Array Value) (hl : vs.size = cs.length) (h : ∀ (i : Nat) (d : DV) (x : Value), cs[i]? = some d → vs[i]? = some x → CRel G w d x) : CRel G w (.tup cs) (.tuple vs)
  | row (t : Nat) (els : List PD) (x y : Value) (n : Nat) (h : PRel G.Z w (.sl els) x) (ht : G.tv[t]? = some (n, y)) (hn : els.length ≤ n) (he : els.length = n → x = y) : CRel G w (.row t els) x
  | bsl (b off sz len cap g : Nat) (h : G.bs[b]? = some g) (hc : len ≤ cap) (hm : len ≤ 9223372036854775807) : CRel G w (.bsl b off sz len cap) (.slice (some ⟨g, off, none⟩) len cap)
  | fn (f : FuncId) (cs : List DV) (vs : Array Value) (hl : vs.size = cs.length) (h : ∀ (i : Nat) (d : DV) (x : Value), cs[i]? = some d → vs[i]? = some x → CRel G w d x) : CRel G w (.fn f cs) (.func (.func f) #[] vs)
  | loc (b o g : Nat) (h : G.bs[b]? = some g) : CRel G w (.loc b o) (.pointer (some ⟨g, o, none⟩))
  | ep (els : List PD) (i o : Nat) (g a c sz : Nat) (h : PRel G.Z w (.sl els) (.slice (some ⟨g, a, none⟩) els.length c)) (hi : i < els.length) (hs : ∀ d ∈ els, d.cells.length = sz) : CRel G w (.ep els i o) (.pointer (some ⟨g, a + (i * sz + o), none⟩))
  | cut0 (A : Option Addr) : CRel G w .cut0 (.slice A 0 0)
  | mp (m g : Nat) (h : G.mps[m]? = some g) : CRel G w (.mp m) (.map (some g))
  | it (m g : Nat) (h : G.mps[m]? = some g) : CRel G w (.it m) (.pointer (some ⟨g, 0, none⟩))

def cellsO : Obj → Bool
  | .cells _ _ _ => true
  | _ => false
/-- from (G, w) on to (G', w') -/
structure Grw (G : Gh) (w : World) (G' : Gh) (w' : World) : Prop where
  base : G'.base = G.base
  w0 : G'.w0 = G.w0
  z0 : G'.Z0 = G.Z0
  z : ∀ b o, G.Z b o → G'.Z b o
  cell : ∀ b o v, G.Z b o → w.cell? ⟨b, o, none⟩ = some v → w'.cell? ⟨b, o, none⟩ = some v
  bs : ∀ (j g : Nat), G.bs[j]? = some g → G'.bs[j]? = some g
  tv : ∀ (t n : Nat) (x : Value), G.tv[t]? = some (n, x) → ∃ n' x', G'.tv[t]? = some (n', x') ∧ n ≤ n' ∧ (n' = n → x' = x)
  mps : ∀ (j g : Nat), G.mps[j]? = some g → G'.mps[j]? = some g
  df : G'.df = G.df
  hsz : w.heap.size ≤ w'.heap.size
  oth : ∀ (k : Nat) (o : Obj), w.heap[k]? = some o → cellsO o = false → (∀ j : Nat, G.mps[j]? ≠ some k) → w'.heap[k]? = some o
  mnew : ∀ (j g : Nat), G'.mps[j]? = some g → G.mps[j]? = some g ∨ w.heap.size ≤ g
theorem Grw.refl (G : Gh) (w : World) : Grw G w G w := ⟨rfl, rfl, rfl, fun _ _ h => h, fun _ _ _ _ h => h, fun _ _ h => h, fun _ n x h => ⟨n, x, h, Nat.le_refl _, fun _ => rfl⟩, fun _ _ h => h, rfl, Nat.le_refl _, fun _ _ h _ _ => h, fun _ _ h => .inl h⟩
theorem Grw.trans {G G1 G2 : Gh} {w w1 w2 : World} (h : Grw G w G1 w1) (k : Grw G1 w1 G2 w2) : Grw G w G2 w2 := by
  refine ⟨k.base.trans h.base, k.w0.trans h.w0, k.z0.trans h.z0, fun b o hz => k.z b o (h.z b o hz), fun b o v hz hv => k.cell b o v (h.z b o hz) (h.cell b o v hz hv), fun j g hg => k.bs j g (h.bs j g hg), fun t n x ht => ?_, fun j g hg => k.mps j g (h.mps j g hg), k.df.trans h.df, Nat.le_trans h.hsz k.hsz, fun i o hi hc hm => k.oth i o (h.oth i o hi hc hm) hc (fun j hj => (h.mnew j i hj).elim (hm j) (fun hge => by have := (Array.getElem?_eq_some_iff.1 hi).1; omega)), fun j g hg => (k.mnew j g hg).elim (h.mnew j g) (fun hge => .inr (Nat.le_trans h.hsz hge))⟩
  obtain ⟨n1, x1, h1, h2, h3⟩ := h.tv t n x ht
  obtain ⟨n2, x2, k1, k2, k3⟩ := k.tv t n1 x1 h1
  exact ⟨n2, x2, k1, Nat.le_trans h2 k2, fun e => by have : n1 = n := by omega
                                                     rw [k3 (by omega), h3 this]⟩
theorem PRel.grw {G G' : Gh} {w w' : World} (hl : Grw G w G' w') {d : PD} {x : Value} (h : PRel G.Z w d x) : PRel G'.Z w' d x := h.mono' hl.z hl.cell
theorem PRel.sl_slice {Z : Nat → Nat → Prop} {w : World} {els : List PD} {x : Value} (h : PRel Z w (.sl els) x) : ∃ A c, x = .slice A els.length c ∧ els.length ≤ c ∧ els.length ≤ 9223372036854775807 := by
  cases h with
  | sl els A c sz val hc hm hs hA hr => exact ⟨A, c, rfl, hc, hm⟩
theorem CRel.grw {G G' : Gh} {w w' : World} (hl : Grw G w G' w') {d : DV} {x : Value} (h : CRel G w d x) : CRel G' w' d x := by
  induction h with
  | undef x => exact .undef x
  | p d x h => exact .p d x (h.grw hl)
  | agg cs vs hn h ih => exact .agg cs vs hn ih
  | tup cs vs hn h ih => exact .tup cs vs hn ih
  | row t els x y n h ht hn he =>
    obtain ⟨n', y', h1, h2, h3⟩ := hl.tv t n y ht
    exact .row t els x y' n' (h.grw hl) h1 (by omega) (fun e => by rw [he (by omega), h3 (by omega)])
  | bsl b off sz len cap g h hc hm => exact .bsl b off sz len cap g (hl.bs _ _ h) hc hm
  | fn f cs vs hn h ih => exact .fn f cs vs hn ih
  | loc b o g h => exact .loc b o g (hl.bs _ _ h)
  | ep els i o g a c sz h hi hs => exact .ep els i o g a c sz (h.grw hl) hi hs
  | cut0 A => exact .cut0 A
  | mp m g h => exact .mp m g (hl.mps _ _ h)
  | it m g h => exact .it m g (hl.mps _ _ h)

/-- a value's cells stand for the abstract value's cells -/
theorem CRel.cells {G : Gh} {w : World} {d : DV} {x : Value} (h : CRel G w d x) (hd : d.okc = true) :
    x.cells.size = d.cells.length ∧ (∀ (i : Nat) (e : DV) (y : Value), d.cells[i]? = some e → x.cells[i]? = some y → CRel G w e y) := by
  have one : ∀ (d : DV) (x : Value), CRel G w d x → d.cells = [d] → x.cells = #[x] → x.cells.size = d.cells.length ∧ (∀ (i : Nat) (e : DV) (y : Value), d.cells[i]? = some e → x.cells[i]? = some y → CRel G w e y) := by
    intro d x h h1 h2
    rw [h1, h2]
    refine ⟨rfl, fun i e y he hy => ?_⟩
    cases i with
    | zero => simp at he hy; subst he; subst hy; exact h
    | succ i => simp at he
  cases h with
  | undef x => simp [DV.okc, DV.cells, DV.one] at hd
  | p d x h =>
    cases h with
    | v x =>
      refine one _ _ (.p _ _ (.v x)) rfl ?_
      have : x.oneCell' = true := by simpa [DV.okc, DV.cells, DV.one] using hd
      cases x <;> simp_all [Value.cells, Value.oneCell']
    | agg cs vs hl h =>
      refine ⟨by simpa [Value.cells, DV.cells] using hl, fun i e y he hy => ?_⟩
      simp only [DV.cells, List.getElem?_map, Option.map_eq_some_iff] at he
      obtain ⟨c, hc, rfl⟩ := he
      exact .p _ _ (h i c y hc (by simpa [Value.cells] using hy))
    | tup cs vs hl h => simp [DV.okc, DV.cells, DV.one] at hd
    | sl els A c sz val hc hm hs hA hr => exact one _ _ (.p _ _ (.sl els A c sz val hc hm hs hA hr)) rfl rfl
  | agg cs vs hl h => exact ⟨by simpa [Value.cells, DV.cells] using hl, fun i e y he hy => h i e y (by simpa [DV.cells] using he) (by simpa [Value.cells] using hy)⟩
  | tup cs vs hl h => simp [DV.okc, DV.cells, DV.one] at hd
  | row t els x y n h ht hn he =>
    obtain ⟨A, c, rfl, _⟩ := h.sl_slice
    exact one _ _ (.row t els _ y n h ht hn he) rfl rfl
  | bsl b off sz len cap g h hc hm => exact one _ _ (.bsl b off sz len cap g h hc hm) rfl rfl
  | fn f cs vs hl h => exact one _ _ (.fn f cs vs hl h) rfl rfl
  | loc b o g h => exact one _ _ (.loc b o g h) rfl rfl
  | ep els i o g a c sz h hi hs => exact one _ _ (.ep els i o g a c sz h hi hs) rfl rfl
  | cut0 A => exact one _ _ (.cut0 A) rfl rfl
  | mp m g h => exact one _ _ (.mp m g h) rfl rfl
  | it m g h => exact one _ _ (.it m g h) rfl rfl
theorem CRel.one {G : Gh} {w : World} {d : DV} {x : Value} (h : CRel G w d x) (hd : d.one = true) : x.oneCell' = true := by
  cases h with
  | undef x => simp [DV.one] at hd
  | p d x h =>
    cases h with
    | v x => simpa [DV.one] using hd
    | agg cs vs hl h => simp [DV.one] at hd
    | tup cs vs hl h => simp [DV.one] at hd
    | sl els A c sz val hc hm hs hA hr => rfl
  | agg cs vs hl h => simp [DV.one] at hd
  | tup cs vs hl h => simp [DV.one] at hd
  | row t els x y n h ht hn he => obtain ⟨A, c, rfl, _⟩ := h.sl_slice; rfl
  | _ => rfl

def AOk : AO → Obj → Prop
  | .mp es, .map me _ => me.toList.map (fun e => (e.key, e.val)) = es
  | .it s pos, .stringIter s' pos' => s' = s ∧ pos' = pos
  | .any, .map _ _ => True
  | .any, .stringIter _ _ => True
  | _, _ => False
def Obj.other : Obj → Bool
  | .map _ _ | .stringIter _ _ => true
  | _ => false
theorem AOk.other {a : AO} {o : Obj} (h : AOk a o) : Obj.other o = true := by
  cases a <;> cases o <;> first | rfl | exact h.elim
structure MpOK (base : Nat) (mps : List Nat) (objs : List AO) (w : World) : Prop where
  len : mps.length = objs.length
  inj : ∀ (i j g : Nat), mps[i]? = some g → mps[j]? = some g → i = j
  at_ : ∀ (i g : Nat) (a : AO), objs[i]? = some a → mps[i]? = some g → base ≤ g ∧ ∃ o, w.heap[g]? = some o ∧ AOk a o
theorem MpOK.keep {base : Nat} {mps : List Nat} {objs : List AO} {w w' : World} (h : MpOK base mps objs w) (hk : ∀ (g : Nat) (o : Obj), base ≤ g → w.heap[g]? = some o → Obj.other o = true → w'.heap[g]? = some o) : MpOK base mps objs w' :=
  ⟨h.len, h.inj, fun i g a h1 h2 => by
    obtain ⟨k1, o, k2, k3⟩ := h.at_ i g a h1 h2
    exact ⟨k1, o, hk g o k1 k2 k3.other, k3⟩⟩
/-- the world's memory stands for the abstract memory -/
structure MRel (G : Gh) (μ : Mem) (w : World) : Prop where
  bel : Below G.base G.w0 w
  hb : G.base ≤ w.heap.size
  zlt : ∀ b o, G.Z b o → b < w.heap.size
  zsub : ∀ b o, G.Z b o → G.Z0 b o ∨ G.base ≤ b
  len : G.bs.length = μ.boxes.length
  tlen : G.tv.length = μ.toks.length
  inj : ∀ (i j g : Nat), G.bs[i]? = some g → G.bs[j]? = some g → i = j
  box : ∀ (j : Nat) (B : Box) (g : Nat), μ.boxes[j]? = some B → G.bs[j]? = some g → G.base ≤ g ∧ ∃ vs, w.heap[g]? = some (.cells vs B.t (0, 0)) ∧ vs.size = B.cells.length ∧
    (∀ (i : Nat) (d : DV) (x : Value), B.cells[i]? = some d → vs[i]? = some x → CRel G w d x ∧ x.oneCell' = true) ∧ (B.shut = false → ∀ o, ¬ G.Z g o)
  tok : ∀ (t : Nat) (e : TypeId) (s n : Nat), μ.toks[t]? = some (some (e, s, n)) → ∃ x xs, G.tv[t]? = some (n, x) ∧ w.ownsRow G.base e s x n xs ∧ 0 < s ∧ (∀ g, x.ownBlock = some g → (∀ o, n * s ≤ o → ¬ G.Z g o) ∧ ∀ (j : Nat), G.bs[j]? ≠ some g)
  tne : ∀ (t t' : Nat) (a a' : TypeId × Nat × Nat) (x x' : Nat × Value) (g : Nat), μ.toks[t]? = some (some a) → μ.toks[t']? = some (some a') → G.tv[t]? = some x → G.tv[t']? = some x' → x.2.ownBlock = some g → x'.2.ownBlock = some g → t = t'
  lw : LaidW G.base G.w0
  mp : MpOK G.base G.mps μ.objs w
structure SRel (G : Gh) (s : St) (a : Act) (w : World) : Prop where
  size : a.tmps.size = s.tmps.length
  tmp : ∀ (i : Nat) (d : DV) (x : Value), s.tmps[i]? = some d → a.tmps[i]? = some x → CRel G w d x
  defers : a.defers = G.df
  mem : MRel G s.μ w

/-- memory stays, the world grows (a call that makes memory, a draw) -/
def Gh.grown (G : Gh) (w w1 : World) : Gh := { G with Z := fun b o => G.Z b o ∨ (w.heap.size ≤ b ∧ b < w1.heap.size) }
theorem Grw.below {G : Gh} {w w1 : World} (hz : ∀ b o, G.Z b o → b < w.heap.size) (hb : Below w.heap.size w w1) : Grw G w (G.grown w w1) w1 :=
  ⟨rfl, rfl, rfl, fun _ _ h => .inl h, fun b o v h hv => (hb.cell (p := ⟨b, o, none⟩) (hz b o h)).trans hv, fun _ _ h => h, fun _ n x h => ⟨n, x, h, Nat.le_refl _, fun _ => rfl⟩, fun _ _ h => h, rfl, hb.size, fun k o hk _ _ => (hb.block k (Array.getElem?_eq_some_iff.1 hk).1).trans hk, fun _ _ h => .inl h⟩
theorem MRel.below {G : Gh} {μ : Mem} {w w1 : World} (h : MRel G μ w) (hb : Below w.heap.size w w1) : MRel (G.grown w w1) μ w1 := by
  have hl : Grw G w (G.grown w w1) w1 := Grw.below h.zlt hb
  refine ⟨h.bel.trans (hb.mono h.hb), Nat.le_trans h.hb hb.size, ?_, ?_, h.len, h.tlen, h.inj, ?_, ?_, h.tne, h.lw, h.mp.keep fun g o _ hg _ => (hb.block g (Array.getElem?_eq_some_iff.1 hg).1).trans hg⟩
  · rintro b o (hz | hz)
    · exact Nat.lt_of_lt_of_le (h.zlt b o hz) hb.size
    · exact hz.2
  · rintro b o (hz | hz)
    · exact h.zsub b o hz
    · exact .inr (Nat.le_trans h.hb hz.1)
  · intro j B g hB hg
    obtain ⟨h1, vs, h2, h3, h4, h5⟩ := h.box j B g hB hg
    have hlt : g < w.heap.size := (Array.getElem?_eq_some_iff.1 h2).1
    refine ⟨h1, vs, (hb.block g hlt).trans h2, h3, fun i d x hd hx => ⟨(h4 i d x hd hx).1.grw hl, (h4 i d x hd hx).2⟩, fun hs o => ?_⟩
    rintro (hz | hz)
    · exact h5 hs o hz
    · omega
  · intro t e s n ht
    obtain ⟨x, xs, h1, h2, h3, h4⟩ := h.tok t e s n ht
    refine ⟨x, xs, h1, ?_, h3, fun g hg => ⟨fun o ho => ?_, (h4 g hg).2⟩⟩
    · exact h2.kept (row := none) ⟨hb.os, hb.tape, hb.output, hb.size, fun k hk _ => hb.block k hk⟩ (by cases hv : x.ownBlock <;> simp)
    · have := h2.lt g hg
      rintro (hz | hz)
      · exact (h4 g hg).1 o ho hz
      · omega

/-- a new box -/
def Gh.push (G : Gh) (g : Nat) : Gh := { G with bs := G.bs ++ [g] }
theorem Grw.alloc (G : Gh) (w : World) (o : Obj) (hz : ∀ b o, G.Z b o → b < w.heap.size) : Grw G w (G.push w.heap.size) (w.alloc o) := by
  refine ⟨rfl, rfl, rfl, fun _ _ h => h, fun b q v h hv => ?_, fun j g h => ?_, fun _ n x h => ⟨n, x, h, Nat.le_refl _, fun _ => rfl⟩, fun _ _ h => h, rfl, by simp, fun k q hk _ _ => (Below.heap_alloc w o k (Array.getElem?_eq_some_iff.1 hk).1).trans hk, fun _ _ h => .inl h⟩
  · exact (World.cell?_of_block (w := w) (Below.heap_alloc w o b (hz b q h))).trans hv
  · have hj := (List.getElem?_eq_some_iff.1 h).1
    show (G.bs ++ [w.heap.size])[j]? = some g
    rw [List.getElem?_append_left hj]; exact h
theorem MRel.alloc {G : Gh} {μ : Mem} {w : World} (h : MRel G μ w) (t : TypeId) (ds : List DV) (vs : Array Value) (hn : vs.size = ds.length)
    (hr : ∀ (i : Nat) (d : DV) (x : Value), ds[i]? = some d → vs[i]? = some x → CRel G w d x ∧ x.oneCell' = true) :
    MRel (G.push w.heap.size) ⟨μ.boxes ++ [⟨t, ds, false⟩], μ.toks, μ.objs⟩ (w.alloc (.cells vs t)) := by
  have hl := Grw.alloc G w (.cells vs t) h.zlt
  have hnew := heap_alloc_new w (.cells vs t)
  have hbs : ∀ (j g : Nat), G.bs[j]? = some g → g < w.heap.size := by
    intro j g hg
    have hj := (List.getElem?_eq_some_iff.1 hg).1
    rw [h.len] at hj
    obtain ⟨_, vs', h2, _⟩ := h.box j μ.boxes[j] g (List.getElem?_eq_getElem hj) hg
    exact (Array.getElem?_eq_some_iff.1 h2).1
  have hsplit : ∀ (j g : Nat), (G.bs ++ [w.heap.size])[j]? = some g → (G.bs[j]? = some g) ∨ (j = G.bs.length ∧ g = w.heap.size) := by
    intro j g hg
    rcases Nat.lt_trichotomy j G.bs.length with hj | hj | hj
    · left; rwa [List.getElem?_append_left hj] at hg
    · right; subst hj; simp at hg; exact ⟨rfl, hg.symm⟩
    · rw [List.getElem?_eq_none (by simp; omega)] at hg; cases hg
  refine ⟨h.bel.alloc h.hb _, by simp; exact Nat.le_succ_of_le h.hb, fun b o hz => ?_, h.zsub, ?_, h.tlen, ?_, ?_, ?_, h.tne, h.lw, h.mp.keep fun g o _ hg _ => (Below.heap_alloc w _ g (Array.getElem?_eq_some_iff.1 hg).1).trans hg⟩
  · rw [World.size_alloc]; exact Nat.lt_succ_of_lt (h.zlt b o hz)
  · show (G.bs ++ [w.heap.size]).length = (μ.boxes ++ [_]).length
    simp [h.len]
  · intro i j g hi hj
    rcases hsplit i g hi with a | ⟨a, a'⟩ <;> rcases hsplit j g hj with b | ⟨b, b'⟩
    · exact h.inj i j g a b
    · have := hbs i g a; omega
    · have := hbs j g b; omega
    · omega
  · intro j B g hB hg
    rcases hsplit j g hg with a | ⟨rfl, rfl⟩
    · have hj := (List.getElem?_eq_some_iff.1 a).1
      rw [List.getElem?_append_left (by rw [← h.len]; exact hj)] at hB
      obtain ⟨h1, vs', h2, h3, h4, h5⟩ := h.box j B g hB a
      exact ⟨h1, vs', (Below.heap_alloc w _ g (hbs j g a)).trans h2, h3, fun i d x hd hx => ⟨(h4 i d x hd hx).1.grw hl, (h4 i d x hd hx).2⟩, h5⟩
    · rw [h.len] at hB
      simp at hB
      subst hB
      exact ⟨h.hb, vs, hnew, hn, fun i d x hd hx => ⟨(hr i d x hd hx).1.grw hl, (hr i d x hd hx).2⟩, fun _ o hz => by have := h.zlt _ o hz; omega⟩
  · intro t' e s n ht
    obtain ⟨x, xs, h1, h2, h3, h4⟩ := h.tok t' e s n ht
    refine ⟨x, xs, h1, h2.alloc _, h3, fun g hg => ⟨(h4 g hg).1, fun j hj => ?_⟩⟩
    rcases hsplit j g hj with a | ⟨_, a⟩
    · exact (h4 g hg).2 j a
    · have := h2.lt g hg; omega

theorem setRow_non (w : World) (g : Nat) (cs : Array Value) {k : Nat} {o : Obj} (hk : w.heap[k]? = some o) (hc : cellsO o = false) : (w.setRow g cs).heap[k]? = some o := by
  by_cases h : k = g
  · subst h
    simp only [World.setRow, Array.getElem?_modify, if_true, hk, Option.map_some]
    cases o <;> first | rfl | cases hc
  · rw [setRow_other w g k cs h]; exact hk
/-- cells of a box are stored to -/
theorem Grw.setRow {G : Gh} {w : World} {g : Nat} (cs : Array Value) (hz : ∀ o, ¬ G.Z g o) : Grw G w G (w.setRow g cs) := by
  refine ⟨rfl, rfl, rfl, fun _ _ h => h, fun b o v h hv => ?_, fun _ _ h => h, fun _ n x h => ⟨n, x, h, Nat.le_refl _, fun _ => rfl⟩, fun _ _ h => h, rfl, by simp, fun k o hk hc _ => setRow_non w g cs hk hc, fun _ _ h => .inl h⟩
  exact (cell_setRow_other w g cs ⟨b, o, none⟩ (fun e => by have e : b = g := e; subst e; exact hz o h)).trans hv
theorem MRel.setRow {G : Gh} {μ : Mem} {w : World} (h : MRel G μ w) {b g : Nat} {B : Box} (hB : μ.boxes[b]? = some B) (hg : G.bs[b]? = some g) (hs : B.shut = false)
    (ds : List DV) (vs : Array Value) (hn : vs.size = ds.length)
    (hr : ∀ (i : Nat) (d : DV) (x : Value), ds[i]? = some d → vs[i]? = some x → CRel G w d x ∧ x.oneCell' = true) :
    MRel G ⟨μ.boxes.set b ⟨B.t, ds, false⟩, μ.toks, μ.objs⟩ (w.setRow g vs) := by
  obtain ⟨g1, vs0, g2, g3, g4, g5⟩ := h.box b B g hB hg
  have hl : Grw G w G (w.setRow g vs) := Grw.setRow vs (g5 hs)
  have hblk : ∀ k, k ≠ g → (w.setRow g vs).heap[k]? = w.heap[k]? := fun k hk => setRow_other w g k vs hk
  have hb := (List.getElem?_eq_some_iff.1 hB).1
  refine ⟨below_setRow h.bel g1 vs, by simpa using h.hb, fun b o hz => by simpa using h.zlt b o hz, h.zsub, by simpa using h.len, h.tlen, h.inj, ?_, ?_, h.tne, h.lw, h.mp.keep fun k o _ hk ho => (hblk k (fun e => by subst e; rw [g2] at hk; injection hk with hk; subst hk; cases ho)).trans hk⟩
  · intro j B' g' hB' hg'
    by_cases hj : j = b
    · subst hj
      rw [hg] at hg'
      injection hg' with hg'
      subst hg'
      simp only [List.getElem?_set_self hb, Option.some.injEq] at hB'
      subst hB'
      exact ⟨g1, vs, setRow_heap w g vs0 vs B.t (0, 0) g2, hn, fun i d x hd hx => ⟨(hr i d x hd hx).1.grw hl, (hr i d x hd hx).2⟩, fun _ => g5 hs⟩
    · simp only [List.getElem?_set_ne (Ne.symm hj)] at hB'
      obtain ⟨k1, vs', k2, k3, k4, k5⟩ := h.box j B' g' hB' hg'
      have hne : g' ≠ g := fun e => hj (h.inj j b g (by rw [← e]; exact hg') hg)
      exact ⟨k1, vs', (hblk g' hne).trans k2, k3, fun i d x hd hx => ⟨(k4 i d x hd hx).1.grw hl, (k4 i d x hd hx).2⟩, k5⟩
  · intro t e s n ht
    obtain ⟨x, xs, h1, h2, h3, h4⟩ := h.tok t e s n ht
    refine ⟨x, xs, h1, ?_, h3, h4⟩
    refine h2.kept (row := some g) ⟨rfl, rfl, rfl, by simp, fun k _ hk => hblk k (fun e => hk (by rw [e]))⟩ (.inr ?_)
    intro e
    exact (h4 g e).2 b hg
end Go.Proofs.YtikfefjaeejeeaaGreatDoor
