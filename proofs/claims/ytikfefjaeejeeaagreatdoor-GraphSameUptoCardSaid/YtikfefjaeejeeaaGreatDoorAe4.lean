/- The abstract machine, 4: what an operation does. -/
import Derived.Test.YtikfefjaeejeeaaGreatDoorAe2
import Derived.Great.BuildSlice
import Derived.Laws.MakeOwn
namespace Go.Proofs.YtikfefjaeejeeaaGreatDoor
open Go.RowKit

def getT : List DV → Nat → DV
  | [], _ => .undef
  | d :: _, 0 => d
  | _ :: r, n + 1 => getT r n
def setT : List DV → Nat → DV → List DV
  | [], _, _ => []
  | _ :: r, 0, v => v :: r
  | d :: r, n + 1, v => d :: setT r n v
def putT (l : List DV) (o : Option Nat) (v : DV) : List DV := match o with
  | some i => setT l i v
  | none => l
def DV.ofV : Value → DV
  | .agg cs => .p (.agg (cs.toList.map .v))
  | .tuple cs => .p (.tup (cs.toList.map .v))
  | x => .p (.v x)
def St.ev (s : St) : Operand → DV
  | .tmp t => getT s.tmps t
  | .const v => DV.ofV v
  | .global g => .p (.v (.pointer (some ⟨g, 0, none⟩)))
  | .func f => .fn f []
theorem getT_get : ∀ (l : List DV) (i : Nat), getT l i = (l[i]?).getD .undef
  | [], i => by simp [getT]
  | d :: _, 0 => by simp [getT]
  | _ :: r, n + 1 => by simp [getT, getT_get r n]
theorem setT_set : ∀ (l : List DV) (i : Nat) (v : DV), setT l i v = l.set i v
  | [], i, v => by simp [setT]
  | d :: _, 0, v => by simp [setT]
  | _ :: r, n + 1, v => by simp [setT, setT_set r n]
theorem ofV_rel (G : Gh) (w : World) (x : Value) : CRel G w (DV.ofV x) x := by
  have hv : ∀ (cs : Array Value) (i : Nat) (d : PD) (y : Value), (cs.toList.map PD.v)[i]? = some d → cs[i]? = some y → PRel G.Z w d y := by
    intro cs i d y hd hy
    simp only [List.getElem?_map, Option.map_eq_some_iff, Array.getElem?_toList] at hd
    obtain ⟨z, hz, rfl⟩ := hd
    rw [hz] at hy
    injection hy with hy
    subst hy
    exact .v _
  cases x <;> first
    | exact .p _ _ (.v _)
    | exact .p _ _ (.agg _ _ (by simp) (fun i d y hd hy => hv _ i d y hd hy))
    | exact .p _ _ (.tup _ _ (by simp) (fun i d y hd hy => hv _ i d y hd hy))
theorem SRel.ev {G : Gh} {s : St} {a : Act} {w : World} (h : SRel G s a w) (x : Operand) : CRel G w (s.ev x) (a.eval x) := by
  cases x with
  | tmp t =>
    show CRel G w (getT s.tmps t) (a.tmps.getD t undef)
    rw [getT_get]
    rcases Nat.lt_or_ge t s.tmps.length with ht | ht
    · rw [List.getElem?_eq_getElem ht, Array.getD_eq_getD_getElem?, Array.getElem?_eq_getElem (by rw [h.size]; exact ht)]
      exact h.tmp t _ _ (List.getElem?_eq_getElem ht) (Array.getElem?_eq_getElem _)
    · rw [List.getElem?_eq_none ht]; exact .undef _
  | const v => exact ofV_rel G w v
  | global g => exact .p _ _ (.v _)
  | func f => exact .fn f [] #[] rfl (fun i d x hd => by simp at hd)
theorem SRel.put {G G' : Gh} {s : St} {a : Act} {w w' : World} (h : SRel G s a w) (hl : Grw G w G' w') (o : Option Tmp) {d : DV} {v : Value} (hd : CRel G' w' d v) {μ' : Mem} (hm : MRel G' μ' w') :
    SRel G' ⟨putT s.tmps o d, μ'⟩ (a.put o v) w' := by
  cases o with
  | none => exact ⟨h.size, fun i d x hd hx => (h.tmp i d x hd hx).grw hl, h.defers.trans hl.df.symm, hm⟩
  | some j =>
    refine ⟨by simp [Act.put, putT, setT_set, h.size], fun i e x he hx => ?_, h.defers.trans hl.df.symm, hm⟩
    simp only [putT, setT_set] at he
    simp only [Act.put] at hx
    by_cases hij : i = j
    · subst hij
      have hi : i < s.tmps.length := by have := (List.getElem?_eq_some_iff.1 he).1; simpa using this
      rw [List.getElem?_set_self hi] at he
      rw [Array.getElem?_setIfInBounds_self_of_lt (by rw [h.size]; exact hi)] at hx
      injection he with he; injection hx with hx; subst he; subst hx
      exact hd
    · rw [List.getElem?_set_ne (Ne.symm hij)] at he
      rw [Array.getElem?_setIfInBounds_ne (Ne.symm hij)] at hx
      exact (h.tmp i e x he hx).grw hl

def szT (P : Program) (t : TypeId) : Option Nat := (P.info? t).map (·.size)
def zrT (P : Program) (t : TypeId) : Option Value := (P.info? t).bind (·.zero)
def byT (P : Program) (t : TypeId) : Option Nat := (P.info? t).map (·.bytes)
theorem zrT_info {P : Program} {t : TypeId} {z : Value} (h : zrT P t = some z) : ∃ i, P.info? t = some i ∧ i.zero = some z := by
  unfold zrT at h
  cases hi : P.info? t with
  | none => simp [hi] at h
  | some i => rw [hi] at h; exact ⟨i, rfl, h⟩
def aggT (P : Program) (t : TypeId) : Option Bool := (P.underlying t).map fun | .struct _ | .array _ _ => true | _ => false
def elT (P : Program) (t : TypeId) : Option TypeId := match P.underlying t with | some (.slice e) => some e | _ => none
def cellsV (x : Value) : List DV := x.cells.toList.map fun c => .p (.v c)
def allOne (x : Value) : Bool := x.cells.toList.all (·.oneCell')

/-- whole numbers, bools, strings -/
def evBin (op : BinOp) (x y : Value) : Option Value :=
  match op, x, y with
  | .shl, .int k a, .int _ b => if 0 ≤ b then some (.int k (k.wrap (a * 2 ^ (min b.toNat k.bits)))) else none
  | .shr, .int k a, .int _ b => if 0 ≤ b then some (.int k (a.fdiv (2 ^ (min b.toNat k.bits)))) else none
  | .add, .int k a, .int k' b => if k = k' then some (.int k (k.wrap (a + b))) else none
  | .sub, .int k a, .int k' b => if k = k' then some (.int k (k.wrap (a - b))) else none
  | .mul, .int k a, .int k' b => if k = k' then some (.int k (k.wrap (a * b))) else none
  | .quo, .int k a, .int k' b => if k = k' then if b = 0 then none else some (.int k (k.wrap (a.tdiv b))) else none
  | .rem, .int k a, .int k' b => if k = k' then if b = 0 then none else some (.int k (a.tmod b)) else none
  | .and, .int k a, .int k' b => if k = k' then some (.int k (k.wrap (BitVec.ofInt k.bits a &&& BitVec.ofInt k.bits b).toNat)) else none
  | .or, .int k a, .int k' b => if k = k' then some (.int k (k.wrap (BitVec.ofInt k.bits a ||| BitVec.ofInt k.bits b).toNat)) else none
  | .xor, .int k a, .int k' b => if k = k' then some (.int k (k.wrap (BitVec.ofInt k.bits a ^^^ BitVec.ofInt k.bits b).toNat)) else none
  | .eql, .int k a, .int k' b => if k = k' then some (.bool (a == b)) else none
  | .neq, .int k a, .int k' b => if k = k' then some (.bool (a != b)) else none
  | .lss, .int k a, .int k' b => if k = k' then some (.bool (decide (a < b))) else none
  | .leq, .int k a, .int k' b => if k = k' then some (.bool (decide (a ≤ b))) else none
  | .gtr, .int k a, .int k' b => if k = k' then some (.bool (decide (b < a))) else none
  | .geq, .int k a, .int k' b => if k = k' then some (.bool (decide (b ≤ a))) else none
  | .eql, .string a, .string b => some (.bool (a.toList == b.toList))
  | .neq, .string a, .string b => some (.bool (!(a.toList == b.toList)))
  | .add, .string a, .string b => if ((a.size + b.size : Nat) : Int) ≤ 9223372036854775807 then some (.string (a ++ b)) else none
  | _, _, _ => none
theorem evBin_sound {op : BinOp} {x y v : Value} (h : evBin op x y = some v) (P : Program) (w : World) (t : TypeId) (p q : Operand) : (eqGuard op t p q x y).run P w = .ok () w ∧ (binOp op t x y).run P w = .ok v w := by
  unfold evBin at h
  split at h <;> (try split at h) <;> (try split at h) <;> first
    | (cases h; done)
    | (injection h with h; subst h; subst_vars
       refine ⟨by simp [eqGuard], ?_⟩
       first
         | (simp [binOp, Op.intArith]; done)
         | (simp [binOp, Op.intCmp]; done)
         | (simp [binOp, Op.intBits]; done)
         | (simp_all [binOp, Op.intDiv]; done)
         | (simp [binOp, Op.stringOp]; done)
         | (rename_i hb; have hb' := Int.not_lt.2 hb; simp [binOp, Op.shift, hb']; done)
         | (rename_i hb; have hb' : ¬ (((_ + _ : Nat) : Int) > IntKind.i64.max) := by { show ¬ (_ > (9223372036854775807 : Int)); exact Int.not_lt.2 hb }; simp only [binOp, Op.stringOp, if_neg hb']; rfl)
         | skip)

def evUn (op : UnOp) (x : Value) : Option Value :=
  match op, x with
  | .neg, .int k n => some (.int k (k.wrap (0 - n)))
  | .not, .bool b => some (.bool !b)
  | .xor, .int k n => some (.int k (k.wrap (BitVec.ofInt k.bits (if k.signed then -1 else k.max) ^^^ BitVec.ofInt k.bits n).toNat))
  | _, _ => none
theorem evUn_sound {op : UnOp} {x v : Value} (h : evUn op x = some v) (P : Program) (w : World) : (Op.unary op x).run P w = .ok v w := by
  unfold evUn at h
  split at h <;> first
    | (cases h; done)
    | (injection h with h; subst h; simp [Op.unary, Op.intArith, Op.intBits])

/-- the value of an operation that leaves memory alone -/
def evLoad (P : Program) (t : TypeId) (d : DV) (μ : Mem) : Option DV :=
  match d with
  | .loc b o => match μ.boxes[b]?, szT P t, aggT P t with
    | some B, some n, some true => if o + n ≤ B.cells.length then some (.agg ((B.cells.drop o).take n)) else none
    | some B, _, some false => B.cells[o]?
    | _, _, _ => none
  | .ep els i o => match els[i]?, szT P t, aggT P t with
    | some d, some n, some true => if o + n ≤ d.cells.length then some (.p (.agg ((d.cells.drop o).take n))) else none
    | some d, _, some false => match d.cells[o]? with | some e => some (.p e) | none => none
    | _, _, _ => none
  | _ => none
theorem isAgg_run {P : Program} {t : TypeId} {b : Bool} (h : aggT P t = some b) (w : World) : (isAgg t).run P w = .ok b w := by
  unfold aggT at h
  cases hu : P.underlying t with
  | none => simp [hu] at h
  | some d =>
    rw [hu] at h
    injection h with h
    unfold isAgg
    rw [Sem.run_bind, run_underlying hu w]
    subst h
    cases d <;> simp
theorem sizeOf_run {P : Program} {t : TypeId} {n : Nat} (h : szT P t = some n) (w : World) : (sizeOf t).run P w = .ok n w := by
  unfold szT at h
  cases hi : P.info? t with
  | none => simp [hi] at h
  | some i => rw [hi] at h; injection h with h; subst h; simp [sizeOf, typeInfo, hi]
theorem loadVar_agg {P : Program} {w : World} {t : TypeId} {n : Nat} (ha : aggT P t = some true) (hn : szT P t = some n) {b o : Nat} {cs : List Value} (hl : cs.length = n) (hc : ∀ (j : Nat) (v : Value), cs[j]? = some v → w.cell? ⟨b, o + j, none⟩ = some v) :
    (loadVar t ⟨b, o, none⟩).run P w = .ok (.agg cs.toArray) w := by
  have h1 : (loadCells ⟨b, o, none⟩ n).run P w = .ok cs.toArray w := by
    rw [← hl]
    exact run_loadCells_list (P := P) w ⟨b, o, none⟩ cs (fun j v hv => by rw [Addr.add_mid]; exact hc j v hv)
  simp [loadVar, isAgg_run ha, sizeOf_run hn, h1]
theorem loadVar_one {P : Program} {w : World} {t : TypeId} (ha : aggT P t = some false) {a : Addr} {v : Value} (hc : w.cell? a = some v) : (loadVar t a).run P w = .ok v w := by
  simp [loadVar, isAgg_run ha, hc]
theorem evLoad_sound {P : Program} {G : Gh} {μ : Mem} {w : World} (hM : MRel G μ w) {t : TypeId} {d e : DV} {x : Value} (hx : CRel G w d x) (h : evLoad P t d μ = some e) :
    ∃ v, (Instr.loadAt t x).run P w = .ok v w ∧ CRel G w e v := by
  cases hx with
  | loc b o g hg =>
    simp only [evLoad] at h
    split at h
    · rename_i B n hB hn ha
      split at h
      · rename_i hle
        injection h with h
        subst h
        obtain ⟨_, vs, h2, h3, h4, _⟩ := hM.box b B g hB hg
        have hl : ((vs.toList.drop o).take n).length = n := by simp only [List.length_take, List.length_drop, Array.length_toList]; omega
        refine ⟨.agg ((vs.toList.drop o).take n).toArray, ?_, ?_⟩
        · simp only [Instr.loadAt, Instr.sureAddr, Sem.run_bind, Sem.run_pure, Result.andThen_ok]
          refine loadVar_agg ha hn hl (fun j v hv => ?_)
          have hj := (List.getElem?_eq_some_iff.1 hv).1
          rw [List.getElem?_take, if_pos (by omega), List.getElem?_drop] at hv
          rw [cell_of_row w g _ vs B.t (0, 0) h2]
          simpa using hv
        · refine .agg _ _ (by simp only [List.size_toArray, hl, List.length_take, List.length_drop]; omega) (fun i d y hd hy => ?_)
          have hi : i < n := by have := (List.getElem?_eq_some_iff.1 hd).1; simp only [List.length_take, List.length_drop] at this; omega
          rw [List.getElem?_take, if_pos hi, List.getElem?_drop] at hd
          simp only [List.getElem?_toArray] at hy
          rw [List.getElem?_take, if_pos hi, List.getElem?_drop] at hy
          exact (h4 _ d y hd (by simpa using hy)).1
      · cases h
    · rename_i B hB ha
      obtain ⟨_, vs, h2, h3, h4, _⟩ := hM.box b B g hB hg
      have ho := (List.getElem?_eq_some_iff.1 h).1
      have hv : vs[o]? = some (vs[o]'(by omega)) := Array.getElem?_eq_getElem _
      refine ⟨vs[o]'(by omega), ?_, (h4 o e _ h hv).1⟩
      simp only [Instr.loadAt, Instr.sureAddr, Sem.run_bind, Sem.run_pure, Result.andThen_ok]
      exact loadVar_one ha (by rw [cell_of_row w g _ vs B.t (0, 0) h2]; exact hv)
    · cases h
  | ep els i o g a c sz hp hi hs =>
    cases hp with
    | sl els A c sz' val hc hm hs' hA hr =>
    simp only [evLoad] at h
    have hez : ∀ d, els[i]? = some d → sz' = sz ∧ d.cells.length = sz := fun d hd => ⟨(hs' d (List.mem_of_getElem? hd)).symm.trans (hs d (List.mem_of_getElem? hd)), hs d (List.mem_of_getElem? hd)⟩
    split at h
    · rename_i d n hd hn ha
      split at h
      · rename_i hle
        injection h with h
        subst h
        obtain ⟨rfl, hdl⟩ := hez d hd
        have hl : ((List.range n).map fun j => val (i * sz' + (o + j))).length = n := by simp
        have hget : ∀ (j : Nat) (v : Value), ((List.range n).map fun j => val (i * sz' + (o + j)))[j]? = some v → j < n ∧ v = val (i * sz' + (o + j)) := by
          intro j v hv
          have hj : j < n := by have := (List.getElem?_eq_some_iff.1 hv).1; simpa using this
          simp only [List.getElem?_map, List.getElem?_range hj, Option.map_some, Option.some.injEq] at hv
          exact ⟨hj, hv.symm⟩
        have hcell : ∀ j, j < n → ∃ e, d.cells[o + j]? = some e ∧ w.cell? ⟨g, a + (i * sz' + (o + j)), none⟩ = some (val (i * sz' + (o + j))) ∧ PRel G.Z w e (val (i * sz' + (o + j))) := by
          intro j hj
          have he : d.cells[o + j]? = some (d.cells[o + j]'(by omega)) := List.getElem?_eq_getElem _
          obtain ⟨g', o', h1, _, h3, _⟩ := hA i (o + j) d _ hd he
          injection h1 with h1
          injection h1 with h1 h1'
          subst h1; subst h1'
          exact ⟨_, he, h3, hr i (o + j) d _ hd he⟩
        refine ⟨.agg ((List.range n).map fun j => val (i * sz' + (o + j))).toArray, ?_, ?_⟩
        · simp only [Instr.loadAt, Instr.sureAddr, Sem.run_bind, Sem.run_pure, Result.andThen_ok]
          refine loadVar_agg ha hn hl (fun j v hv => ?_)
          obtain ⟨hj, rfl⟩ := hget j v hv
          obtain ⟨e, _, h2, _⟩ := hcell j hj
          rw [show a + (i * sz' + o) + j = a + (i * sz' + (o + j)) by omega]
          exact h2
        · refine .p _ _ (.agg _ _ (by simp only [List.size_toArray, hl, List.length_take, List.length_drop]; omega) (fun j q y hq hy => ?_))
          have hj : j < n := by have := (List.getElem?_eq_some_iff.1 hq).1; simp only [List.length_take, List.length_drop] at this; omega
          rw [List.getElem?_take, if_pos hj, List.getElem?_drop] at hq
          simp only [List.getElem?_toArray] at hy
          obtain ⟨_, rfl⟩ := hget j y hy
          obtain ⟨e, h1, _, h3⟩ := hcell j hj
          rw [hq] at h1
          injection h1 with h1
          rw [h1]; exact h3
      · cases h
    · rename_i d hd ha
      split at h
      · rename_i q hq
        injection h with h
        subst h
        obtain ⟨rfl, hdl⟩ := hez d hd
        obtain ⟨g', o', h1, _, h3, _⟩ := hA i o d _ hd hq
        injection h1 with h1
        injection h1 with h1 h1'
        subst h1; subst h1'
        refine ⟨val (i * sz' + o), ?_, .p _ _ (hr i o d _ hd hq)⟩
        simp only [Instr.loadAt, Instr.sureAddr, Sem.run_bind, Sem.run_pure, Result.andThen_ok]
        exact loadVar_one ha h3
      · cases h
    · cases h
  | _ => simp [evLoad] at h

def evFieldAddr (P : Program) (t : TypeId) (d : DV) (f : Nat) : Option DV :=
  match P.underlying t with
  | some (.struct fs) => match fs[f]? with
    | some fl => match szT P fl.type with
      | some (_ + 1) => match d with
        | .loc b o => some (.loc b (o + fl.offset))
        | .ep els i o => some (.ep els i (o + fl.offset))
        | _ => none
      | _ => none
    | none => none
  | _ => none
theorem evFieldAddr_sound {P : Program} {G : Gh} {w : World} {t : TypeId} {d e : DV} {f : Nat} {x : Value} (hx : CRel G w d x) (h : evFieldAddr P t d f = some e) :
    ∃ v, (Instr.fieldAt t x f).run P w = .ok v w ∧ CRel G w e v := by
  unfold evFieldAddr at h
  split at h
  · rename_i fs hu
    split at h
    · rename_i fl hf
      split at h
      · rename_i n hn
        have hz : ¬ (n + 1 = 0) := by omega
        split at h
        · injection h with h; subst h
          cases hx with
          | loc b o g hg =>
          refine ⟨_, ?_, .loc _ _ _ hg⟩
          simp [Instr.fieldAt, run_underlying hu, hf, Instr.sureAddr, fieldPlace, sizeOf_run hn, Addr.add_mid]
        · injection h with h; subst h
          cases hx with
          | ep els i o g a c sz hp hi hs =>
          refine ⟨_, ?_, .ep _ _ _ _ _ _ _ hp hi hs⟩
          simp [Instr.fieldAt, run_underlying hu, hf, Instr.sureAddr, fieldPlace, sizeOf_run hn, Addr.add_mid, Nat.add_assoc]
        · cases h
      · cases h
    · cases h
  · cases h

def evField (P : Program) (t : TypeId) (d : DV) (f : Nat) : Option DV :=
  match P.underlying t with
  | some (.struct fs) => match fs[f]? with
    | some fl => match d with
      | .agg cs => match szT P fl.type, aggT P fl.type with
        | some n, some true => if fl.offset + n ≤ cs.length then some (.agg ((cs.drop fl.offset).take n)) else none
        | _, some false => cs[fl.offset]?
        | _, _ => none
      | .p (.agg cs) => match szT P fl.type, aggT P fl.type with
        | some n, some true => if fl.offset + n ≤ cs.length then some (.p (.agg ((cs.drop fl.offset).take n))) else none
        | _, some false => match cs[fl.offset]? with | some e => some (.p e) | none => none
        | _, _ => none
      | _ => none
    | none => none
  | _ => none
theorem part_agg {P : Program} {w : World} {t : TypeId} {n : Nat} (ha : aggT P t = some true) (hn : szT P t = some n) (cs : Array Value) (off : Nat) : (part t cs off).run P w = .ok (.agg (cs.extract off (off + n))) w := by
  simp [part, isAgg_run ha, sizeOf_run hn]
theorem part_one {P : Program} {w : World} {t : TypeId} (ha : aggT P t = some false) (cs : Array Value) (off : Nat) {v : Value} (h : cs[off]? = some v) : (part t cs off).run P w = .ok v w := by
  simp [part, isAgg_run ha, h]
theorem extract_get (vs : Array Value) (o n i : Nat) (y : Value) (h : (vs.extract o (o + n))[i]? = some y) : i < n ∧ vs[o + i]? = some y := by
  have hi := (Array.getElem?_eq_some_iff.1 h).1
  simp only [Array.size_extract] at hi
  refine ⟨by omega, ?_⟩
  rw [Array.getElem?_extract, if_pos (by omega)] at h
  exact h
theorem evField_sound {P : Program} {G : Gh} {w : World} {t : TypeId} {d e : DV} {f : Nat} {x : Value} (hx : CRel G w d x) (h : evField P t d f = some e) :
    ∃ v, (Instr.field t x f).run P w = .ok v w ∧ CRel G w e v := by
  unfold evField at h
  split at h
  · rename_i fs hu
    split at h
    · rename_i fl hf
      split at h
      · rename_i cs
        cases hx with
        | agg cs vs hl hc =>
        split at h
        · rename_i n hn ha
          split at h
          · rename_i hle
            injection h with h; subst h
            refine ⟨.agg (vs.extract fl.offset (fl.offset + n)), ?_, .agg _ _ (by simp only [Array.size_extract, List.length_take, List.length_drop]; omega) (fun i q y hq hy => ?_)⟩
            · simp [Instr.field, run_underlying hu, hf, asAgg, part_agg ha hn]
            · obtain ⟨hi, hy⟩ := extract_get vs _ _ _ _ hy
              rw [List.getElem?_take, if_pos hi, List.getElem?_drop] at hq
              exact hc _ _ _ hq hy
          · cases h
        · rename_i ha
          have ho := (List.getElem?_eq_some_iff.1 h).1
          have hv : vs[fl.offset]? = some (vs[fl.offset]'(by omega)) := Array.getElem?_eq_getElem _
          exact ⟨_, by simp [Instr.field, run_underlying hu, hf, asAgg, part_one ha vs _ hv], hc _ _ _ h hv⟩
        · cases h
      · rename_i cs
        cases hx with
        | p d x hp =>
        cases hp with
        | agg cs vs hl hc =>
        split at h
        · rename_i n hn ha
          split at h
          · rename_i hle
            injection h with h; subst h
            refine ⟨.agg (vs.extract fl.offset (fl.offset + n)), ?_, .p _ _ (.agg _ _ (by simp only [Array.size_extract, List.length_take, List.length_drop]; omega) (fun i q y hq hy => ?_))⟩
            · simp [Instr.field, run_underlying hu, hf, asAgg, part_agg ha hn]
            · obtain ⟨hi, hy⟩ := extract_get vs _ _ _ _ hy
              rw [List.getElem?_take, if_pos hi, List.getElem?_drop] at hq
              exact hc _ _ _ hq hy
          · cases h
        · rename_i ha
          split at h
          · rename_i q hq
            injection h with h; subst h
            have ho := (List.getElem?_eq_some_iff.1 hq).1
            have hv : vs[fl.offset]? = some (vs[fl.offset]'(by omega)) := Array.getElem?_eq_getElem _
            exact ⟨_, by simp [Instr.field, run_underlying hu, hf, asAgg, part_one ha vs _ hv], .p _ _ (hc _ _ _ hq hv)⟩
          · cases h
        · cases h
      · cases h
    · cases h
  · cases h

def evIndexAddr (P : Program) (t : TypeId) (d : DV) (i : Value) : Option DV :=
  match elT P t, i with
  | some e, .int _ n => match szT P e with
    | some s => match d with
      | .p (.sl els) => match els[n.toNat]? with
        | some q => if 0 ≤ n ∧ q.cells.length = s then some (.ep els n.toNat 0) else none
        | none => none
      | .row _ els => match els[n.toNat]? with
        | some q => if 0 ≤ n ∧ q.cells.length = s then some (.ep els n.toNat 0) else none
        | none => none
      | .bsl b off sz len _ => if 0 ≤ n ∧ n < len ∧ sz = s then some (.loc b (off + n.toNat * sz)) else none
      | _ => none
    | none => none
  | _, _ => none
theorem elT_und {P : Program} {t e : TypeId} (h : elT P t = some e) : P.underlying t = some (.slice e) := by
  unfold elT at h
  split at h
  · rename_i he; injection h with h; subst h; exact he
  · cases h
theorem indexAt_run {P : Program} {w : World} {t e : TypeId} (he : P.underlying t = some (.slice e)) {s : Nat} (hs : szT P e = some s) (g o len c : Nat) (k : IntKind) (n : Int) (h0 : 0 ≤ n) (h1 : n < len) :
    (Instr.indexAt t (.slice (some ⟨g, o, none⟩) len c) (.int k n)).run P w = .ok (.pointer (some ⟨g, o + n.toNat * s, none⟩)) w := by
  simp [Instr.indexAt, asIntOf, run_underlying he, h0, h1, sizeOf_run hs, Addr.add_mid]
theorem ep_of {G : Gh} {w : World} {els : List PD} {x : Value} (hp : PRel G.Z w (.sl els) x) {n : Nat} {q : PD} (hq : els[n]? = some q) {s : Nat} (hqs : q.cells.length = s) (hs0 : 0 < s) :
    ∃ g o c, x = .slice (some ⟨g, o, none⟩) els.length c ∧ CRel G w (.ep els n 0) (.pointer (some ⟨g, o + n * s, none⟩)) := by
  cases hp with
  | sl els A c sz val hc hm hs' hA hr =>
  have hsz : sz = s := (hs' q (List.mem_of_getElem? hq)).symm.trans hqs
  subst hsz
  have he : q.cells[0]? = some (q.cells[0]'(by omega)) := List.getElem?_eq_getElem _
  obtain ⟨g, o, h1, _⟩ := hA n 0 q _ hq he
  subst h1
  exact ⟨g, o, c, rfl, .ep els n 0 g o c sz (.sl els _ c sz val hc hm hs' hA hr) (List.getElem?_eq_some_iff.1 hq).1 hs'⟩
theorem evIndexAddr_sound {P : Program} {G : Gh} {w : World} {t : TypeId} {d e : DV} {i x : Value} (hx : CRel G w d x) (h : evIndexAddr P t d i = some e) (hpos : ∀ t', elT P t = some t' → ∃ s, szT P t' = some (s + 1)) :
    ∃ v, (Instr.indexAt t x i).run P w = .ok v w ∧ CRel G w e v := by
  unfold evIndexAddr at h
  split at h
  · rename_i t' k n ht
    obtain ⟨s0, hs0⟩ := hpos t' ht
    split at h
    · rename_i s hs
      rw [hs0] at hs
      injection hs with hs
      have hu := elT_und ht
      have fin : ∀ els, PRel G.Z w (.sl els) x → (∃ q, els[n.toNat]? = some q ∧ (0 ≤ n ∧ q.cells.length = s) ∧ e = .ep els n.toNat 0) → ∃ v, (Instr.indexAt t x (.int k n)).run P w = .ok v w ∧ CRel G w e v := by
        rintro els hp ⟨q, hq, ⟨h0, hql⟩, rfl⟩
        obtain ⟨g, o, c, rfl, hc⟩ := ep_of hp hq hql (by omega)
        have hlt := (List.getElem?_eq_some_iff.1 hq).1
        refine ⟨_, indexAt_run hu (by rw [hs0, hs]) g o els.length c k n h0 (by omega), ?_⟩
        exact hc
      split at h
      · cases hx with
        | p d x hp =>
        split at h
        · rename_i q hq
          split at h
          · rename_i hc; injection h with h; exact fin _ hp ⟨q, hq, hc, h.symm⟩
          · cases h
        · cases h
      · cases hx with
        | row t1 els x y m hp _ _ _ =>
        split at h
        · rename_i q hq
          split at h
          · rename_i hc; injection h with h; exact fin _ hp ⟨q, hq, hc, h.symm⟩
          · cases h
        · cases h
      · cases hx with
        | bsl b off sz len cap g hg hc hm =>
        split at h
        · rename_i hcnd
          injection h with h; subst h
          obtain ⟨h0, h1, h2⟩ := hcnd
          subst h2
          exact ⟨_, indexAt_run hu (by rw [hs0, hs]) g _ _ _ k n h0 h1, .loc _ _ _ hg⟩
        · cases h
      · cases h
    · cases h
  · cases h

def natOf (d : DV) : Option Nat := match d with
  | .p (.v (.int _ n)) => if 0 ≤ n then some n.toNat else none
  | _ => none
/-- a bound of a slice -/
def bnd (n : Nat) : Option DV → Option Nat
  | none => some n
  | some d => natOf d
/-- a slice of a slice, of a string (the third bound: of none at all) -/
def evSlice (P : Program) (t : TypeId) (x : DV) (lo hi mx : Option DV) : Option DV :=
  match bnd 0 lo, mx with
  | some l, none => match x with
    | .p (.v (.string s)) => match P.underlying t, bnd s.size hi with
      | some .string, some h => if l ≤ h ∧ h ≤ s.size then some (.p (.v (.string (s.extract l h)))) else none
      | _, _ => none
    | .p (.sl els) => match elT P t, bnd els.length hi with
      | some e, some h => if l ≤ h ∧ h ≤ els.length ∧ (∀ d ∈ els, some d.cells.length = szT P e) then some (.p (.sl ((els.drop l).take (h - l)))) else none
      | _, _ => none
    | .row _ els => match elT P t, bnd els.length hi with
      | some e, some h => if l ≤ h ∧ h ≤ els.length ∧ (∀ d ∈ els, some d.cells.length = szT P e) then some (.p (.sl ((els.drop l).take (h - l)))) else none
      | _, _ => none
    | .bsl b off sz len cap => match elT P t, bnd len hi with
      | some e, some h => if l ≤ h ∧ h ≤ len ∧ l < cap ∧ szT P e = some sz then some (.bsl b (off + l * sz) sz (h - l) (cap - l)) else none
      | _, _ => none
    | _ => none
  | some 0, some m => match elT P t, hi, natOf m with
    | some _, some h, some 0 => match natOf h, x with
      | some 0, .p (.sl _) => some .cut0
      | some 0, .row _ _ => some .cut0
      | some 0, .bsl _ _ _ _ _ => some .cut0
      | _, _ => none
    | _, _, _ => none
  | _, _ => none
end Go.Proofs.YtikfefjaeejeeaaGreatDoor
