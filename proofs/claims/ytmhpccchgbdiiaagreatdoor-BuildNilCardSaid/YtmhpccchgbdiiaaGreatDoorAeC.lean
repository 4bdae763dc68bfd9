/- The abstract machine, 12: code as a function; the rules that the walks use ('go_sem'). -/
import Derived.Test.YtmhpccchgbdiiaaGreatDoorAeB
namespace Go.Proofs.YtmhpccchgbdiiaaGreatDoor
open Go.RowKit

/-- a list of operations, as far as it goes without a call -/
def runQ (ro : Option Nat) (P : Program) (ops : Array Oper) (Q : AX → St → Prop) : List Oper → St → Prop
  | [], s => Q .norm s
  | o :: r, s => match wantA ops o s with
    | none => AList ro P ops (o :: r) Q s
    | some b => if b = true then (match evOp P o s with
        | some (d, μ') => runQ ro P ops Q r ⟨putT s.tmps o.dst d, μ'⟩
        | none => AList ro P ops (o :: r) Q s)
      else runQ ro P ops Q r ⟨putT s.tmps o.dst (.p (.v (.tuple #[]))), s.μ⟩
theorem alist_q {ro : Option Nat} {P : Program} {ops : Array Oper} {Q : AX → St → Prop} : ∀ {l : List Oper} {s : St}, runQ ro P ops Q l s → AList ro P ops l Q s := by
  intro l
  induction l with
  | nil => intro s h; exact alist_nil h
  | cons o r ih =>
    intro s h
    unfold runQ at h
    split at h
    · exact h
    · rename_i b hb
      cases b with
      | true =>
        simp only [if_true] at h
        split at h
        · rename_i d μ' he
          exact alist_gives (evOp_nodefer he) hb (fun G a w hs => evOp_sound he hs) (ih h)
        · exact h
      | false =>
        simp only [Bool.false_eq_true, if_false] at h
        exact alist_skip hb (ih h)
/-- code, as far as it goes without loops and calls -/
def W (ro : Option Nat) (P : Program) : Code → (AX → St → Prop) → St → Prop
  | .skip, Q, s => Q .norm s
  | .region id ops d, Q, s => if d = true then AWP ro P (.region id ops true) Q s else runQ ro P ops Q ops.toList s
  | .seq a b, Q, s => W ro P a (AX.next (W ro P b Q) Q) s
  | .cond c x y, Q, s => match s.ev c with
    | .p (.v (.bool t)) => if t = true then W ro P x Q s else W ro P y Q s
    | _ => AWP ro P (.cond c x y) Q s
  | .block id c, Q, s => W ro P c (AX.blk id Q) s
  | .exit id, Q, s => Q (.exit id) s
  | .scope c, Q, s => W ro P c (AX.noGo Q) s
  | .label _, Q, s => Q .norm s
  | .goto l, Q, s => Q (.goto l) s
  | .ret, Q, s => Q .ret s
  | .loop c, Q, s => AWP ro P (.loop c) Q s
  | .rangeFunc f ps a b, Q, s => AWP ro P (.rangeFunc f ps a b) Q s
  | .refuse r, Q, s => AWP ro P (.refuse r) Q s
theorem awp_w {ro : Option Nat} {P : Program} : ∀ {c : Code} {Q : AX → St → Prop} {s : St}, W ro P c Q s → AWP ro P c Q s := by
  intro c
  induction c with
  | skip => intro Q s h; exact awp_skip h
  | region id ops d =>
    intro Q s h
    simp only [W] at h
    cases d with
    | true => simpa using h
    | false =>
      simp only [Bool.false_eq_true, if_false] at h
      have := awp_region (ro := ro) (id := id) (l := ops.toList) (P := P) (Q := Q) (s := s) (by simpa using alist_q h)
      simpa using this
  | seq a b iha ihb => intro Q s h; exact awp_seq (awp_mono (iha h) fun x s hx => by cases x <;> first | exact ihb hx | exact hx)
  | cond c x y ihx ihy =>
    intro Q s h
    simp only [W] at h
    split at h
    · rename_i t ht
      refine awp_cond ht (fun h1 => ?_) (fun h1 => ?_)
      · rw [if_pos h1] at h; exact ihx h
      · rw [if_neg (by rw [h1]; simp)] at h; exact ihy h
    · exact h
  | block id c ih => intro Q s h; exact awp_block (ih h)
  | exit id => intro Q s h; exact awp_exit h
  | scope c ih => intro Q s h; exact awp_scope (ih h)
  | label l => intro Q s h; exact awp_label h
  | goto l => intro Q s h; exact awp_goto h
  | ret => intro Q s h; exact awp_ret h
  | loop c ih => intro Q s h; exact h
  | rangeFunc f ps a b => intro Q s h; exact h
  | refuse r => intro Q s h; exact h

attribute [go_sem] wantA evOp evOp.keep St.ev getT putT setT DV.ofV evPick evLoad evFieldAddr evField evIndexAddr natOf bnd evSlice evAlloc evBox evStore fillA evBuild placesA evBuildSlice evMake evAppend evBinD evBinD.evEqOp evEq eqBool isNilSl eqNilSl isConstOp eqIf eqPtr evBin evUn evConv evIface evNil evIndex evExtract evLen evMax evLookup evMapUpdate evRange evNext keyB plainV vOut fnOf cellsV allOne frz frzL frzP Value.cells Value.oneCell' DV.cells DV.one DV.okc PD.cells PD.single chunk oneOrTup mkT mkS St.keep maskT resA
attribute [go_sem] List.size_toArray List.map_cons List.map_nil List.all_cons List.all_nil List.length_cons List.length_nil List.length_append List.cons_append List.nil_append List.append_nil List.append_assoc List.getElem?_cons_zero List.getElem?_cons_succ List.getElem?_nil List.drop_zero List.drop_succ_cons List.drop_nil List.take_zero List.take_succ_cons List.take_nil List.replicate_succ List.replicate_zero List.set_cons_zero List.set_cons_succ List.getElem?_toArray Option.bind_some Option.map_some Option.map_none cond_true cond_false if_true if_false and_true true_and and_self not_true_eq_false not_false_eq_true Nat.le_refl Nat.add_zero Nat.zero_add Nat.zero_le Int.toNat_natCast Int.natCast_nonneg Bool.and_true Bool.true_and Bool.and_self Bool.not_true Bool.not_false beq_self_eq_true decide_true decide_false List.range_zero List.range_succ List.elem_cons List.elem_nil Bool.false_eq_true nums_length
section
variable {ro : Option Nat} {P : Program} {ops : Array Oper} {Q : AX → St → Prop} {s : St}
@[go_sem ↓] theorem w_skip : W ro P .skip Q s = Q .norm s := rfl
@[go_sem ↓] theorem w_region (id : Nat) (l : List Oper) : W ro P (.region id l.toArray false) Q s = runQ ro P l.toArray Q l s := by simp [W]
@[go_sem ↓] theorem w_draw (id : Nat) : W ro P (.region id ops true) Q s = AWP ro P (.region id ops true) Q s := by simp [W]
@[go_sem ↓] theorem w_seq (a b : Code) : W ro P (.seq a b) Q s = W ro P a (AX.next (W ro P b Q) Q) s := rfl
def condQ (ro : Option Nat) (P : Program) (c : Operand) (x y : Code) (Q : AX → St → Prop) (s : St) : DV → Prop
  | .p (.v (.bool t)) => if t = true then W ro P x Q s else W ro P y Q s
  | _ => AWP ro P (.cond c x y) Q s
@[go_sem ↓] theorem w_cond (c : Operand) (x y : Code) : W ro P (.cond c x y) Q s = condQ ro P c x y Q s (s.ev c) := by
  simp only [W]
  cases h : s.ev c with
  | p d => cases d with
    | v x => cases x <;> rfl
    | _ => rfl
  | _ => rfl
@[go_sem] theorem c_bool (c : Operand) (x y : Code) (t : Bool) : condQ ro P c x y Q s (.p (.v (.bool t))) = (if t = true then W ro P x Q s else W ro P y Q s) := rfl
@[go_sem ↓] theorem w_block (id : Nat) (c : Code) : W ro P (.block id c) Q s = W ro P c (AX.blk id Q) s := rfl
@[go_sem ↓] theorem w_exit (id : Nat) : W ro P (.exit id) Q s = Q (.exit id) s := rfl
@[go_sem ↓] theorem w_scope (c : Code) : W ro P (.scope c) Q s = W ro P c (AX.noGo Q) s := rfl
@[go_sem ↓] theorem w_label (l : Nat) : W ro P (.label l) Q s = Q .norm s := rfl
@[go_sem ↓] theorem w_goto (l : Nat) : W ro P (.goto l) Q s = Q (.goto l) s := rfl
@[go_sem ↓] theorem w_ret : W ro P .ret Q s = Q .ret s := rfl
@[go_sem ↓] theorem w_loop (c : Code) : W ro P (.loop c) Q s = AWP ro P (.loop c) Q s := rfl
@[go_sem ↓] theorem w_rangeFunc (f : Operand) (ps : Array Tmp) (a b : Code) : W ro P (.rangeFunc f ps a b) Q s = AWP ro P (.rangeFunc f ps a b) Q s := rfl
@[go_sem ↓] theorem q_nil : runQ ro P ops Q [] s = Q .norm s := rfl
def contQ (ro : Option Nat) (P : Program) (ops : Array Oper) (Q : AX → St → Prop) (o : Oper) (r : List Oper) (s : St) : Option (DV × Mem) → Prop
  | some (d, μ') => runQ ro P ops Q r ⟨putT s.tmps o.dst d, μ'⟩
  | none => AList ro P ops (o :: r) Q s
def stepQ (ro : Option Nat) (P : Program) (ops : Array Oper) (Q : AX → St → Prop) (o : Oper) (r : List Oper) (s : St) : Option Bool → Prop
  | some b => if b = true then contQ ro P ops Q o r s (evOp P o s) else runQ ro P ops Q r ⟨putT s.tmps o.dst (.p (.v (.tuple #[]))), s.μ⟩
  | none => AList ro P ops (o :: r) Q s
@[go_sem ↓] theorem q_cons (o : Oper) (r : List Oper) : runQ ro P ops Q (o :: r) s = stepQ ro P ops Q o r s (wantA ops o s) := by
  simp only [runQ]
  cases wantA ops o s with
  | none => rfl
  | some b =>
    simp only [stepQ]
    cases evOp P o s with
    | none => rfl
    | some p => rfl
@[go_sem] theorem st_some (o : Oper) (r : List Oper) (b : Bool) : stepQ ro P ops Q o r s (some b) = (if b = true then contQ ro P ops Q o r s (evOp P o s) else runQ ro P ops Q r ⟨putT s.tmps o.dst (.p (.v (.tuple #[]))), s.μ⟩) := rfl
@[go_sem] theorem st_none (o : Oper) (r : List Oper) : stepQ ro P ops Q o r s none = AList ro P ops (o :: r) Q s := rfl
@[go_sem] theorem ct_some (o : Oper) (r : List Oper) (d : DV) (μ' : Mem) : contQ ro P ops Q o r s (some (d, μ')) = runQ ro P ops Q r ⟨putT s.tmps o.dst d, μ'⟩ := rfl
@[go_sem] theorem ct_none (o : Oper) (r : List Oper) : contQ ro P ops Q o r s none = AList ro P ops (o :: r) Q s := rfl
@[go_sem ↓] theorem nx_norm (K : St → Prop) : AX.next K Q .norm s = K s := rfl
@[go_sem ↓] theorem nx_exit (K : St → Prop) (i : Nat) : AX.next K Q (.exit i) s = Q (.exit i) s := rfl
@[go_sem ↓] theorem nx_goto (K : St → Prop) (i : Nat) : AX.next K Q (.goto i) s = Q (.goto i) s := rfl
@[go_sem ↓] theorem nx_ret (K : St → Prop) : AX.next K Q .ret s = Q .ret s := rfl
@[go_sem ↓] theorem nx_panic (K : St → Prop) (d : DV) : AX.next K Q (.panic d) s = Q (.panic d) s := rfl
@[go_sem ↓] theorem bk_norm (i : Nat) : AX.blk i Q .norm s = Q .norm s := rfl
@[go_sem ↓] theorem bk_exit (i j : Nat) : AX.blk i Q (.exit j) s = (if j = i then Q .norm s else Q (.exit j) s) := rfl
@[go_sem ↓] theorem bk_goto (i j : Nat) : AX.blk i Q (.goto j) s = Q (.goto j) s := rfl
@[go_sem ↓] theorem bk_ret (i : Nat) : AX.blk i Q .ret s = Q .ret s := rfl
@[go_sem ↓] theorem bk_panic (i : Nat) (d : DV) : AX.blk i Q (.panic d) s = Q (.panic d) s := rfl
@[go_sem ↓] theorem ng_norm : AX.noGo Q .norm s = Q .norm s := rfl
@[go_sem ↓] theorem ng_exit (i : Nat) : AX.noGo Q (.exit i) s = Q (.exit i) s := rfl
@[go_sem ↓] theorem ng_ret : AX.noGo Q .ret s = Q .ret s := rfl
@[go_sem ↓] theorem ng_panic (d : DV) : AX.noGo Q (.panic d) s = Q (.panic d) s := rfl
end
end Go.Proofs.YtmhpccchgbdiiaaGreatDoor
