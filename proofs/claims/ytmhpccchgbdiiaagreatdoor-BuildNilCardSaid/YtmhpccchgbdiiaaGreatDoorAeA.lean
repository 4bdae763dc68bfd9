/- The abstract machine, 10: calls. -/
import Derived.Test.YtmhpccchgbdiiaaGreatDoorAe9
namespace Go.Proofs.YtmhpccchgbdiiaaGreatDoor
open Go.RowKit

section
variable {ro : Option Nat} {P : Program} {ops : Array Oper} {Q : AX → St → Prop} {s : St}
theorem args_rel {G : Gh} {a : Act} {w : World} (hs : SRel G s a w) (cargs : Array Operand) (caps : List DV) (vs : Array Value) (hl : vs.size = caps.length) (hv : ∀ (i : Nat) (d : DV) (x : Value), caps[i]? = some d → vs[i]? = some x → CRel G w d x) :
    (cargs.map a.eval ++ vs).size = (cargs.toList.map s.ev ++ caps).length ∧ ∀ (i : Nat) (d : DV) (x : Value), (cargs.toList.map s.ev ++ caps)[i]? = some d → (cargs.map a.eval ++ vs)[i]? = some x → CRel G w d x := by
  refine ⟨by simp [hl], fun i d x hd hx => ?_⟩
  rcases Nat.lt_or_ge i cargs.size with hi | hi
  · rw [List.getElem?_append_left (by simpa using hi)] at hd
    rw [Array.getElem?_append_left (by simpa using hi)] at hx
    simp only [List.getElem?_map, Option.map_eq_some_iff, Array.getElem?_toList] at hd
    simp only [Array.getElem?_map, Option.map_eq_some_iff] at hx
    obtain ⟨p, hp, rfl⟩ := hd
    obtain ⟨q, hq, rfl⟩ := hx
    rw [hp] at hq
    injection hq with hq
    subst hq
    exact hs.ev _
  · rw [List.getElem?_append_right (by simpa using hi)] at hd
    rw [Array.getElem?_append_right (by simpa using hi)] at hx
    exact hv _ d x (by simpa using hd) (by simpa using hx)
/-- a function value: the function, what it has captured -/
def fnOf : DV → Option (FuncId × List DV)
  | .fn f caps => some (f, caps)
  | .p (.v (.func (.func f) first caps)) => if first.size = 0 ∧ caps.size = 0 then some (f, []) else none
  | _ => none
theorem fn_val {G : Gh} {a : Act} {w : World} (hs : SRel G s a w) {co : Operand} {f : FuncId} {caps : List DV} (hc : fnOf (s.ev co) = some (f, caps)) : ∃ vs, a.eval co = .func (.func f) #[] vs ∧ vs.size = caps.length ∧ ∀ (i : Nat) (d : DV) (x : Value), caps[i]? = some d → vs[i]? = some x → CRel G w d x := by
  have h := hs.ev co
  generalize s.ev co = dv at hc h
  generalize a.eval co = v at h ⊢
  unfold fnOf at hc
  split at hc
  · injection hc with hc; injection hc with h1 h2; subst h1; subst h2
    cases h with
    | fn f cs vs hl hv => exact ⟨vs, rfl, hl, hv⟩
  · rename_i f' first caps'
    split at hc
    · rename_i hz
      injection hc with hc; injection hc with h1 h2; subst h1; subst h2
      cases h with
      | p d x hp =>
        cases hp
        rw [Array.size_eq_zero_iff.1 hz.1, Array.size_eq_zero_iff.1 hz.2]
        exact ⟨#[], rfl, rfl, fun i d x hd => by simp at hd⟩
    · cases hc
  · cases hc

/-- behind a call -/
def Goes (ro : Option Nat) (P : Program) (ops : Array Oper) (o : Oper) (r : List Oper) (Q : AX → St → Prop) (s : St) (μ1 : Mem) : AEnd → Prop
  | .ret v => AList ro P ops r Q ⟨putT s.tmps o.dst (.p v), μ1⟩
  | .panic v => Q (.panic (.p v)) ⟨s.tmps, μ1⟩
theorem alist_call {o : Oper} {r : List Oper} {co : Operand} {cargs : Array Operand} {cts : Array TypeId} (ho : o.op = .call { callee := .value co, args := cargs, argTypes := cts }) {f : FuncId} {caps : List DV} (hw : wantA ops o s = some true)
    (hc : fnOf (s.ev co) = some (f, caps)) {k : Nat} {pargs : List PD} {μ1 : Mem} (hf : frzL k s.μ (cargs.toList.map s.ev ++ caps) = some (pargs, μ1)) {e : AEnd} (hp : Pure P f pargs e) (hk : Goes ro P ops o r Q s μ1 e) : AList ro P ops (o :: r) Q s := by
  intro G a w hs
  unfold wpListIn
  rw [if_pos (wantA_sound hw hs)]
  obtain ⟨⟨fn, c, hcl⟩, hp⟩ := hp
  obtain ⟨vs, hv1, hv2, hv3⟩ := fn_val hs hc
  obtain ⟨ha1, ha2⟩ := args_rel hs cargs caps vs hv2 hv3
  obtain ⟨G1, m1, m2, _, m4, m5⟩ := (frz_sound k).2 _ _ _ _ hf G w (cargs.map a.eval ++ vs).toList hs.mem (by simpa using ha1) (fun i d x hd hx => ha2 i d x hd (by rw [Array.getElem?_toList] at hx; exact hx))
  have hrun := execOp_call (P := P) (w := w) ho hv1 hcl
  rw [Array.empty_append] at hrun
  refine opw_enter (fun c hdf => by rw [ho] at hdf; cases hdf) hrun (hp G1.Z w _ (m1.lw.below m1.bel m1.hb) m1.zlt ⟨by rw [m4]; simpa using ha1, fun i d x hd hx => m5 i d x hd (by rw [Array.getElem?_toList]; exact hx)⟩) ?_
  rintro e1 w1 he
  cases e with
  | ret v =>
    cases e1 with
    | returned x =>
      obtain ⟨h1, h2⟩ := he
      have hl : Grw G w (G1.grown w w1) w1 := m2.trans (Grw.below m1.zlt h2)
      exact wpList_mono (fun _ _ _ => Post.back hl) _ _ _ (hk (G1.grown w w1) _ w1 (hs.put hl o.dst (.p _ _ h1) (m1.below h2)))
    | panicked ch => exact he.elim
    | outgrown => exact he.elim
  | panic v =>
    cases e1 with
    | returned x => exact he.elim
    | panicked ch =>
      obtain ⟨⟨y, rfl, h1⟩, h2⟩ := he
      have hl : Grw G w (G1.grown w w1) w1 := m2.trans (Grw.below m1.zlt h2)
      exact ⟨.panic (.p v), ⟨s.tmps, μ1⟩, G1.grown w w1, ⟨y, rfl, .p _ _ h1⟩, hk, ⟨hs.size, fun i d x hd hx => (hs.tmp i d x hd hx).grw hl, hs.defers.trans hl.df.symm, m1.below h2⟩, hl⟩
    | outgrown => exact he.elim

/-- what a closure's code comes to, in the memory of its maker -/
def InPost (ro : Option Nat) (P : Program) (ops : Array Oper) (o : Oper) (r : List Oper) (Q : AX → St → Prop) (s : St) (rs : List ResultVar) : AX → St → Prop := fun x s' => match x with
  | .norm | .ret => ∃ l, resA P s' rs = some l ∧ AList ro P ops r Q ⟨putT s.tmps o.dst (oneOrTup l), s'.μ⟩
  | .panic d => Q (.panic d) ⟨s.tmps, s'.μ⟩
  | _ => False
theorem alist_inline {o : Oper} {r : List Oper} {co : Operand} {cargs : Array Operand} {cts : Array TypeId} (ho : o.op = .call { callee := .value co, args := cargs, argTypes := cts }) {f : FuncId} {caps : List DV} (hw : wantA ops o s = some true)
    (hc : fnOf (s.ev co) = some (f, caps)) {fn : Func} {c : Code} (hcl : Callable P f fn c) {n : Nat} (hn : fn.ntmps = n) {rs : List ResultVar} (hrs : fn.results.toList = rs)
    (h : AWP none P c (InPost ro P ops o r Q s rs) ⟨(cargs.toList.map s.ev ++ caps) ++ List.replicate (n - (cargs.toList.map s.ev ++ caps).length) .undef, s.μ⟩) : AList ro P ops (o :: r) Q s := by
  intro G a w hs
  subst hn
  subst hrs
  unfold wpListIn
  rw [if_pos (wantA_sound hw hs)]
  obtain ⟨vs, hv1, hv2, hv3⟩ := fn_val hs hc
  obtain ⟨ha1, ha2⟩ := args_rel hs cargs caps vs hv2 hv3
  have hrun := execOp_call (P := P) (w := w) ho hv1 hcl
  rw [Array.empty_append] at hrun
  have hs1 : SRel (G.dfr []) ⟨(cargs.toList.map s.ev ++ caps) ++ List.replicate (fn.ntmps - (cargs.toList.map s.ev ++ caps).length) .undef, s.μ⟩ { tmps := (cargs.map a.eval ++ vs) ++ Array.replicate (fn.ntmps - (cargs.map a.eval ++ vs).size) undef, defers := [] } w := by
    refine ⟨by rw [Array.size_append, List.length_append, ha1]; simp, fun i d x hd hx => ?_, rfl, hs.mem.dfr []⟩
    rcases Nat.lt_or_ge i (cargs.toList.map s.ev ++ caps).length with hi | hi
    · simp only at hd hx
      rw [List.getElem?_append_left hi] at hd
      rw [Array.getElem?_append_left (by rw [ha1]; exact hi)] at hx
      exact (ha2 i d x hd hx).dfr []
    · simp only at hd
      rw [List.getElem?_append_right hi, List.getElem?_replicate] at hd
      split at hd
      · injection hd with hd; subst hd; exact .undef _
      · cases hd
  refine opw_enter (fun c hdf => by rw [ho] at hdf; cases hdf) hrun (calls_of_wp (R := fun e w'' => match e with
    | .returned v => ∃ (l : List DV) (s' : St) (G' : Gh), resA P s' fn.results.toList = some l ∧ CRel G' w'' (oneOrTup l) v ∧ MRel G' s'.μ w'' ∧ Grw G w G' w'' ∧ AList ro P ops r Q ⟨putT s.tmps o.dst (oneOrTup l), s'.μ⟩
    | .panicked ch => ∃ (d : DV) (s' : St) (G' : Gh) (v : Value), ch = [{ v, recovered := false }] ∧ CRel G' w'' d v ∧ MRel G' s'.μ w'' ∧ Grw G w G' w'' ∧ Q (.panic d) ⟨s.tmps, s'.μ⟩
    | .outgrown => False) hcl.at_ hcl.body (wp_mono (wpIn_wide.1 (h (G.dfr []) _ w hs1)) ?_)) ?_
  · rintro e a' w' ⟨x, s', G', h1, h2, h3, h4⟩
    cases x <;> cases e <;> first
      | (exact h1.elim; done)
      | (exact h2.elim; done)
      | skip
    · obtain ⟨l, k1, k2⟩ := h2
      obtain ⟨y, q1, q2⟩ := results_run h3 k1
      exact ⟨h3.defers.trans h4.df, y, q1, l, s', G'.dfr G.df, k1, q2.dfr _, h3.mem.dfr _, h4.back, k2⟩
    · obtain ⟨l, k1, k2⟩ := h2
      obtain ⟨y, q1, q2⟩ := results_run h3 k1
      exact ⟨h3.defers.trans h4.df, y, q1, l, s', G'.dfr G.df, k1, q2.dfr _, h3.mem.dfr _, h4.back, k2⟩
    · obtain ⟨y, rfl, hy⟩ := h1
      exact ⟨h3.defers.trans h4.df, _, s', G'.dfr G.df, y, rfl, hy.dfr _, h3.mem.dfr _, h4.back, h2⟩
  · intro e w'' he
    cases e with
    | returned v =>
      obtain ⟨l, s', G', _, k2, k3, k4, k5⟩ := he
      exact wpList_mono (fun _ _ _ => Post.back k4) _ _ _ (k5 G' _ w'' (hs.put k4 o.dst k2 k3))
    | panicked ch =>
      obtain ⟨d, s', G', v, rfl, k2, k3, k4, k5⟩ := he
      exact ⟨.panic d, ⟨s.tmps, s'.μ⟩, G', ⟨v, rfl, k2⟩, k5, ⟨hs.size, fun i d x hd hx => (hs.tmp i d x hd hx).grw k4, hs.defers.trans k4.df.symm, k3⟩, k4⟩
    | outgrown => exact he.elim
/-- a panic -/
theorem alist_panic {o : Oper} {r : List Oper} {x : Operand} (ho : o.op = .panic x) (hw : wantA ops o s = some true) {t : TypeId} {v : Value} (hx : s.ev x = .p (.v (.iface t v))) (hk : Q (.panic (.p (.v (.iface t v)))) s) : AList ro P ops (o :: r) Q s := by
  intro G a w hs
  unfold wpListIn
  rw [if_pos (wantA_sound hw hs)]
  have h1 := hs.ev x
  rw [hx] at h1
  have h2 : a.eval x = .iface t v := by
    generalize a.eval x = y at h1 ⊢
    cases h1 with
    | p d y hp => cases hp; rfl
  refine ⟨fun _ _ => trivial, ?_⟩
  rw [Oper.semAt_plain (FF ro) _ _ (fun c hdf => by rw [ho] at hdf; cases hdf)]
  unfold execOp
  simp only [ho, h2, Instr.panic, Sem.run_bind, run_goPanic]
  exact ⟨.panic (.p (.v (.iface t v))), s, G, ⟨_, rfl, .p _ _ (.v _)⟩, hk, hs, Grw.refl G w⟩

theorem next_norm {K : St → Prop} {s : St} (h : K s) : AX.next K Q .norm s := h
theorem next_exit {K : St → Prop} {s : St} {i : Nat} (h : Q (.exit i) s) : AX.next K Q (.exit i) s := h
theorem next_goto {K : St → Prop} {s : St} {i : Nat} (h : Q (.goto i) s) : AX.next K Q (.goto i) s := h
theorem next_ret {K : St → Prop} {s : St} (h : Q .ret s) : AX.next K Q .ret s := h
theorem next_panic {K : St → Prop} {s : St} {d : DV} (h : Q (.panic d) s) : AX.next K Q (.panic d) s := h
theorem blk_norm {id : Nat} {s : St} (h : Q .norm s) : AX.blk id Q .norm s := h
theorem blk_exit {id : Nat} {s : St} (h : Q .norm s) : AX.blk id Q (.exit id) s := by simp only [AX.blk, if_true]; exact h
theorem blk_out {id i : Nat} {s : St} (hi : (i == id) = false) (h : Q (.exit i) s) : AX.blk id Q (.exit i) s := by
  simp only [AX.blk]; rw [if_neg (by simpa using hi)]; exact h
theorem blk_ret {id : Nat} {s : St} (h : Q .ret s) : AX.blk id Q .ret s := h
theorem blk_panic {id : Nat} {s : St} {d : DV} (h : Q (.panic d) s) : AX.blk id Q (.panic d) s := h
theorem inpost_ret {o : Oper} {r : List Oper} {rs : List ResultVar} {s' : St} {l : List DV} (h1 : resA P s' rs = some l) (h2 : AList ro P ops r Q ⟨putT s.tmps o.dst (oneOrTup l), s'.μ⟩) : InPost ro P ops o r Q s rs .ret s' := ⟨l, h1, h2⟩
theorem inpost_norm {o : Oper} {r : List Oper} {rs : List ResultVar} {s' : St} {l : List DV} (h1 : resA P s' rs = some l) (h2 : AList ro P ops r Q ⟨putT s.tmps o.dst (oneOrTup l), s'.μ⟩) : InPost ro P ops o r Q s rs .norm s' := ⟨l, h1, h2⟩
theorem goes_ret {o : Oper} {r : List Oper} {μ1 : Mem} {v : PD} (h : AList ro P ops r Q ⟨putT s.tmps o.dst (.p v), μ1⟩) : Goes ro P ops o r Q s μ1 (.ret v) := h
theorem goes_panic {o : Oper} {r : List Oper} {μ1 : Mem} {v : PD} (h : Q (.panic (.p v)) ⟨s.tmps, μ1⟩) : Goes ro P ops o r Q s μ1 (.panic v) := h
end
end Go.Proofs.YtmhpccchgbdiiaaGreatDoor
