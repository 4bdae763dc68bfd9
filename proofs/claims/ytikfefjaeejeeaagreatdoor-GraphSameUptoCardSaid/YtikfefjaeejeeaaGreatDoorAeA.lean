/- The abstract machine, 10: calls. -/
import Derived.Test.YtikfefjaeejeeaaGreatDoorAe9
import Derived.Scope
namespace Go.Proofs.YtikfefjaeejeeaaGreatDoor
open Go.RowKit

section
variable {ro : Option Nat} {P : Program} {ops : Array Oper} {Q : AX → St → Prop} {s : St}
theorem args_rel {G : Gh} {a : Act} {w : World} (hs : SRel G s a w) (cargs : Array Operand) (caps : List DV) (vs : Array Value) (hl : vs.size = caps.length) (hv : ∀ (i : Nat) (d : DV) (x : Value), caps[i]? = some d → vs[i]? = some x → CRel G w d x) :
    (cargs.map a.eval ++ vs).size = (cargs.toList.map s.ev ++ caps).length ∧ ∀ (i : Nat) (d : DV) (x : Value), (cargs.toList.map s.ev ++ caps)[i]? = some d → (cargs.map a.eval ++ vs)[i]? = some x → CRel G w d x := by
  refine ⟨by simp [hl], fun i d x hd hx => ?_⟩
  rcases Nat.lt_or_ge i cargs.size with hi | hi
  · rw [List.getElem?_append_left (by simpa using hi)] at hd
    rw [Array.getElem?_append_left (by simpa using hi)] at hx
    simp only [List.getElem?_map, Option.map_eq_some_iff, Array.getElem?_toList] at hd
    simp only [Array.getElem?_map, Option.map_eq_some_iff] at hx
    obtain ⟨p, hp, rfl⟩ := hd
    obtain ⟨q, hq, rfl⟩ := hx
    rw [hp] at hq
    injection hq with hq
    subst hq
    exact hs.ev _
  · rw [List.getElem?_append_right (by simpa using hi)] at hd
    rw [Array.getElem?_append_right (by simpa using hi)] at hx
    exact hv _ d x (by simpa using hd) (by simpa using hx)
/-- a function value: the function, what it has captured -/
def fnOf : DV → Option (FuncId × List DV)
  | .fn f caps => some (f, caps)
  | .p (.v (.func (.func f) first caps)) => if first.size = 0 ∧ caps.size = 0 then some (f, []) else none
  | _ => none
theorem fn_val {G : Gh} {a : Act} {w : World} (hs : SRel G s a w) {co : Operand} {f : FuncId} {caps : List DV} (hc : fnOf (s.ev co) = some (f, caps)) : ∃ vs, a.eval co = .func (.func f) #[] vs ∧ vs.size = caps.length ∧ ∀ (i : Nat) (d : DV) (x : Value), caps[i]? = some d → vs[i]? = some x → CRel G w d x := by
  have h := hs.ev co
  generalize s.ev co = dv at hc h
  generalize a.eval co = v at h ⊢
  unfold fnOf at hc
  split at hc
  · injection hc with hc; injection hc with h1 h2; subst h1; subst h2
    cases h with
    | fn f cs vs hl hv => exact ⟨vs, rfl, hl, hv⟩
  · rename_i f' first caps'
    split at hc
    · rename_i hz
      injection hc with hc; injection hc with h1 h2; subst h1; subst h2
      cases h with
      | p d x hp =>
        cases hp
        rw [Array.size_eq_zero_iff.1 hz.1, Array.size_eq_zero_iff.1 hz.2]
        exact ⟨#[], rfl, rfl, fun i d x hd => by simp at hd⟩
    · cases hc
  · cases hc

/-- behind a call -/
def Goes (ro : Option Nat) (P : Program) (ops : Array Oper) (o : Oper) (r : List Oper) (Q : AX → St → Prop) (s : St) (μ1 : Mem) : AEnd → Prop
  | .ret v => AList ro P ops r Q ⟨putT s.tmps o.dst (.p v), μ1⟩
  | .panic v => Q (.panic (.p v)) ⟨s.tmps, μ1⟩
theorem alist_call {o : Oper} {r : List Oper} {co : Operand} {cargs : Array Operand} {cts : Array TypeId} (ho : o.op = .call { callee := .value co, args := cargs, argTypes := cts }) {f : FuncId} {caps : List DV} (hw : wantA ops o s = some true)
    (hc : fnOf (s.ev co) = some (f, caps)) {k : Nat} {pargs : List PD} {μ1 : Mem} (hf : frzL k s.μ (cargs.toList.map s.ev ++ caps) = some (pargs, μ1)) {e : AEnd} (hp : Pure P f pargs e) (hk : Goes ro P ops o r Q s μ1 e) : AList ro P ops (o :: r) Q s := by
  intro G a w hs
  unfold wpListIn
  rw [if_pos (wantA_sound hw hs)]
  obtain ⟨⟨fn, c, hcl⟩, hp⟩ := hp
  obtain ⟨vs, hv1, hv2, hv3⟩ := fn_val hs hc
  obtain ⟨ha1, ha2⟩ := args_rel hs cargs caps vs hv2 hv3
  obtain ⟨G1, m1, m2, _, m4, m5⟩ := (frz_sound k).2 _ _ _ _ hf G w (cargs.map a.eval ++ vs).toList hs.mem (by simpa using ha1) (fun i d x hd hx => ha2 i d x hd (by rw [Array.getElem?_toList] at hx; exact hx))
  have hrun := execOp_call (P := P) (w := w) ho hv1 hcl
  rw [Array.empty_append] at hrun
  refine opw_enter (fun c hdf => by rw [ho] at hdf; cases hdf) hrun (hp G1.Z w _ (m1.lw.below m1.bel m1.hb) m1.zlt ⟨by rw [m4]; simpa using ha1, fun i d x hd hx => m5 i d x hd (by rw [Array.getElem?_toList]; exact hx)⟩) ?_
  rintro e1 w1 he
  cases e with
  | ret v =>
    cases e1 with
    | returned x =>
      obtain ⟨h1, h2⟩ := he
      have hl : Grw G w (G1.grown w w1) w1 := m2.trans (Grw.below m1.zlt h2)
      exact wpList_mono (fun _ _ _ => Post.back hl) _ _ _ (hk (G1.grown w w1) _ w1 (hs.put hl o.dst (.p _ _ h1) (m1.below h2)))
    | panicked ch => exact he.elim
    | outgrown => exact he.elim
  | panic v =>
    cases e1 with
    | returned x => exact he.elim
    | panicked ch =>
      obtain ⟨⟨y, rfl, h1⟩, h2⟩ := he
      have hl : Grw G w (G1.grown w w1) w1 := m2.trans (Grw.below m1.zlt h2)
      exact ⟨.panic (.p v), ⟨s.tmps, μ1⟩, G1.grown w w1, ⟨y, rfl, .p _ _ h1⟩, hk, ⟨hs.size, fun i d x hd hx => (hs.tmp i d x hd hx).grw hl, hs.defers.trans hl.df.symm, m1.below h2⟩, hl⟩
    | outgrown => exact he.elim

/-- what a closure's code comes to, in the memory of its maker -/
def InPost (ro : Option Nat) (P : Program) (ops : Array Oper) (o : Oper) (r : List Oper) (Q : AX → St → Prop) (s : St) (rs : List ResultVar) : AX → St → Prop := fun x s' => match x with
  | .norm | .ret => ∃ l, resA P s' rs = some l ∧ AList ro P ops r Q ⟨putT s.tmps o.dst (oneOrTup l), s'.μ⟩
  | .panic d => Q (.panic d) ⟨s.tmps, s'.μ⟩
  | _ => False
theorem alist_inline {o : Oper} {r : List Oper} {co : Operand} {cargs : Array Operand} {cts : Array TypeId} (ho : o.op = .call { callee := .value co, args := cargs, argTypes := cts }) {f : FuncId} {caps : List DV} (hw : wantA ops o s = some true)
    (hc : fnOf (s.ev co) = some (f, caps)) {fn : Func} {c : Code} (hcl : Callable P f fn c) {n : Nat} (hn : fn.ntmps = n) {rs : List ResultVar} (hrs : fn.results.toList = rs)
    (h : AWP none P c (InPost ro P ops o r Q s rs) ⟨(cargs.toList.map s.ev ++ caps) ++ List.replicate (n - (cargs.toList.map s.ev ++ caps).length) .undef, s.μ⟩) : AList ro P ops (o :: r) Q s := by
  intro G a w hs
  subst hn
  subst hrs
  unfold wpListIn
  rw [if_pos (wantA_sound hw hs)]
  obtain ⟨vs, hv1, hv2, hv3⟩ := fn_val hs hc
  obtain ⟨ha1, ha2⟩ := args_rel hs cargs caps vs hv2 hv3
  have hrun := execOp_call (P := P) (w := w) ho hv1 hcl
  rw [Array.empty_append] at hrun
  have hs1 : SRel (G.dfr []) ⟨(cargs.toList.map s.ev ++ caps) ++ List.replicate (fn.ntmps - (cargs.toList.map s.ev ++ caps).length) .undef, s.μ⟩ { tmps := (cargs.map a.eval ++ vs) ++ Array.replicate (fn.ntmps - (cargs.map a.eval ++ vs).size) undef, defers := [] } w := by
    refine ⟨by rw [Array.size_append, List.length_append, ha1]; simp, fun i d x hd hx => ?_, rfl, hs.mem.dfr []⟩
    rcases Nat.lt_or_ge i (cargs.toList.map s.ev ++ caps).length with hi | hi
    · simp only at hd hx
      rw [List.getElem?_append_left hi] at hd
      rw [Array.getElem?_append_left (by rw [ha1]; exact hi)] at hx
      exact (ha2 i d x hd hx).dfr []
    · simp only at hd
      rw [List.getElem?_append_right hi, List.getElem?_replicate] at hd
      split at hd
      · injection hd with hd; subst hd; exact .undef _
      · cases hd
  refine opw_enter (fun c hdf => by rw [ho] at hdf; cases hdf) hrun (calls_of_wp (R := fun e w'' => match e with
    | .returned v => ∃ (l : List DV) (s' : St) (G' : Gh), resA P s' fn.results.toList = some l ∧ CRel G' w'' (oneOrTup l) v ∧ MRel G' s'.μ w'' ∧ Grw G w G' w'' ∧ AList ro P ops r Q ⟨putT s.tmps o.dst (oneOrTup l), s'.μ⟩
    | .panicked ch => ∃ (d : DV) (s' : St) (G' : Gh) (v : Value), ch = [{ v, recovered := false }] ∧ CRel G' w'' d v ∧ MRel G' s'.μ w'' ∧ Grw G w G' w'' ∧ Q (.panic d) ⟨s.tmps, s'.μ⟩
    | .outgrown => False) hcl.at_ hcl.body (wp_mono (wpIn_wide.1 (h (G.dfr []) _ w hs1)) ?_)) ?_
  · rintro e a' w' ⟨x, s', G', h1, h2, h3, h4⟩
    cases x <;> cases e <;> first
      | (exact h1.elim; done)
      | (exact h2.elim; done)
      | skip
    · obtain ⟨l, k1, k2⟩ := h2
      obtain ⟨y, q1, q2⟩ := results_run h3 k1
      exact ⟨h3.defers.trans h4.df, y, q1, l, s', G'.dfr G.df, k1, q2.dfr _, h3.mem.dfr _, h4.back, k2⟩
    · obtain ⟨l, k1, k2⟩ := h2
      obtain ⟨y, q1, q2⟩ := results_run h3 k1
      exact ⟨h3.defers.trans h4.df, y, q1, l, s', G'.dfr G.df, k1, q2.dfr _, h3.mem.dfr _, h4.back, k2⟩
    · obtain ⟨y, rfl, hy⟩ := h1
      exact ⟨h3.defers.trans h4.df, _, s', G'.dfr G.df, y, rfl, hy.dfr _, h3.mem.dfr _, h4.back, h2⟩
  · intro e w'' he
    cases e with
    | returned v =>
      obtain ⟨l, s', G', _, k2, k3, k4, k5⟩ := he
      exact wpList_mono (fun _ _ _ => Post.back k4) _ _ _ (k5 G' _ w'' (hs.put k4 o.dst k2 k3))
    | panicked ch =>
      obtain ⟨d, s', G', v, rfl, k2, k3, k4, k5⟩ := he
      exact ⟨.panic d, ⟨s.tmps, s'.μ⟩, G', ⟨v, rfl, k2⟩, k5, ⟨hs.size, fun i d x hd hx => (hs.tmp i d x hd hx).grw k4, hs.defers.trans k4.df.symm, k3⟩, k4⟩
    | outgrown => exact he.elim
/-- a panic -/
theorem alist_panic {o : Oper} {r : List Oper} {x : Operand} (ho : o.op = .panic x) (hw : wantA ops o s = some true) {t : TypeId} {v : Value} (hx : s.ev x = .p (.v (.iface t v))) (hk : Q (.panic (.p (.v (.iface t v)))) s) : AList ro P ops (o :: r) Q s := by
  intro G a w hs
  unfold wpListIn
  rw [if_pos (wantA_sound hw hs)]
  have h1 := hs.ev x
  rw [hx] at h1
  have h2 : a.eval x = .iface t v := by
    generalize a.eval x = y at h1 ⊢
    cases h1 with
    | p d y hp => cases hp; rfl
  refine ⟨fun _ _ => trivial, ?_⟩
  rw [Oper.semAt_plain (FF ro) _ _ (fun c hdf => by rw [ho] at hdf; cases hdf)]
  unfold execOp
  simp only [ho, h2, Instr.panic, Sem.run_bind, run_goPanic]
  exact ⟨.panic (.p (.v (.iface t v))), s, G, ⟨_, rfl, .p _ _ (.v _)⟩, hk, hs, Grw.refl G w⟩

theorem next_norm {K : St → Prop} {s : St} (h : K s) : AX.next K Q .norm s := h
theorem next_exit {K : St → Prop} {s : St} {i : Nat} (h : Q (.exit i) s) : AX.next K Q (.exit i) s := h
theorem next_goto {K : St → Prop} {s : St} {i : Nat} (h : Q (.goto i) s) : AX.next K Q (.goto i) s := h
theorem next_ret {K : St → Prop} {s : St} (h : Q .ret s) : AX.next K Q .ret s := h
theorem next_panic {K : St → Prop} {s : St} {d : DV} (h : Q (.panic d) s) : AX.next K Q (.panic d) s := h
theorem blk_norm {id : Nat} {s : St} (h : Q .norm s) : AX.blk id Q .norm s := h
theorem blk_exit {id : Nat} {s : St} (h : Q .norm s) : AX.blk id Q (.exit id) s := by simp only [AX.blk, if_true]; exact h
theorem blk_out {id i : Nat} {s : St} (hi : (i == id) = false) (h : Q (.exit i) s) : AX.blk id Q (.exit i) s := by
  simp only [AX.blk]; rw [if_neg (by simpa using hi)]; exact h
theorem blk_ret {id : Nat} {s : St} (h : Q .ret s) : AX.blk id Q .ret s := h
theorem blk_panic {id : Nat} {s : St} {d : DV} (h : Q (.panic d) s) : AX.blk id Q (.panic d) s := h
theorem inpost_ret {o : Oper} {r : List Oper} {rs : List ResultVar} {s' : St} {l : List DV} (h1 : resA P s' rs = some l) (h2 : AList ro P ops r Q ⟨putT s.tmps o.dst (oneOrTup l), s'.μ⟩) : InPost ro P ops o r Q s rs .ret s' := ⟨l, h1, h2⟩
theorem inpost_norm {o : Oper} {r : List Oper} {rs : List ResultVar} {s' : St} {l : List DV} (h1 : resA P s' rs = some l) (h2 : AList ro P ops r Q ⟨putT s.tmps o.dst (oneOrTup l), s'.μ⟩) : InPost ro P ops o r Q s rs .norm s' := ⟨l, h1, h2⟩
theorem goes_ret {o : Oper} {r : List Oper} {μ1 : Mem} {v : PD} (h : AList ro P ops r Q ⟨putT s.tmps o.dst (.p v), μ1⟩) : Goes ro P ops o r Q s μ1 (.ret v) := h
theorem goes_panic {o : Oper} {r : List Oper} {μ1 : Mem} {v : PD} (h : Q (.panic (.p v)) ⟨s.tmps, μ1⟩) : Goes ro P ops o r Q s μ1 (.panic v) := h
end
end Go.Proofs.YtikfefjaeejeeaaGreatDoor

/- The abstract machine, 11: loops with the slots that are kept; small words for the walks. -/
namespace Go.Proofs.YtikfefjaeejeeaaGreatDoor
open Go.RowKit

def maskT (ks : List Nat) : Nat → List DV → List DV
  | _, [] => []
  | i, d :: r => (if ks.elem i = true then d else .undef) :: maskT ks (i + 1) r
def St.keep (ks : List Nat) (s : St) : St := ⟨maskT ks 0 s.tmps, s.μ⟩
theorem maskT_length (ks : List Nat) : ∀ (i : Nat) (l : List DV), (maskT ks i l).length = l.length
  | _, [] => rfl
  | i, d :: r => by simp [maskT, maskT_length ks (i + 1) r]
theorem maskT_get (ks : List Nat) : ∀ (i : Nat) (l : List DV) (j : Nat) (d : DV), (maskT ks i l)[j]? = some d → d = .undef ∨ l[j]? = some d
  | _, [], j, d, h => by simp [maskT] at h
  | i, e :: r, 0, d, h => by
    simp only [maskT, List.getElem?_cons_zero, Option.some.injEq] at h
    subst h
    split
    · right; rfl
    · left; rfl
  | i, e :: r, j + 1, d, h => by
    simp only [maskT, List.getElem?_cons_succ] at h ⊢
    exact maskT_get ks (i + 1) r j d h
theorem SRel.keep {G : Gh} {s : St} {a : Act} {w : World} (h : SRel G s a w) (ks : List Nat) : SRel G (s.keep ks) a w := by
  refine ⟨by rw [h.size]; exact (maskT_length ks 0 s.tmps).symm, fun i d x hd hx => ?_, h.defers, h.mem⟩
  rcases maskT_get ks 0 s.tmps i d hd with rfl | hd
  · exact .undef _
  · exact h.tmp i d x hd hx
section
variable {ro : Option Nat} {P : Program} {ops : Array Oper} {Q : AX → St → Prop} {s : St}
theorem awp_keep (ks : List Nat) {c : Code} (h : AWP ro P c Q (s.keep ks)) : AWP ro P c Q s := fun G a w hs => h G a w (hs.keep ks)
theorem post_keep {G : Gh} {w : World} {K : St → Prop} (ks : List Nat) {e : Exit} {a : Act} {w' : World} (h : Post G w (AX.next (fun s => K (s.keep ks)) Q) e a w') : Post G w (AX.next K Q) e a w' := by
  obtain ⟨x, s', G', h1, h2, h3, h4⟩ := h
  cases x with
  | norm => exact ⟨.norm, s'.keep ks, G', h1, h2, h3.keep ks, h4⟩
  | _ => exact ⟨_, s', G', h1, h2, h3, h4⟩
/-- A LOOP: what holds at its head of the slots that are kept, with a number that each round lowers -/
theorem awp_loopk {c : Code} (ks : List Nat) (I : Nat → St → Prop) (n : Nat) (h0 : I n (s.keep ks)) (round : ∀ n s, I n s → ∀ K : St → Prop, (∀ s', (∃ n', n' < n ∧ I n' (s'.keep ks)) → K s') → AWP ro P c (AX.next K Q) s) : AWP ro P (.loop c) Q s :=
  awp_keep ks (awp_loop I n h0 fun n s hI G a w hs => wpIn_mono (round n s hI _ (fun _ h => h) G a w hs) fun _ _ _ h => post_keep ks h)
theorem awp_cond' {c : Operand} {x y : Code} (h : ∃ t : Bool, s.ev c = .p (.v (.bool t)) ∧ (t = true → AWP ro P x Q s) ∧ (t = false → AWP ro P y Q s)) : AWP ro P (.cond c x y) Q s := by
  obtain ⟨t, h1, h2, h3⟩ := h
  exact awp_cond h1 h2 h3
def AX.noGo (Q : AX → St → Prop) : AX → St → Prop
  | .goto _, _ => False
  | x, s => Q x s
theorem stepR_scope {b : Frame} {a : Act} {k : List Item} {cs : List Frame} {w : World} {c : Code} : step P (lone (b.atR a (.code (.scope c) :: k)) cs w) = .next (lone (b.atR a (.code c :: .inScope c :: k)) cs w) :=
  step_lone_go (by simp [stepG, stepG.exec, Frame.atR])
theorem stepR_inScope {b : Frame} {a : Act} {k : List Item} {cs : List Frame} {w : World} {c : Code} : step P (lone (b.atR a (.inScope c :: k)) cs w) = .next (lone (b.atR a k) cs w) :=
  step_lone_go (by simp [stepG, stepG.exec, Frame.atR])
theorem wpIn_scope_straight {F : Fence} {n : Nat} {Q : Exit → Act → World → Prop} {a : Act} {w : World} {c : Code} (h : c.wpIn F n P (Exit.noGoto Q) a w) : (Code.scope c).wpIn F n P Q a w := by
  intro b k cs hro hb hr
  have h0 : (lone (b.atR a (.code (.scope c) :: k)) cs w).fenced P F := fenced_calm hb hr rfl
  obtain ⟨e, a₁, w₁, hq, harr⟩ := h b (.inScope c :: k) cs hro hb hr
  have hx : ∀ id, exitTo id (.inScope c :: k) = exitTo id k := fun id => by simp [exitTo]
  cases e with
  | normal => exact ⟨.normal, a₁, w₁, hq, .head h0 stepR_scope (StepsIn.trans harr (.one (fenced_calm hb hr rfl) stepR_inScope))⟩
  | exit id => exact ⟨.exit id, a₁, w₁, hq, ArrivesIn.of_steps (.one h0 stepR_scope) ⟨fun k' hk => harr.1 k' (by rw [hx]; exact hk), fun hr hk => harr.2 hr (by rw [hx]; exact hk)⟩⟩
  | goto l => exact hq.elim
  | ret => exact ⟨_, a₁, w₁, hq, ArrivesIn.of_steps (.one h0 stepR_scope) harr⟩
  | panic ch => exact ⟨_, a₁, w₁, hq, ArrivesIn.of_steps (.one h0 stepR_scope) harr⟩
  | outgrown => exact ⟨_, a₁, w₁, hq, ArrivesIn.of_steps (.one h0 stepR_scope) harr⟩
theorem awp_scope {c : Code} (h : AWP ro P c (AX.noGo Q) s) : AWP ro P (.scope c) Q s := by
  intro G a w hs
  refine wpIn_scope_straight (wpIn_mono (h G a w hs) fun e a' w' hp => ?_)
  obtain ⟨x, s', G', h1, h2, h3, h4⟩ := hp
  cases x <;> cases e <;> first
    | (exact h1.elim; done)
    | (exact h2.elim; done)
    | (exact ⟨_, s', G', h1, h2, h3, h4⟩)
theorem nogo_norm (h : Q .norm s) : AX.noGo Q .norm s := h
theorem nogo_exit {i : Nat} (h : Q (.exit i) s) : AX.noGo Q (.exit i) s := h
theorem nogo_ret (h : Q .ret s) : AX.noGo Q .ret s := h
theorem nogo_panic {d : DV} (h : Q (.panic d) s) : AX.noGo Q (.panic d) s := h
end
/-- so many slots, these of them known (in their order) -/
def mkS : Nat → Nat → List (Nat × DV) → List DV
  | _, 0, _ => []
  | i, n + 1, [] => .undef :: mkS (i + 1) n []
  | i, n + 1, (j, d) :: r => if i = j then d :: mkS (i + 1) n r else .undef :: mkS (i + 1) n ((j, d) :: r)
def mkT (n : Nat) (l : List (Nat × DV)) : List DV := mkS 0 n l
theorem wrap64_id {x : Int} (h0 : -9223372036854775808 ≤ x) (h1 : x < 9223372036854775808) : IntKind.i64.wrap x = x := by rw [IntKind.wrap_i64]; omega
theorem wrap64_succ {k : Nat} (h : k < 9223372036854775807) : IntKind.i64.wrap ((k : Int) + 1) = ((k + 1 : Nat) : Int) := by rw [IntKind.wrap_i64]; omega
theorem wrapu64_id {x : Int} (h0 : 0 ≤ x) (h1 : x < 18446744073709551616) : IntKind.u64.wrap x = x := by show x % 18446744073709551616 = x; omega
def nums (k : IntKind) (xs : List Int) : List PD := xs.map fun x => .v (.int k x)
theorem nums_length (k : IntKind) (xs : List Int) : (nums k xs).length = xs.length := by simp [nums]
theorem nums_get {k : IntKind} {xs : List Int} {i : Nat} {x : Int} (h : xs[i]? = some x) : (nums k xs)[i]? = some (.v (.int k x)) := by simp [nums, h]
theorem nums_sized (k : IntKind) (xs : List Int) : sized 1 (nums k xs) := by
  intro d hd
  simp only [nums, List.mem_map] at hd
  obtain ⟨x, _, rfl⟩ := hd
  rfl
theorem nums_append (k : IntKind) (xs ys : List Int) : nums k xs ++ nums k ys = nums k (xs ++ ys) := by simp [nums]
theorem nums_snoc (k : IntKind) (xs : List Int) (y : Int) : nums k xs ++ [.v (.int k y)] = nums k (xs ++ [y]) := by simp [nums]
end Go.Proofs.YtikfefjaeejeeaaGreatDoor

/- The abstract machine, 12: code as a function; the rules that the walks use ('go_sem'). -/
namespace Go.Proofs.YtikfefjaeejeeaaGreatDoor
open Go.RowKit

/-- a list of operations, as far as it goes without a call -/
def runQ (ro : Option Nat) (P : Program) (ops : Array Oper) (Q : AX → St → Prop) : List Oper → St → Prop
  | [], s => Q .norm s
  | o :: r, s => match wantA ops o s with
    | none => AList ro P ops (o :: r) Q s
    | some b => if b = true then (match evOp P o s with
        | some (d, μ') => runQ ro P ops Q r ⟨putT s.tmps o.dst d, μ'⟩
        | none => AList ro P ops (o :: r) Q s)
      else runQ ro P ops Q r ⟨putT s.tmps o.dst (.p (.v (.tuple #[]))), s.μ⟩
theorem alist_q {ro : Option Nat} {P : Program} {ops : Array Oper} {Q : AX → St → Prop} : ∀ {l : List Oper} {s : St}, runQ ro P ops Q l s → AList ro P ops l Q s := by
  intro l
  induction l with
  | nil => intro s h; exact alist_nil h
  | cons o r ih =>
    intro s h
    unfold runQ at h
    split at h
    · exact h
    · rename_i b hb
      cases b with
      | true =>
        simp only [if_true] at h
        split at h
        · rename_i d μ' he
          exact alist_gives (evOp_nodefer he) hb (fun G a w hs => evOp_sound he hs) (ih h)
        · exact h
      | false =>
        simp only [Bool.false_eq_true, if_false] at h
        exact alist_skip hb (ih h)
/-- code, as far as it goes without loops and calls -/
def W (ro : Option Nat) (P : Program) : Code → (AX → St → Prop) → St → Prop
  | .skip, Q, s => Q .norm s
  | .region id ops d, Q, s => if d = true then AWP ro P (.region id ops true) Q s else runQ ro P ops Q ops.toList s
  | .seq a b, Q, s => W ro P a (AX.next (W ro P b Q) Q) s
  | .cond c x y, Q, s => match s.ev c with
    | .p (.v (.bool t)) => if t = true then W ro P x Q s else W ro P y Q s
    | _ => AWP ro P (.cond c x y) Q s
  | .block id c, Q, s => W ro P c (AX.blk id Q) s
  | .exit id, Q, s => Q (.exit id) s
  | .scope c, Q, s => W ro P c (AX.noGo Q) s
  | .label _, Q, s => Q .norm s
  | .goto l, Q, s => Q (.goto l) s
  | .ret, Q, s => Q .ret s
  | .loop c, Q, s => AWP ro P (.loop c) Q s
  | .rangeFunc f ps a b, Q, s => AWP ro P (.rangeFunc f ps a b) Q s
  | .refuse r, Q, s => AWP ro P (.refuse r) Q s
theorem awp_w {ro : Option Nat} {P : Program} : ∀ {c : Code} {Q : AX → St → Prop} {s : St}, W ro P c Q s → AWP ro P c Q s := by
  intro c
  induction c with
  | skip => intro Q s h; exact awp_skip h
  | region id ops d =>
    intro Q s h
    simp only [W] at h
    cases d with
    | true => simpa using h
    | false =>
      simp only [Bool.false_eq_true, if_false] at h
      have := awp_region (ro := ro) (id := id) (l := ops.toList) (P := P) (Q := Q) (s := s) (by simpa using alist_q h)
      simpa using this
  | seq a b iha ihb => intro Q s h; exact awp_seq (awp_mono (iha h) fun x s hx => by cases x <;> first | exact ihb hx | exact hx)
  | cond c x y ihx ihy =>
    intro Q s h
    simp only [W] at h
    split at h
    · rename_i t ht
      refine awp_cond ht (fun h1 => ?_) (fun h1 => ?_)
      · rw [if_pos h1] at h; exact ihx h
      · rw [if_neg (by rw [h1]; simp)] at h; exact ihy h
    · exact h
  | block id c ih => intro Q s h; exact awp_block (ih h)
  | exit id => intro Q s h; exact awp_exit h
  | scope c ih => intro Q s h; exact awp_scope (ih h)
  | label l => intro Q s h; exact awp_label h
  | goto l => intro Q s h; exact awp_goto h
  | ret => intro Q s h; exact awp_ret h
  | loop c ih => intro Q s h; exact h
  | rangeFunc f ps a b => intro Q s h; exact h
  | refuse r => intro Q s h; exact h

attribute [go_sem] wantA evOp evOp.keep St.ev getT putT setT DV.ofV evPick evLoad evFieldAddr evField evIndexAddr natOf bnd evSlice evAlloc evBox evStore fillA evBuild placesA evBuildSlice evMake evAppend evBinD evBinD.evEqOp evEq eqBool isNilSl eqNilSl isConstOp eqIf eqPtr evBin evUn evConv evIface evNil evIndex evExtract evLen evMax evLookup evMapUpdate evRange evNext keyB plainV vOut fnOf cellsV allOne frz frzL frzP Value.cells Value.oneCell' DV.cells DV.one DV.okc PD.cells PD.single chunk oneOrTup mkT mkS St.keep maskT resA
attribute [go_sem] List.size_toArray List.map_cons List.map_nil List.all_cons List.all_nil List.length_cons List.length_nil List.length_append List.cons_append List.nil_append List.append_nil List.append_assoc List.getElem?_cons_zero List.getElem?_cons_succ List.getElem?_nil List.drop_zero List.drop_succ_cons List.drop_nil List.take_zero List.take_succ_cons List.take_nil List.replicate_succ List.replicate_zero List.set_cons_zero List.set_cons_succ List.getElem?_toArray Option.bind_some Option.map_some Option.map_none cond_true cond_false if_true if_false and_true true_and and_self not_true_eq_false not_false_eq_true Nat.le_refl Nat.add_zero Nat.zero_add Nat.zero_le Int.toNat_natCast Int.natCast_nonneg Bool.and_true Bool.true_and Bool.and_self Bool.not_true Bool.not_false beq_self_eq_true decide_true decide_false List.range_zero List.range_succ List.elem_cons List.elem_nil Bool.false_eq_true nums_length
section
variable {ro : Option Nat} {P : Program} {ops : Array Oper} {Q : AX → St → Prop} {s : St}
@[go_sem ↓] theorem w_skip : W ro P .skip Q s = Q .norm s := rfl
@[go_sem ↓] theorem w_region (id : Nat) (l : List Oper) : W ro P (.region id l.toArray false) Q s = runQ ro P l.toArray Q l s := by simp [W]
@[go_sem ↓] theorem w_draw (id : Nat) : W ro P (.region id ops true) Q s = AWP ro P (.region id ops true) Q s := by simp [W]
@[go_sem ↓] theorem w_seq (a b : Code) : W ro P (.seq a b) Q s = W ro P a (AX.next (W ro P b Q) Q) s := rfl
def condQ (ro : Option Nat) (P : Program) (c : Operand) (x y : Code) (Q : AX → St → Prop) (s : St) : DV → Prop
  | .p (.v (.bool t)) => if t = true then W ro P x Q s else W ro P y Q s
  | _ => AWP ro P (.cond c x y) Q s
@[go_sem ↓] theorem w_cond (c : Operand) (x y : Code) : W ro P (.cond c x y) Q s = condQ ro P c x y Q s (s.ev c) := by
  simp only [W]
  cases h : s.ev c with
  | p d => cases d with
    | v x => cases x <;> rfl
    | _ => rfl
  | _ => rfl
@[go_sem] theorem c_bool (c : Operand) (x y : Code) (t : Bool) : condQ ro P c x y Q s (.p (.v (.bool t))) = (if t = true then W ro P x Q s else W ro P y Q s) := rfl
@[go_sem ↓] theorem w_block (id : Nat) (c : Code) : W ro P (.block id c) Q s = W ro P c (AX.blk id Q) s := rfl
@[go_sem ↓] theorem w_exit (id : Nat) : W ro P (.exit id) Q s = Q (.exit id) s := rfl
@[go_sem ↓] theorem w_scope (c : Code) : W ro P (.scope c) Q s = W ro P c (AX.noGo Q) s := rfl
@[go_sem ↓] theorem w_label (l : Nat) : W ro P (.label l) Q s = Q .norm s := rfl
@[go_sem ↓] theorem w_goto (l : Nat) : W ro P (.goto l) Q s = Q (.goto l) s := rfl
@[go_sem ↓] theorem w_ret : W ro P .ret Q s = Q .ret s := rfl
@[go_sem ↓] theorem w_loop (c : Code) : W ro P (.loop c) Q s = AWP ro P (.loop c) Q s := rfl
@[go_sem ↓] theorem w_rangeFunc (f : Operand) (ps : Array Tmp) (a b : Code) : W ro P (.rangeFunc f ps a b) Q s = AWP ro P (.rangeFunc f ps a b) Q s := rfl
@[go_sem ↓] theorem q_nil : runQ ro P ops Q [] s = Q .norm s := rfl
def contQ (ro : Option Nat) (P : Program) (ops : Array Oper) (Q : AX → St → Prop) (o : Oper) (r : List Oper) (s : St) : Option (DV × Mem) → Prop
  | some (d, μ') => runQ ro P ops Q r ⟨putT s.tmps o.dst d, μ'⟩
  | none => AList ro P ops (o :: r) Q s
def stepQ (ro : Option Nat) (P : Program) (ops : Array Oper) (Q : AX → St → Prop) (o : Oper) (r : List Oper) (s : St) : Option Bool → Prop
  | some b => if b = true then contQ ro P ops Q o r s (evOp P o s) else runQ ro P ops Q r ⟨putT s.tmps o.dst (.p (.v (.tuple #[]))), s.μ⟩
  | none => AList ro P ops (o :: r) Q s
@[go_sem ↓] theorem q_cons (o : Oper) (r : List Oper) : runQ ro P ops Q (o :: r) s = stepQ ro P ops Q o r s (wantA ops o s) := by
  simp only [runQ]
  cases wantA ops o s with
  | none => rfl
  | some b =>
    simp only [stepQ]
    cases evOp P o s with
    | none => rfl
    | some p => rfl
@[go_sem] theorem st_some (o : Oper) (r : List Oper) (b : Bool) : stepQ ro P ops Q o r s (some b) = (if b = true then contQ ro P ops Q o r s (evOp P o s) else runQ ro P ops Q r ⟨putT s.tmps o.dst (.p (.v (.tuple #[]))), s.μ⟩) := rfl
@[go_sem] theorem st_none (o : Oper) (r : List Oper) : stepQ ro P ops Q o r s none = AList ro P ops (o :: r) Q s := rfl
@[go_sem] theorem ct_some (o : Oper) (r : List Oper) (d : DV) (μ' : Mem) : contQ ro P ops Q o r s (some (d, μ')) = runQ ro P ops Q r ⟨putT s.tmps o.dst d, μ'⟩ := rfl
@[go_sem] theorem ct_none (o : Oper) (r : List Oper) : contQ ro P ops Q o r s none = AList ro P ops (o :: r) Q s := rfl
@[go_sem ↓] theorem nx_norm (K : St → Prop) : AX.next K Q .norm s = K s := rfl
@[go_sem ↓] theorem nx_exit (K : St → Prop) (i : Nat) : AX.next K Q (.exit i) s = Q (.exit i) s := rfl
@[go_sem ↓] theorem nx_goto (K : St → Prop) (i : Nat) : AX.next K Q (.goto i) s = Q (.goto i) s := rfl
@[go_sem ↓] theorem nx_ret (K : St → Prop) : AX.next K Q .ret s = Q .ret s := rfl
@[go_sem ↓] theorem nx_panic (K : St → Prop) (d : DV) : AX.next K Q (.panic d) s = Q (.panic d) s := rfl
@[go_sem ↓] theorem bk_norm (i : Nat) : AX.blk i Q .norm s = Q .norm s := rfl
@[go_sem ↓] theorem bk_exit (i j : Nat) : AX.blk i Q (.exit j) s = (if j = i then Q .norm s else Q (.exit j) s) := rfl
@[go_sem ↓] theorem bk_goto (i j : Nat) : AX.blk i Q (.goto j) s = Q (.goto j) s := rfl
@[go_sem ↓] theorem bk_ret (i : Nat) : AX.blk i Q .ret s = Q .ret s := rfl
@[go_sem ↓] theorem bk_panic (i : Nat) (d : DV) : AX.blk i Q (.panic d) s = Q (.panic d) s := rfl
@[go_sem ↓] theorem ng_norm : AX.noGo Q .norm s = Q .norm s := rfl
@[go_sem ↓] theorem ng_exit (i : Nat) : AX.noGo Q (.exit i) s = Q (.exit i) s := rfl
@[go_sem ↓] theorem ng_ret : AX.noGo Q .ret s = Q .ret s := rfl
@[go_sem ↓] theorem ng_panic (d : DV) : AX.noGo Q (.panic d) s = Q (.panic d) s := rfl
end
end Go.Proofs.YtikfefjaeejeeaaGreatDoor
