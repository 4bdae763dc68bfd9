/- The abstract machine, 13: a statement whose order is open. -/
import Derived.Test.YtmhpccchgbdiiaaGreatDoorAeC
import Derived.Orders
namespace Go.Proofs.YtmhpccchgbdiiaaGreatDoor
open Go.RowKit

def isMem (xc : Bool) : Op → Bool
  | .alloc _ | .box _ _ | .buildSlice _ _ _ | .makeSlice _ _ _ | .store _ _ _ | .makeMap _ _ | .mapUpdate _ _ _ _ | .range _ _ | .next _ _ => true
  | .call c => match c.callee with | .builtin .append => true | .value _ => xc | _ => false
  | _ => false
def isLd : Op → Bool
  | .load _ _ | .lookup _ _ _ _ => true
  | _ => false
def isCall : Op → Bool
  | .call c => match c.callee with | .value _ => true | _ => false
  | _ => false
def dirs (o : Oper) : List Nat := (o.after.toList.filter (Region.binds .any)).map (·.on)
/-- a set of numbers, as the bits of one -/
structure AS where
  m : Nat
def AS.contains (a : AS) (j : Nat) : Bool := a.m.testBit j
instance : Membership Nat AS := ⟨fun a j => a.contains j = true⟩
theorem AS.mem_iff {a : AS} {j : Nat} : a.contains j = true ↔ j ∈ a := Iff.rfl
theorem AS.not_mem {a : AS} {j : Nat} : a.contains j = false ↔ ¬ j ∈ a := by
  rw [← AS.mem_iff]; simp
def asOr (acc : List AS) (s : Nat) (j : Nat) : Nat := Nat.lor s (Nat.lor (2 ^ j) ((acc[j]?).getD ⟨0⟩).m)
/-- what stands ahead of each operation in every order -/
def ancs : List Oper → List AS
  | l => l.foldl (fun acc o => acc ++ [⟨(dirs o).foldl (asOr acc) 0⟩]) []
def readsOf (ops : Array Oper) (o : Oper) : List Nat := o.looksAt ops
def calm (xc : Bool) (ops : Array Oper) : Bool :=
  let l := ops.toList
  let an := ancs l
  let n := l.length
  let isAnc (j i : Nat) : Bool := ((an[i]?).getD ⟨0⟩).contains j
  (List.range n).all fun i => match l[i]? with
    | none => true
    | some o => (dirs o).all (fun j => decide (j < i)) && (List.range n).all fun j => match l[j]? with
      | none => true
      | some p =>
        (match p.dst with
          | some t => (!(readsOf ops o).contains t || j == i || (decide (j < i) && isAnc j i) || (decide (i < j) && isAnc i j)) && (j == i || o.dst != some t)
          | none => true) &&
        (!(decide (j < i)) || !(isMem xc p.op) || !(isMem xc o.op || isLd o.op) || isAnc j i || (isLd o.op && isCall p.op))
/-- a call that a later load does not wait for -/
def freeAt (ops : Array Oper) (i : Nat) : Bool :=
  let l := ops.toList
  let an := ancs l
  match l[i]? with
  | some p => isCall p.op && (List.range l.length).any fun k => match l[k]? with
    | some o => decide (i < k) && isLd o.op && !(((an[k]?).getD ⟨0⟩).contains i)
    | none => false
  | none => false
theorem evOp_isCall {P : Program} {o : Oper} {s : St} (h : isCall o.op = true) : evOp P o s = none := by
  obtain ⟨dst, op, ty, pos, after, guard⟩ := o
  cases op <;> simp only [isCall, Bool.false_eq_true] at h
  rename_i c
  obtain ⟨callee, args, cts⟩ := c
  cases callee <;> simp only [Bool.false_eq_true] at h
  unfold evOp
  simp only

/-- the operations' own reading of the tmps -/
theorem evOp_congr {P : Program} {o : Oper} {s s' : St} (hμ : s.μ = s'.μ) (h : ∀ x ∈ o.op.operands, s.ev x = s'.ev x) : evOp P o s = evOp P o s' := by
  obtain ⟨dst, op, ty, pos, after, guard⟩ := o
  have keepe : ∀ d, evOp.keep s d = evOp.keep s' d := by
    intro d
    unfold evOp.keep
    rw [hμ]
  unfold evOp
  simp only at h ⊢
  cases op <;> simp only [Op.operands, Call.operands, List.mem_toArray, List.mem_cons, Array.mem_append, List.not_mem_nil, or_false, Option.mem_toArray, forall_eq_or_imp, forall_eq] at h ⊢ <;> first
    | rfl
    | (simp only [keepe, hμ, h]; done)
    | skip
  · rename_i t ps
    have : (ps.toList.map fun q => (q.fst, s.ev q.snd)) = (ps.toList.map fun q => (q.fst, s'.ev q.snd)) := List.map_congr_left fun q hq => by rw [h q.2 (List.mem_map.2 ⟨q, hq, rfl⟩)]
    rw [this, keepe]
  · rename_i t n ps
    have : (ps.toList.map fun q => (q.fst, s.ev q.snd)) = (ps.toList.map fun q => (q.fst, s'.ev q.snd)) := List.map_congr_left fun q hq => by rw [h q.2 (List.mem_map.2 ⟨q, hq, rfl⟩)]
    rw [this, hμ]
  · rename_i fn first caps
    cases fn <;> first
      | rfl
      | (have : caps.toList.map s.ev = caps.toList.map s'.ev := List.map_congr_left fun x hx => h x (.inr (by simpa using hx))
         simp only [this, hμ])
  · rename_i t x lo hi mx
    have om : ∀ (o : Option Operand), (∀ x, o = some x → s.ev x = s'.ev x) → o.map s.ev = o.map s'.ev := by
      intro o ho
      cases o with
      | none => rfl
      | some x => exact congrArg some (ho x rfl)
    rw [om lo (fun x hx => h x (.inl (.inl (.inr hx)))), om hi (fun x hx => h x (.inl (.inr hx))), om mx (fun x hx => h x (.inr hx)), h x (.inl (.inl (.inl rfl)))]
    simp only [keepe]
  · rename_i c
    obtain ⟨callee, args, cts⟩ := c
    have ha : ∀ x ∈ args.toList, s.ev x = s'.ev x := fun x hx => h x (.inr (by simpa using hx))
    simp only
    split <;> first
      | rfl
      | (rename_i hx _; rw [hx] at ha; simp only [List.mem_cons, List.not_mem_nil, or_false, forall_eq_or_imp, forall_eq] at ha; simp only [ha, keepe, hμ])
      | (rename_i hx; rw [hx] at ha; simp only [List.mem_cons, List.not_mem_nil, or_false, forall_eq_or_imp, forall_eq] at ha; simp only [ha, keepe, hμ])
theorem keep_mu {t : List DV} {μ μ2 : Mem} {d : Option DV} {e : DV} (h : evOp.keep ⟨t, μ⟩ d = some (e, μ)) : evOp.keep ⟨t, μ2⟩ d = some (e, μ2) := by
  obtain ⟨h, _⟩ := keep_some h
  subst h
  rfl
/-- an operation that neither makes nor reads memory -/
theorem evOp_nomem {xc : Bool} {P : Program} {o : Oper} (h1 : isMem xc o.op = false) (h2 : isLd o.op = false) {t : List DV} {μ : Mem} {d : DV} {μ' : Mem} (h : evOp P o ⟨t, μ⟩ = some (d, μ')) : μ' = μ ∧ ∀ μ2, evOp P o ⟨t, μ2⟩ = some (d, μ2) := by
  obtain ⟨dst, op, ty, pos, after, guard⟩ := o
  have kp : ∀ x : Option DV, evOp.keep ⟨t, μ⟩ x = some (d, μ') → μ' = μ ∧ ∀ μ2, evOp.keep ⟨t, μ2⟩ x = some (d, μ2) := by
    intro x hx
    obtain ⟨hh, hμ⟩ := keep_some hx
    subst hμ
    subst hh
    exact ⟨rfl, fun _ => rfl⟩
  have hev : ∀ (μ2 : Mem), (⟨t, μ2⟩ : St).ev = (⟨t, μ⟩ : St).ev := fun _ => funext fun x => by cases x <;> rfl
  unfold evOp at h ⊢
  simp only at h1 h2 h ⊢
  cases op <;> simp only [isMem, isLd, Bool.true_eq_false, reduceCtorEq] at h1 h2 h ⊢ <;> first
    | (cases h; done)
    | (exact kp _ h)
    | skip
  all_goals simp only [hev]
  all_goals generalize (⟨t, μ⟩ : St).ev = f at h ⊢
  · injection h with h; injection h with ha hb; subst ha; subst hb; exact ⟨rfl, fun _ => rfl⟩
  · injection h with h; injection h with ha hb; subst ha; subst hb; exact ⟨rfl, fun _ => rfl⟩
  · split at h
    · split at h
      · injection h with h; injection h with ha hb; subst ha; subst hb; exact ⟨rfl, fun _ => rfl⟩
      · cases h
    · cases h
  · rename_i fn first caps
    cases fn <;> first
      | (cases h; done)
      | (simp only at h ⊢
         split at h
         · rename_i hf0
           injection h with h; injection h with ha hb; subst ha; subst hb; exact ⟨rfl, fun _ => by rw [if_pos hf0]⟩
         · cases h)
  · split at h
    · rename_i hc
      obtain ⟨q1, q2⟩ := kp _ h; exact ⟨q1, fun m => by rw [if_pos hc]; exact q2 m⟩
    · cases h
  · split at h
    · split at h
      · rename_i hc
        obtain ⟨q1, q2⟩ := kp _ h; exact ⟨q1, fun m => by rw [if_pos hc]; exact q2 m⟩
      · cases h
    · cases h
  · rename_i c
    obtain ⟨callee, args, cts⟩ := c
    simp only at h h1 ⊢
    split at h <;> first
      | (cases h; done)
      | (obtain ⟨q1, q2⟩ := kp _ h; exact ⟨q1, q2⟩)
      | (simp only [isMem, Bool.true_eq_false] at h1; done)
      | (cases h1)

/-! ### The trace in the text's order -/
/-- a pure call, in the text's order -/
def DK (P : Program) (o : Oper) (K : St → Prop) (s : St) : Prop := ∃ co cargs cts f caps pargs v, o.op = .call { callee := .value co, args := cargs, argTypes := cts } ∧ fnOf (s.ev co) = some (f, caps) ∧ frzL 200 ⟨[], [], []⟩ (cargs.toList.map s.ev ++ caps) = some (pargs, ⟨[], [], []⟩) ∧ Pure P f pargs (.ret v) ∧ K ⟨putT s.tmps o.dst (.p v), s.μ⟩
/-- a pure call at a state -/
def PCall (P : Program) (o : Oper) (s : St) (d : DV) : Prop := ∃ co cargs cts f caps pargs v, o.op = .call { callee := .value co, args := cargs, argTypes := cts } ∧ fnOf (s.ev co) = some (f, caps) ∧ frzL 200 ⟨[], [], []⟩ (cargs.toList.map s.ev ++ caps) = some (pargs, ⟨[], [], []⟩) ∧ Pure P f pargs (.ret v) ∧ d = .p v
/-- what a closure's code comes to, one way -/
def RetPost (P : Program) (rs : List ResultVar) (K : DV → Mem → Prop) : AX → St → Prop := fun x s' => match x with
  | .norm | .ret => ∃ l, resA P s' rs = some l ∧ K (oneOrTup l) s'.μ
  | _ => False
/-- a call of a closure, which may turn memory -/
def ICall0 (P : Program) (o : Oper) (s : St) (d : DV) (μ' : Mem) : Prop := ∃ co cargs cts f caps fn c, o.op = .call { callee := .value co, args := cargs, argTypes := cts } ∧ fnOf (s.ev co) = some (f, caps) ∧ Callable P f fn c ∧
  AWP none P c (RetPost P fn.results.toList fun d' μ2 => d' = d ∧ μ2 = μ') ⟨(cargs.toList.map s.ev ++ caps) ++ List.replicate (fn.ntmps - (cargs.toList.map s.ev ++ caps).length) .undef, s.μ⟩
def ICall (P : Program) (o : Oper) (s : St) (d : DV) (μ' : Mem) : Prop := ICall0 P o s d μ' ∨ (PCall P o s d ∧ μ' = s.μ)
def Eff (P : Program) (o : Oper) (s : St) (d : DV) (μ' : Mem) : Prop := evOp P o s = some (d, μ') ∨ (evOp P o s = none ∧ ICall P o s d μ')
def oblg (P : Program) (an : AS) (μ' : Mem) : List (Nat × Oper × St × DV) → Prop
  | [] => True
  | (j, o, s, d) :: r => (if an.contains j = true then True else evOp P o ⟨s.tmps, μ'⟩ = some (d, μ')) ∧ oblg P an μ' r
def dval (xc : Bool) (fr : Bool) (P : Program) (o : Oper) (an : AS) (hist : List (Nat × Oper × St × DV)) (K : List (Nat × Oper × St × DV) → St → Prop) (i : Nat) (s : St) : Option (DV × Mem) → Prop
  | some (d, μ') => if isMem xc o.op = true then oblg P an μ' hist ∧ K hist ⟨putT s.tmps o.dst d, μ'⟩ else K (if isLd o.op = true then (i, o, s, d) :: hist else hist) ⟨putT s.tmps o.dst d, s.μ⟩
  | none => if isMem xc o.op = true then ∃ d μ', ICall P o s d μ' ∧ (fr = true → μ' = s.μ) ∧ oblg P an μ' hist ∧ K hist ⟨putT s.tmps o.dst d, μ'⟩ else DK P o (K hist) s
def dstep (xc : Bool) (P : Program) (ops : Array Oper) (o : Oper) (an : AS) (hist : List (Nat × Oper × St × DV)) (K : List (Nat × Oper × St × DV) → St → Prop) (i : Nat) (s : St) : Option Bool → Prop
  | some b => if b = true then dval xc (freeAt ops i) P o an hist K i s (evOp P o s) else K hist ⟨putT s.tmps o.dst (.p (.v (.tuple #[]))), s.μ⟩
  | none => False
def drawQ (xc : Bool) (P : Program) (ops : Array Oper) (Q : AX → St → Prop) : Nat → List Oper → List AS → List (Nat × Oper × St × DV) → St → Prop
  | _, [], _, _, s => Q .norm s
  | _, _ :: _, [], _, _ => False
  | i, o :: r, an :: ar, hist, s => dstep xc P ops o an hist (drawQ xc P ops Q (i + 1) r ar) i s (wantA ops o s)

theorem oblg_mem {P : Program} {an : AS} {μ' : Mem} : ∀ {hist : List (Nat × Oper × St × DV)}, oblg P an μ' hist → ∀ j o s d, (j, o, s, d) ∈ hist → an.contains j = false → evOp P o ⟨s.tmps, μ'⟩ = some (d, μ')
  | [], _, j, o, s, d, hm, _ => by cases hm
  | (j', o', s', d') :: r, h, j, o, s, d, hm, hc => by
    obtain ⟨h1, h2⟩ := h
    rcases List.mem_cons.1 hm with he | hm
    · injection he with e1 he; injection he with e2 he; injection he with e3 e4
      subst e1; subst e2; subst e3; subst e4
      rw [if_neg (by rw [hc]; simp)] at h1
      exact h1
    · exact oblg_mem h2 j o s d hm hc

/-- one operation of the trace -/
def TrOK (xc : Bool) (P : Program) (ops : Array Oper) (l : List Oper) (an : List AS) (sts : Nat → St) (vals : Nat → DV) (i : Nat) : Prop :=
  ∀ o, l[i]? = some o → (sts (i + 1)).tmps = putT (sts i).tmps o.dst (vals i) ∧
  ((wantA ops o (sts i) = some false ∧ vals i = .p (.v (.tuple #[])) ∧ (sts (i + 1)).μ = (sts i).μ) ∨
   (wantA ops o (sts i) = some true ∧ isMem xc o.op = true ∧ Eff P o (sts i) (vals i) ((sts (i + 1)).μ) ∧
     (∀ j oj, j < i → l[j]? = some oj → isLd oj.op = true → wantA ops oj (sts j) = some true → ((an[i]?).getD ⟨0⟩).contains j = false → evOp P oj ⟨(sts j).tmps, (sts (i + 1)).μ⟩ = some (vals j, (sts (i + 1)).μ)) ∧ (freeAt ops i = true → (sts (i + 1)).μ = (sts i).μ)) ∨
   (wantA ops o (sts i) = some true ∧ isMem xc o.op = false ∧ (∃ μ', evOp P o (sts i) = some (vals i, μ')) ∧ (sts (i + 1)).μ = (sts i).μ) ∨
   (wantA ops o (sts i) = some true ∧ isMem xc o.op = false ∧ evOp P o (sts i) = none ∧ PCall P o (sts i) (vals i) ∧ (sts (i + 1)).μ = (sts i).μ))
theorem isLd_notMem {xc : Bool} {o : Op} (h : isLd o = true) : isMem xc o = false := by cases o <;> simp_all [isLd, isMem]
theorem trace_of {xc : Bool} {P : Program} {ops : Array Oper} {Q : AX → St → Prop} {l : List Oper} {an : List AS} (hops : ops.toList = l) : ∀ (r : List Oper) (ar : List AS) (i : Nat) (hist : List (Nat × Oper × St × DV)) (sts : Nat → St) (vals : Nat → DV),
    (∀ k, l[i + k]? = r[k]?) → (∀ k, an[i + k]? = ar[k]?) → drawQ xc P ops Q i r ar hist (sts i) → (∀ j, j < i → TrOK xc P ops l an sts vals j) →
    (∀ j oj, j < i → l[j]? = some oj → isLd oj.op = true → wantA ops oj (sts j) = some true → evOp P oj (sts j) ≠ none → (j, oj, sts j, vals j) ∈ hist) →
    ∃ sts' vals', sts' 0 = sts 0 ∧ (∀ j, j < i + r.length → TrOK xc P ops l an sts' vals' j) ∧ Q .norm (sts' (i + r.length))
  | [], ar, i, hist, sts, vals, hl, ha, h, ht, hh => ⟨sts, vals, rfl, ht, h⟩
  | o :: r, [], i, hist, sts, vals, hl, ha, h, ht, hh => h.elim
  | o :: r, a :: ar, i, hist, sts, vals, hl, ha, h, ht, hh => by
    have hlo : l[i]? = some o := by have := hl 0; simpa using this
    have hao : an[i]? = some a := by have := ha 0; simpa using this
    have next : ∀ (d : DV) (μ' : Mem) (hist' : List (Nat × Oper × St × DV)), drawQ xc P ops Q (i + 1) r ar hist' ⟨putT (sts i).tmps o.dst d, μ'⟩ →
        (∀ sts' vals', (∀ k, k ≤ i → sts' k = sts k) → (∀ k, k < i → vals' k = vals k) → vals' i = d → sts' (i + 1) = ⟨putT (sts i).tmps o.dst d, μ'⟩ → TrOK xc P ops l an sts' vals' i) →
        (∀ x, x ∈ hist → x ∈ hist') → (isLd o.op = true → wantA ops o (sts i) = some true → evOp P o (sts i) ≠ none → (i, o, sts i, d) ∈ hist') →
        ∃ sts' vals', sts' 0 = sts 0 ∧ (∀ j, j < i + (o :: r).length → TrOK xc P ops l an sts' vals' j) ∧ Q .norm (sts' (i + (o :: r).length)) := by
      intro d μ' hist' hd hok hsub hld
      obtain ⟨sts2, hs2⟩ : ∃ f : Nat → St, f = fun k => if k = i + 1 then ⟨putT (sts i).tmps o.dst d, μ'⟩ else sts k := ⟨_, rfl⟩
      obtain ⟨vals2, hv2⟩ : ∃ f : Nat → DV, f = fun k => if k = i then d else vals k := ⟨_, rfl⟩
      have e1 : ∀ k, k ≤ i → sts2 k = sts k := fun k hk => by rw [hs2]; simp only; rw [if_neg (by omega)]
      have e2 : sts2 (i + 1) = ⟨putT (sts i).tmps o.dst d, μ'⟩ := by rw [hs2]; simp
      have e3 : ∀ k, k < i → vals2 k = vals k := fun k hk => by rw [hv2]; simp only; rw [if_neg (by omega)]
      have e4 : vals2 i = d := by rw [hv2]; simp
      obtain ⟨sts', vals', q1, q2, q3⟩ := trace_of (Q := Q) hops r ar (i + 1) hist' sts2 vals2 (fun k => by have := hl (k + 1); rw [show i + 1 + k = i + (k + 1) by omega, this]; rfl) (fun k => by have := ha (k + 1); rw [show i + 1 + k = i + (k + 1) by omega, this]; rfl) (by rw [e2]; exact hd) (fun j hj => by
        rcases Nat.lt_or_ge j i with hji | hji
        · intro oj hoj
          obtain ⟨t1, t2⟩ := ht j hji oj hoj
          rw [e1 j (by omega), e1 (j + 1) (by omega), e3 j hji]
          refine ⟨t1, ?_⟩
          rcases t2 with t2 | ⟨t2, t3, t4, t5⟩ | t2 | t2
          · exact .inl t2
          · refine .inr (.inl ⟨t2, t3, t4, fun j' oj' h1 h2 h3 h4 h5 => ?_, t5.2⟩)
            rw [e1 j' (by omega)] at h4 ⊢
            rw [e3 j' (by omega)]
            exact t5.1 j' oj' h1 h2 h3 h4 h5
          · exact .inr (.inr (.inl t2))
          · exact .inr (.inr (.inr t2))
        · obtain rfl : j = i := by omega
          exact hok sts2 vals2 e1 e3 e4 e2) (fun j oj hj hoj hl1 hw hne => by
        rcases Nat.lt_or_ge j i with hji | hji
        · rw [e1 j (by omega)] at hw hne ⊢
          rw [e3 j hji]
          exact hsub _ (hh j oj hji hoj hl1 hw hne)
        · obtain rfl : j = i := by omega
          rw [e1 j (Nat.le_refl _)] at hw hne ⊢
          rw [e4]
          rw [hlo] at hoj
          injection hoj with hoj
          subst hoj
          exact hld hl1 hw hne)
      refine ⟨sts', vals', by rw [q1, e1 0 (by omega)], fun j hj => q2 j (by simp only [List.length_cons] at hj; omega), ?_⟩
      rw [List.length_cons, show i + (r.length + 1) = i + 1 + r.length by omega]
      exact q3
    simp only [drawQ] at h
    cases hwa : wantA ops o (sts i) with
    | none => rw [hwa] at h; exact h.elim
    | some b =>
      rw [hwa] at h
      simp only [dstep] at h
      cases b with
      | false =>
        simp only [Bool.false_eq_true, if_false] at h
        refine next _ _ hist h (fun sts' vals' f1 f2 f3 f4 oj hoj => ?_) (fun _ h => h) (fun _ hw => by rw [hwa] at hw; cases hw)
        rw [hlo] at hoj
        injection hoj with hoj
        subst hoj
        rw [f1 i (Nat.le_refl _), f4, f3]
        exact ⟨rfl, .inl ⟨hwa, rfl, rfl⟩⟩
      | true =>
        simp only [if_true] at h
        cases he : evOp P o (sts i) with
        | none =>
          rw [he] at h
          simp only [dval] at h
          by_cases hm : isMem xc o.op = true
          · rw [if_pos hm] at h
            obtain ⟨d, μ', hi, hfr, ho, h⟩ := h
            refine next _ _ hist h (fun sts' vals' f1 f2 f3 f4 oj hoj => ?_) (fun _ h => h) (fun hl1 => by rw [isLd_notMem hl1] at hm; cases hm)
            rw [hlo] at hoj
            injection hoj with hoj
            subst hoj
            rw [f1 i (Nat.le_refl _), f4, f3]
            refine ⟨rfl, .inr (.inl ⟨hwa, hm, .inr ⟨he, hi⟩, fun j oj hj hoj hl1 hw hc => ?_, hfr⟩)⟩
            rw [f1 j (by omega)] at hw ⊢
            rw [f2 j hj]
            have hne : evOp P oj (sts j) ≠ none := by
              intro hn
              obtain ⟨_, t⟩ := ht j hj oj hoj
              rcases t with t | t | t | t
              · rw [t.1] at hw; cases hw
              · rw [isLd_notMem hl1] at t; cases t.2.1
              · obtain ⟨μ2, hμ2⟩ := t.2.2.1; rw [hn] at hμ2; cases hμ2
              · obtain ⟨co, cargs, cts, f, caps, pargs, v, k1, _⟩ := t.2.2.2.1
                rw [k1] at hl1; cases hl1
            rw [hao] at hc
            exact oblg_mem ho j oj (sts j) (vals j) (hh j oj hj hoj hl1 hw hne) hc
          rw [if_neg hm] at h
          obtain ⟨co, cargs, cts, f, caps, pargs, v, k1, k2, k3, k4, k5⟩ := h
          refine next _ _ hist k5 (fun sts' vals' f1 f2 f3 f4 oj hoj => ?_) (fun _ h => h) (fun _ _ hne => absurd he hne)
          rw [hlo] at hoj
          injection hoj with hoj
          subst hoj
          rw [f1 i (Nat.le_refl _), f4, f3]
          exact ⟨rfl, .inr (.inr (.inr ⟨hwa, by simpa using hm, he, ⟨co, cargs, cts, f, caps, pargs, v, k1, k2, k3, k4, rfl⟩, rfl⟩))⟩
        | some p =>
          obtain ⟨d, μ'⟩ := p
          rw [he] at h
          simp only [dval] at h
          by_cases hm : isMem xc o.op = true
          · rw [if_pos hm] at h
            obtain ⟨ho, h⟩ := h
            refine next _ _ hist h (fun sts' vals' f1 f2 f3 f4 oj hoj => ?_) (fun _ h => h) (fun hl1 => by rw [isLd_notMem hl1] at hm; cases hm)
            rw [hlo] at hoj
            injection hoj with hoj
            subst hoj
            rw [f1 i (Nat.le_refl _), f4, f3]
            refine ⟨rfl, .inr (.inl ⟨hwa, hm, .inl he, fun j oj hj hoj hl1 hw hc => ?_, fun hf => by
              have hic : isCall o.op = true := by
                unfold freeAt at hf
                have hoo : ops.toList[i]? = some o := by rw [hops]; exact hlo
                simp only [hoo, Bool.and_eq_true] at hf
                exact hf.1
              rw [evOp_isCall hic] at he; cases he⟩)⟩
            rw [f1 j (by omega)] at hw ⊢
            rw [f2 j hj]
            have hne : evOp P oj (sts j) ≠ none := by
              intro hn
              obtain ⟨_, t⟩ := ht j hj oj hoj
              rcases t with t | t | t | t
              · rw [t.1] at hw; cases hw
              · rw [isLd_notMem hl1] at t; cases t.2.1
              · obtain ⟨μ2, hμ2⟩ := t.2.2.1; rw [hn] at hμ2; cases hμ2
              · obtain ⟨co, cargs, cts, f, caps, pargs, v, k1, _⟩ := t.2.2.2.1
                rw [k1] at hl1; cases hl1
            rw [hao] at hc
            exact oblg_mem ho j oj (sts j) (vals j) (hh j oj hj hoj hl1 hw hne) hc
          · rw [if_neg hm] at h
            refine next _ _ _ h (fun sts' vals' f1 f2 f3 f4 oj hoj => ?_) (fun x hx => by split; exact List.mem_cons_of_mem _ hx; exact hx) (fun hl1 _ _ => by rw [if_pos hl1]; exact List.mem_cons_self)
            rw [hlo] at hoj
            injection hoj with hoj
            subst hoj
            rw [f1 i (Nat.le_refl _), f4, f3]
            exact ⟨rfl, .inr (.inr (.inl ⟨hwa, by simpa using hm, ⟨μ', he⟩, rfl⟩))⟩
end Go.Proofs.YtmhpccchgbdiiaaGreatDoor
