/- The abstract machine, 13: a statement whose order is open. -/
import Derived.Test.YtikfefjaeejeeaaGreatDoorAeA
import Derived.Orders
namespace Go.Proofs.YtikfefjaeejeeaaGreatDoor
open Go.RowKit

def isMem (xc : Bool) : Op → Bool
  | .alloc _ | .box _ _ | .buildSlice _ _ _ | .makeSlice _ _ _ | .store _ _ _ | .makeMap _ _ | .mapUpdate _ _ _ _ | .range _ _ | .next _ _ => true
  | .call c => match c.callee with | .builtin .append => (match c.args.toList with | [x, _] => !isNilC x | _ => true) | .builtin .copy => true | .value _ => xc | _ => false
  | _ => false
def isLd : Op → Bool
  | .load _ _ | .lookup _ _ _ _ => true
  | _ => false
def isCall : Op → Bool
  | .call c => match c.callee with | .value _ => true | _ => false
  | _ => false
def dirs (o : Oper) : List Nat := (o.after.toList.filter (Region.binds .any)).map (·.on)
/-- a set of numbers, as the bits of one -/
structure AS where
  m : Nat
def AS.contains (a : AS) (j : Nat) : Bool := a.m.testBit j
instance : Membership Nat AS := ⟨fun a j => a.contains j = true⟩
theorem AS.mem_iff {a : AS} {j : Nat} : a.contains j = true ↔ j ∈ a := Iff.rfl
theorem AS.not_mem {a : AS} {j : Nat} : a.contains j = false ↔ ¬ j ∈ a := by
  rw [← AS.mem_iff]; simp
def asOr (acc : List AS) (s : Nat) (j : Nat) : Nat := Nat.lor s (Nat.lor (2 ^ j) ((acc[j]?).getD ⟨0⟩).m)
/-- what stands ahead of each operation in every order -/
def ancs : List Oper → List AS
  | l => l.foldl (fun acc o => acc ++ [⟨(dirs o).foldl (asOr acc) 0⟩]) []
def readsOf (ops : Array Oper) (o : Oper) : List Nat := o.looksAt ops
def calm (xc : Bool) (ops : Array Oper) : Bool :=
  let l := ops.toList
  let an := ancs l
  let n := l.length
  let isAnc (j i : Nat) : Bool := ((an[i]?).getD ⟨0⟩).contains j
  (List.range n).all fun i => match l[i]? with
    | none => true
    | some o => (dirs o).all (fun j => decide (j < i)) && (List.range n).all fun j => match l[j]? with
      | none => true
      | some p =>
        (match p.dst with
          | some t => (!(readsOf ops o).contains t || j == i || (decide (j < i) && isAnc j i) || (decide (i < j) && isAnc i j)) && (j == i || o.dst != some t)
          | none => true) &&
        (!(decide (j < i)) || !(isMem xc p.op) || !(isMem xc o.op || isLd o.op) || isAnc j i || (isLd o.op && isCall p.op))
/-- a call that a later load does not wait for -/
def freeAt (ops : Array Oper) (i : Nat) : Bool :=
  let l := ops.toList
  let an := ancs l
  match l[i]? with
  | some p => isCall p.op && (List.range l.length).any fun k => match l[k]? with
    | some o => decide (i < k) && isLd o.op && !(((an[k]?).getD ⟨0⟩).contains i)
    | none => false
  | none => false
theorem evOp_isCall {P : Program} {o : Oper} {s : St} (h : isCall o.op = true) : evOp P o s = none := by
  obtain ⟨dst, op, ty, pos, after, guard⟩ := o
  cases op <;> simp only [isCall, Bool.false_eq_true] at h
  rename_i c
  obtain ⟨callee, args, cts⟩ := c
  cases callee <;> simp only [Bool.false_eq_true] at h
  unfold evOp
  simp only

/-- the operations' own reading of the tmps -/
theorem evOp_congr {P : Program} {o : Oper} {s s' : St} (hμ : s.μ = s'.μ) (h : ∀ x ∈ o.op.operands, s.ev x = s'.ev x) : evOp P o s = evOp P o s' := by
  obtain ⟨dst, op, ty, pos, after, guard⟩ := o
  have keepe : ∀ d, evOp.keep s d = evOp.keep s' d := by
    intro d
    unfold evOp.keep
    rw [hμ]
  unfold evOp
  simp only at h ⊢
  cases op <;> simp only [Op.operands, Call.operands, List.mem_toArray, List.mem_cons, Array.mem_append, List.not_mem_nil, or_false, Option.mem_toArray, forall_eq_or_imp, forall_eq] at h ⊢ <;> first
    | rfl
    | (simp only [keepe, hμ, h]; done)
    | skip
  · rename_i t ps
    have : (ps.toList.map fun q => (q.fst, s.ev q.snd)) = (ps.toList.map fun q => (q.fst, s'.ev q.snd)) := List.map_congr_left fun q hq => by rw [h q.2 (List.mem_map.2 ⟨q, hq, rfl⟩)]
    rw [this, keepe]
  · rename_i t n ps
    have : (ps.toList.map fun q => (q.fst, s.ev q.snd)) = (ps.toList.map fun q => (q.fst, s'.ev q.snd)) := List.map_congr_left fun q hq => by rw [h q.2 (List.mem_map.2 ⟨q, hq, rfl⟩)]
    rw [this, hμ]
  · rename_i fn first caps
    cases fn <;> first
      | rfl
      | (have : caps.toList.map s.ev = caps.toList.map s'.ev := List.map_congr_left fun x hx => h x (.inr (by simpa using hx))
         simp only [this, hμ])
  · rename_i t x lo hi mx
    have om : ∀ (o : Option Operand), (∀ x, o = some x → s.ev x = s'.ev x) → o.map s.ev = o.map s'.ev := by
      intro o ho
      cases o with
      | none => rfl
      | some x => exact congrArg some (ho x rfl)
    rw [om lo (fun x hx => h x (.inl (.inl (.inr hx)))), om hi (fun x hx => h x (.inl (.inr hx))), om mx (fun x hx => h x (.inr hx)), h x (.inl (.inl (.inl rfl)))]
    simp only [keepe]
  · rename_i c
    obtain ⟨callee, args, cts⟩ := c
    have ha : ∀ x ∈ args.toList, s.ev x = s'.ev x := fun x hx => h x (.inr (by simpa using hx))
    simp only
    split <;> first
      | rfl
      | (rename_i hx _; rw [hx] at ha; simp only [List.mem_cons, List.not_mem_nil, or_false, forall_eq_or_imp, forall_eq] at ha; simp only [ha, keepe, hμ])
      | (rename_i hx; rw [hx] at ha; simp only [List.mem_cons, List.not_mem_nil, or_false, forall_eq_or_imp, forall_eq] at ha; simp only [ha, keepe, hμ])
theorem keep_mu {t : List DV} {μ μ2 : Mem} {d : Option DV} {e : DV} (h : evOp.keep ⟨t, μ⟩ d = some (e, μ)) : evOp.keep ⟨t, μ2⟩ d = some (e, μ2) := by
  obtain ⟨h, _⟩ := keep_some h
  subst h
  rfl
/-- an operation that neither makes nor reads memory -/
theorem evOp_nomem {xc : Bool} {P : Program} {o : Oper} (h1 : isMem xc o.op = false) (h2 : isLd o.op = false) {t : List DV} {μ : Mem} {d : DV} {μ' : Mem} (h : evOp P o ⟨t, μ⟩ = some (d, μ')) : μ' = μ ∧ ∀ μ2, evOp P o ⟨t, μ2⟩ = some (d, μ2) := by
  obtain ⟨dst, op, ty, pos, after, guard⟩ := o
  have kp : ∀ x : Option DV, evOp.keep ⟨t, μ⟩ x = some (d, μ') → μ' = μ ∧ ∀ μ2, evOp.keep ⟨t, μ2⟩ x = some (d, μ2) := by
    intro x hx
    obtain ⟨hh, hμ⟩ := keep_some hx
    subst hμ
    subst hh
    exact ⟨rfl, fun _ => rfl⟩
  have hev : ∀ (μ2 : Mem), (⟨t, μ2⟩ : St).ev = (⟨t, μ⟩ : St).ev := fun _ => funext fun x => by cases x <;> rfl
  unfold evOp at h ⊢
  simp only at h1 h2 h ⊢
  cases op <;> simp only [isMem, isLd, Bool.true_eq_false, reduceCtorEq] at h1 h2 h ⊢ <;> first
    | (cases h; done)
    | (exact kp _ h)
    | skip
  all_goals simp only [hev]
  all_goals generalize (⟨t, μ⟩ : St).ev = f at h ⊢
  · injection h with h; injection h with ha hb; subst ha; subst hb; exact ⟨rfl, fun _ => rfl⟩
  · injection h with h; injection h with ha hb; subst ha; subst hb; exact ⟨rfl, fun _ => rfl⟩
  · split at h
    · split at h
      · injection h with h; injection h with ha hb; subst ha; subst hb; exact ⟨rfl, fun _ => rfl⟩
      · cases h
    · cases h
  · rename_i fn first caps
    cases fn <;> first
      | (cases h; done)
      | (simp only at h ⊢
         split at h
         · rename_i hf0
           injection h with h; injection h with ha hb; subst ha; subst hb; exact ⟨rfl, fun _ => by rw [if_pos hf0]⟩
         · cases h)
  · split at h
    · rename_i hc
      obtain ⟨q1, q2⟩ := kp _ h; exact ⟨q1, fun m => by rw [if_pos hc]; exact q2 m⟩
    · cases h
  · split at h
    · split at h
      · rename_i hc
        obtain ⟨q1, q2⟩ := kp _ h; exact ⟨q1, fun m => by rw [if_pos hc]; exact q2 m⟩
      · cases h
    · cases h
  · rename_i c
    obtain ⟨callee, args, cts⟩ := c
    simp only at h h1 ⊢
    split at h <;> first
      | (cases h; done)
      | (obtain ⟨q1, q2⟩ := kp _ h; exact ⟨q1, q2⟩)
      | (simp only [isMem, Bool.true_eq_false] at h1; done)
      | (cases h1; done)
      | skip
    rename_i x y t1 t2 hx ht
    rw [hx] at h1
    simp only [Bool.not_eq_false'] at h1
    split at h
    · rename_i htt
      obtain ⟨q1, q2⟩ := kp _ (by first | exact h | (rw [if_pos h1] at h; exact h))
      refine ⟨q1, fun m => ?_⟩
      first
        | exact q2 m
        | (simp only [hx, ht]; rw [if_pos htt, if_pos h1]; exact q2 m)
        | (rw [if_pos htt, if_pos h1]; exact q2 m)
        | (rw [if_pos htt]; exact q2 m)
    · cases h

/-! ### The trace in the text's order -/
/-- a pure call, in the text's order -/
def DK (P : Program) (o : Oper) (K : St → Prop) (s : St) : Prop := ∃ co cargs cts f caps pargs v, o.op = .call { callee := .value co, args := cargs, argTypes := cts } ∧ fnOf (s.ev co) = some (f, caps) ∧ frzL 200 ⟨[], [], []⟩ (cargs.toList.map s.ev ++ caps) = some (pargs, ⟨[], [], []⟩) ∧ Pure P f pargs (.ret v) ∧ K ⟨putT s.tmps o.dst (.p v), s.μ⟩
/-- a pure call at a state -/
def PCall (P : Program) (o : Oper) (s : St) (d : DV) : Prop := ∃ co cargs cts f caps pargs v, o.op = .call { callee := .value co, args := cargs, argTypes := cts } ∧ fnOf (s.ev co) = some (f, caps) ∧ frzL 200 ⟨[], [], []⟩ (cargs.toList.map s.ev ++ caps) = some (pargs, ⟨[], [], []⟩) ∧ Pure P f pargs (.ret v) ∧ d = .p v
/-- what a closure's code comes to, one way -/
def RetPost (P : Program) (rs : List ResultVar) (K : DV → Mem → Prop) : AX → St → Prop := fun x s' => match x with
  | .norm | .ret => ∃ l, resA P s' rs = some l ∧ K (oneOrTup l) s'.μ
  | _ => False
/-- a call of a closure, which may turn memory -/
def ICall0 (P : Program) (o : Oper) (s : St) (d : DV) (μ' : Mem) : Prop := ∃ co cargs cts f caps fn c, o.op = .call { callee := .value co, args := cargs, argTypes := cts } ∧ fnOf (s.ev co) = some (f, caps) ∧ Callable P f fn c ∧
  AWP none P c (RetPost P fn.results.toList fun d' μ2 => d' = d ∧ μ2 = μ') ⟨(cargs.toList.map s.ev ++ caps) ++ List.replicate (fn.ntmps - (cargs.toList.map s.ev ++ caps).length) .undef, s.μ⟩
def ICall (P : Program) (o : Oper) (s : St) (d : DV) (μ' : Mem) : Prop := ICall0 P o s d μ' ∨ (PCall P o s d ∧ μ' = s.μ)
def Eff (P : Program) (o : Oper) (s : St) (d : DV) (μ' : Mem) : Prop := evOp P o s = some (d, μ') ∨ (evOp P o s = none ∧ ICall P o s d μ')
def oblg (P : Program) (an : AS) (μ' : Mem) : List (Nat × Oper × St × DV) → Prop
  | [] => True
  | (j, o, s, d) :: r => (if an.contains j = true then True else evOp P o ⟨s.tmps, μ'⟩ = some (d, μ')) ∧ oblg P an μ' r
def dval (xc : Bool) (fr : Bool) (P : Program) (o : Oper) (an : AS) (hist : List (Nat × Oper × St × DV)) (K : List (Nat × Oper × St × DV) → St → Prop) (i : Nat) (s : St) : Option (DV × Mem) → Prop
  | some (d, μ') => if isMem xc o.op = true then oblg P an μ' hist ∧ K hist ⟨putT s.tmps o.dst d, μ'⟩ else K (if isLd o.op = true then (i, o, s, d) :: hist else hist) ⟨putT s.tmps o.dst d, s.μ⟩
  | none => if isMem xc o.op = true then ∃ d μ', ICall P o s d μ' ∧ (fr = true → μ' = s.μ) ∧ oblg P an μ' hist ∧ K hist ⟨putT s.tmps o.dst d, μ'⟩ else DK P o (K hist) s
def dstep (xc : Bool) (P : Program) (ops : Array Oper) (o : Oper) (an : AS) (hist : List (Nat × Oper × St × DV)) (K : List (Nat × Oper × St × DV) → St → Prop) (i : Nat) (s : St) : Option Bool → Prop
  | some b => if b = true then dval xc (freeAt ops i) P o an hist K i s (evOp P o s) else K hist ⟨putT s.tmps o.dst (.p (.v (.tuple #[]))), s.μ⟩
  | none => False
def drawQ (xc : Bool) (P : Program) (ops : Array Oper) (Q : AX → St → Prop) : Nat → List Oper → List AS → List (Nat × Oper × St × DV) → St → Prop
  | _, [], _, _, s => Q .norm s
  | _, _ :: _, [], _, _ => False
  | i, o :: r, an :: ar, hist, s => dstep xc P ops o an hist (drawQ xc P ops Q (i + 1) r ar) i s (wantA ops o s)

theorem oblg_mem {P : Program} {an : AS} {μ' : Mem} : ∀ {hist : List (Nat × Oper × St × DV)}, oblg P an μ' hist → ∀ j o s d, (j, o, s, d) ∈ hist → an.contains j = false → evOp P o ⟨s.tmps, μ'⟩ = some (d, μ')
  | [], _, j, o, s, d, hm, _ => by cases hm
  | (j', o', s', d') :: r, h, j, o, s, d, hm, hc => by
    obtain ⟨h1, h2⟩ := h
    rcases List.mem_cons.1 hm with he | hm
    · injection he with e1 he; injection he with e2 he; injection he with e3 e4
      subst e1; subst e2; subst e3; subst e4
      rw [if_neg (by rw [hc]; simp)] at h1
      exact h1
    · exact oblg_mem h2 j o s d hm hc

/-- one operation of the trace -/
def TrOK (xc : Bool) (P : Program) (ops : Array Oper) (l : List Oper) (an : List AS) (sts : Nat → St) (vals : Nat → DV) (i : Nat) : Prop :=
  ∀ o, l[i]? = some o → (sts (i + 1)).tmps = putT (sts i).tmps o.dst (vals i) ∧
  ((wantA ops o (sts i) = some false ∧ vals i = .p (.v (.tuple #[])) ∧ (sts (i + 1)).μ = (sts i).μ) ∨
   (wantA ops o (sts i) = some true ∧ isMem xc o.op = true ∧ Eff P o (sts i) (vals i) ((sts (i + 1)).μ) ∧
     (∀ j oj, j < i → l[j]? = some oj → isLd oj.op = true → wantA ops oj (sts j) = some true → ((an[i]?).getD ⟨0⟩).contains j = false → evOp P oj ⟨(sts j).tmps, (sts (i + 1)).μ⟩ = some (vals j, (sts (i + 1)).μ)) ∧ (freeAt ops i = true → (sts (i + 1)).μ = (sts i).μ)) ∨
   (wantA ops o (sts i) = some true ∧ isMem xc o.op = false ∧ (∃ μ', evOp P o (sts i) = some (vals i, μ')) ∧ (sts (i + 1)).μ = (sts i).μ) ∨
   (wantA ops o (sts i) = some true ∧ isMem xc o.op = false ∧ evOp P o (sts i) = none ∧ PCall P o (sts i) (vals i) ∧ (sts (i + 1)).μ = (sts i).μ))
theorem isLd_notMem {xc : Bool} {o : Op} (h : isLd o = true) : isMem xc o = false := by cases o <;> simp_all [isLd, isMem]
theorem trace_of {xc : Bool} {P : Program} {ops : Array Oper} {Q : AX → St → Prop} {l : List Oper} {an : List AS} (hops : ops.toList = l) : ∀ (r : List Oper) (ar : List AS) (i : Nat) (hist : List (Nat × Oper × St × DV)) (sts : Nat → St) (vals : Nat → DV),
    (∀ k, l[i + k]? = r[k]?) → (∀ k, an[i + k]? = ar[k]?) → drawQ xc P ops Q i r ar hist (sts i) → (∀ j, j < i → TrOK xc P ops l an sts vals j) →
    (∀ j oj, j < i → l[j]? = some oj → isLd oj.op = true → wantA ops oj (sts j) = some true → evOp P oj (sts j) ≠ none → (j, oj, sts j, vals j) ∈ hist) →
    ∃ sts' vals', sts' 0 = sts 0 ∧ (∀ j, j < i + r.length → TrOK xc P ops l an sts' vals' j) ∧ Q .norm (sts' (i + r.length))
  | [], ar, i, hist, sts, vals, hl, ha, h, ht, hh => ⟨sts, vals, rfl, ht, h⟩
  | o :: r, [], i, hist, sts, vals, hl, ha, h, ht, hh => h.elim
  | o :: r, a :: ar, i, hist, sts, vals, hl, ha, h, ht, hh => by
    have hlo : l[i]? = some o := by have := hl 0; simpa using this
    have hao : an[i]? = some a := by have := ha 0; simpa using this
    have next : ∀ (d : DV) (μ' : Mem) (hist' : List (Nat × Oper × St × DV)), drawQ xc P ops Q (i + 1) r ar hist' ⟨putT (sts i).tmps o.dst d, μ'⟩ →
        (∀ sts' vals', (∀ k, k ≤ i → sts' k = sts k) → (∀ k, k < i → vals' k = vals k) → vals' i = d → sts' (i + 1) = ⟨putT (sts i).tmps o.dst d, μ'⟩ → TrOK xc P ops l an sts' vals' i) →
        (∀ x, x ∈ hist → x ∈ hist') → (isLd o.op = true → wantA ops o (sts i) = some true → evOp P o (sts i) ≠ none → (i, o, sts i, d) ∈ hist') →
        ∃ sts' vals', sts' 0 = sts 0 ∧ (∀ j, j < i + (o :: r).length → TrOK xc P ops l an sts' vals' j) ∧ Q .norm (sts' (i + (o :: r).length)) := by
      intro d μ' hist' hd hok hsub hld
      obtain ⟨sts2, hs2⟩ : ∃ f : Nat → St, f = fun k => if k = i + 1 then ⟨putT (sts i).tmps o.dst d, μ'⟩ else sts k := ⟨_, rfl⟩
      obtain ⟨vals2, hv2⟩ : ∃ f : Nat → DV, f = fun k => if k = i then d else vals k := ⟨_, rfl⟩
      have e1 : ∀ k, k ≤ i → sts2 k = sts k := fun k hk => by rw [hs2]; simp only; rw [if_neg (by omega)]
      have e2 : sts2 (i + 1) = ⟨putT (sts i).tmps o.dst d, μ'⟩ := by rw [hs2]; simp
      have e3 : ∀ k, k < i → vals2 k = vals k := fun k hk => by rw [hv2]; simp only; rw [if_neg (by omega)]
      have e4 : vals2 i = d := by rw [hv2]; simp
      obtain ⟨sts', vals', q1, q2, q3⟩ := trace_of (Q := Q) hops r ar (i + 1) hist' sts2 vals2 (fun k => by have := hl (k + 1); rw [show i + 1 + k = i + (k + 1) by omega, this]; rfl) (fun k => by have := ha (k + 1); rw [show i + 1 + k = i + (k + 1) by omega, this]; rfl) (by rw [e2]; exact hd) (fun j hj => by
        rcases Nat.lt_or_ge j i with hji | hji
        · intro oj hoj
          obtain ⟨t1, t2⟩ := ht j hji oj hoj
          rw [e1 j (by omega), e1 (j + 1) (by omega), e3 j hji]
          refine ⟨t1, ?_⟩
          rcases t2 with t2 | ⟨t2, t3, t4, t5⟩ | t2 | t2
          · exact .inl t2
          · refine .inr (.inl ⟨t2, t3, t4, fun j' oj' h1 h2 h3 h4 h5 => ?_, t5.2⟩)
            rw [e1 j' (by omega)] at h4 ⊢
            rw [e3 j' (by omega)]
            exact t5.1 j' oj' h1 h2 h3 h4 h5
          · exact .inr (.inr (.inl t2))
          · exact .inr (.inr (.inr t2))
        · obtain rfl : j = i := by omega
          exact hok sts2 vals2 e1 e3 e4 e2) (fun j oj hj hoj hl1 hw hne => by
        rcases Nat.lt_or_ge j i with hji | hji
        · rw [e1 j (by omega)] at hw hne ⊢
          rw [e3 j hji]
          exact hsub _ (hh j oj hji hoj hl1 hw hne)
        · obtain rfl : j = i := by omega
          rw [e1 j (Nat.le_refl _)] at hw hne ⊢
          rw [e4]
          rw [hlo] at hoj
          injection hoj with hoj
          subst hoj
          exact hld hl1 hw hne)
      refine ⟨sts', vals', by rw [q1, e1 0 (by omega)], fun j hj => q2 j (by simp only [List.length_cons] at hj; omega), ?_⟩
      rw [List.length_cons, show i + (r.length + 1) = i + 1 + r.length by omega]
      exact q3
    simp only [drawQ] at h
    cases hwa : wantA ops o (sts i) with
    | none => rw [hwa] at h; exact h.elim
    | some b =>
      rw [hwa] at h
      simp only [dstep] at h
      cases b with
      | false =>
        simp only [Bool.false_eq_true, if_false] at h
        refine next _ _ hist h (fun sts' vals' f1 f2 f3 f4 oj hoj => ?_) (fun _ h => h) (fun _ hw => by rw [hwa] at hw; cases hw)
        rw [hlo] at hoj
        injection hoj with hoj
        subst hoj
        rw [f1 i (Nat.le_refl _), f4, f3]
        exact ⟨rfl, .inl ⟨hwa, rfl, rfl⟩⟩
      | true =>
        simp only [if_true] at h
        cases he : evOp P o (sts i) with
        | none =>
          rw [he] at h
          simp only [dval] at h
          by_cases hm : isMem xc o.op = true
          · rw [if_pos hm] at h
            obtain ⟨d, μ', hi, hfr, ho, h⟩ := h
            refine next _ _ hist h (fun sts' vals' f1 f2 f3 f4 oj hoj => ?_) (fun _ h => h) (fun hl1 => by rw [isLd_notMem hl1] at hm; cases hm)
            rw [hlo] at hoj
            injection hoj with hoj
            subst hoj
            rw [f1 i (Nat.le_refl _), f4, f3]
            refine ⟨rfl, .inr (.inl ⟨hwa, hm, .inr ⟨he, hi⟩, fun j oj hj hoj hl1 hw hc => ?_, hfr⟩)⟩
            rw [f1 j (by omega)] at hw ⊢
            rw [f2 j hj]
            have hne : evOp P oj (sts j) ≠ none := by
              intro hn
              obtain ⟨_, t⟩ := ht j hj oj hoj
              rcases t with t | t | t | t
              · rw [t.1] at hw; cases hw
              · rw [isLd_notMem hl1] at t; cases t.2.1
              · obtain ⟨μ2, hμ2⟩ := t.2.2.1; rw [hn] at hμ2; cases hμ2
              · obtain ⟨co, cargs, cts, f, caps, pargs, v, k1, _⟩ := t.2.2.2.1
                rw [k1] at hl1; cases hl1
            rw [hao] at hc
            exact oblg_mem ho j oj (sts j) (vals j) (hh j oj hj hoj hl1 hw hne) hc
          rw [if_neg hm] at h
          obtain ⟨co, cargs, cts, f, caps, pargs, v, k1, k2, k3, k4, k5⟩ := h
          refine next _ _ hist k5 (fun sts' vals' f1 f2 f3 f4 oj hoj => ?_) (fun _ h => h) (fun _ _ hne => absurd he hne)
          rw [hlo] at hoj
          injection hoj with hoj
          subst hoj
          rw [f1 i (Nat.le_refl _), f4, f3]
          exact ⟨rfl, .inr (.inr (.inr ⟨hwa, by simpa using hm, he, ⟨co, cargs, cts, f, caps, pargs, v, k1, k2, k3, k4, rfl⟩, rfl⟩))⟩
        | some p =>
          obtain ⟨d, μ'⟩ := p
          rw [he] at h
          simp only [dval] at h
          by_cases hm : isMem xc o.op = true
          · rw [if_pos hm] at h
            obtain ⟨ho, h⟩ := h
            refine next _ _ hist h (fun sts' vals' f1 f2 f3 f4 oj hoj => ?_) (fun _ h => h) (fun hl1 => by rw [isLd_notMem hl1] at hm; cases hm)
            rw [hlo] at hoj
            injection hoj with hoj
            subst hoj
            rw [f1 i (Nat.le_refl _), f4, f3]
            refine ⟨rfl, .inr (.inl ⟨hwa, hm, .inl he, fun j oj hj hoj hl1 hw hc => ?_, fun hf => by
              have hic : isCall o.op = true := by
                unfold freeAt at hf
                have hoo : ops.toList[i]? = some o := by rw [hops]; exact hlo
                simp only [hoo, Bool.and_eq_true] at hf
                exact hf.1
              rw [evOp_isCall hic] at he; cases he⟩)⟩
            rw [f1 j (by omega)] at hw ⊢
            rw [f2 j hj]
            have hne : evOp P oj (sts j) ≠ none := by
              intro hn
              obtain ⟨_, t⟩ := ht j hj oj hoj
              rcases t with t | t | t | t
              · rw [t.1] at hw; cases hw
              · rw [isLd_notMem hl1] at t; cases t.2.1
              · obtain ⟨μ2, hμ2⟩ := t.2.2.1; rw [hn] at hμ2; cases hμ2
              · obtain ⟨co, cargs, cts, f, caps, pargs, v, k1, _⟩ := t.2.2.2.1
                rw [k1] at hl1; cases hl1
            rw [hao] at hc
            exact oblg_mem ho j oj (sts j) (vals j) (hh j oj hj hoj hl1 hw hne) hc
          · rw [if_neg hm] at h
            refine next _ _ _ h (fun sts' vals' f1 f2 f3 f4 oj hoj => ?_) (fun x hx => by split; exact List.mem_cons_of_mem _ hx; exact hx) (fun hl1 _ _ => by rw [if_pos hl1]; exact List.mem_cons_self)
            rw [hlo] at hoj
            injection hoj with hoj
            subst hoj
            rw [f1 i (Nat.le_refl _), f4, f3]
            exact ⟨rfl, .inr (.inr (.inl ⟨hwa, by simpa using hm, ⟨μ', he⟩, rfl⟩))⟩
end Go.Proofs.YtikfefjaeejeeaaGreatDoor

/- The abstract machine, 14: a statement whose order is open, in whatever order. -/
namespace Go.Proofs.YtikfefjaeejeeaaGreatDoor
open Go.RowKit

/-- what calm says of two operations -/
structure CalmO (l : List Oper) (ops : Array Oper) (an : List AS) : Prop where
  dir : ∀ (i : Nat) (o : Oper), l[i]? = some o → ∀ j ∈ dirs o, j < i
  anc : ∀ (i : Nat) (o : Oper), l[i]? = some o → ∀ j ∈ (an[i]?).getD ⟨0⟩, ∃ k ∈ dirs o, j = k ∨ j ∈ (an[k]?).getD ⟨0⟩
  read : ∀ (i j : Nat) (o p : Oper) (t : Nat), l[i]? = some o → l[j]? = some p → p.dst = some t → t ∈ readsOf ops o → j = i ∨ (j < i ∧ j ∈ (an[i]?).getD ⟨0⟩) ∨ (i < j ∧ i ∈ (an[j]?).getD ⟨0⟩)
  dst : ∀ (i j : Nat) (o p : Oper) (t : Nat), l[i]? = some o → l[j]? = some p → p.dst = some t → o.dst = some t → j = i
structure CalmOps (xc : Bool) (l : List Oper) (ops : Array Oper) (an : List AS) : Prop extends CalmO l ops an where
  mem : ∀ (i j : Nat) (o p : Oper), l[i]? = some o → l[j]? = some p → j < i → isMem xc p.op = true → (isMem xc o.op = true ∨ isLd o.op = true) → j ∈ (an[i]?).getD ⟨0⟩ ∨ (isLd o.op = true ∧ freeAt ops j = true)
theorem foldl_snoc_get {α β : Type} (f : List β → α → β) : ∀ (l : List α) (acc : List β), (∀ i, i < acc.length → (l.foldl (fun acc o => acc ++ [f acc o]) acc)[i]? = acc[i]?) ∧ (l.foldl (fun acc o => acc ++ [f acc o]) acc).length = acc.length + l.length ∧
    ∀ i o, l[i]? = some o → ∃ pre, (l.foldl (fun acc o => acc ++ [f acc o]) acc)[acc.length + i]? = some (f pre o) ∧ ∀ k, k < acc.length + i → pre[k]? = (l.foldl (fun acc o => acc ++ [f acc o]) acc)[k]?
  | [], acc => ⟨fun i hi => rfl, by simp, fun i o h => by simp at h⟩
  | a :: r, acc => by
    obtain ⟨h1, h2, h3⟩ := foldl_snoc_get f r (acc ++ [f acc a])
    rw [List.foldl_cons]
    refine ⟨fun i hi => ?_, ?_, fun i o ho => ?_⟩
    · rw [h1 i (by simp; omega), List.getElem?_append_left hi]
    · rw [h2]; simp; omega
    · cases i with
      | zero =>
        simp only [List.getElem?_cons_zero, Option.some.injEq] at ho
        subst ho
        refine ⟨acc, ?_, fun k hk => ?_⟩
        · rw [Nat.add_zero, h1 _ (by simp)]; simp
        · rw [h1 k (by simp; omega), List.getElem?_append_left (by omega)]
      | succ i =>
        simp only [List.getElem?_cons_succ] at ho
        obtain ⟨pre, q1, q2⟩ := h3 i o ho
        have e : acc.length + (i + 1) = (acc ++ [f acc a]).length + i := by simp; omega
        rw [e]
        exact ⟨pre, q1, q2⟩
theorem dirs_fold (acc : List AS) : ∀ (ds : List Nat) (s0 : Nat) (j : Nat), j ∈ (⟨ds.foldl (asOr acc) s0⟩ : AS) → j ∈ (⟨s0⟩ : AS) ∨ ∃ k ∈ ds, j = k ∨ j ∈ (acc[k]?).getD ⟨0⟩
  | [], s0, j, h => .inl h
  | d :: r, s0, j, h => by
    rw [List.foldl_cons] at h
    rcases dirs_fold acc r _ j h with h | ⟨k, hk, h⟩
    · have h' : Nat.testBit (s0 ||| (2 ^ d ||| ((acc[d]?).getD ⟨0⟩).m)) j = true := h
      rw [Nat.testBit_or, Nat.testBit_or, Bool.or_eq_true, Bool.or_eq_true, Nat.testBit_two_pow, decide_eq_true_eq] at h'
      rcases h' with h' | h' | h'
      · exact .inl h'
      · exact .inr ⟨d, List.mem_cons_self, .inl h'.symm⟩
      · exact .inr ⟨d, List.mem_cons_self, .inr h'⟩
    · exact .inr ⟨k, List.mem_cons_of_mem _ hk, h⟩
theorem calm_of {xc : Bool} {ops : Array Oper} (h : calm xc ops = true) : CalmOps xc ops.toList ops (ancs ops.toList) := by
  unfold calm at h
  simp only [List.all_eq_true, List.mem_range] at h
  have hb : ∀ (i : Nat) (o : Oper), ops.toList[i]? = some o → i < ops.toList.length := fun i o ho => (List.getElem?_eq_some_iff.1 ho).1
  have hdir : ∀ (i : Nat) (o : Oper), ops.toList[i]? = some o → ∀ j ∈ dirs o, j < i := by
    intro i o ho j hj
    have := h i (hb i o ho)
    rw [ho] at this
    simp only [Bool.and_eq_true, List.all_eq_true, decide_eq_true_eq] at this
    exact this.1 j hj
  have hpair : ∀ (i j : Nat) (o p : Oper), ops.toList[i]? = some o → ops.toList[j]? = some p → _ := fun i j o p ho hp => by
    have := h i (hb i o ho)
    rw [ho] at this
    simp only [Bool.and_eq_true, List.all_eq_true, decide_eq_true_eq, List.mem_range] at this
    have := this.2 j (hb j p hp)
    rw [hp] at this
    simp only [Bool.and_eq_true] at this
    exact this
  refine ⟨⟨hdir, fun i o ho j hj => ?_, fun i j o p t ho hp ht hr => ?_, fun i j o p t ho hp ht hd => ?_⟩, fun i j o p ho hp hji hm hml => ?_⟩
  · obtain ⟨_, h2, h3⟩ := foldl_snoc_get (fun (acc : List AS) (o : Oper) => (⟨(dirs o).foldl (asOr acc) 0⟩ : AS)) ops.toList []
    obtain ⟨pre, q1, q2⟩ := h3 i o ho
    simp only [List.length_nil, Nat.zero_add] at q1 q2
    have q1' : (ancs ops.toList)[i]? = some ⟨(dirs o).foldl (asOr pre) 0⟩ := q1
    rw [q1'] at hj
    simp only [Option.getD_some] at hj
    rcases dirs_fold pre _ _ j hj with hj | ⟨k, hk, hj⟩
    · exact absurd (AS.mem_iff.2 hj) (by simp [AS.contains])
    · refine ⟨k, hk, hj.imp id fun hj => ?_⟩
      have := q2 k (hdir i o ho k hk)
      rw [this] at hj
      exact hj
  · obtain ⟨h1, _⟩ := hpair i j o p ho hp
    rw [ht] at h1
    simp only [Bool.and_eq_true, Bool.or_eq_true, Bool.not_eq_true', beq_iff_eq, decide_eq_true_eq, AS.mem_iff] at h1
    have hc : (readsOf ops o).contains t = true := by simpa using hr
    rcases h1.1 with ((h1 | h1) | h1) | h1
    · rw [hc] at h1; cases h1
    · exact .inl h1
    · exact .inr (.inl ⟨h1.1, h1.2⟩)
    · exact .inr (.inr ⟨h1.1, h1.2⟩)
  · obtain ⟨h1, _⟩ := hpair i j o p ho hp
    rw [ht] at h1
    simp only [Bool.and_eq_true, Bool.or_eq_true, beq_iff_eq, bne_iff_ne] at h1
    rcases h1.2 with h1 | h1
    · exact h1
    · exact absurd hd h1
  · obtain ⟨_, h1⟩ := hpair i j o p ho hp
    simp only [Bool.or_eq_true, Bool.not_eq_true', decide_eq_false_iff_not, AS.mem_iff] at h1
    rcases h1 with (((h1 | h1) | h1) | h1) | h1
    · exact absurd hji h1
    · rw [hm] at h1; cases h1
    · rcases hml with h2 | h2
      · rw [h2] at h1; simp at h1
      · rw [h2] at h1; simp at h1
    · exact .inl h1
    · by_cases ha : j ∈ ((ancs ops.toList)[i]?).getD ⟨0⟩
      · exact .inl ha
      right
      simp only [Bool.and_eq_true] at h1
      refine ⟨h1.1, ?_⟩
      unfold freeAt
      simp only [hp, Bool.and_eq_true, h1.2, true_and, List.any_eq_true, List.mem_range]
      refine ⟨i, hb i o ho, ?_⟩
      simp only [ho, Bool.and_eq_true, decide_eq_true_eq, h1.1, and_true, Bool.not_eq_true', AS.not_mem]
      exact ⟨hji, ha⟩
end Go.Proofs.YtikfefjaeejeeaaGreatDoor

/- The abstract machine, 15: a statement whose order is open: THE LAW. -/
namespace Go.Proofs.YtikfefjaeejeeaaGreatDoor
open Go.RowKit

theorem maskT_get' (ks : List Nat) : ∀ (i : Nat) (l : List DV) (j : Nat) (d : DV), (maskT ks i l)[j]? = some d → d = .undef ∨ (i + j ∈ ks ∧ l[j]? = some d)
  | _, [], j, d, h => by simp [maskT] at h
  | i, e :: r, 0, d, h => by
    simp only [maskT, List.getElem?_cons_zero, Option.some.injEq] at h
    split at h
    · rename_i hk
      right
      exact ⟨by simpa using hk, by simp [h]⟩
    · left; exact h.symm
  | i, e :: r, j + 1, d, h => by
    simp only [maskT, List.getElem?_cons_succ] at h ⊢
    have := maskT_get' ks (i + 1) r j d h
    rwa [show i + 1 + j = i + (j + 1) by omega] at this
theorem getT_mask (ks : List Nat) : ∀ (i : Nat) (l : List DV) (j : Nat), i + j ∈ ks → getT (maskT ks i l) j = getT l j
  | _, [], j, h => by simp [maskT]
  | i, e :: r, 0, h => by
    simp only [maskT, getT]
    rw [if_pos (by simpa using h)]
  | i, e :: r, j + 1, h => by
    simp only [maskT, getT]
    exact getT_mask ks (i + 1) r j (by rwa [show i + 1 + j = i + (j + 1) by omega])
theorem putT_length (l : List DV) (o : Option Nat) (v : DV) : (putT l o v).length = l.length := by
  cases o with
  | none => rfl
  | some i => simp [putT, setT_set]
theorem getT_put (l : List DV) (o : Option Nat) (v : DV) (t : Nat) (ht : t < l.length) : getT (putT l o v) t = if o = some t then v else getT l t := by
  cases o with
  | none => simp [putT]
  | some i =>
    simp only [putT, setT_set, getT_get]
    by_cases h : i = t
    · subst h; rw [List.getElem?_set_self ht, if_pos rfl]; rfl
    · rw [List.getElem?_set_ne h, if_neg (by simpa using h)]
theorem countP_less {α : Type} {p p' : α → Bool} : ∀ {l : List α}, (∀ x ∈ l, p' x = true → p x = true) → (∃ x ∈ l, p x = true ∧ p' x = false) → l.countP p' < l.countP p
  | [], _, ⟨x, hx, _⟩ => by cases hx
  | a :: r, h, ⟨x, hx, h1, h2⟩ => by
    have hle : r.countP p' ≤ r.countP p := List.countP_mono_left (fun y hy hp => h y (List.mem_cons_of_mem _ hy) hp)
    rcases List.mem_cons.1 hx with rfl | hx
    · rw [List.countP_cons_of_pos h1, List.countP_cons_of_neg (by rw [h2]; simp)]
      omega
    · have ih := countP_less (l := r) (fun y hy => h y (List.mem_cons_of_mem _ hy)) ⟨x, hx, h1, h2⟩
      cases hp' : p' a with
      | true => rw [List.countP_cons_of_pos hp', List.countP_cons_of_pos (h a List.mem_cons_self hp')]; omega
      | false =>
        rw [List.countP_cons_of_neg (by rw [hp']; simp)]
        cases hp : p a with
        | true => rw [List.countP_cons_of_pos hp]; omega
        | false => rw [List.countP_cons_of_neg (by rw [hp]; simp)]; exact ih
theorem frz_any : ∀ (k : Nat), (∀ d q μ', frz k ⟨[], [], []⟩ d = some (q, μ') → ∀ μ, frz k μ d = some (q, μ)) ∧ (∀ ds l μ', frzL k ⟨[], [], []⟩ ds = some (l, μ') → ∀ μ, frzL k μ ds = some (l, μ)) := by
  intro k
  induction k with
  | zero => exact ⟨fun d q μ' h => by simp [frz] at h, fun ds l μ' h => by simp [frzL] at h⟩
  | succ k ih =>
    have emp : ∀ k, (∀ d q μ', frz k ⟨[], [], []⟩ d = some (q, μ') → μ' = ⟨[], [], []⟩) ∧ (∀ ds l μ', frzL k ⟨[], [], []⟩ ds = some (l, μ') → μ' = ⟨[], [], []⟩) := by
      intro k
      induction k with
      | zero => exact ⟨fun d q μ' h => by simp [frz] at h, fun ds l μ' h => by simp [frzL] at h⟩
      | succ k ih =>
        refine ⟨fun d q μ' h => ?_, fun ds l μ' h => ?_⟩
        · cases d with
          | fn f cs => cases cs <;> simp [frz] at h; exact h.2.symm
          | agg cs => simp only [frz] at h; split at h; (rename_i hl; injection h with h; injection h with _ h; subst h; exact ih.2 _ _ _ hl); cases h
          | tup cs => simp only [frz] at h; split at h; (rename_i hl; injection h with h; injection h with _ h; subst h; exact ih.2 _ _ _ hl); cases h
          | bsl b off sz len cap => simp [frz] at h
          | _ => simp [frz] at h <;> exact h.2.symm
        · cases ds with
          | nil => simp [frzL] at h; exact h.2.symm
          | cons d r =>
            simp only [frzL] at h
            split at h
            · rename_i p μ1 h1
              split at h
              · rename_i l2 μ2 h2
                injection h with h; injection h with _ h; subst h
                have := ih.1 _ _ _ h1
                subst this
                exact ih.2 _ _ _ h2
              · cases h
            · cases h
    refine ⟨fun d q μ' h μ => ?_, fun ds l μ' h μ => ?_⟩
    · cases d with
      | fn f cs => cases cs <;> simp [frz] at h ⊢; exact h.1
      | agg cs =>
        simp only [frz] at h ⊢
        split at h
        · rename_i l μ1 hl
          injection h with h; injection h with h _; subst h
          rw [ih.2 _ _ _ hl μ]
        · cases h
      | tup cs =>
        simp only [frz] at h ⊢
        split at h
        · rename_i l μ1 hl
          injection h with h; injection h with h _; subst h
          rw [ih.2 _ _ _ hl μ]
        · cases h
      | bsl b off sz len cap => simp [frz] at h
      | undef => simp [frz] at h
      | loc b o => simp [frz] at h
      | ep els i o => simp [frz] at h
      | _ => simp [frz] at h ⊢ <;> exact h.1
    · cases ds with
      | nil => simp [frzL] at h ⊢; exact h.1
      | cons d r =>
        simp only [frzL] at h ⊢
        split at h
        · rename_i p μ1 h1
          split at h
          · rename_i l2 μ2 h2
            injection h with h; injection h with h _; subst h
            have := (emp k).1 _ _ _ h1
            subst this
            rw [ih.1 _ _ _ h1 μ]
            simp only
            rw [ih.2 _ _ _ h2 μ]
          · cases h
        · cases h
/-- a pure call, as the weakest condition -/
theorem call_wp {ro : Option Nat} {P : Program} {G : Gh} {s : St} {a : Act} {w : World} (hs : SRel G s a w) {o : Oper} {d : DV} (h : PCall P o s d) {K : Act → World → Prop} {Q : Exit → Act → World → Prop}
    (hk : ∀ x w1 G1, CRel G1 w1 d x → MRel G1 s.μ w1 → Grw G w G1 w1 → K (a.put o.dst x) w1) : o.wpIn (FF ro) 0 P a w K Q := by
  obtain ⟨co, cargs, cts, f, caps, pargs, v, ho, hc, hf, hp, rfl⟩ := h
  obtain ⟨⟨fn, c, hcl⟩, hp⟩ := hp
  obtain ⟨vs, hv1, hv2, hv3⟩ := fn_val hs hc
  obtain ⟨ha1, ha2⟩ := args_rel hs cargs caps vs hv2 hv3
  obtain ⟨G1, m1, m2, _, m4, m5⟩ := (frz_sound 200).2 _ _ _ _ ((frz_any 200).2 _ _ _ hf s.μ) G w (cargs.map a.eval ++ vs).toList hs.mem (by simpa using ha1) (fun i d x hd hx => ha2 i d x hd (by rw [Array.getElem?_toList] at hx; exact hx))
  have hrun := execOp_call (P := P) (w := w) ho hv1 hcl
  rw [Array.empty_append] at hrun
  refine opw_enter (fun c hdf => by rw [ho] at hdf; cases hdf) hrun (hp G1.Z w _ (m1.lw.below m1.bel m1.hb) m1.zlt ⟨by rw [m4]; simpa using ha1, fun i d x hd hx => m5 i d x hd (by rw [Array.getElem?_toList]; exact hx)⟩) ?_
  rintro e1 w1 he
  cases e1 with
  | returned x =>
    obtain ⟨h1, h2⟩ := he
    exact hk x w1 (G1.grown w w1) (.p _ _ h1) (m1.below h2) (m2.trans (Grw.below m1.zlt h2))
  | panicked ch => exact he.elim
  | outgrown => exact he.elim

/-- a closure's call, as the weakest condition -/
theorem icall_wp {ro : Option Nat} {P : Program} {G : Gh} {s : St} {a : Act} {w : World} (hs : SRel G s a w) {o : Oper} {d : DV} {μ' : Mem} (h : ICall0 P o s d μ') {K : Act → World → Prop} {Q : Exit → Act → World → Prop}
    (hk : ∀ x w1 G1, CRel G1 w1 d x → MRel G1 μ' w1 → Grw G w G1 w1 → K (a.put o.dst x) w1) : o.wpIn (FF ro) 0 P a w K Q := by
  obtain ⟨co, cargs, cts, f, caps, fn, c, ho, hc, hcl, h⟩ := h
  obtain ⟨vs, hv1, hv2, hv3⟩ := fn_val hs hc
  obtain ⟨ha1, ha2⟩ := args_rel hs cargs caps vs hv2 hv3
  have hrun := execOp_call (P := P) (w := w) ho hv1 hcl
  rw [Array.empty_append] at hrun
  have hs1 : SRel (G.dfr []) ⟨(cargs.toList.map s.ev ++ caps) ++ List.replicate (fn.ntmps - (cargs.toList.map s.ev ++ caps).length) .undef, s.μ⟩ { tmps := (cargs.map a.eval ++ vs) ++ Array.replicate (fn.ntmps - (cargs.map a.eval ++ vs).size) undef, defers := [] } w := by
    refine ⟨by rw [Array.size_append, List.length_append, ha1]; simp, fun i d x hd hx => ?_, rfl, hs.mem.dfr []⟩
    rcases Nat.lt_or_ge i (cargs.toList.map s.ev ++ caps).length with hi | hi
    · simp only at hd hx
      rw [List.getElem?_append_left hi] at hd
      rw [Array.getElem?_append_left (by rw [ha1]; exact hi)] at hx
      exact (ha2 i d x hd hx).dfr []
    · simp only at hd
      rw [List.getElem?_append_right hi, List.getElem?_replicate] at hd
      split at hd
      · injection hd with hd; subst hd; exact .undef _
      · cases hd
  refine opw_enter (fun c hdf => by rw [ho] at hdf; cases hdf) hrun (calls_of_wp (R := fun e w'' => match e with
    | .returned v => ∃ G', CRel G' w'' d v ∧ MRel G' μ' w'' ∧ Grw G w G' w''
    | _ => False) hcl.at_ hcl.body (wp_mono (wpIn_wide.1 (h (G.dfr []) _ w hs1)) ?_)) ?_
  · rintro e a' w' ⟨x, s', G', h1, h2, h3, h4⟩
    cases x <;> cases e <;> first
      | (exact h1.elim; done)
      | (exact h2.elim; done)
      | skip
    · obtain ⟨l, k1, k2, k3⟩ := h2
      obtain ⟨y, q1, q2⟩ := results_run h3 k1
      exact ⟨h3.defers.trans h4.df, y, q1, G'.dfr G.df, by rw [← k2]; exact q2.dfr _, by rw [← k3]; exact h3.mem.dfr _, h4.back⟩
    · obtain ⟨l, k1, k2, k3⟩ := h2
      obtain ⟨y, q1, q2⟩ := results_run h3 k1
      exact ⟨h3.defers.trans h4.df, y, q1, G'.dfr G.df, by rw [← k2]; exact q2.dfr _, by rw [← k3]; exact h3.mem.dfr _, h4.back⟩
  · intro e w'' he
    cases e with
    | returned v =>
      obtain ⟨G', k2, k3, k4⟩ := he
      exact hk v w'' G' k2 k3 k4
    | panicked ch => exact he.elim
    | outgrown => exact he.elim

/-- what holds when the listed ones have been done -/
structure DInv (xc : Bool) (l : List Oper) (sts : Nat → St) (vals : Nat → DV) (G0 : Gh) (w0 : World) (listed : Array Bool) (a : Act) (w : World) : Prop where
  size : listed.size = l.length
  closed : ∀ (i : Nat) (o : Oper), l[i]? = some o → listed.getD i true = true → ∀ j ∈ dirs o, listed.getD j true = true
  state : ∃ G m, Grw G0 w0 G w ∧ MRel G (sts m).μ w ∧ a.defers = G.df ∧ a.tmps.size = (sts 0).tmps.length ∧
    (∀ (t : Nat) (x : Value), a.tmps[t]? = some x → (∀ (j : Nat) (o : Oper), l[j]? = some o → listed.getD j true = true → o.dst = some t → CRel G w (vals j) x) ∧ ((∀ (j : Nat) (o : Oper), l[j]? = some o → listed.getD j true = true → o.dst ≠ some t) → CRel G w (getT (sts 0).tmps t) x)) ∧
    m ≤ l.length ∧ (∀ (j : Nat) (o : Oper), l[j]? = some o → isMem xc o.op = true → (listed.getD j true = true ↔ j < m))
theorem anc_listed {l : List Oper} {ops : Array Oper} {an : List AS} (hc : CalmO l ops an) {listed : Array Bool} (hcl : ∀ (i : Nat) (o : Oper), l[i]? = some o → listed.getD i true = true → ∀ j ∈ dirs o, listed.getD j true = true) (hsz : listed.size = l.length) :
    ∀ (n : Nat) (i : Nat) (o : Oper), i < n → l[i]? = some o → (∀ j ∈ dirs o, listed.getD j true = true) → ∀ j ∈ (an[i]?).getD ⟨0⟩, listed.getD j true = true := by
  intro n
  induction n with
  | zero => intro i o hi; omega
  | succ n ih =>
    intro i o hi ho hd j hj
    obtain ⟨k, hk, hj⟩ := hc.anc i o ho j hj
    have hki := hc.dir i o ho k hk
    rcases hj with rfl | hj
    · exact hd j hk
    · have hkl : k < l.length := Nat.lt_trans hki (List.getElem?_eq_some_iff.1 ho).1
      exact ih k l[k] (by omega) (List.getElem?_eq_getElem hkl) (hcl k _ (List.getElem?_eq_getElem hkl) (hd k hk)) j hj
theorem tmps_len {xc : Bool} {P : Program} {ops : Array Oper} {l : List Oper} {an : List AS} {sts : Nat → St} {vals : Nat → DV} (ht : ∀ j, j < l.length → TrOK xc P ops l an sts vals j) : ∀ i, i ≤ l.length → (sts i).tmps.length = (sts 0).tmps.length := by
  intro i
  induction i with
  | zero => intro _; rfl
  | succ i ih =>
    intro hi
    rw [(ht i (by omega) l[i] (List.getElem?_eq_getElem (by omega))).1, putT_length, ih (by omega)]
/-- a slot in the text's order -/
theorem slot_text {xc : Bool} {P : Program} {ops : Array Oper} {l : List Oper} {an : List AS} {sts : Nat → St} {vals : Nat → DV} (hc : CalmO l ops an) (ht : ∀ j, j < l.length → TrOK xc P ops l an sts vals j) (t : Nat) (htl : t < (sts 0).tmps.length) : ∀ i, i ≤ l.length →
    (∀ (j : Nat) (o : Oper), j < i → l[j]? = some o → o.dst = some t → getT (sts i).tmps t = vals j) ∧ ((∀ (j : Nat) (o : Oper), j < i → l[j]? = some o → o.dst ≠ some t) → getT (sts i).tmps t = getT (sts 0).tmps t) := by
  intro i
  induction i with
  | zero => intro _; exact ⟨fun j o hj => by omega, fun _ => rfl⟩
  | succ i ih =>
    intro hi
    obtain ⟨h1, h2⟩ := ih (by omega)
    have hio : l[i]? = some (l[i]'(by omega)) := List.getElem?_eq_getElem _
    have he := (ht i (by omega) _ hio).1
    have hlen := tmps_len ht i (by omega)
    rw [he, getT_put _ _ _ _ (by omega)]
    refine ⟨fun j o hj ho hd => ?_, fun h => ?_⟩
    · by_cases hji : j = i
      · subst hji
        rw [ho] at hio
        injection hio with hio
        rw [← hio, if_pos hd]
      · have hne : (l[i]'(by omega)).dst ≠ some t := fun hd' => hji (hc.dst i j _ o t hio ho hd hd')
        rw [if_neg hne]
        exact h1 j o (by omega) ho hd
    · rw [if_neg (h i _ (by omega) hio)]
      exact h2 (fun j o hj ho => h j o (by omega) ho)
theorem mem_const {xc : Bool} {P : Program} {ops : Array Oper} {l : List Oper} {an : List AS} {sts : Nat → St} {vals : Nat → DV} (ht : ∀ j, j < l.length → TrOK xc P ops l an sts vals j) (m : Nat) : ∀ i, m ≤ i → i ≤ l.length → (∀ (j : Nat) (o : Oper), m ≤ j → j < i → l[j]? = some o → isMem xc o.op = false ∨ freeAt ops j = true) → (sts i).μ = (sts m).μ := by
  intro i
  induction i with
  | zero => intro h _ _; obtain rfl : m = 0 := by omega
            rfl
  | succ i ih =>
    intro h1 h2 h3
    by_cases hm : m = i + 1
    · rw [hm]
    · have hio : l[i]? = some (l[i]'(by omega)) := List.getElem?_eq_getElem _
      have := (ht i (by omega) _ hio).2
      have hnm := h3 i _ (by omega) (by omega) hio
      have hs : (sts (i + 1)).μ = (sts i).μ := by
        rcases this with t | t | t | t
        · exact t.2.2
        · rcases hnm with hnm | hnm
          · rw [hnm] at t; cases t.2.1
          · exact t.2.2.2.2 hnm
        · exact t.2.2.2
        · exact t.2.2.2.2
      rw [hs]
      exact ih (by omega) (by omega) (fun j o a b => h3 j o a (by omega))
end Go.Proofs.YtikfefjaeejeeaaGreatDoor

/- The abstract machine, 16: a statement whose order is open: THE LAW. -/
namespace Go.Proofs.YtikfefjaeejeeaaGreatDoor
open Go.RowKit

theorem getD_set {listed : Array Bool} {i j : Nat} (hi : i < listed.size) : (listed.setIfInBounds i true).getD j true = if j = i then true else listed.getD j true := by
  by_cases h : j = i
  · subst h; rw [if_pos rfl]; simp [hi]
  · rw [if_neg h, getD_set_ne true (Ne.symm h)]
/-- what an operation sees when it comes up -/
theorem DInv.sees {xc : Bool} {P : Program} {l : List Oper} {ops : Array Oper} {an : List AS} (hc : CalmO l ops an) {sts : Nat → St} {vals : Nat → DV} (ht : ∀ j, j < l.length → TrOK xc P ops l an sts vals j) {G0 : Gh} {w0 : World} {listed : Array Bool} {a : Act} {w : World} (hI : DInv xc l sts vals G0 w0 listed a w)
    {i : Nat} {o : Oper} (ho : l[i]? = some o) (hu : listed.getD i true = false) (hd : ∀ j ∈ dirs o, listed.getD j true = true)
    {G : Gh} {μ : Mem} (hm : MRel G μ w)
    (h5 : ∀ (t : Nat) (x : Value), a.tmps[t]? = some x → (∀ (j : Nat) (o : Oper), l[j]? = some o → listed.getD j true = true → o.dst = some t → CRel G w (vals j) x) ∧ ((∀ (j : Nat) (o : Oper), l[j]? = some o → listed.getD j true = true → o.dst ≠ some t) → CRel G w (getT (sts 0).tmps t) x)) (h3 : a.defers = G.df) (h4 : a.tmps.size = (sts 0).tmps.length) :
    SRel G ⟨maskT (readsOf ops o) 0 (sts i).tmps, μ⟩ a w := by
  have hil : i < l.length := (List.getElem?_eq_some_iff.1 ho).1
  have hlen := tmps_len ht i (by omega)
  refine ⟨by rw [maskT_length, hlen, h4], fun t d x hdt hxt => ?_, h3, hm⟩
  rcases maskT_get' _ _ _ _ _ hdt with rfl | ⟨hr, hdt⟩
  · exact .undef x
  · rw [Nat.zero_add] at hr
    have htl : t < (sts 0).tmps.length := by
      have := (List.getElem?_eq_some_iff.1 hdt).1
      rw [hlen] at this; exact this
    have hdv : getT (sts i).tmps t = d := by rw [getT_get, hdt]; rfl
    obtain ⟨s1, s2⟩ := slot_text hc ht t htl i (by omega)
    obtain ⟨q1, q2⟩ := h5 t x hxt
    by_cases hex : ∃ (j : Nat) (p : Oper), l[j]? = some p ∧ p.dst = some t ∧ j < i
    · obtain ⟨j, p, hp, hpd, hji⟩ := hex
      rw [← hdv, s1 j p hji hp hpd]
      refine q1 j p hp ?_ hpd
      rcases hc.read i j o p t ho hp hpd hr with h | h | h
      · omega
      · exact anc_listed hc hI.closed hI.size (i + 1) i o (by omega) ho hd j h.2
      · omega
    · rw [← hdv, s2 fun j p hj hp hpd => hex ⟨j, p, hp, hpd, hj⟩]
      refine q2 fun j p hp hj hpd => ?_
      have hpl : j < l.length := (List.getElem?_eq_some_iff.1 hp).1
      rcases hc.read i j o p t ho hp hpd hr with h | h | h
      · subst h; rw [hu] at hj; cases hj
      · exact hex ⟨j, p, hp, hpd, h.1⟩
      · have := anc_listed hc hI.closed hI.size (j + 1) j p (by omega) hp (hI.closed j p hp hj) i h.2
        rw [hu] at this; cases this
theorem operands_reads {ops : Array Oper} {o : Oper} {t : Tmp} (h : Operand.tmp t ∈ o.op.operands) : t ∈ readsOf ops o := by
  unfold readsOf Oper.looksAt
  refine List.mem_append.2 (.inl (List.mem_filterMap.2 ⟨.tmp t, by simpa using h, rfl⟩))
theorem mask_ev {ops : Array Oper} {o : Oper} {l : List DV} {μ μ' : Mem} : ∀ x ∈ o.op.operands, (⟨maskT (readsOf ops o) 0 l, μ⟩ : St).ev x = (⟨l, μ'⟩ : St).ev x := by
  intro x hx
  cases x with
  | tmp t =>
    show getT _ t = getT _ t
    exact getT_mask _ 0 l t (by rw [Nat.zero_add]; exact operands_reads hx)
  | _ => rfl
theorem mask_want {ops : Array Oper} {o : Oper} {l : List DV} {μ μ' : Mem} : wantA ops o ⟨maskT (readsOf ops o) 0 l, μ⟩ = wantA ops o ⟨l, μ'⟩ := by
  unfold wantA
  cases hg : o.guard with
  | none => rfl
  | some p =>
    obtain ⟨j, want⟩ := p
    simp only
    cases hb : (ops[j]?).bind (·.dst) with
    | none => rfl
    | some t =>
      have : t ∈ readsOf ops o := by
        unfold readsOf Oper.looksAt
        refine List.mem_append.2 (.inr ?_)
        rw [hg]
        simp only [hb]
        simp
      simp only
      rw [getT_mask _ 0 l t (by rw [Nat.zero_add]; exact this)]
theorem pcall_mask {P : Program} {ops : Array Oper} {o : Oper} {l : List DV} {μ μ' : Mem} {d : DV} (tp : PCall P o ⟨l, μ'⟩ d) : PCall P o ⟨maskT (readsOf ops o) 0 l, μ⟩ d := by
  obtain ⟨co, cargs, cts, f, caps, pargs, v, k1, k2, k3, k4, k5⟩ := tp
  have hops : ∀ x, x = co ∨ x ∈ cargs.toList → (⟨maskT (readsOf ops o) 0 l, μ⟩ : St).ev x = (⟨l, μ'⟩ : St).ev x := fun x hx => mask_ev x (by
    rw [k1]
    simp only [Op.operands, Call.operands, Array.mem_append, List.mem_toArray, List.mem_cons, List.not_mem_nil, or_false]
    rcases hx with rfl | hx
    · exact .inl rfl
    · exact .inr (by simpa using hx))
  refine ⟨co, cargs, cts, f, caps, pargs, v, k1, by rw [hops co (.inl rfl)]; exact k2, ?_, k4, k5⟩
  rw [show cargs.toList.map (⟨maskT (readsOf ops o) 0 l, μ⟩ : St).ev = cargs.toList.map (⟨l, μ'⟩ : St).ev from List.map_congr_left fun x hx => hops x (.inr hx)]
  exact k3
theorem ld_keeps {P : Program} {o : Oper} (h : isLd o.op = true) {s : St} {d : DV} {μ' : Mem} (he : evOp P o s = some (d, μ')) : μ' = s.μ := by
  obtain ⟨dst, op, ty, pos, after, guard⟩ := o
  cases op <;> simp only [isLd, Bool.false_eq_true] at h
  all_goals
    unfold evOp at he
    exact (keep_some he).2
/-- a load that waited -/
theorem ld_later {xc : Bool} {P : Program} {l : List Oper} {ops : Array Oper} {an : List AS} {sts : Nat → St} {vals : Nat → DV} (ht : ∀ j, j < l.length → TrOK xc P ops l an sts vals j)
    {i : Nat} {o : Oper} (ho : l[i]? = some o) (hl : isLd o.op = true) (hw : wantA ops o (sts i) = some true) {listed : Array Bool} (hcl : ∀ j p, l[j]? = some p → listed.getD j true = true → ∀ k ∈ (an[j]?).getD ⟨0⟩, listed.getD k true = true) (hu : listed.getD i true = false)
    {m : Nat} (hml : m ≤ l.length) (hmem : ∀ (j : Nat) (o : Oper), l[j]? = some o → isMem xc o.op = true → (listed.getD j true = true ↔ j < m)) (h0 : evOp P o (sts i) = some (vals i, (sts i).μ)) :
    ∀ k, i ≤ k → k ≤ m → evOp P o ⟨(sts i).tmps, (sts k).μ⟩ = some (vals i, (sts k).μ) := by
  intro k
  induction k with
  | zero => intro h1 _; obtain rfl : i = 0 := by omega
            exact h0
  | succ k ih =>
    intro h1 h2
    by_cases hik : i = k + 1
    · subst hik; exact h0
    · have ih' := ih (by omega) (by omega)
      have hko : l[k]? = some (l[k]'(by omega)) := List.getElem?_eq_getElem _
      rcases (ht k (by omega) _ hko).2 with t | t | t | t
      · rw [t.2.2]; exact ih'
      · obtain ⟨t1, t2, t3, t4⟩ := t
        by_cases hki : i = k
        · subst hki
          rw [ho] at hko; injection hko with hko; subst hko
          rw [isLd_notMem hl] at t2; cases t2
        · refine t4.1 i o (by omega) ho hl hw ?_
          cases hcn : ((an[k]?).getD ⟨0⟩).contains i with
          | false => rfl
          | true =>
            have := hcl k _ hko ((hmem k _ hko t2).2 (by omega)) i (AS.mem_iff.1 hcn)
            rw [hu] at this; cases this
      · rw [t.2.2.2]; exact ih'
      · rw [t.2.2.2.2]; exact ih'

/-- one step, whichever -/
theorem draw_step {ro : Option Nat} {xc : Bool} {P : Program} {l : List Oper} {ops : Array Oper} (hl : ops.toList = l) {an : List AS} (hc : CalmO l ops an) {sts : Nat → St} {vals : Nat → DV} (ht : ∀ j, j < l.length → TrOK xc P ops l an sts vals j) {G0 : Gh} {w0 : World} {listed : Array Bool} {a : Act} {w : World} (hI : DInv xc l sts vals G0 w0 listed a w)
    {i : Nat} {o : Oper} (ho : l[i]? = some o) (hu : listed.getD i true = false) (hd : ∀ j ∈ dirs o, listed.getD j true = true)
    (hmem : ∀ (j : Nat) (p : Oper), l[j]? = some p → j < i → isMem xc p.op = true → (isMem xc o.op = true ∨ isLd o.op = true) → listed.getD j true = true ∨ (isLd o.op = true ∧ freeAt ops j = true)) {K : Act → World → Prop} {Q : Exit → Act → World → Prop} (hK : ∀ a' w', DInv xc l sts vals G0 w0 (listed.setIfInBounds i true) a' w' → K a' w') : wpOpIn (FF ro) 0 P ops Q i K a w := by
  have hil : i < l.length := (List.getElem?_eq_some_iff.1 ho).1
  have hiz : i < listed.size := by rw [hI.size]; exact hil
  have hoa : ops[i]? = some o := by rw [← Array.getElem?_toList, hl]; exact ho
  have hancl : ∀ j p, l[j]? = some p → listed.getD j true = true → ∀ k ∈ (an[j]?).getD ⟨0⟩, listed.getD k true = true := fun j p hp hj k hk => anc_listed hc hI.closed hI.size (j + 1) j p (by omega) hp (hI.closed j p hp hj) k hk
  have hanc : ∀ j ∈ (an[i]?).getD ⟨0⟩, listed.getD j true = true := anc_listed hc hI.closed hI.size (i + 1) i o (by omega) ho hd
  have hst := hI.state
  obtain ⟨G, m, h1, h2, h3, h4, h5, h6, h7⟩ := hst
  have sees : ∀ μ, MRel G μ w → SRel G ⟨maskT (readsOf ops o) 0 (sts i).tmps, μ⟩ a w := fun μ hm => hI.sees hc ht ho hu hd hm h5 h3 h4
  -- memory operations before stand behind
  have hbefore : (isMem xc o.op = true ∨ isLd o.op = true) → ∀ (j : Nat) (p : Oper), m ≤ j → j < i → l[j]? = some p → isMem xc p.op = false ∨ (isLd o.op = true ∧ freeAt ops j = true) := by
    intro hml j p hmj hji hp
    cases hpm : isMem xc p.op with
    | false => exact .inl rfl
    | true =>
      rcases hmem j p hp hji hpm hml with ha | ha
      · have := ha
        rw [h7 j p hp hpm] at this
        omega
      · exact .inr ha
  have hmi : isMem xc o.op = true → m ≤ i := by
    intro hm
    have := h7 i o ho hm
    rw [hu] at this
    rcases Nat.lt_or_ge i m with h | h
    · exact absurd (this.2 h) (by simp)
    · exact h
  -- the new count of memory operations
  have hm1 : isMem xc o.op = true → ∀ (j : Nat) (p : Oper), l[j]? = some p → isMem xc p.op = true → ((j = i ∨ listed.getD j true = true) ↔ j < i + 1) := by
    intro hm j p hp hpm
    rw [h7 j p hp hpm]
    have hle := hmi hm
    constructor
    · rintro (rfl | h) <;> omega
    · intro h
      by_cases hji : j = i
      · exact .inl hji
      · right
        rcases Nat.lt_or_ge j m with hjm | hjm
        · exact hjm
        · have := hbefore (.inl hm) j p hjm (by omega) hp
          rcases this with this | this
          · rw [hpm] at this; cases this
          · rw [isLd_notMem this.1] at hm; cases hm
  have hm0 : isMem xc o.op = false → ∀ (j : Nat) (p : Oper), l[j]? = some p → isMem xc p.op = true → ((j = i ∨ listed.getD j true = true) ↔ j < m) := by
    intro hm j p hp hpm
    rw [← h7 j p hp hpm]
    constructor
    · rintro (rfl | h)
      · rw [ho] at hp; injection hp with hp; subst hp; rw [hm] at hpm; cases hpm
      · exact h
    · exact .inr
  have hμ : isMem xc o.op = true → (sts i).μ = (sts m).μ := fun hm => mem_const ht m i (hmi hm) (by omega) (fun j p a b c => (hbefore (.inl hm) j p a b c).imp id (·.2))
  have fin : ∀ {G1 : Gh} {w1 : World} {x : Value}, Grw G w G1 w1 → CRel G1 w1 (vals i) x → (∃ m1, MRel G1 (sts m1).μ w1 ∧ m1 ≤ l.length ∧ (∀ (j : Nat) (p : Oper), l[j]? = some p → isMem xc p.op = true → ((j = i ∨ listed.getD j true = true) ↔ j < m1))) → K (a.put o.dst x) w1 := by
    intro G1 w1 x q1 q2 q3
    obtain ⟨m1, r1, r2, r3⟩ := q3
    have hgd : ∀ j, (listed.setIfInBounds i true).getD j true = true ↔ (j = i ∨ listed.getD j true = true) := fun j => by
      rw [getD_set hiz]
      by_cases h : j = i <;> simp [h]
    refine hK _ _ ⟨by simp [hI.size], fun j p hp hj k hk => ?_, G1, m1, h1.trans q1, r1, ?_, ?_, fun t y hy => ?_, r2, fun j p hp hm => by rw [hgd]; exact r3 j p hp hm⟩
    · rw [hgd] at hj ⊢
      rcases hj with rfl | hj
      · rw [ho] at hp; injection hp with hp; subst hp
        exact .inr (hd k hk)
      · exact .inr (hI.closed j p hp hj k hk)
    · cases hdst : o.dst <;> simp [Act.put, h3, q1.df]
    · cases hdst : o.dst <;> simp [Act.put, h4]
    · have old : (∀ y, a.tmps[t]? = some y → o.dst ≠ some t → (∀ (j : Nat) (p : Oper), l[j]? = some p → (listed.setIfInBounds i true).getD j true = true → p.dst = some t → CRel G1 w1 (vals j) y) ∧ ((∀ (j : Nat) (p : Oper), l[j]? = some p → (listed.setIfInBounds i true).getD j true = true → p.dst ≠ some t) → CRel G1 w1 (getT (sts 0).tmps t) y)) := by
        intro y hy hne
        obtain ⟨q1', q2'⟩ := h5 t y hy
        refine ⟨fun j p hp hj hpd => ?_, fun hall => (q2' fun j p hp hj => hall j p hp ((hgd j).2 (.inr hj))).grw q1⟩
        rcases (hgd j).1 hj with rfl | hj
        · rw [ho] at hp; injection hp with hp; subst hp
          exact absurd hpd hne
        · exact (q1' j p hp hj hpd).grw q1
      cases hdst : o.dst with
      | none => rw [hdst] at hy; exact old y hy (by rw [hdst]; simp)
      | some k =>
        rw [hdst] at hy
        by_cases hkt : k = t
        · subst hkt
          have hkz : k < a.tmps.size := by
            have := (Array.getElem?_eq_some_iff.1 hy).1
            simpa [Act.put] using this
          simp only [Act.put] at hy
          rw [Array.getElem?_setIfInBounds_self_of_lt hkz] at hy
          injection hy with hy; subst hy
          refine ⟨fun j p hp hj hpd => ?_, fun hall => absurd hdst (hall i o ho ((hgd i).2 (.inl rfl)))⟩
          have hji : j = i := hc.dst i j o p k ho hp hpd hdst
          subst hji
          exact q2
        · simp only [Act.put] at hy
          rw [Array.getElem?_setIfInBounds_ne hkt] at hy
          exact old y hy (by rw [hdst]; simpa using hkt)
  have skipm : (sts (i + 1)).μ = (sts i).μ → ∃ m1, MRel G (sts m1).μ w ∧ m1 ≤ l.length ∧ (∀ (j : Nat) (p : Oper), l[j]? = some p → isMem xc p.op = true → ((j = i ∨ listed.getD j true = true) ↔ j < m1)) := by
    intro hsk
    cases hm : isMem xc o.op with
    | true => exact ⟨i + 1, by rw [hsk, hμ hm]; exact h2, by omega, hm1 hm⟩
    | false => exact ⟨m, h2, h6, hm0 hm⟩
  have gives : ∀ {d : DV} {μ' : Mem} {μ : Mem}, MRel G μ w → d = vals i → evOp P o ⟨(sts i).tmps, μ⟩ = some (d, μ') → wantA ops o (sts i) = some true → (∀ G1 w1, MRel G1 μ' w1 → ∃ m1, MRel G1 (sts m1).μ w1 ∧ m1 ≤ l.length ∧ (∀ (j : Nat) (p : Oper), l[j]? = some p → isMem xc p.op = true → ((j = i ∨ listed.getD j true = true) ↔ j < m1))) → o.wpIn (FF ro) 0 P a w K Q := by
    intro d μ' μ hM hd he hw hmm
    subst hd
    have hs := sees μ hM
    have hcg : evOp P o ⟨maskT (readsOf ops o) 0 (sts i).tmps, μ⟩ = evOp P o ⟨(sts i).tmps, μ⟩ := evOp_congr rfl mask_ev
    have he' := hcg.trans he
    obtain ⟨w1, G1, v, hr, hcr, hmr, hgr⟩ := evOp_sound he' hs
    rcases hr with hr | ⟨hr, rfl⟩
    · exact opw_value (evOp_nodefer he) hr (fin hgr hcr (hmm G1 w1 hmr))
    · exact opw_skip (evOp_nodefer he) hr (fin hgr hcr (hmm G1 w1 hmr))
  obtain ⟨t0, t⟩ := ht i hil o ho
  unfold wpOpIn
  rw [hoa]
  simp only
  rcases t with ⟨tw, tv, tm⟩ | ⟨tw, tm, te, _⟩ | ⟨tw, tm, ⟨μ', te⟩, tμ⟩ | ⟨tw, hnm, tn, tp, tμ⟩
  · have hs := sees (sts m).μ h2
    have hw : Region.wanted o (yielded ops a.tmps) = false := wantA_sound (by rw [mask_want (μ' := (sts i).μ)]; exact tw) hs
    rw [if_neg (by rw [hw]; simp)]
    exact ⟨fun _ _ => trivial, fin (Grw.refl G w) (by rw [tv]; exact .p _ _ (.v _)) (skipm tm)⟩
  · have hs := sees (sts m).μ h2
    have hw : Region.wanted o (yielded ops a.tmps) = true := wantA_sound (by rw [mask_want (μ' := (sts i).μ)]; exact tw) hs
    rw [if_pos hw]
    rcases te with te | ⟨_, te⟩
    · exact gives (μ := (sts i).μ) (by rw [hμ tm]; exact h2) rfl te tw fun G1 w1 hmr => ⟨i + 1, hmr, by omega, hm1 tm⟩
    · have hs2 := sees (sts i).μ (by rw [hμ tm]; exact h2)
      rcases te with te | ⟨te, teμ⟩
      · have hp : ICall0 P o ⟨maskT (readsOf ops o) 0 (sts i).tmps, (sts i).μ⟩ (vals i) ((sts (i + 1)).μ) := by
          obtain ⟨co, cargs, cts, f, caps, fn, c, k1, k2, k3, k4⟩ := te
          have hops : ∀ x, x = co ∨ x ∈ cargs.toList → (⟨maskT (readsOf ops o) 0 (sts i).tmps, (sts i).μ⟩ : St).ev x = (sts i).ev x := fun x hx => mask_ev x (by
            rw [k1]
            simp only [Op.operands, Call.operands, Array.mem_append, List.mem_toArray, List.mem_cons, List.not_mem_nil, or_false]
            rcases hx with rfl | hx
            · exact .inl rfl
            · exact .inr (by simpa using hx))
          refine ⟨co, cargs, cts, f, caps, fn, c, k1, by rw [hops co (.inl rfl)]; exact k2, k3, ?_⟩
          rw [show cargs.toList.map (⟨maskT (readsOf ops o) 0 (sts i).tmps, (sts i).μ⟩ : St).ev = cargs.toList.map (sts i).ev from List.map_congr_left fun x hx => hops x (.inr hx)]
          exact k4
        exact icall_wp hs2 hp fun x w1 G1 q1 q2 q3 => fin q3 q1 ⟨i + 1, q2, by omega, hm1 tm⟩
      · exact call_wp hs2 (pcall_mask (μ' := (sts i).μ) te) fun x w1 G1 q1 q2 q3 => fin q3 q1 ⟨i + 1, by rw [teμ]; exact q2, by omega, hm1 tm⟩
  · have hs := sees (sts m).μ h2
    have hw : Region.wanted o (yielded ops a.tmps) = true := wantA_sound (by rw [mask_want (μ' := (sts i).μ)]; exact tw) hs
    rw [if_pos hw]
    have key : evOp P o ⟨(sts i).tmps, (sts m).μ⟩ = some (vals i, (sts m).μ) := by
      cases hld : isLd o.op with
      | false => exact (evOp_nomem tm hld te).2 _
      | true =>
        obtain rfl := ld_keeps hld te
        rcases Nat.lt_or_ge i m with him | him
        · exact ld_later ht ho hld tw hancl hu h6 h7 te m (by omega) (Nat.le_refl _)
        · have := mem_const ht m i him (by omega) (fun j p a b c => (hbefore (.inr hld) j p a b c).imp id (·.2))
          rw [← this]; exact te
    exact gives h2 rfl key tw fun G1 w1 hmr => ⟨m, hmr, h6, hm0 tm⟩
  · have hs := sees (sts m).μ h2
    have hw : Region.wanted o (yielded ops a.tmps) = true := wantA_sound (by rw [mask_want (μ' := (sts i).μ)]; exact tw) hs
    rw [if_pos hw]
    have hp : PCall P o ⟨maskT (readsOf ops o) 0 (sts i).tmps, (sts m).μ⟩ (vals i) := pcall_mask (μ' := (sts i).μ) tp
    exact call_wp hs hp fun x w1 G1 q1 q2 q3 => fin q3 q1 ⟨m, q2, h6, hm0 hnm⟩

theorem draw_any {ro : Option Nat} {xc : Bool} {P : Program} {l : List Oper} {ops : Array Oper} (hl : ops.toList = l) {an : List AS} (hc : CalmOps xc l ops an) {sts : Nat → St} {vals : Nat → DV} (ht : ∀ j, j < l.length → TrOK xc P ops l an sts vals j) {G0 : Gh} {w0 : World} {Q : Exit → Act → World → Prop}
    (hQ : ∀ listed a w, DInv xc l sts vals G0 w0 listed a w → (∀ j, listed.getD j true = true) → Q .normal a w) :
    ∀ (fuel : Nat) (listed : Array Bool) (a : Act) (w : World), DInv xc l sts vals G0 w0 listed a w → (List.range l.length).countP (fun j => !listed.getD j true) ≤ fuel → wpAnyIn (FF ro) 0 P .any ops Q fuel listed a w := by
  have hsz : ops.size = l.length := by rw [← hl]; simp
  have nothing : ∀ (listed : Array Bool), listed.size = l.length → Region.ready .any ops listed = [] → ∀ j, listed.getD j true = true := by
    intro listed hz hr
    have : ∀ n j, j < n → listed.getD j true = true := by
      intro n
      induction n with
      | zero => intro j h; omega
      | succ n ih =>
        intro j hj
        rcases Nat.lt_or_ge j n with h | h
        · exact ih j h
        · obtain rfl : j = n := by omega
          cases hu : listed.getD j true with
          | true => rfl
          | false =>
            have hjl : j < l.length := by
              rcases Nat.lt_or_ge j l.length with h | h
              · exact h
              · simp [Array.getElem?_eq_none (show listed.size ≤ j by omega)] at hu
            have hjo : l[j]? = some l[j] := List.getElem?_eq_getElem hjl
            have : j ∈ Region.ready .any ops listed := mem_ready.2 ⟨hu, l[j], by rw [← Array.getElem?_toList, hl]; exact hjo, fun e he hb => by
              have hdir : e.on ∈ dirs l[j] := List.mem_map.2 ⟨e, List.mem_filter.2 ⟨by simpa using he, hb⟩, rfl⟩
              have hlt := hc.dir j _ hjo _ hdir
              have hk := ih e.on hlt
              have hklt : e.on < listed.size := by omega
              simpa [hklt] using hk⟩
            rw [hr] at this
            cases this
    exact fun j => this (j + 1) j (by omega)
  intro fuel
  induction fuel with
  | zero =>
    intro listed a w hI hcount
    have hall : ∀ j, listed.getD j true = true := by
      intro j
      rcases Nat.lt_or_ge j l.length with h | h
      · have := List.countP_eq_zero.1 (Nat.le_zero.1 hcount) j (by simpa using h)
        simpa using this
      · simp [Array.getElem?_eq_none (show listed.size ≤ j by rw [hI.size]; exact h)]
    refine ⟨?_, hQ listed a w hI hall⟩
    cases hr : Region.ready .any ops listed with
    | nil => rfl
    | cons j r =>
      have : j ∈ Region.ready .any ops listed := by rw [hr]; exact List.mem_cons_self
      rw [mem_ready] at this
      rw [hall j] at this
      cases this.1
  | succ fuel ih =>
    intro listed a w hI hcount
    refine ⟨fun hr => hQ listed a w hI (nothing listed hI.size hr), fun i hi => ?_⟩
    obtain ⟨hu, o, ho, hdd⟩ := mem_ready.1 hi
    have hol : l[i]? = some o := by rw [← hl, Array.getElem?_toList]; exact ho
    have hil : i < l.length := (List.getElem?_eq_some_iff.1 hol).1
    have hdl : ∀ j ∈ dirs o, listed.getD j true = true := fun j hj => ?_
    refine draw_step hl hc.toCalmO ht hI hol hu hdl (fun j p hp hji hpm hml => (hc.mem i j o p hol hp hji hpm hml).imp (anc_listed hc.toCalmO hI.closed hI.size (i + 1) i o (by omega) hol hdl j) id) (fun a' w' hI' => ih _ a' w' hI' ?_)
    rotate_right
    · obtain ⟨e, he, rfl⟩ := List.mem_map.1 hj
      obtain ⟨he1, he2⟩ := List.mem_filter.1 he
      have := hdd e (by simpa using he1) he2
      have hlt : e.on < listed.size := by
        rcases Nat.lt_or_ge e.on listed.size with h | h
        · exact h
        · simp [Array.getElem?_eq_none h] at this
      simpa [hlt] using this
    · have hiz : i < listed.size := by rw [hI.size]; exact hil
      have := countP_less (l := List.range l.length) (p := fun j => !listed.getD j true) (p' := fun j => !(listed.setIfInBounds i true).getD j true) (fun j _ hj => by
        rw [getD_set hiz] at hj
        by_cases h : j = i
        · simp [h] at hj
        · rwa [if_neg h] at hj) ⟨i, by simpa using hil, by simp only [hu]; rfl, by rw [getD_set hiz]; simp⟩
      omega

theorem awp_draw {ro : Option Nat} {xc : Bool} {P : Program} {Q : AX → St → Prop} {s : St} {id : Nat} {l : List Oper} (hm : P.follows .mixedOrders = true) (hc : calm xc l.toArray = true) (h : drawQ xc P l.toArray Q 0 l (ancs l) [] s) : AWP ro P (.region id l.toArray true) Q s := by
  intro G a w hs
  have hC := calm_of hc
  rw [List.toList_toArray] at hC
  obtain ⟨sts, vals, e0, ht, hq⟩ := trace_of (P := P) (ops := l.toArray) (Q := Q) (l := l) (an := ancs l) (by simp) l (ancs l) 0 [] (fun _ => s) (fun _ => .undef) (fun k => by simp) (fun k => by simp) h (fun j hj => by omega) (fun j oj hj => by omega)
  rw [Nat.zero_add] at ht hq
  have e0 : sts 0 = s := e0
  refine wpIn_region_any hm ?_
  have hdr : Below w.heap.size w { w with drawn := w.drawn + 1 } := ?_
  have hI : DInv xc l sts vals G w (Array.replicate l.toArray.size false) a { w with drawn := w.drawn + 1 } := by
    have g1 : Grw G w (G.grown w { w with drawn := w.drawn + 1 }) { w with drawn := w.drawn + 1 } := Grw.below hs.mem.zlt hdr
    have getf : ∀ j, j < l.length → (Array.replicate l.toArray.size false).getD j true = false := fun j hj => by simp [hj]
    refine ⟨by simp, fun i o ho hi => ?_, _, 0, g1, by rw [e0]; exact hs.mem.below hdr, hs.defers, by rw [e0]; exact hs.size, fun t x hx => ⟨fun j o ho hj => ?_, fun _ => ?_⟩, Nat.zero_le _, fun j o ho _ => ⟨fun hj => ?_, fun hj => by omega⟩⟩
    · rw [getf i (List.getElem?_eq_some_iff.1 ho).1] at hi; cases hi
    · rw [getf j (List.getElem?_eq_some_iff.1 ho).1] at hj; cases hj
    · have htl : t < s.tmps.length := by rw [← hs.size]; exact (Array.getElem?_eq_some_iff.1 hx).1
      rw [e0, getT_get, List.getElem?_eq_getElem htl]
      exact (hs.tmp t _ x (List.getElem?_eq_getElem htl) hx).grw g1
    · rw [getf j (List.getElem?_eq_some_iff.1 ho).1] at hj; cases hj
  refine draw_any (by simp) hC ht (fun listed a' w' hI' hall => ?_) _ _ _ _ hI ?_
  · obtain ⟨G1, m, h1, h2, h3, h4, h5, h6, h7⟩ := hI'.state
    have hmm : (sts l.length).μ = (sts m).μ := mem_const ht m l.length h6 (Nat.le_refl _) fun j o hmj hj ho => by
      cases hmo : isMem xc o.op with
      | false => exact .inl rfl
      | true =>
        have := (h7 j o ho hmo).1 (hall j)
        omega
    refine ⟨.norm, sts l.length, G1, trivial, hq, ⟨by rw [h4, tmps_len ht _ (Nat.le_refl _)], fun t d x hd hx => ?_, h3, by rw [hmm]; exact h2⟩, h1⟩
    have htl : t < (sts 0).tmps.length := by
      have := (List.getElem?_eq_some_iff.1 hd).1
      rwa [tmps_len ht _ (Nat.le_refl _)] at this
    have hdv : getT (sts l.length).tmps t = d := by rw [getT_get, hd]; rfl
    obtain ⟨s1, s2⟩ := slot_text hC.toCalmO ht t htl l.length (Nat.le_refl _)
    obtain ⟨q1, q2⟩ := h5 t x hx
    rw [← hdv]
    by_cases hex : ∃ (j : Nat) (p : Oper), l[j]? = some p ∧ p.dst = some t
    · obtain ⟨j, p, hp, hpd⟩ := hex
      rw [s1 j p (List.getElem?_eq_some_iff.1 hp).1 hp hpd]
      exact q1 j p hp (hall j) hpd
    · rw [s2 fun j p _ hp hpd => hex ⟨j, p, hp, hpd⟩]
      exact q2 fun j p hp _ hpd => hex ⟨j, p, hp, hpd⟩
  · refine Nat.le_trans List.countP_le_length ?_
    simp
  · exact ⟨rfl, rfl, rfl, Nat.le_refl _, fun _ _ => rfl⟩
end Go.Proofs.YtikfefjaeejeeaaGreatDoor
