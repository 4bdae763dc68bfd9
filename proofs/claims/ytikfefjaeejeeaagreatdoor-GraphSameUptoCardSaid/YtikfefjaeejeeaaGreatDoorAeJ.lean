/- The abstract machine, 17: code that is run to its end. -/
import Derived.Test.YtikfefjaeejeeaaGreatDoorAeD
namespace Go.Proofs.YtikfefjaeejeeaaGreatDoor
open Go.RowKit

/-! ### are two values the same? (what says yes is sure) -/
def lB {α : Type} (f : α → α → Bool) : List α → List α → Bool
  | [], [] => true
  | a :: r, b :: s => f a b && lB f r s
  | _, _ => false
theorem lB_eq {α : Type} {f : α → α → Bool} (hf : ∀ a b, f a b = true → a = b) : ∀ {l m : List α}, lB f l m = true → l = m
  | [], [], _ => rfl
  | a :: r, b :: s, h => by
    simp only [lB, Bool.and_eq_true] at h
    rw [hf _ _ h.1, lB_eq hf h.2]
  | [], b :: s, h => by simp [lB] at h
  | a :: r, [], h => by simp [lB] at h
def pB : Nat → PD → PD → Bool
  | 0, _, _ => false
  | _ + 1, .v a, .v b => vB a b
  | k + 1, .agg a, .agg b => lB (pB k) a b
  | k + 1, .tup a, .tup b => lB (pB k) a b
  | k + 1, .sl a, .sl b => lB (pB k) a b
  | _ + 1, _, _ => false
theorem pB_eq : ∀ (k : Nat) (a b : PD), pB k a b = true → a = b
  | 0, _, _, h => by simp [pB] at h
  | k + 1, a, b, h => by
    cases a <;> cases b <;> simp only [pB, Bool.false_eq_true] at h
    · rw [vB_eq h]
    · rw [lB_eq (pB_eq k) h]
    · rw [lB_eq (pB_eq k) h]
    · rw [lB_eq (pB_eq k) h]
def dB : Nat → DV → DV → Bool
  | 0, _, _ => false
  | _ + 1, .undef, .undef => true
  | k + 1, .p a, .p b => pB k a b
  | k + 1, .agg a, .agg b => lB (dB k) a b
  | k + 1, .tup a, .tup b => lB (dB k) a b
  | k + 1, .row t a, .row t' b => t == t' && lB (pB k) a b
  | _ + 1, .bsl b o s l c, .bsl b' o' s' l' c' => b == b' && o == o' && s == s' && l == l' && c == c'
  | k + 1, .fn f a, .fn f' b => f == f' && lB (dB k) a b
  | _ + 1, .loc b o, .loc b' o' => b == b' && o == o'
  | k + 1, .ep a i o, .ep b i' o' => i == i' && o == o' && lB (pB k) a b
  | _ + 1, _, _ => false
theorem dB_eq : ∀ (k : Nat) (a b : DV), dB k a b = true → a = b
  | 0, _, _, h => by simp [dB] at h
  | k + 1, a, b, h => by
    cases a <;> cases b <;> simp only [dB, Bool.false_eq_true, Bool.and_eq_true, beq_iff_eq] at h
    · rfl
    · rw [pB_eq k _ _ h]
    · rw [lB_eq (dB_eq k) h]
    · rw [lB_eq (dB_eq k) h]
    · rw [h.1, lB_eq (pB_eq k) h.2]
    · rw [h.1.1.1.1, h.1.1.1.2, h.1.1.2, h.1.2, h.2]
    · rw [h.1, lB_eq (dB_eq k) h.2]
    · rw [h.1, h.2]
    · rw [h.1.1, h.1.2, lB_eq (pB_eq k) h.2]
def oblgB (P : Program) (an : AS) (μ' : Mem) : List (Nat × Oper × St × DV) → Bool
  | [] => true
  | (j, o, s, d) :: r => (an.contains j || (match evOp P o ⟨s.tmps, μ'⟩ with | some (e, _) => isLd o.op && dB 9 e d | none => false)) && oblgB P an μ' r
theorem oblgB_sound {P : Program} {an : AS} {μ' : Mem} : ∀ {h : List (Nat × Oper × St × DV)}, oblgB P an μ' h = true → oblg P an μ' h
  | [], _ => trivial
  | (j, o, s, d) :: r, h => by
    simp only [oblgB, Bool.and_eq_true, Bool.or_eq_true] at h
    obtain ⟨h1, h2⟩ := h
    refine ⟨?_, oblgB_sound h2⟩
    split
    · trivial
    · rename_i hc
      rcases h1 with h1 | h1
      · exact absurd h1 hc
      · split at h1
        · rename_i e μ2 he
          rw [Bool.and_eq_true] at h1
          have h3 := ld_keeps h1.1 he
          rw [he, dB_eq _ _ _ h1.2, h3]
        · cases h1

/-! ### the run -/
inductive Tk where
  | c (c : Code) (s : St)
  | l (ops : Array Oper) (l : List Oper) (s : St)
  | d (xc : Bool) (ops : Array Oper) (i : Nat) (l : List Oper) (an : List AS) (hist : List (Nat × Oper × St × DV)) (s : St)
def evPure (P : Program) (orc : FuncId → List PD → Option AEnd) (inl : FuncId → Bool) (rc : Tk → Option (AX × St)) (f : FuncId) (args : List PD) : Option AEnd :=
  match orc f args with
  | some r => some r
  | none => match P.funcs[f]? with
    | some fn => match fn.body with
      | some c => match rc (.c c ⟨args.map .p ++ List.replicate (fn.ntmps - args.length) .undef, ⟨[], [], []⟩⟩) with
        | some (.ret, s') | some (.norm, s') => match resA P s' fn.results.toList with
          | some l => match frz 200 s'.μ (oneOrTup l) with | some (v, _) => some (.ret v) | none => none
          | none => none
        | some (.panic d, s') => match frz 200 s'.μ d with | some (v, _) => some (.panic v) | none => none
        | _ => none
      | none => none
    | none => none
def evInl (P : Program) (rc : Tk → Option (AX × St)) (ops : Array Oper) (o : Oper) (r : List Oper) (s : St) (f : FuncId) (args : List DV) : Option (AX × St) :=
  match P.funcs[f]? with
  | some fn => match fn.body with
    | some c => match rc (.c c ⟨args ++ List.replicate (fn.ntmps - args.length) .undef, s.μ⟩) with
      | some (.ret, s') | some (.norm, s') => match resA P s' fn.results.toList with
        | some l => rc (.l ops r ⟨putT s.tmps o.dst (oneOrTup l), s'.μ⟩)
        | none => none
      | some (.panic d, s') => some (.panic d, ⟨s.tmps, s'.μ⟩)
      | _ => none
    | none => none
  | none => none
def evCall (P : Program) (orc : FuncId → List PD → Option AEnd) (inl : FuncId → Bool) (rc : Tk → Option (AX × St)) (ops : Array Oper) (o : Oper) (r : List Oper) (s : St) (f : FuncId) (args : List DV) : Option (AX × St) :=
  if inl f = true then evInl P rc ops o r s f args else
  match frzL 200 s.μ args with
  | some (pargs, μ1) => match evPure P orc inl rc f pargs with
    | some (.ret v) => rc (.l ops r ⟨putT s.tmps o.dst (.p v), μ1⟩)
    | some (.panic v) => some (.panic (.p v), ⟨s.tmps, μ1⟩)
    | none => evInl P rc ops o r s f args
  | none => evInl P rc ops o r s f args
def evStuck (P : Program) (orc : FuncId → List PD → Option AEnd) (inl : FuncId → Bool) (rc : Tk → Option (AX × St)) (ops : Array Oper) (o : Oper) (r : List Oper) (s : St) : Option (AX × St) :=
  match o.op with
  | .panic x => match s.ev x with
    | .p (.v (.iface t v)) => some (.panic (.p (.v (.iface t v))), s)
    | _ => none
  | .call c => match c.callee with
    | .value co => match fnOf (s.ev co) with
      | some (f, caps) => evCall P orc inl rc ops o r s f (c.args.toList.map s.ev ++ caps)
      | _ => none
    | _ => none
  | _ => none
def evDrawn (P : Program) (orc : FuncId → List PD → Option AEnd) (inl : FuncId → Bool) (rc : Tk → Option (AX × St)) (o : Oper) (s : St) : Option PD :=
  match o.op with
  | .call c => match c.callee with
    | .value co => match fnOf (s.ev co) with
      | some (f, caps) => match frzL 200 ⟨[], [], []⟩ (c.args.toList.map s.ev ++ caps) with
        | some (pargs, ⟨[], [], []⟩) => match evPure P orc inl rc f pargs with
          | some (.ret v) => some v
          | _ => none
        | _ => none
      | _ => none
    | _ => none
  | _ => none
def evDrawnI (P : Program) (orc : FuncId → List PD → Option AEnd) (inl : FuncId → Bool) (rc : Tk → Option (AX × St)) (o : Oper) (s : St) : Option (DV × Mem) :=
  match evDrawn P orc inl rc o s with
  | some v => some (.p v, s.μ)
  | none => match o.op with
    | .call c => match c.callee with
      | .value co => match fnOf (s.ev co) with
        | some (f, caps) => match P.funcs[f]? with
          | some fn => match fn.body with
            | some b => match rc (.c b ⟨(c.args.toList.map s.ev ++ caps) ++ List.replicate (fn.ntmps - (c.args.toList.map s.ev ++ caps).length) .undef, s.μ⟩) with
              | some (.ret, s') | some (.norm, s') => match resA P s' fn.results.toList with
                | some l => some (oneOrTup l, s'.μ)
                | none => none
              | _ => none
            | none => none
          | none => none
        | _ => none
      | _ => none
    | _ => none
def evStep (P : Program) (orc : FuncId → List PD → Option AEnd) (inl : FuncId → Bool) (rc : Tk → Option (AX × St)) : Tk → Option (AX × St)
  | .c c s => match c with
    | .skip => some (.norm, s)
    | .label _ => some (.norm, s)
    | .region _ ops false => rc (.l ops ops.toList s)
    | .region _ ops true => match (if calm false ops = true then rc (.d false ops 0 ops.toList (ancs ops.toList) [] s) else none) with
      | some r => some r
      | none => if calm true ops = true then rc (.d true ops 0 ops.toList (ancs ops.toList) [] s) else none
    | .seq a b => match rc (.c a s) with
      | some (.norm, s1) => rc (.c b s1)
      | r => r
    | .cond c x y => match s.ev c with
      | .p (.v (.bool t)) => if t = true then rc (.c x s) else rc (.c y s)
      | _ => none
    | .block id c => match rc (.c c s) with
      | some (.exit j, s1) => if j = id then some (.norm, s1) else some (.exit j, s1)
      | r => r
    | .exit id => some (.exit id, s)
    | .scope c => match rc (.c c s) with
      | some (.goto _, _) => none
      | r => r
    | .goto l => some (.goto l, s)
    | .ret => some (.ret, s)
    | .loop c => match rc (.c c s) with
      | some (.norm, s1) => rc (.c (.loop c) s1)
      | r => r
    | _ => none
  | .l ops l s => match l with
    | [] => some (.norm, s)
    | o :: r => match wantA ops o s with
      | none => none
      | some false => rc (.l ops r ⟨putT s.tmps o.dst (.p (.v (.tuple #[]))), s.μ⟩)
      | some true => match evOp P o s with
        | some (d, μ') => rc (.l ops r ⟨putT s.tmps o.dst d, μ'⟩)
        | none => evStuck P orc inl rc ops o r s
  | .d xc ops i l ans hist s => match l, ans with
    | [], _ => some (.norm, s)
    | o :: r, an :: ar => match wantA ops o s with
      | none => none
      | some false => rc (.d xc ops (i + 1) r ar hist ⟨putT s.tmps o.dst (.p (.v (.tuple #[]))), s.μ⟩)
      | some true => match evOp P o s with
        | some (d, μ') => if isMem xc o.op = true then (if oblgB P an μ' hist = true then rc (.d xc ops (i + 1) r ar hist ⟨putT s.tmps o.dst d, μ'⟩) else none) else rc (.d xc ops (i + 1) r ar (if isLd o.op = true then (i, o, s, d) :: hist else hist) ⟨putT s.tmps o.dst d, s.μ⟩)
        | none => if isMem xc o.op = true then match evDrawnI P orc inl rc o s with
            | some (d, μ') => if freeAt ops i = false ∧ oblgB P an μ' hist = true then rc (.d xc ops (i + 1) r ar hist ⟨putT s.tmps o.dst d, μ'⟩) else none
            | none => none
          else match evDrawn P orc inl rc o s with
            | some v => rc (.d xc ops (i + 1) r ar hist ⟨putT s.tmps o.dst (.p v), s.μ⟩)
            | none => none
    | _ :: _, [] => none
def evRun (P : Program) (orc : FuncId → List PD → Option AEnd) (inl : FuncId → Bool) : Nat → Tk → Option (AX × St)
  | 0, _ => none
  | n + 1, t => evStep P orc inl (evRun P orc inl n) t

/-! ### it is sure -/
structure Fit (P : Program) (orc : FuncId → List PD → Option AEnd) : Prop where
  order : P.follows .mixedOrders = true
  names : ∀ (f : FuncId) (fn : Func), P.funcs[f]? = some fn → fn.body.isSome = true → (fn.name == "runtime.NumGoroutine") = false
  orc : ∀ f args r, orc f args = some r → Pure P f args r
def TkOK (P : Program) : Tk → AX × St → Prop
  | .c c s, (x, s') => ∀ (ro : Option Nat) (Q : AX → St → Prop), Q x s' → AWP ro P c Q s
  | .l ops l s, (x, s') => ∀ (ro : Option Nat) (Q : AX → St → Prop), Q x s' → AList ro P ops l Q s
  | .d xc ops i l an hist s, (x, s') => ∀ Q : AX → St → Prop, (x = .norm ∧ Q .norm s') → drawQ xc P ops Q i l an hist s
section
variable {P : Program} {orc : FuncId → List PD → Option AEnd} {inl : FuncId → Bool} {rc : Tk → Option (AX × St)}
theorem evPure_sound (hf : Fit P orc) (hrc : ∀ t r, rc t = some r → TkOK P t r) {f : FuncId} {args : List PD} {e : AEnd} (h : evPure P orc inl rc f args = some e) : Pure P f args e := by
  unfold evPure at h
  split at h
  · rename_i r hr
    injection h with h; subst h
    exact hf.orc _ _ _ hr
  · split at h
    · rename_i fn hfn
      split at h
      · rename_i c hc
        have hcl : Callable P f fn c := ⟨hfn, hc, hf.names f fn hfn (by rw [hc]; rfl)⟩
        split at h
        · rename_i s' hr
          split at h
          · rename_i l hl
            split at h
            · rename_i v μ' hz
              injection h with h; subst h
              exact pure_of hcl rfl rfl (hrc _ _ hr _ _ ⟨l, v, μ', hl, hz, rfl⟩)
            · cases h
          · cases h
        · rename_i s' hr
          split at h
          · rename_i l hl
            split at h
            · rename_i v μ' hz
              injection h with h; subst h
              exact pure_of hcl rfl rfl (hrc _ _ hr _ _ ⟨l, v, μ', hl, hz, rfl⟩)
            · cases h
          · cases h
        · rename_i d s' hr
          split at h
          · rename_i v μ' hz
            injection h with h; subst h
            exact pure_of hcl rfl rfl (hrc _ _ hr _ _ ⟨v, μ', hz, rfl⟩)
          · cases h
        · cases h
      · cases h
    · cases h
theorem evInl_sound (hf : Fit P orc) (hrc : ∀ t r, rc t = some r → TkOK P t r) {ops : Array Oper} {o : Oper} {r : List Oper} {s : St} {f : FuncId} {co : Operand} {cargs : Array Operand} {cts : Array TypeId} {caps : List DV} (ho : o.op = .call { callee := .value co, args := cargs, argTypes := cts }) (hw : wantA ops o s = some true)
    (hc : fnOf (s.ev co) = some (f, caps)) {x : AX} {s2 : St} (h : evInl P rc ops o r s f (cargs.toList.map s.ev ++ caps) = some (x, s2)) {ro : Option Nat} {Q : AX → St → Prop} (hQ : Q x s2) : AList ro P ops (o :: r) Q s := by
  unfold evInl at h
  split at h
  · rename_i fn hfn
    split at h
    · rename_i c hb
      have hcl : Callable P f fn c := ⟨hfn, hb, hf.names f fn hfn (by rw [hb]; rfl)⟩
      refine alist_inline ho hw hc hcl rfl rfl ?_
      split at h
      · rename_i s' hr
        split at h
        · rename_i l hl
          exact hrc _ _ hr _ _ ⟨l, hl, hrc _ _ h _ Q hQ⟩
        · cases h
      · rename_i s' hr
        split at h
        · rename_i l hl
          exact hrc _ _ hr _ _ ⟨l, hl, hrc _ _ h _ Q hQ⟩
        · cases h
      · rename_i d s' hr
        injection h with h; injection h with h1 h2; subst h1; subst h2
        exact hrc _ _ hr _ _ hQ
      · cases h
    · cases h
  · cases h
theorem evStuck_sound (hf : Fit P orc) (hrc : ∀ t r, rc t = some r → TkOK P t r) {ops : Array Oper} {o : Oper} {r : List Oper} {s : St} (hw : wantA ops o s = some true)
    {x : AX} {s2 : St} (h : evStuck P orc inl rc ops o r s = some (x, s2)) {ro : Option Nat} {Q : AX → St → Prop} (hQ : Q x s2) : AList ro P ops (o :: r) Q s := by
  unfold evStuck at h
  split at h
  · rename_i y ho
    split at h
    · rename_i t v hv
      injection h with h; injection h with h1 h2; subst h1; subst h2
      exact alist_panic ho hw hv hQ
    · cases h
  · rename_i c ho
    split at h
    · rename_i co hco
      split at h
      · rename_i f caps hc
        have ho' : o.op = .call { callee := .value co, args := c.args, argTypes := c.argTypes } := by rw [ho, ← hco]
        unfold evCall at h
        split at h
        · exact evInl_sound hf hrc ho' hw hc h hQ
        split at h
        · rename_i pargs μ1 hz
          split at h
          · rename_i v hp
            exact alist_call ho' hw hc hz (evPure_sound hf hrc hp) (hrc _ _ h _ Q hQ)
          · rename_i v hp
            injection h with h; injection h with h1 h2; subst h1; subst h2
            exact alist_call ho' hw hc hz (evPure_sound hf hrc hp) hQ
          · exact evInl_sound hf hrc ho' hw hc h hQ
        · exact evInl_sound hf hrc ho' hw hc h hQ
      · cases h
    · cases h
  · cases h
theorem evDrawn_pcall (hf : Fit P orc) (hrc : ∀ t r, rc t = some r → TkOK P t r) {o : Oper} {s : St} {v : PD} (h : evDrawn P orc inl rc o s = some v) : PCall P o s (.p v) := by
  unfold evDrawn at h
  split at h
  · rename_i c ho
    split at h
    · rename_i co hco
      split at h
      · rename_i f caps hc
        split at h
        · rename_i pargs hz
          split at h
          · rename_i v' hp
            injection h with h; subst h
            exact ⟨co, c.args, c.argTypes, f, caps, pargs, v', by rw [ho, ← hco], hc, hz, evPure_sound hf hrc hp, rfl⟩
          · cases h
        · cases h
      · cases h
    · cases h
  · cases h
theorem evDrawnI_sound (hf : Fit P orc) (hrc : ∀ t r, rc t = some r → TkOK P t r) {o : Oper} {s : St} {d : DV} {μ' : Mem} (h : evDrawnI P orc inl rc o s = some (d, μ')) : ICall P o s d μ' := by
  unfold evDrawnI at h
  split at h
  · rename_i v hv
    injection h with h; injection h with h1 h2; subst h1; subst h2
    exact .inr ⟨evDrawn_pcall hf hrc hv, rfl⟩
  · left
    split at h
    · rename_i c ho
      split at h
      · rename_i co hco
        split at h
        · rename_i f caps hc
          split at h
          · rename_i fn hfn
            split at h
            · rename_i b hb
              have hcl : Callable P f fn b := ⟨hfn, hb, hf.names f fn hfn (by rw [hb]; rfl)⟩
              split at h
              · rename_i s' hr
                split at h
                · rename_i l hl
                  injection h with h; injection h with h1 h2; subst h1; subst h2
                  exact ⟨co, c.args, c.argTypes, f, caps, fn, b, by rw [ho, ← hco], hc, hcl, hrc _ _ hr _ _ ⟨l, hl, rfl, rfl⟩⟩
                · cases h
              · rename_i s' hr
                split at h
                · rename_i l hl
                  injection h with h; injection h with h1 h2; subst h1; subst h2
                  exact ⟨co, c.args, c.argTypes, f, caps, fn, b, by rw [ho, ← hco], hc, hcl, hrc _ _ hr _ _ ⟨l, hl, rfl, rfl⟩⟩
                · cases h
              · cases h
            · cases h
          · cases h
        · cases h
      · cases h
    · cases h
theorem evDrawn_sound (hf : Fit P orc) (hrc : ∀ t r, rc t = some r → TkOK P t r) {o : Oper} {s : St} {v : PD} (h : evDrawn P orc inl rc o s = some v) {K : St → Prop} (hK : K ⟨putT s.tmps o.dst (.p v), s.μ⟩) : DK P o K s := by
  unfold evDrawn at h
  split at h
  · rename_i c ho
    split at h
    · rename_i co hco
      split at h
      · rename_i f caps hc
        split at h
        · rename_i pargs hz
          split at h
          · rename_i v' hp
            injection h with h; subst h
            exact ⟨co, c.args, c.argTypes, f, caps, pargs, v', by rw [ho, ← hco], hc, hz, evPure_sound hf hrc hp, hK⟩
          · cases h
        · cases h
      · cases h
    · cases h
  · cases h
end
theorem tkd_norm {P : Program} {orc : FuncId → List PD → Option AEnd} {inl : FuncId → Bool} : ∀ (n : Nat) (xc : Bool) (ops : Array Oper) (i : Nat) (l : List Oper) (an : List AS) (hist : List (Nat × Oper × St × DV)) (s : St) (x : AX) (s' : St), evRun P orc inl n (.d xc ops i l an hist s) = some (x, s') → x = .norm := by
  intro n
  induction n with
  | zero => intro xc ops i l an hist s x s' h; simp [evRun] at h
  | succ n ih =>
    intro xc ops i l an hist s x s' h
    simp only [evRun, evStep] at h
    split at h
    · injection h with h; injection h with h _; exact h.symm
    · split at h
      · cases h
      · exact ih _ _ _ _ _ _ _ _ _ h
      · split at h
        · split at h
          · split at h
            · exact ih _ _ _ _ _ _ _ _ _ h
            · cases h
          · exact ih _ _ _ _ _ _ _ _ _ h
        · split at h
          · split at h
            · split at h
              · exact ih _ _ _ _ _ _ _ _ _ h
              · cases h
            · cases h
          · split at h
            · exact ih _ _ _ _ _ _ _ _ _ h
            · cases h
    · cases h
theorem evRun_sound {P : Program} {orc : FuncId → List PD → Option AEnd} {inl : FuncId → Bool} (hf : Fit P orc) : ∀ (n : Nat) (t : Tk) (r : AX × St), evRun P orc inl n t = some r → TkOK P t r := by
  suffices hall : ∀ (n k : Nat), k ≤ n → ∀ (t : Tk) (r : AX × St), evRun P orc inl k t = some r → TkOK P t r from fun n => hall n n (Nat.le_refl _)
  intro n
  induction n with
  | zero => intro k hk t r h; obtain rfl : k = 0 := by omega
            simp [evRun] at h
  | succ n ihall =>
    intro k hk t r h
    have ih := ihall n (Nat.le_refl _)
    by_cases hkn : k ≤ n
    · exact ihall k hkn t r h
    obtain rfl : k = n + 1 := by omega
    obtain ⟨x, s'⟩ := r
    simp only [evRun] at h
    cases t with
    | c c s =>
      intro ro Q hQ
      simp only [evStep] at h
      cases c with
      | skip => injection h with h; injection h with h1 h2; subst h1; subst h2; exact awp_skip hQ
      | label l => injection h with h; injection h with h1 h2; subst h1; subst h2; exact awp_label hQ
      | region id ops d =>
        cases d with
        | false =>
          have := awp_region (ro := ro) (id := id) (l := ops.toList) (P := P) (Q := Q) (s := s) (by simpa using ih _ _ h _ Q hQ)
          simpa using this
        | true =>
          simp only at h
          have key : ∀ xc, calm xc ops = true → evRun P orc inl n (.d xc ops 0 ops.toList (ancs ops.toList) [] s) = some (x, s') → AWP ro P (.region id ops true) Q s := by
            intro xc hc h
            have hx := tkd_norm n _ _ _ _ _ _ _ _ _ h
            subst hx
            have := awp_draw (ro := ro) (xc := xc) (id := id) (l := ops.toList) (P := P) (Q := Q) (s := s) hf.order (by simpa using hc) (by simpa using ih _ _ h Q ⟨rfl, hQ⟩)
            simpa using this
          split at h
          · rename_i r hr
            injection h with h; subst h
            split at hr
            · rename_i hc; exact key false hc hr
            · cases hr
          · split at h
            · rename_i hc; exact key true hc h
            · cases h
      | seq a b =>
        simp only at h
        refine awp_seq ?_
        split at h
        · rename_i s1 h1
          exact ih _ _ h1 _ _ (ih _ _ h _ Q hQ)
        · rename_i hn
          refine ih _ _ h _ _ ?_
          cases x with
          | norm => exact absurd h (hn s')
          | _ => exact hQ
      | cond c y z =>
        simp only at h
        split at h
        · rename_i t ht
          refine awp_cond ht (fun h1 => ?_) (fun h1 => ?_)
          · rw [if_pos h1] at h; exact ih _ _ h _ Q hQ
          · rw [if_neg (by rw [h1]; simp)] at h; exact ih _ _ h _ Q hQ
        · cases h
      | block id c =>
        simp only at h
        refine awp_block ?_
        split at h
        · rename_i j s1 h1
          refine ih _ _ h1 _ _ ?_
          simp only [AX.blk]
          split at h
          · rename_i hj
            rw [if_pos hj]
            injection h with h; injection h with h1 h2; subst h1; subst h2; exact hQ
          · rename_i hj
            rw [if_neg hj]
            injection h with h; injection h with h1 h2; subst h1; subst h2; exact hQ
        · rename_i hn
          refine ih _ _ h _ _ ?_
          cases x with
          | exit j => exact absurd h (hn j s')
          | _ => exact hQ
      | exit id => injection h with h; injection h with h1 h2; subst h1; subst h2; exact awp_exit hQ
      | scope c =>
        simp only at h
        refine awp_scope ?_
        split at h
        · cases h
        · rename_i hn
          refine ih _ _ h _ _ ?_
          cases x with
          | goto j => exact absurd h (hn j s')
          | _ => exact hQ
      | goto l => injection h with h; injection h with h1 h2; subst h1; subst h2; exact awp_goto hQ
      | ret => injection h with h; injection h with h1 h2; subst h1; subst h2; exact awp_ret hQ
      | loop c =>
        have step : ∀ k s, evRun P orc inl k (.c (.loop c) s) = some (x, s') → ∃ m, k = m + 1 ∧ ((∃ s1, evRun P orc inl m (.c c s) = some (.norm, s1) ∧ evRun P orc inl m (.c (.loop c) s1) = some (x, s')) ∨ (x ≠ .norm ∧ evRun P orc inl m (.c c s) = some (x, s'))) := by
          intro k s hk
          cases k with
          | zero => simp [evRun] at hk
          | succ m =>
            refine ⟨m, rfl, ?_⟩
            simp only [evRun, evStep] at hk
            split at hk
            · rename_i s1 h1
              exact .inl ⟨s1, h1, hk⟩
            · rename_i hn
              refine .inr ⟨fun hx => ?_, hk⟩
              subst hx
              exact hn s' hk
        refine awp_loop (fun k s => k ≤ n + 1 ∧ evRun P orc inl k (.c (.loop c) s) = some (x, s')) (n + 1) ⟨Nat.le_refl _, by simp only [evRun]; exact h⟩ ?_
        rintro k s0 ⟨hkn, hk⟩
        obtain ⟨m, rfl, hs⟩ := step k s0 hk
        rcases hs with ⟨s1, h1, h2⟩ | ⟨hx, h1⟩
        · exact ihall m (by omega) _ _ h1 _ _ ⟨m, by omega, by omega, h2⟩
        · refine ihall m (by omega) _ _ h1 _ _ ?_
          cases x with
          | norm => exact absurd rfl hx
          | _ => exact hQ
      | rangeFunc f ps a b => cases h
      | refuse r => cases h
    | l ops l s =>
      intro ro Q hQ
      simp only [evStep] at h
      split at h
      · injection h with h; injection h with h1 h2; subst h1; subst h2; exact alist_nil hQ
      · rename_i o r
        split at h
        · cases h
        · rename_i hw
          exact alist_skip hw (ih _ _ h _ Q hQ)
        · rename_i hw
          split at h
          · rename_i d μ' he
            exact alist_gives (evOp_nodefer he) hw (fun G a w hs => evOp_sound he hs) (ih _ _ h _ Q hQ)
          · exact evStuck_sound hf ih hw h hQ
    | d xc ops i l an hist s =>
      rintro Q ⟨rfl, hQ⟩
      simp only [evStep] at h
      split at h
      · injection h with h; injection h with h1 h2; subst h2; exact hQ
      · rename_i o r a ar
        simp only [drawQ]
        split at h
        · cases h
        · rename_i hw
          rw [hw]
          simp only [dstep, Bool.false_eq_true, if_false]
          exact ih _ _ h Q ⟨rfl, hQ⟩
        · rename_i hw
          rw [hw]
          simp only [dstep, if_true]
          split at h
          · rename_i d μ' he
            rw [he]
            simp only [dval]
            split at h
            · rename_i hm
              rw [if_pos hm]
              split at h
              · rename_i ho
                exact ⟨oblgB_sound ho, ih _ _ h Q ⟨rfl, hQ⟩⟩
              · cases h
            · rename_i hm
              rw [if_neg hm]
              exact ih _ _ h Q ⟨rfl, hQ⟩
          · rename_i he
            rw [he]
            simp only [dval]
            split at h
            · rename_i hm
              rw [if_pos hm]
              split at h
              · rename_i d μ' hv
                split at h
                · rename_i ho
                  exact ⟨d, μ', evDrawnI_sound hf ih hv, (by intro h2; rw [ho.1] at h2; cases h2), oblgB_sound ho.2, ih _ _ h Q ⟨rfl, hQ⟩⟩
                · cases h
              · cases h
            · rename_i hm
              rw [if_neg hm]
              split at h
              · rename_i v hv
                exact evDrawn_sound hf ih hv (ih _ _ h Q ⟨rfl, hQ⟩)
              · cases h
      · cases h
theorem run_pure {P : Program} {orc : FuncId → List PD → Option AEnd} {inl : FuncId → Bool} (hf : Fit P orc) (n : Nat) {f : FuncId} {args : List PD} {e : AEnd} (h : evPure P orc inl (evRun P orc inl n) f args = some e) : Pure P f args e := evPure_sound hf (evRun_sound hf n) h
/-- an empty slice: nil, or not -/
theorem pure_empty {P : Program} {f : FuncId} {pre post : List PD} {r : AEnd} (h : ∀ (A : Option Addr) (c : Nat), Pure P f (pre ++ .v (.slice A 0 c) :: post) r) : Pure P f (pre ++ .sl [] :: post) r := by
  refine ⟨(h none 0).1, fun Z w xs hlw hz hx => ?_⟩
  have hl : pre.length < xs.size := by rw [hx.1]; simp
  have hget : xs[pre.length]? = some xs[pre.length] := Array.getElem?_eq_getElem hl
  have h0 := hx.2 pre.length (.sl []) _ (by simp) hget
  generalize xs[pre.length] = x at hget h0
  cases h0 with
  | sl els A c sz val hc hm hs hA hr =>
    refine (h A c).2 Z w xs hlw hz ⟨by rw [hx.1]; simp, fun i d y hd hy => ?_⟩
    by_cases hi : i = pre.length
    · subst hi
      rw [hget] at hy
      injection hy with hy
      subst hy
      simp at hd
      subst hd
      exact .v _
    · refine hx.2 i d y ?_ hy
      rcases Nat.lt_or_ge i pre.length with hlt | hge
      · rw [List.getElem?_append_left hlt] at hd ⊢; exact hd
      · rw [List.getElem?_append_right hge] at hd ⊢
        obtain ⟨k, hk⟩ : ∃ k, i - pre.length = k + 1 := ⟨i - pre.length - 1, by omega⟩
        rw [hk] at hd ⊢
        exact hd
end Go.Proofs.YtikfefjaeejeeaaGreatDoor

/- The abstract machine, 18: boxes that nothing leads to any more are forgotten. -/
namespace Go.Proofs.YtikfefjaeejeeaaGreatDoor
open Go.RowKit

def Mem.cut (nb nt no : Nat) (μ : Mem) : Mem := ⟨μ.boxes.take nb, μ.toks.take nt, μ.objs.take no⟩
def Gh.cut (nb nt no : Nat) (G : Gh) : Gh := { G with bs := G.bs.take nb, tv := G.tv.take nt, mps := G.mps.take no }
/-- leads to what stays only -/
def refB (nb nt no : Nat) : Nat → DV → Bool
  | 0, _ => false
  | _ + 1, .row t _ => decide (t < nt)
  | _ + 1, .bsl b _ _ _ _ => decide (b < nb)
  | _ + 1, .loc b _ => decide (b < nb)
  | _ + 1, .mp m => decide (m < no)
  | _ + 1, .it m => decide (m < no)
  | k + 1, .agg cs => cs.all (refB nb nt no k)
  | k + 1, .tup cs => cs.all (refB nb nt no k)
  | k + 1, .fn _ cs => cs.all (refB nb nt no k)
  | _ + 1, _ => true
theorem take_get {α : Type} {l : List α} {n i : Nat} {x : α} (h : l[i]? = some x) (hi : i < n) : (l.take n)[i]? = some x := by
  rw [List.getElem?_take, if_pos hi]; exact h
theorem get_take {α : Type} {l : List α} {n i : Nat} {x : α} (h : (l.take n)[i]? = some x) : i < n ∧ l[i]? = some x := by
  rw [List.getElem?_take] at h
  split at h
  · exact ⟨by assumption, h⟩
  · cases h
theorem CRel.cut {G : Gh} {w : World} {nb nt no : Nat} : ∀ (k : Nat) {d : DV} {x : Value}, CRel G w d x → refB nb nt no k d = true → CRel (G.cut nb nt no) w d x := by
  intro k
  induction k with
  | zero => intro d x _ h; simp [refB] at h
  | succ k ih =>
    intro d x hx h
    cases hx with
    | undef x => exact .undef x
    | p d x hp => exact .p d x hp
    | agg cs vs hl hc =>
      simp only [refB, List.all_eq_true] at h
      exact .agg cs vs hl fun i d x hd hx => ih (hc i d x hd hx) (h d (List.mem_of_getElem? hd))
    | tup cs vs hl hc =>
      simp only [refB, List.all_eq_true] at h
      exact .tup cs vs hl fun i d x hd hx => ih (hc i d x hd hx) (h d (List.mem_of_getElem? hd))
    | row t els x y n hp ht hn he =>
      simp only [refB, decide_eq_true_eq] at h
      exact .row t els x y n hp (take_get ht h) hn he
    | bsl b off sz len cap g hg hc hm =>
      simp only [refB, decide_eq_true_eq] at h
      exact .bsl b off sz len cap g (take_get hg h) hc hm
    | fn f cs vs hl hc =>
      simp only [refB, List.all_eq_true] at h
      exact .fn f cs vs hl fun i d x hd hx => ih (hc i d x hd hx) (h d (List.mem_of_getElem? hd))
    | loc b o g hg =>
      simp only [refB, decide_eq_true_eq] at h
      exact .loc b o g (take_get hg h)
    | ep els i o g a c sz hp hi hs => exact .ep els i o g a c sz hp hi hs
    | cut0 A => exact .cut0 A
    | mp m g hg =>
      simp only [refB, decide_eq_true_eq] at h
      exact .mp m g (take_get hg h)
    | it m g hg =>
      simp only [refB, decide_eq_true_eq] at h
      exact .it m g (take_get hg h)
theorem MRel.cut {G : Gh} {μ : Mem} {w : World} (h : MRel G μ w) (nb nt no k : Nat) (hr : ∀ B ∈ μ.boxes.take nb, B.cells.all (refB nb nt no k) = true) : MRel (G.cut nb nt no) (μ.cut nb nt no) w := by
  refine ⟨h.bel, h.hb, h.zlt, h.zsub, ?_, ?_, fun i j g hi hj => h.inj i j g (get_take hi).2 (get_take hj).2, ?_, ?_, ?_, h.lw, ⟨?_, fun i j g hi hj => h.mp.inj i j g (get_take hi).2 (get_take hj).2, fun i g a ha hg => h.mp.at_ i g a (get_take ha).2 (get_take hg).2⟩⟩
  · show (G.bs.take nb).length = (μ.boxes.take nb).length
    simp [h.len]
  · show (G.tv.take nt).length = (μ.toks.take nt).length
    simp [h.tlen]
  · intro j B g hB hg
    obtain ⟨h1, vs, h2, h3, h4, h5⟩ := h.box j B g (get_take hB).2 (get_take hg).2
    have hB' := hr B (List.mem_of_getElem? hB)
    rw [List.all_eq_true] at hB'
    exact ⟨h1, vs, h2, h3, fun i d x hd hx => ⟨(h4 i d x hd hx).1.cut k (hB' d (List.mem_of_getElem? hd)), (h4 i d x hd hx).2⟩, h5⟩
  · intro t e s n ht
    obtain ⟨x, xs, h1, h2, h3, h4⟩ := h.tok t e s n (get_take ht).2
    exact ⟨x, xs, take_get h1 (get_take ht).1, h2, h3, fun g hg => ⟨(h4 g hg).1, fun j hj => (h4 g hg).2 j (get_take hj).2⟩⟩
  · intro t t' a a' x x' g h1 h2 k1 k2 b1 b2
    exact h.tne t t' a a' x x' g (get_take h1).2 (get_take h2).2 (get_take k1).2 (get_take k2).2 b1 b2
  · show (G.mps.take no).length = (μ.objs.take no).length
    simp [h.mp.len]
theorem Grw.cut {G0 G : Gh} {w0 w : World} (h : Grw G0 w0 G w) {nb nt no : Nat} (h1 : G0.bs.length ≤ nb) (h2 : G0.tv.length ≤ nt) (h3 : G0.mps.length ≤ no) : Grw G0 w0 (G.cut nb nt no) w := by
  refine ⟨h.base, h.w0, h.z0, h.z, h.cell, fun j g hg => take_get (h.bs j g hg) ?_, fun t n x ht => ?_, fun j g hg => take_get (h.mps j g hg) ?_, h.df, h.hsz, h.oth, fun j g hg => h.mnew j g (get_take hg).2⟩
  · have := (List.getElem?_eq_some_iff.1 hg).1; omega
  · obtain ⟨n', x', k1, k2, k3⟩ := h.tv t n x ht
    have := (List.getElem?_eq_some_iff.1 ht).1
    exact ⟨n', x', take_get k1 (by omega), k2, k3⟩
  · have := (List.getElem?_eq_some_iff.1 hg).1; omega
def St.cut (nb nt no : Nat) (s : St) : St := ⟨s.tmps, s.μ.cut nb nt no⟩
def St.refs (nb nt no k : Nat) (s : St) : Bool := s.tmps.all (refB nb nt no k) && (s.μ.boxes.take nb).all fun B => B.cells.all (refB nb nt no k)
theorem SRel.cut {G : Gh} {s : St} {a : Act} {w : World} (h : SRel G s a w) {nb nt no k : Nat} (hr : s.refs nb nt no k = true) : SRel (G.cut nb nt no) (s.cut nb nt no) a w := by
  unfold St.refs at hr
  rw [Bool.and_eq_true, List.all_eq_true, List.all_eq_true] at hr
  exact ⟨h.size, fun i d x hd hx => (h.tmp i d x hd hx).cut k (hr.1 d (List.mem_of_getElem? hd)), h.defers, h.mem.cut nb nt no k hr.2⟩

section
variable {ro : Option Nat} {P : Program} {ops : Array Oper} {Q : AX → St → Prop} {s : St}
/-- a loop whose rounds leave nothing behind in memory but in what was there -/
theorem awp_loopc {c : Code} (ks : List Nat) (nb nt no k : Nat) (I : Nat → St → Prop) (hI : ∀ n s, I n s → s.μ.boxes.length = nb ∧ s.μ.toks.length = nt ∧ s.μ.objs.length = no) (n : Nat) (h0 : I n (s.keep ks))
    (round : ∀ n s, I n s → ∀ K : St → Prop, (∀ s', (∃ n', n' < n ∧ I n' ((s'.keep ks).cut nb nt no)) → (s'.keep ks).refs nb nt no k = true → K s') → AWP ro P c (AX.next K Q) s) : AWP ro P (.loop c) Q s := by
  refine awp_keep ks (awp_loop I n h0 fun n s hI' G a w hs => ?_)
  obtain ⟨l1, l2, l3⟩ := hI n s hI'
  refine wpIn_mono (round n s hI' (fun s' => (∃ n', n' < n ∧ I n' ((s'.keep ks).cut nb nt no)) ∧ (s'.keep ks).refs nb nt no k = true) (fun s' h1 h2 => ⟨h1, h2⟩) G a w hs) fun e a' w' hp => ?_
  obtain ⟨x, s', G', h1, h2, h3, h4⟩ := hp
  cases x with
  | norm =>
    obtain ⟨⟨n', hn, hi⟩, hr⟩ := h2
    exact ⟨.norm, _, G'.cut nb nt no, by cases e <;> first | exact h1.elim | trivial, ⟨n', hn, hi⟩, (h3.keep ks).cut hr, h4.cut (by rw [hs.mem.len]; omega) (by rw [hs.mem.tlen]; omega) (by rw [hs.mem.mp.len]; omega)⟩
  | _ => exact ⟨_, s', G', h1, h2, h3, h4⟩
end
end Go.Proofs.YtikfefjaeejeeaaGreatDoor
