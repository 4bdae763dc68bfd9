/- The abstract machine, 20: the run with answers. -/
import Derived.Test.YtikfefjaeejeeaaGreatDoorAeS
namespace Go.Proofs.YtikfefjaeejeeaaGreatDoor
open Go.RowKit

abbrev RS := Option ((AX × St) × Cf)
section
variable (P : Program) (inl : FuncId → Bool) (rc : Tk → Cf → RS)
def runFn (f : FuncId) (args : List PD) (c : Cf) : Option (AEnd × Cf) :=
  match P.funcs[f]? with
  | some fn => match fn.body with
    | some b => match rc (.c b ⟨args.map .p ++ List.replicate (fn.ntmps - args.length) .undef, ⟨[], [], []⟩⟩) c.tick with
      | some ((.ret, s'), c') | some ((.norm, s'), c') => match resA P s' fn.results.toList with
        | some l => match frz 200 s'.μ (oneOrTup l) with | some (v, _) => some (.ret v, c') | none => none
        | none => none
      | some ((.panic d, s'), c') => match frz 200 s'.μ d with | some (v, _) => some (.panic v, c') | none => none
      | _ => none
    | none => none
  | none => none
def runInl (ops : Array Oper) (o : Oper) (r : List Oper) (s : St) (f : FuncId) (args : List DV) (c : Cf) : RS :=
  match P.funcs[f]? with
  | some fn => match fn.body with
    | some b => match rc (.c b ⟨args ++ List.replicate (fn.ntmps - args.length) .undef, s.μ⟩) c.tick with
      | some ((.ret, s'), c') | some ((.norm, s'), c') => match resA P s' fn.results.toList with
        | some l => rc (.l ops r ⟨putT s.tmps o.dst (oneOrTup l), s'.μ⟩) c'.tick
        | none => none
      | some ((.panic d, s'), c') => some ((.panic d, ⟨s.tmps, s'.μ⟩), c')
      | _ => none
    | none => none
  | none => none
def endS (ops : Array Oper) (o : Oper) (r : List Oper) (s : St) (μ1 : Mem) (c : Cf) : AEnd → RS
  | .ret v => rc (.l ops r ⟨putT s.tmps o.dst (.p v), μ1⟩) c.tick
  | .panic v => some ((.panic (.p v), ⟨s.tmps, μ1⟩), c)
def runCall (ops : Array Oper) (o : Oper) (r : List Oper) (s : St) (f : FuncId) (args : List DV) (c : Cf) : RS :=
  match c.hd with
  | some (.call e, c') => match frzL 200 s.μ args with
    | some (pargs, μ1) => endS rc ops o r s μ1 (c'.add (Pure P f pargs e)) e
    | none => none
  | some (.callb v, c') => match frzL 200 s.μ args with
    | some (pargs, _) => if flatP v = true then rc (.l ops r ⟨putT s.tmps o.dst (.p v), s.μ⟩) (c'.add (Pure P f pargs (.ret v))).tick else none
    | none => none
  | some (.callm d ts, c') => match frzL 200 s.μ args with
    | some (pargs, μ1) => if okD d = true then rc (.l ops r ⟨putT s.tmps o.dst (shD μ1.toks.length d), ⟨μ1.boxes, μ1.toks ++ ts, μ1.objs⟩⟩) (c'.add (PureM P f pargs d ts)).tick else none
    | none => none
  | some _ => none
  | none => if inl f = true then runInl P rc ops o r s f args c else
    match frzL 200 s.μ args with
    | some (pargs, μ1) => match runFn P rc f pargs c with
      | some (e, c') => endS rc ops o r s μ1 c' e
      | none => none
    | none => runInl P rc ops o r s f args c
def runStuck (ops : Array Oper) (o : Oper) (r : List Oper) (s : St) (c : Cf) : RS :=
  match o.op with
  | .panic x => match s.ev x with
    | .p (.v (.iface t v)) => some ((.panic (.p (.v (.iface t v))), s), c)
    | _ => none
  | .call cl => match cl.callee with
    | .value co => match fnOf (s.ev co) with
      | some (f, caps) => runCall P inl rc ops o r s f (cl.args.toList.map s.ev ++ caps) c
      | _ => none
    | _ => none
  | _ => none
/-- a call in a statement whose order is open: it answers, or a closure's code is run -/
def runDrawn (o : Oper) (s : St) (c : Cf) : Option (PD × Cf) :=
  match o.op with
  | .call cl => match cl.callee with
    | .value co => match fnOf (s.ev co) with
      | some (f, caps) => match frzL 200 ⟨[], [], []⟩ (cl.args.toList.map s.ev ++ caps) with
        | some (pargs, ⟨[], [], []⟩) => match c.hd with
          | some (.call (.ret v), c') => some (v, c'.add (Pure P f pargs (.ret v)))
          | some _ => none
          | none => match runFn P rc f pargs c with
            | some (.ret v, c') => some (v, c')
            | _ => none
        | _ => none
      | _ => none
    | _ => none
  | _ => none
def runDrawnI (o : Oper) (s : St) (c : Cf) : Option ((DV × Mem) × Cf) :=
  match o.op with
  | .call cl => match cl.callee with
    | .value co => match fnOf (s.ev co) with
      | some (f, caps) => match P.funcs[f]? with
        | some fn => match fn.body with
          | some b => match rc (.c b ⟨(cl.args.toList.map s.ev ++ caps) ++ List.replicate (fn.ntmps - (cl.args.toList.map s.ev ++ caps).length) .undef, s.μ⟩) c.tick with
            | some ((.ret, s'), c') | some ((.norm, s'), c') => match resA P s' fn.results.toList with
              | some l => some ((oneOrTup l, s'.μ), c')
              | none => none
            | _ => none
          | none => none
        | none => none
      | _ => none
    | _ => none
  | _ => none
def isEp : DV → Bool
  | .ep _ _ _ => true
  | _ => false
def oblS (an : AS) (μ' : Mem) : List (Nat × Oper × St × DV) → Option (List Prop)
  | [] => some []
  | (j, o, s, d) :: r => match oblS an μ' r with
    | none => none
    | some ps => if an.contains j = true then some ps else match o.op with
      | .load _ x => if isEp (s.ev x) = true then some ps else match evOp P o ⟨s.tmps, μ'⟩ with
        | some (e, _) => some ((e = d) :: ps)
        | none => none
      | .lookup _ _ _ _ => match evOp P o ⟨s.tmps, μ'⟩ with
        | some (e, _) => some ((e = d) :: ps)
        | none => none
      | _ => none
def frS (fr : Bool) (μ' μ : Mem) (l : List Prop) : List Prop := if fr = true then (μ' = μ) :: l else l
theorem frS_ok {fr : Bool} {μ' μ : Mem} {l : List Prop} (h : allP (frS fr μ' μ l)) : (fr = true → μ' = μ) ∧ allP l := by
  unfold frS at h
  split at h
  · exact ⟨fun _ => h.1, h.2⟩
  · rename_i hf
    exact ⟨fun h => absurd h hf, h⟩
def loopS (b : Code) : Nat → St → Cf → RS
  | 0, _, _ => none
  | m + 1, s, k => match rc (.c b s) k.tick with
    | some ((.norm, s1), k1) => loopS b m s1 k1
    | r => r
def runStep : Tk → Cf → RS
  | .c c s, k => match k.hd with
    | some (.code ks x s', k') => match c with
      | .loop b => some ((x, s'), k'.add (∀ (ro : Option Nat) (Q : AX → St → Prop), Q x s' → AWP ro P (.loop b) Q (s.keep ks)))
      | _ => none
    | some (.fzs i, k') => match frz 200 s.μ (getT s.tmps i) with
      | some (v, μ1) => rc (.c c ⟨s.tmps.set i (.p v), μ1⟩) k'
      | none => none
    | some (.fzb i v μ1, k') => rc (.c c ⟨s.tmps.set i (.p v), μ1⟩) (k'.add (∃ k, frz k s.μ (getT s.tmps i) = some (v, μ1)))
    | _ => match c with
      | .skip => some ((.norm, s), k)
      | .label _ => some ((.norm, s), k)
      | .region _ ops false => rc (.l ops ops.toList s) k.tick
      | .region _ ops true => match k.hd with
        | some (.xc, k') => if calm true ops = true then rc (.d true ops 0 ops.toList (ancs ops.toList) [] s) k'.tick else none
        | some (.xp p, k') => if pairP p ops = true then (match rc (.d false ops 0 ops.toList (ancs ops.toList) [] s) k'.tick with
          | some ((.norm, s1), k1) => if chkP p ops s s1 = true then some ((.norm, s1), k1) else none
          | _ => none) else none
        | _ => if calm false ops = true then rc (.d false ops 0 ops.toList (ancs ops.toList) [] s) k.tick else none
      | .seq a b => match rc (.c a s) k.tick with
        | some ((.norm, s1), k1) => rc (.c b s1) k1.tick
        | r => r
      | .cond cd x y => match s.ev cd with
        | .p (.v (.bool t)) => match qB t k with
          | (b, k1) => if b = true then rc (.c x s) k1.tick else rc (.c y s) k1.tick
        | _ => none
      | .block id c => match rc (.c c s) k.tick with
        | some ((.exit j, s1), k1) => if j = id then some ((.norm, s1), k1) else some ((.exit j, s1), k1)
        | r => r
      | .exit id => some ((.exit id, s), k)
      | .scope c => match rc (.c c s) k.tick with
        | some ((.goto _, _), _) => none
        | r => r
      | .goto l => some ((.goto l, s), k)
      | .ret => some ((.ret, s), k)
      | .loop c => loopS rc c 65536 s k
      | _ => none
  | .l ops l s, k => match k.hd with
    | some (.fzs i, k') => match frz 200 s.μ (getT s.tmps i) with
      | some (v, μ1) => rc (.l ops l ⟨s.tmps.set i (.p v), μ1⟩) k'
      | none => none
    | some (.fzb i v μ1, k') => rc (.l ops l ⟨s.tmps.set i (.p v), μ1⟩) (k'.add (∃ k, frz k s.μ (getT s.tmps i) = some (v, μ1)))
    | _ => match l with
    | [] => some ((.norm, s), k)
    | o :: r => match wantS ops o s k with
      | none => none
      | some (false, k1) => rc (.l ops r ⟨putT s.tmps o.dst (.p (.v (.tuple #[]))), s.μ⟩) k1.tick
      | some (true, k1) => match opS P o s k1 with
        | some ((d, μ'), k2) => rc (.l ops r ⟨putT s.tmps o.dst d, μ'⟩) k2.tick
        | none => runStuck P inl rc ops o r s k1
  | .d xc ops i l ans hist s, k => match l, ans with
    | [], _ => some ((.norm, s), k)
    | o :: r, an :: ar => match wantS ops o s k with
      | none => none
      | some (false, k1) => rc (.d xc ops (i + 1) r ar hist ⟨putT s.tmps o.dst (.p (.v (.tuple #[]))), s.μ⟩) k1.tick
      | some (true, k1) => match opS P o s k1 with
        | some ((d, μ'), k2) => if isMem xc o.op = true then (match oblS P an μ' hist with
            | some ps => rc (.d xc ops (i + 1) r ar hist ⟨putT s.tmps o.dst d, μ'⟩) ⟨k2.n + 1, k2.an, ps ++ k2.ob⟩
            | none => none) else rc (.d xc ops (i + 1) r ar (if isLd o.op = true then (i, o, s, d) :: hist else hist) ⟨putT s.tmps o.dst d, s.μ⟩) k2.tick
        | none => if isCall o.op = true then (match runDrawn P rc o s k1 with
          | some (v, k2) => if isMem xc o.op = true then (match oblS P an s.μ hist with
              | some ps => rc (.d xc ops (i + 1) r ar hist ⟨putT s.tmps o.dst (.p v), s.μ⟩) ⟨k2.n + 1, k2.an, ps ++ k2.ob⟩
              | none => none) else rc (.d xc ops (i + 1) r ar hist ⟨putT s.tmps o.dst (.p v), s.μ⟩) k2.tick
          | none => if isMem xc o.op = true then (match runDrawnI P rc o s k1 with
            | some ((d, μ'), k2) => (match oblS P an μ' hist with
              | some ps => rc (.d xc ops (i + 1) r ar hist ⟨putT s.tmps o.dst d, μ'⟩) ⟨k2.n + 1, k2.an, frS (freeAt ops i) μ' s.μ (ps ++ k2.ob)⟩
              | none => none)
            | none => none) else none) else none
    | _ :: _, [] => none
end
def run (P : Program) (inl : FuncId → Bool) : Nat → Tk → Cf → RS
  | 0, _, _ => none
  | n + 1, t, k => runStep P inl (run P inl n) t k

/-! ### it is sure -/
structure FitS (P : Program) : Prop where
  order : P.follows .mixedOrders = true
  names : ∀ (f : FuncId) (fn : Func), P.funcs[f]? = some fn → fn.body.isSome = true → (fn.name == "runtime.NumGoroutine") = false
def HistOK (P : Program) (hist : List (Nat × Oper × St × DV)) : Prop := ∀ e ∈ hist, evOp P e.2.1 e.2.2.1 = some (e.2.2.2, e.2.2.1.μ)
def TkS (P : Program) : Tk → AX × St → Prop
  | .c c s, (x, s') => ∀ (ro : Option Nat) (Q : AX → St → Prop), Q x s' → AWP ro P c Q s
  | .l ops l s, (x, s') => ∀ (ro : Option Nat) (Q : AX → St → Prop), Q x s' → AList ro P ops l Q s
  | .d xc ops i l an hist s, (x, s') => HistOK P hist → x = .norm ∧ ∀ Q : AX → St → Prop, Q .norm s' → drawQ xc P ops Q i l an hist s
def OKS (P : Program) (rc : Tk → Cf → RS) : Prop := ∀ t k r k', rc t k = some (r, k') → allP k'.ob → TkS P t r ∧ allP k.ob
theorem oblS_ok {P : Program} {an : AS} {μ' : Mem} : ∀ {hist : List (Nat × Oper × St × DV)} {ps : List Prop}, oblS P an μ' hist = some ps → HistOK P hist → ∀ ob, allP (ps ++ ob) → oblg P an μ' hist ∧ allP ob
  | [], ps, h, _, ob, ho => by simp only [oblS] at h; injection h with h; subst h; exact ⟨trivial, ho⟩
  | (j, o, s, d) :: r, ps, h, hh, ob, ho => by
    have hr : HistOK P r := fun e he => hh e (List.mem_cons_of_mem _ he)
    have h0 : evOp P o s = some (d, s.μ) := hh _ List.mem_cons_self
    simp only [oblS] at h
    split at h
    · cases h
    · rename_i ps1 h1
      split at h
      · rename_i hc
        injection h with h; subst h
        obtain ⟨k1, k2⟩ := oblS_ok h1 hr ob ho
        exact ⟨⟨by rw [if_pos hc]; trivial, k1⟩, k2⟩
      · rename_i hc
        split at h
        · rename_i t x hop
          split at h
          · rename_i hep
            injection h with h; subst h
            obtain ⟨k1, k2⟩ := oblS_ok h1 hr ob ho
            refine ⟨⟨?_, k1⟩, k2⟩
            rw [if_neg hc]
            unfold evOp at h0 ⊢
            rw [hop] at h0 ⊢
            simp only at h0 ⊢
            obtain ⟨h2, _⟩ := keep_some h0
            have : evLoad P t ((⟨s.tmps, μ'⟩ : St).ev x) μ' = some d := by
              have e1 : (⟨s.tmps, μ'⟩ : St).ev x = s.ev x := by cases x <;> rfl
              rw [e1]
              unfold isEp at hep
              split at hep
              · rename_i els i off hx
                rw [hx] at h2 ⊢
                rw [← h2]
                unfold evLoad
                rfl
              · cases hep
            rw [this]; rfl
          · split at h
            · rename_i e μ1 he
              injection h with h; subst h
              obtain ⟨k1, k2⟩ := oblS_ok h1 hr ob ho.2
              refine ⟨⟨?_, k1⟩, k2⟩
              rw [if_neg hc, ← ho.1]
              have := ld_keeps (s := ⟨s.tmps, μ'⟩) (by rw [hop]; rfl) he
              rw [he, this]
            · cases h
        · rename_i t x i ok hop
          split at h
          · rename_i e μ1 he
            injection h with h; subst h
            obtain ⟨k1, k2⟩ := oblS_ok h1 hr ob ho.2
            refine ⟨⟨?_, k1⟩, k2⟩
            rw [if_neg hc, ← ho.1]
            have := ld_keeps (s := ⟨s.tmps, μ'⟩) (by rw [hop]; rfl) he
            rw [he, this]
          · cases h
        · cases h
theorem oblS_ob : ∀ {ps ob : List Prop}, allP (ps ++ ob) → allP ob
  | [], _, h => h
  | _ :: ps, _, h => oblS_ob (ps := ps) h.2
section
variable {P : Program} {inl : FuncId → Bool} {rc : Tk → Cf → RS}
theorem runFn_ok (hf : FitS P) (hrc : OKS P rc) {f : FuncId} {args : List PD} {c c' : Cf} {e : AEnd} (h : runFn P rc f args c = some (e, c')) (ho : allP c'.ob) : Pure P f args e ∧ allP c.ob := by
  unfold runFn at h
  split at h
  · rename_i fn hfn
    split at h
    · rename_i b hb
      have hcl : Callable P f fn b := ⟨hfn, hb, hf.names f fn hfn (by rw [hb]; rfl)⟩
      split at h
      · rename_i s' c1 hr
        split at h
        · rename_i l hl
          split at h
          · rename_i v μ' hz
            injection h with h; injection h with h1 h2; subst h1; subst h2
            obtain ⟨k1, k2⟩ := hrc _ _ _ _ hr ho
            exact ⟨pure_of hcl rfl rfl (k1 _ _ ⟨l, v, μ', hl, hz, rfl⟩), k2⟩
          · cases h
        · cases h
      · rename_i s' c1 hr
        split at h
        · rename_i l hl
          split at h
          · rename_i v μ' hz
            injection h with h; injection h with h1 h2; subst h1; subst h2
            obtain ⟨k1, k2⟩ := hrc _ _ _ _ hr ho
            exact ⟨pure_of hcl rfl rfl (k1 _ _ ⟨l, v, μ', hl, hz, rfl⟩), k2⟩
          · cases h
        · cases h
      · rename_i d s' c1 hr
        split at h
        · rename_i v μ' hz
          injection h with h; injection h with h1 h2; subst h1; subst h2
          obtain ⟨k1, k2⟩ := hrc _ _ _ _ hr ho
          exact ⟨pure_of hcl rfl rfl (k1 _ _ ⟨v, μ', hz, rfl⟩), k2⟩
        · cases h
      · cases h
    · cases h
  · cases h
theorem runInl_ok (hf : FitS P) (hrc : OKS P rc) {ops : Array Oper} {o : Oper} {r : List Oper} {s : St} {f : FuncId} {co : Operand} {cargs : Array Operand} {cts : Array TypeId} {caps : List DV} (ho : o.op = .call { callee := .value co, args := cargs, argTypes := cts }) (hw : wantA ops o s = some true)
    (hc : fnOf (s.ev co) = some (f, caps)) {x : AX} {s2 : St} {c c' : Cf} (h : runInl P rc ops o r s f (cargs.toList.map s.ev ++ caps) c = some ((x, s2), c')) (hob : allP c'.ob) : (∀ (ro : Option Nat) (Q : AX → St → Prop), Q x s2 → AList ro P ops (o :: r) Q s) ∧ allP c.ob := by
  unfold runInl at h
  split at h
  · rename_i fn hfn
    split at h
    · rename_i b hb
      have hcl : Callable P f fn b := ⟨hfn, hb, hf.names f fn hfn (by rw [hb]; rfl)⟩
      split at h
      · rename_i s' c1 hr
        split at h
        · rename_i l hl
          obtain ⟨k1, k2⟩ := hrc _ _ _ _ h hob
          obtain ⟨q1, q2⟩ := hrc _ _ _ _ hr k2
          exact ⟨fun ro Q hQ => alist_inline ho hw hc hcl rfl rfl (q1 _ _ ⟨l, hl, k1 ro Q hQ⟩), q2⟩
        · cases h
      · rename_i s' c1 hr
        split at h
        · rename_i l hl
          obtain ⟨k1, k2⟩ := hrc _ _ _ _ h hob
          obtain ⟨q1, q2⟩ := hrc _ _ _ _ hr k2
          exact ⟨fun ro Q hQ => alist_inline ho hw hc hcl rfl rfl (q1 _ _ ⟨l, hl, k1 ro Q hQ⟩), q2⟩
        · cases h
      · rename_i d s' c1 hr
        injection h with h; injection h with h1 h2; injection h1 with h1 h3; subst h1; subst h3; subst h2
        obtain ⟨q1, q2⟩ := hrc _ _ _ _ hr hob
        exact ⟨fun ro Q hQ => alist_inline ho hw hc hcl rfl rfl (q1 _ _ hQ), q2⟩
      · cases h
    · cases h
  · cases h
theorem endS_ok (hrc : OKS P rc) {ops : Array Oper} {o : Oper} {r : List Oper} {s : St} {μ1 : Mem} {c c' : Cf} {e : AEnd} {x : AX} {s2 : St} (h : endS rc ops o r s μ1 c e = some ((x, s2), c')) (hob : allP c'.ob) :
    (∀ (ro : Option Nat) (Q : AX → St → Prop), Q x s2 → Goes ro P ops o r Q s μ1 e) ∧ allP c.ob := by
  cases e with
  | ret v =>
    obtain ⟨k1, k2⟩ := hrc _ _ _ _ h hob
    exact ⟨fun ro Q hQ => k1 ro Q hQ, k2⟩
  | panic v =>
    simp only [endS] at h
    injection h with h; injection h with h1 h2; injection h1 with h1 h3; subst h1; subst h3; subst h2
    exact ⟨fun ro Q hQ => hQ, hob⟩
theorem runCall_ok (hf : FitS P) (hrc : OKS P rc) {ops : Array Oper} {o : Oper} {r : List Oper} {s : St} {f : FuncId} {co : Operand} {cargs : Array Operand} {cts : Array TypeId} {caps : List DV} (ho : o.op = .call { callee := .value co, args := cargs, argTypes := cts }) (hw : wantA ops o s = some true)
    (hc : fnOf (s.ev co) = some (f, caps)) {x : AX} {s2 : St} {c c' : Cf} (h : runCall P inl rc ops o r s f (cargs.toList.map s.ev ++ caps) c = some ((x, s2), c')) (hob : allP c'.ob) : (∀ (ro : Option Nat) (Q : AX → St → Prop), Q x s2 → AList ro P ops (o :: r) Q s) ∧ allP c.ob := by
  unfold runCall at h
  split at h
  · rename_i e c1 hh
    split at h
    · rename_i pargs μ1 hz
      obtain ⟨k1, k2⟩ := endS_ok hrc h hob
      exact ⟨fun ro Q hQ => alist_call ho hw hc hz k2.1 (k1 ro Q hQ), by rw [← Cf.hd_ob hh]; exact k2.2⟩
    · cases h
  · rename_i v c1 hh
    split at h
    · rename_i pargs μ1 hz
      split at h
      · rename_i hv
        obtain ⟨k1, k2⟩ := hrc _ _ _ _ h hob
        exact ⟨fun ro Q hQ => alist_callb ho hw hc hz k2.1 hv (k1 ro Q hQ), by rw [← Cf.hd_ob hh]; exact k2.2⟩
      · cases h
    · cases h
  · rename_i d ts c1 hh
    split at h
    · rename_i pargs μ1 hz
      split at h
      · rename_i hv
        obtain ⟨k1, k2⟩ := hrc _ _ _ _ h hob
        exact ⟨fun ro Q hQ => alist_callm ho hw hc hz k2.1 hv (k1 ro Q hQ), by rw [← Cf.hd_ob hh]; exact k2.2⟩
      · cases h
    · cases h
  · cases h
  · split at h
    · exact runInl_ok hf hrc ho hw hc h hob
    · split at h
      · rename_i pargs μ1 hz
        split at h
        · rename_i e c1 hp
          obtain ⟨k1, k2⟩ := endS_ok hrc h hob
          obtain ⟨q1, q2⟩ := runFn_ok hf hrc hp k2
          exact ⟨fun ro Q hQ => alist_call ho hw hc hz q1 (k1 ro Q hQ), q2⟩
        · cases h
      · exact runInl_ok hf hrc ho hw hc h hob
theorem runStuck_ok (hf : FitS P) (hrc : OKS P rc) {ops : Array Oper} {o : Oper} {r : List Oper} {s : St} (hw : wantA ops o s = some true)
    {x : AX} {s2 : St} {c c' : Cf} (h : runStuck P inl rc ops o r s c = some ((x, s2), c')) (hob : allP c'.ob) : (∀ (ro : Option Nat) (Q : AX → St → Prop), Q x s2 → AList ro P ops (o :: r) Q s) ∧ allP c.ob := by
  unfold runStuck at h
  split at h
  · rename_i y hop
    split at h
    · rename_i t v hv
      injection h with h; injection h with h1 h2; injection h1 with h1 h3; subst h1; subst h3; subst h2
      exact ⟨fun ro Q hQ => alist_panic hop hw hv hQ, hob⟩
    · cases h
  · rename_i cl hop
    split at h
    · rename_i co hco
      split at h
      · rename_i f caps hc
        have ho' : o.op = .call { callee := .value co, args := cl.args, argTypes := cl.argTypes } := by rw [hop, ← hco]
        exact runCall_ok hf hrc ho' hw hc h hob
      · cases h
    · cases h
  · cases h
theorem endS_ob (hrc : OKS P rc) {ops : Array Oper} {o : Oper} {r : List Oper} {s : St} {μ1 : Mem} {c c' : Cf} {e : AEnd} {q : AX × St} (h : endS rc ops o r s μ1 c e = some (q, c')) (hob : allP c'.ob) : allP c.ob := by
  cases e with
  | ret v => exact (hrc _ _ _ _ h hob).2
  | panic v =>
    simp only [endS] at h
    injection h with h; injection h with h1 h2; subst h2
    exact hob
theorem inl_ob (hrc : OKS P rc) {ops : Array Oper} {o : Oper} {r : List Oper} {s : St} {f : FuncId} {args : List DV} {c c' : Cf} {q : AX × St} (h : runInl P rc ops o r s f args c = some (q, c')) (hob : allP c'.ob) : allP c.ob := by
  unfold runInl at h
  split at h
  · split at h
    · split at h
      · rename_i hr
        split at h
        · exact (hrc _ _ _ _ hr (hrc _ _ _ _ h hob).2).2
        · cases h
      · rename_i hr
        split at h
        · exact (hrc _ _ _ _ hr (hrc _ _ _ _ h hob).2).2
        · cases h
      · rename_i hr
        injection h with h; injection h with h1 h2; subst h2
        exact (hrc _ _ _ _ hr hob).2
      · cases h
    · cases h
  · cases h
theorem fn_ob (hrc : OKS P rc) {f : FuncId} {args : List PD} {c c' : Cf} {e : AEnd} (h : runFn P rc f args c = some (e, c')) (hob : allP c'.ob) : allP c.ob := by
  unfold runFn at h
  split at h
  · split at h
    · split at h
      · rename_i hr
        split at h
        · split at h
          · injection h with h; injection h with h1 h2; subst h2
            exact (hrc _ _ _ _ hr hob).2
          · cases h
        · cases h
      · rename_i hr
        split at h
        · split at h
          · injection h with h; injection h with h1 h2; subst h2
            exact (hrc _ _ _ _ hr hob).2
          · cases h
        · cases h
      · rename_i hr
        split at h
        · injection h with h; injection h with h1 h2; subst h2
          exact (hrc _ _ _ _ hr hob).2
        · cases h
      · cases h
    · cases h
  · cases h
theorem stuck_ob (hrc : OKS P rc) {ops : Array Oper} {o : Oper} {r : List Oper} {s : St} {c c' : Cf} {q : AX × St} (h : runStuck P inl rc ops o r s c = some (q, c')) (hob : allP c'.ob) : allP c.ob := by
  unfold runStuck at h
  split at h
  · split at h
    · injection h with h; injection h with h1 h2; subst h2; exact hob
    · cases h
  · split at h
    · split at h
      · unfold runCall at h
        split at h
        · rename_i hh
          split at h
          · have := endS_ob hrc h hob
            rw [← Cf.hd_ob hh]; exact this.2
          · cases h
        · rename_i hh
          split at h
          · split at h
            · have := (hrc _ _ _ _ h hob).2
              rw [← Cf.hd_ob hh]; exact this.2
            · cases h
          · cases h
        · rename_i hh
          split at h
          · split at h
            · have := (hrc _ _ _ _ h hob).2
              rw [← Cf.hd_ob hh]; exact this.2
            · cases h
          · cases h
        · cases h
        · split at h
          · exact inl_ob hrc h hob
          · split at h
            · split at h
              · rename_i hp
                exact fn_ob hrc hp (endS_ob hrc h hob)
              · cases h
            · exact inl_ob hrc h hob
      · cases h
    · cases h
  · cases h
theorem runDrawn_ok (hf : FitS P) (hrc : OKS P rc) {o : Oper} {s : St} {v : PD} {c c' : Cf} (h : runDrawn P rc o s c = some (v, c')) (hob : allP c'.ob) : PCall P o s (.p v) ∧ evOp P o s = none ∧ allP c.ob := by
  unfold runDrawn at h
  split at h
  · rename_i cl hop
    split at h
    · rename_i co hco
      split at h
      · rename_i f caps hc
        split at h
        · rename_i pargs hz
          have ho' : o.op = .call { callee := .value co, args := cl.args, argTypes := cl.argTypes } := by rw [hop, ← hco]
          split at h
          · rename_i v' c1 hh
            injection h with h; injection h with h1 h2; subst h1; subst h2
            exact ⟨⟨co, cl.args, cl.argTypes, f, caps, pargs, v', ho', hc, hz, hob.1, rfl⟩, evOp_callv hop hco, by rw [← Cf.hd_ob hh]; exact hob.2⟩
          · cases h
          · split at h
            · rename_i v' c1 hp
              injection h with h; injection h with h1 h2; subst h1; subst h2
              obtain ⟨q1, q2⟩ := runFn_ok hf hrc hp hob
              exact ⟨⟨co, cl.args, cl.argTypes, f, caps, pargs, v', ho', hc, hz, q1, rfl⟩, evOp_callv hop hco, q2⟩
            · cases h
        · cases h
      · cases h
    · cases h
  · cases h
theorem runDrawnI_ok (hf : FitS P) (hrc : OKS P rc) {o : Oper} {s : St} {d : DV} {μ' : Mem} {c c' : Cf} (h : runDrawnI P rc o s c = some ((d, μ'), c')) (hob : allP c'.ob) : ICall P o s d μ' ∧ evOp P o s = none ∧ allP c.ob := by
  unfold runDrawnI at h
  split at h
  · rename_i cl hop
    split at h
    · rename_i co hco
      split at h
      · rename_i f caps hc
        split at h
        · rename_i fn hfn
          split at h
          · rename_i b hb
            have hcl : Callable P f fn b := ⟨hfn, hb, hf.names f fn hfn (by rw [hb]; rfl)⟩
            have ho' : o.op = .call { callee := .value co, args := cl.args, argTypes := cl.argTypes } := by rw [hop, ← hco]
            split at h
            · rename_i s' c1 hr
              split at h
              · rename_i l hl
                injection h with h; injection h with h1 h2; injection h1 with h1 h3; subst h1; subst h3; subst h2
                obtain ⟨q1, q2⟩ := hrc _ _ _ _ hr hob
                exact ⟨.inl ⟨co, cl.args, cl.argTypes, f, caps, fn, b, ho', hc, hcl, q1 _ _ ⟨l, hl, rfl, rfl⟩⟩, evOp_callv hop hco, q2⟩
              · cases h
            · rename_i s' c1 hr
              split at h
              · rename_i l hl
                injection h with h; injection h with h1 h2; injection h1 with h1 h3; subst h1; subst h3; subst h2
                obtain ⟨q1, q2⟩ := hrc _ _ _ _ hr hob
                exact ⟨.inl ⟨co, cl.args, cl.argTypes, f, caps, fn, b, ho', hc, hcl, q1 _ _ ⟨l, hl, rfl, rfl⟩⟩, evOp_callv hop hco, q2⟩
              · cases h
            · cases h
          · cases h
        · cases h
      · cases h
    · cases h
  · cases h
theorem loopS_ok (hrc : OKS P rc) {b : Code} {x : AX} {s' : St} : ∀ (m : Nat) (s : St) (k k' : Cf), loopS rc b m s k = some ((x, s'), k') → allP k'.ob → allP k.ob
  | 0, _, _, _, h, _ => by cases h
  | m + 1, s, k, k', h, ho => by
    simp only [loopS] at h
    split at h
    · rename_i s1 k1 h1
      exact (hrc _ _ _ _ h1 (loopS_ok hrc m _ _ _ h ho)).2
    · exact (hrc _ _ _ _ h ho).2
theorem loopS_awp (hrc : OKS P rc) {b : Code} {x : AX} {s' : St} (ro : Option Nat) (Q : AX → St → Prop) (hQ : Q x s') (m : Nat) (s : St) (k k' : Cf) (h : loopS rc b m s k = some ((x, s'), k')) (ho : allP k'.ob) : AWP ro P (.loop b) Q s := by
  refine awp_loop (fun j s => ∃ k k', loopS rc b j s k = some ((x, s'), k') ∧ allP k'.ob) m ⟨k, k', h, ho⟩ ?_
  rintro j s ⟨k, k', h, ho⟩
  cases j with
  | zero => cases h
  | succ j =>
    simp only [loopS] at h
    split at h
    · rename_i s1 k1 h1
      exact (hrc _ _ _ _ h1 (loopS_ok hrc j _ _ _ h ho)).1 ro _ ⟨j, by omega, k1, k', h, ho⟩
    · rename_i hn
      have h1 := (hrc _ _ _ _ h ho).1 ro
      cases x with
      | norm => exact absurd h (hn s' k')
      | _ => exact h1 _ hQ
theorem runStep_ok (hf : FitS P) (hrc : OKS P rc) : OKS P (runStep P inl rc) := by
  intro t k r k' h ho
  obtain ⟨x, s'⟩ := r
  cases t with
  | c c s =>
    simp only [runStep] at h
    split at h
    · rename_i ks x1 s1 k1 hh
      split at h
      · rename_i b
        injection h with h; injection h with h1 h2; injection h1 with h1 h3; subst h1; subst h3; subst h2
        exact ⟨fun ro Q hQ => awp_keep ks (ho.1 ro Q hQ), by rw [← Cf.hd_ob hh]; exact ho.2⟩
      · cases h
    · rename_i i k1 hh
      split at h
      · rename_i v μ1 hz
        obtain ⟨q1, q2⟩ := hrc _ _ _ _ h ho
        exact ⟨fun ro Q hQ => awp_fz hz (q1 ro Q hQ), by rw [← Cf.hd_ob hh]; exact q2⟩
      · cases h
    · rename_i i v μ1 k1 hh
      obtain ⟨q1, q2⟩ := hrc _ _ _ _ h ho
      exact ⟨fun ro Q hQ => awp_fz q2.1.choose_spec (q1 ro Q hQ), by rw [← Cf.hd_ob hh]; exact q2.2⟩
    · cases c with
      | skip => injection h with h; injection h with h1 h2; injection h1 with h1 h3; subst h1; subst h3; subst h2; exact ⟨fun ro Q hQ => awp_skip hQ, ho⟩
      | label l => injection h with h; injection h with h1 h2; injection h1 with h1 h3; subst h1; subst h3; subst h2; exact ⟨fun ro Q hQ => awp_label hQ, ho⟩
      | region id ops d =>
        cases d with
        | false =>
          obtain ⟨q1, q2⟩ := hrc _ _ _ _ h ho
          refine ⟨fun ro Q hQ => ?_, q2⟩
          have := awp_region (ro := ro) (id := id) (l := ops.toList) (P := P) (Q := Q) (s := s) (by simpa using q1 _ Q hQ)
          simpa using this
        | true =>
          simp only at h
          have key : ∀ xc k0, calm xc ops = true → rc (.d xc ops 0 ops.toList (ancs ops.toList) [] s) k0 = some ((x, s'), k') → (∀ (ro : Option Nat) (Q : AX → St → Prop), Q x s' → AWP ro P (.region id ops true) Q s) ∧ allP k0.ob := by
            intro xc k0 hc h
            obtain ⟨q1, q2⟩ := hrc _ _ _ _ h ho
            obtain ⟨rfl, q3⟩ := q1 (fun e he => by cases he)
            refine ⟨fun ro Q hQ => ?_, q2⟩
            have := awp_draw (ro := ro) (xc := xc) (id := id) (l := ops.toList) (P := P) (Q := Q) (s := s) hf.order (by simpa using hc) (by simpa using q3 Q hQ)
            simpa using this
          split at h
          · rename_i k1 hh
            split at h
            · rename_i hc
              obtain ⟨q1, q2⟩ := key _ _ hc h
              exact ⟨q1, by rw [← Cf.hd_ob hh]; exact q2⟩
            · cases h
          · rename_i p k1 hh
            split at h
            · rename_i hc
              split at h
              · rename_i s1 k2 hr
                split at h
                · rename_i hk
                  injection h with h; injection h with h1 h2; injection h1 with h1 h3
                  subst h1; subst h2; subst h3
                  obtain ⟨q1, q2⟩ := hrc _ _ _ _ hr ho
                  obtain ⟨_, q3⟩ := q1 (fun e he => by cases he)
                  refine ⟨fun ro Q hQ => ?_, by rw [← Cf.hd_ob hh]; exact q2⟩
                  have := awp_draw_pair (ro := ro) (id := id) (p := p) (l := ops.toList) (P := P) (Q := Q) (s := s) (s' := s1) hf.order (by simpa using hc) (by simpa using hk) (fun Q hQ => by simpa using q3 Q hQ) hQ
                  simpa using this
                · cases h
              · cases h
            · cases h
          · split at h
            · rename_i hc; exact key _ k.tick hc h
            · cases h
      | seq a b =>
        simp only at h
        split at h
        · rename_i s1 k1 h1
          obtain ⟨q1, q2⟩ := hrc _ _ _ _ h ho
          obtain ⟨p1, p2⟩ := hrc _ _ _ _ h1 q2
          exact ⟨fun ro Q hQ => awp_seq (p1 ro _ (q1 ro Q hQ)), p2⟩
        · rename_i hn
          obtain ⟨q1, q2⟩ := hrc _ _ _ _ h ho
          refine ⟨fun ro Q hQ => awp_seq (q1 ro _ ?_), q2⟩
          cases x with
          | norm => exact absurd h (hn s' k')
          | _ => exact hQ
      | cond cd y z =>
        simp only at h
        split at h
        · rename_i t ht
          split at h
          · rename_i hb
            obtain ⟨q1, q2⟩ := hrc _ _ _ _ h ho
            obtain ⟨p1, p2⟩ := qB_ok (rfl : qB t k = ((qB t k).1, (qB t k).2)) q2
            have p1 : t = true := p1.trans hb
            exact ⟨fun ro Q hQ => awp_cond ht (fun _ => q1 ro Q hQ) (fun h1 => by rw [h1] at p1; cases p1), p2⟩
          · rename_i hb
            obtain ⟨q1, q2⟩ := hrc _ _ _ _ h ho
            obtain ⟨p1, p2⟩ := qB_ok (rfl : qB t k = ((qB t k).1, (qB t k).2)) q2
            exact ⟨fun ro Q hQ => awp_cond ht (fun h1 => absurd (p1.symm.trans h1) hb) (fun h1 => q1 ro Q hQ), p2⟩
        · cases h
      | block id c =>
        simp only at h
        split at h
        · rename_i j s1 k1 h1
          split at h
          · rename_i hj
            injection h with h; injection h with h2 h3; injection h2 with h2 h4; subst h2; subst h4; subst h3
            obtain ⟨q1, q2⟩ := hrc _ _ _ _ h1 ho
            exact ⟨fun ro Q hQ => awp_block (q1 ro _ (by simp only [AX.blk]; rw [if_pos hj]; exact hQ)), q2⟩
          · rename_i hj
            injection h with h; injection h with h2 h3; injection h2 with h2 h4; subst h2; subst h4; subst h3
            obtain ⟨q1, q2⟩ := hrc _ _ _ _ h1 ho
            exact ⟨fun ro Q hQ => awp_block (q1 ro _ (by simp only [AX.blk]; rw [if_neg hj]; exact hQ)), q2⟩
        · rename_i hn
          obtain ⟨q1, q2⟩ := hrc _ _ _ _ h ho
          refine ⟨fun ro Q hQ => awp_block (q1 ro _ ?_), q2⟩
          cases x with
          | exit j => exact absurd h (hn j s' k')
          | _ => exact hQ
      | exit id => injection h with h; injection h with h1 h2; injection h1 with h1 h3; subst h1; subst h3; subst h2; exact ⟨fun ro Q hQ => awp_exit hQ, ho⟩
      | scope c =>
        simp only at h
        split at h
        · cases h
        · rename_i hn
          obtain ⟨q1, q2⟩ := hrc _ _ _ _ h ho
          refine ⟨fun ro Q hQ => awp_scope (q1 ro _ ?_), q2⟩
          cases x with
          | goto j => exact absurd h (hn j s' k')
          | _ => exact hQ
      | goto l => injection h with h; injection h with h1 h2; injection h1 with h1 h3; subst h1; subst h3; subst h2; exact ⟨fun ro Q hQ => awp_goto hQ, ho⟩
      | ret => injection h with h; injection h with h1 h2; injection h1 with h1 h3; subst h1; subst h3; subst h2; exact ⟨fun ro Q hQ => awp_ret hQ, ho⟩
      | loop c => exact ⟨fun ro Q hQ => loopS_awp hrc ro Q hQ _ _ _ _ h ho, loopS_ok hrc _ _ _ _ h ho⟩
      | rangeFunc f ps a b => cases h
      | refuse r => cases h
  | l ops l s =>
    simp only [runStep] at h
    split at h
    · rename_i i k1 hh
      split at h
      · rename_i v μ1 hz
        obtain ⟨q1, q2⟩ := hrc _ _ _ _ h ho
        exact ⟨fun ro Q hQ => alist_fz hz (q1 ro Q hQ), by rw [← Cf.hd_ob hh]; exact q2⟩
      · cases h
    · rename_i i v μ1 k1 hh
      obtain ⟨q1, q2⟩ := hrc _ _ _ _ h ho
      exact ⟨fun ro Q hQ => alist_fz q2.1.choose_spec (q1 ro Q hQ), by rw [← Cf.hd_ob hh]; exact q2.2⟩
    split at h
    · injection h with h; injection h with h1 h2; injection h1 with h1 h3; subst h1; subst h3; subst h2; exact ⟨fun ro Q hQ => alist_nil hQ, ho⟩
    · rename_i o r
      split at h
      · cases h
      · rename_i k1 hw
        obtain ⟨q1, q2⟩ := hrc _ _ _ _ h ho
        obtain ⟨p1, p2⟩ := wantS_ok hw q2
        exact ⟨fun ro Q hQ => alist_skip p1 (q1 ro Q hQ), p2⟩
      · rename_i k1 hw
        split at h
        · rename_i d μ' k2 he
          obtain ⟨q1, q2⟩ := hrc _ _ _ _ h ho
          obtain ⟨e1, e2⟩ := opS_ok he q2
          obtain ⟨p1, p2⟩ := wantS_ok hw e2
          exact ⟨fun ro Q hQ => alist_gives (evOp_nodefer e1) p1 (fun G a w hs => evOp_sound e1 hs) (q1 ro Q hQ), p2⟩
        · have hk1 : allP k1.ob := stuck_ob hrc h ho
          obtain ⟨p1, p2⟩ := wantS_ok hw hk1
          exact ⟨(runStuck_ok hf hrc p1 h ho).1, p2⟩
  | d xc ops i l an hist s =>
    simp only [runStep] at h
    split at h
    · injection h with h; injection h with h1 h2; injection h1 with h1 h3; subst h1; subst h3; subst h2; exact ⟨fun _ => ⟨rfl, fun Q hQ => hQ⟩, ho⟩
    · rename_i o r a ar
      split at h
      · cases h
      · rename_i k1 hw
        obtain ⟨q1, q2⟩ := hrc _ _ _ _ h ho
        obtain ⟨p1, p2⟩ := wantS_ok hw q2
        refine ⟨fun hh => ?_, p2⟩
        obtain ⟨r1, r2⟩ := q1 hh
        refine ⟨r1, fun Q hQ => ?_⟩
        simp only [drawQ]
        rw [p1]
        simp only [dstep, Bool.false_eq_true, if_false]
        exact r2 Q hQ
      · rename_i k1 hw
        split at h
        · rename_i d μ' k2 he
          split at h
          · rename_i hm
            split at h
            · rename_i ps hps
              obtain ⟨q1, q2⟩ := hrc _ _ _ _ h ho
              have q2' : allP (ps ++ k2.ob) := q2
              have e0 := oblS_ob q2'
              obtain ⟨e1, e2⟩ := opS_ok he e0
              obtain ⟨p1, p2⟩ := wantS_ok hw e2
              refine ⟨fun hh => ?_, p2⟩
              obtain ⟨g1, _⟩ := oblS_ok hps hh _ q2'
              obtain ⟨r1, r2⟩ := q1 hh
              refine ⟨r1, fun Q hQ => ?_⟩
              simp only [drawQ]
              rw [p1]
              simp only [dstep, if_true]
              rw [e1]
              simp only [dval]
              rw [if_pos hm]
              exact ⟨g1, r2 Q hQ⟩
            · cases h
          · rename_i hm
            obtain ⟨q1, q2⟩ := hrc _ _ _ _ h ho
            obtain ⟨e1, e2⟩ := opS_ok he q2
            obtain ⟨p1, p2⟩ := wantS_ok hw e2
            refine ⟨fun hh => ?_, p2⟩
            have hh' : HistOK P (if isLd o.op = true then (i, o, s, d) :: hist else hist) := by
              split
              · rename_i hl
                intro e he'
                rcases List.mem_cons.1 he' with rfl | he'
                · have h3 := ld_keeps hl e1
                  rw [h3] at e1
                  exact e1
                · exact hh e he'
              · exact hh
            obtain ⟨r1, r2⟩ := q1 hh'
            refine ⟨r1, fun Q hQ => ?_⟩
            simp only [drawQ]
            rw [p1]
            simp only [dstep, if_true]
            rw [e1]
            simp only [dval]
            rw [if_neg hm]
            exact r2 Q hQ
        · split at h
          · split at h
            · rename_i v k2 hv
              split at h
              · rename_i hm
                split at h
                · rename_i ps hps
                  obtain ⟨q1, q2⟩ := hrc _ _ _ _ h ho
                  have q2' : allP (ps ++ k2.ob) := q2
                  obtain ⟨c1, c2, c3⟩ := runDrawn_ok hf hrc hv (oblS_ob q2')
                  obtain ⟨p1, p2⟩ := wantS_ok hw c3
                  refine ⟨fun hh => ?_, p2⟩
                  obtain ⟨g1, _⟩ := oblS_ok hps hh _ q2'
                  obtain ⟨r1, r2⟩ := q1 hh
                  refine ⟨r1, fun Q hQ => ?_⟩
                  simp only [drawQ]
                  rw [p1]
                  simp only [dstep, if_true]
                  rw [c2]
                  simp only [dval]
                  rw [if_pos hm]
                  exact ⟨_, _, .inr ⟨c1, rfl⟩, fun _ => rfl, g1, r2 Q hQ⟩
                · cases h
              · rename_i hm
                obtain ⟨q1, q2⟩ := hrc _ _ _ _ h ho
                obtain ⟨c1, c2, c3⟩ := runDrawn_ok hf hrc hv q2
                obtain ⟨p1, p2⟩ := wantS_ok hw c3
                refine ⟨fun hh => ?_, p2⟩
                obtain ⟨r1, r2⟩ := q1 hh
                refine ⟨r1, fun Q hQ => ?_⟩
                simp only [drawQ]
                rw [p1]
                simp only [dstep, if_true]
                rw [c2]
                simp only [dval]
                rw [if_neg hm]
                obtain ⟨co, cargs, cts, f, caps, pargs, v', k1, k2, k3, k4, k5⟩ := c1
                injection k5 with k5
                subst k5
                exact ⟨co, cargs, cts, f, caps, pargs, _, k1, k2, k3, k4, r2 Q hQ⟩
            · split at h
              · rename_i hm
                split at h
                · rename_i d μ' k2 hv
                  split at h
                  · rename_i ps hps
                    obtain ⟨q1, q2⟩ := hrc _ _ _ _ h ho
                    obtain ⟨qf, q2'⟩ := frS_ok (l := ps ++ k2.ob) q2
                    obtain ⟨c1, c2, c3⟩ := runDrawnI_ok hf hrc hv (oblS_ob q2')
                    obtain ⟨p1, p2⟩ := wantS_ok hw c3
                    refine ⟨fun hh => ?_, p2⟩
                    obtain ⟨g1, _⟩ := oblS_ok hps hh _ q2'
                    obtain ⟨r1, r2⟩ := q1 hh
                    refine ⟨r1, fun Q hQ => ?_⟩
                    simp only [drawQ]
                    rw [p1]
                    simp only [dstep, if_true]
                    rw [c2]
                    simp only [dval]
                    rw [if_pos hm]
                    exact ⟨_, _, c1, qf, g1, r2 Q hQ⟩
                  · cases h
                · cases h
              · cases h
          · cases h
    · cases h
end
theorem run_ok {P : Program} {inl : FuncId → Bool} (hf : FitS P) : ∀ n, OKS P (run P inl n)
  | 0 => fun t k r k' h _ => by cases h
  | n + 1 => runStep_ok hf (run_ok hf n)
def resF : Option (AEnd × Cf) → Option (AEnd × List Prop)
  | some (e, k) => some (e, k.ob)
  | none => none
/-- what is kept of an end: slots; boxes and other things whose contents are forgotten; how much memory -/
structure Fin_ where
  ks : List Nat
  fb : List Nat
  fo : List Nat
  cut : Option (Nat × Nat × Nat)
def fogB (fb : List Nat) : Nat → List Box → List Box
  | _, [] => []
  | j, B :: r => (if fb.contains j = true then ⟨B.t, B.cells.map fun _ => .undef, B.shut⟩ else B) :: fogB fb (j + 1) r
def fogO (fo : List Nat) : Nat → List AO → List AO
  | _, [] => []
  | j, a :: r => (if fo.contains j = true then .any else a) :: fogO fo (j + 1) r
theorem fogB_get (fb : List Nat) : ∀ (l : List Box) (j i : Nat) (B : Box), (fogB fb j l)[i]? = some B → ∃ B0, l[i]? = some B0 ∧ (B = B0 ∨ B = ⟨B0.t, B0.cells.map fun _ => .undef, B0.shut⟩)
  | [], _, i, B, h => by simp [fogB] at h
  | C :: r, j, 0, B, h => by
    simp only [fogB, List.getElem?_cons_zero, Option.some.injEq] at h
    refine ⟨C, rfl, ?_⟩
    subst h
    split
    · exact .inr rfl
    · exact .inl rfl
  | C :: r, j, i + 1, B, h => by
    simp only [fogB, List.getElem?_cons_succ] at h
    exact fogB_get fb r (j + 1) i B h
theorem fogB_len (fb : List Nat) : ∀ (l : List Box) (j : Nat), (fogB fb j l).length = l.length
  | [], _ => rfl
  | _ :: r, j => by simp [fogB, fogB_len fb r (j + 1)]
theorem fogO_get (fo : List Nat) : ∀ (l : List AO) (j i : Nat) (a : AO), (fogO fo j l)[i]? = some a → ∃ a0, l[i]? = some a0 ∧ (a = a0 ∨ a = .any)
  | [], _, i, B, h => by simp [fogO] at h
  | C :: r, j, 0, B, h => by
    simp only [fogO, List.getElem?_cons_zero, Option.some.injEq] at h
    refine ⟨C, rfl, ?_⟩
    subst h
    split
    · exact .inr rfl
    · exact .inl rfl
  | C :: r, j, i + 1, B, h => by
    simp only [fogO, List.getElem?_cons_succ] at h
    exact fogO_get fo r (j + 1) i B h
theorem fogO_len (fo : List Nat) : ∀ (l : List AO) (j : Nat), (fogO fo j l).length = l.length
  | [], _ => rfl
  | _ :: r, j => by simp [fogO, fogO_len fo r (j + 1)]
def St.fog (fb fo : List Nat) (s : St) : St := ⟨s.tmps, fogB fb 0 s.μ.boxes, s.μ.toks, fogO fo 0 s.μ.objs⟩
theorem SRel.fog {G : Gh} {s : St} {a : Act} {w : World} (h : SRel G s a w) (fb fo : List Nat) : SRel G (s.fog fb fo) a w := by
  refine ⟨h.size, h.tmp, h.defers, ⟨h.mem.bel, h.mem.hb, h.mem.zlt, h.mem.zsub, by rw [h.mem.len]; exact (fogB_len _ _ _).symm, h.mem.tlen, h.mem.inj, ?_, h.mem.tok, h.mem.tne, h.mem.lw, ⟨by rw [h.mem.mp.len]; exact (fogO_len _ _ _).symm, h.mem.mp.inj, ?_⟩⟩⟩
  · intro j B g hB hg
    obtain ⟨B0, h0, hb⟩ := fogB_get fb _ _ _ _ hB
    obtain ⟨h1, vs, h2, h3, h4, h5⟩ := h.mem.box j B0 g h0 hg
    rcases hb with rfl | rfl
    · exact ⟨h1, vs, h2, h3, h4, h5⟩
    · refine ⟨h1, vs, h2, by simpa using h3, fun i d x hd hx => ?_, h5⟩
      simp only [List.getElem?_map, Option.map_eq_some_iff] at hd
      obtain ⟨d0, hd0, rfl⟩ := hd
      exact ⟨.undef x, (h4 i d0 x hd0 hx).2⟩
  · intro i g a ha hg
    obtain ⟨a0, h0, hb⟩ := fogO_get fo _ _ _ _ ha
    obtain ⟨k1, o, k2, k3⟩ := h.mem.mp.at_ i g a0 h0 hg
    refine ⟨k1, o, k2, ?_⟩
    rcases hb with rfl | rfl
    · exact k3
    · cases a0 <;> cases o <;> first | trivial | exact k3.elim
def St.fin (s : St) (e : Fin_) (s0 : St) : Option St := match e.cut with
  | none => some ((s.keep e.ks).fog e.fb e.fo)
  | some (nb, nt, no) => if s0.μ.boxes.length ≤ nb ∧ s0.μ.toks.length ≤ nt ∧ s0.μ.objs.length ≤ no ∧ ((s.keep e.ks).fog e.fb e.fo).refs nb nt no 50 = true then some (((s.keep e.ks).fog e.fb e.fo).cut nb nt no) else none
theorem fin_ok {e : Fin_} {s0 s s' : St} (h : s.fin e s0 = some s') {G0 G : Gh} {w0 w : World} {a0 a : Act} (hs0 : SRel G0 s0 a0 w0) (hs : SRel G s a w) (hg : Grw G0 w0 G w) : ∃ G', SRel G' s' a w ∧ Grw G0 w0 G' w ∧ ∀ {d : DV} {x : Value}, refB (match e.cut with | some (nb, _, _) => nb | none => 0) (match e.cut with | some (_, nt, _) => nt | none => 0) (match e.cut with | some (_, _, no) => no | none => 0) 50 d = true ∨ e.cut = none → CRel G w d x → CRel G' w d x := by
  unfold St.fin at h
  split at h
  · rename_i hc
    injection h with h; subst h
    exact ⟨G, (hs.keep _).fog _ _, hg, fun _ hx => hx⟩
  · rename_i nb nt no hc
    split at h
    · rename_i hh
      injection h with h; subst h
      refine ⟨G.cut nb nt no, ((hs.keep _).fog _ _).cut hh.2.2.2, hg.cut (by rw [hs0.mem.len]; exact hh.1) (by rw [hs0.mem.tlen]; exact hh.2.1) (by rw [hs0.mem.mp.len]; exact hh.2.2.1), fun hd hx => ?_⟩
      rcases hd with hd | hd
      · rw [hc] at hd
        exact hx.cut 50 hd
      · rw [hc] at hd; cases hd
    · cases h
/-- may an end's way out go on so? (a panic's value leads to what stays) -/
def AX.okFin (e : Fin_) : AX → Bool
  | .panic d => e.cut.isNone || refB (match e.cut with | some (nb, _, _) => nb | none => 0) (match e.cut with | some (_, nt, _) => nt | none => 0) (match e.cut with | some (_, _, no) => no | none => 0) 50 d
  | _ => true
def resC (e : Fin_) (s0 : St) : RS → Option ((AX × St) × List Prop)
  | some ((x, s), k) => match s.fin e s0 with
    | some s' => if x.okFin e = true then some ((x, s'), k.ob) else none
    | none => none
  | none => none
theorem awp_fin {ro : Option Nat} {P : Program} {c : Code} {Q : AX → St → Prop} {s : St} (e : Fin_) {x : AX} {s1 s' : St} (hf : s1.fin e s = some s') (hx : x.okFin e = true) (hQ : Q x s') (h : ∀ Q1 : AX → St → Prop, Q1 x s1 → AWP ro P c Q1 s) : AWP ro P c Q s := fun G a w hs => by
  refine wpIn_mono (h (fun y t => y = x ∧ t = s1) ⟨rfl, rfl⟩ G a w hs) ?_
  rintro e1 a' w' ⟨y, t, G', h1, ⟨rfl, rfl⟩, h3, h4⟩
  obtain ⟨G2, k1, k2, k3⟩ := fin_ok hf hs h3 h4
  refine ⟨y, s', G2, ?_, hQ, k1, k2⟩
  cases y <;> cases e1 <;> first
    | exact h1
    | exact h1.elim
    | skip
  rename_i d ch
  obtain ⟨v, q1, q2⟩ := h1
  refine ⟨v, q1, k3 ?_ q2⟩
  simp only [AX.okFin, Bool.or_eq_true, Option.isNone_iff_eq_none] at hx
  rcases hx with hx | hx
  · exact .inr hx
  · exact .inl hx
/-- A FUNCTION, run with answers -/
theorem pure_run {P : Program} (inl : FuncId → Bool) (hf : FitS P) (n : Nat) (an : List (Nat × An)) {f : FuncId} {args : List PD} {e : AEnd} {ob : List Prop}
    (h : resF (runFn P (run P inl n) f args ⟨0, an, []⟩) = some (e, ob)) (ho : allP ob) : Pure P f args e := by
  unfold resF at h
  split at h
  · rename_i e' k hr
    injection h with h; injection h with h1 h2; subst h1; subst h2
    exact (runFn_ok hf (run_ok hf n) hr ho).1
  · cases h
theorem pure_eq {P : Program} {f : FuncId} {args : List PD} {e e' : AEnd} (h : Pure P f args e) (he : e = e') : Pure P f args e' := he ▸ h
theorem pure_args {P : Program} {f : FuncId} {args args' : List PD} {e : AEnd} (h : Pure P f args e) (he : args = args') : Pure P f args' e := he ▸ h
/-- what a loop comes to -/
def LoopOK (P : Program) (b : Code) (s : St) (x : AX) (s' : St) : Prop := ∀ (ro : Option Nat) (Q : AX → St → Prop), Q x s' → AWP ro P (.loop b) Q s
def loopsOf : Code → List Code
  | .seq a b => loopsOf a ++ loopsOf b
  | .cond _ a b => loopsOf a ++ loopsOf b
  | .block _ a => loopsOf a
  | .loop a => a :: loopsOf a
  | .scope a => loopsOf a
  | _ => []
/-- the i-th loop of a function -/
def loopB (P : Program) (f i : Nat) : Code := match P.funcs[f]? with
  | some fn => match fn.body with
    | some b => (loopsOf b).getD i .skip
    | none => .skip
  | none => .skip
theorem post_keepAll {G : Gh} {w : World} {Q : AX → St → Prop} (ks : List Nat) {e : Exit} {a : Act} {w' : World} (h : Post G w (fun x s => Q x (s.keep ks)) e a w') : Post G w Q e a w' := by
  obtain ⟨x, s', G', h1, h2, h3, h4⟩ := h
  exact ⟨x, s'.keep ks, G', h1, h2, h3.keep ks, h4⟩
theorem awp_end {ro : Option Nat} {P : Program} {c : Code} {Q : AX → St → Prop} {s : St} (ks : List Nat) (h : AWP ro P c (fun x s => Q x (s.keep ks)) s) : AWP ro P c Q s := fun G a w hs => wpIn_mono (h G a w hs) fun _ _ _ h => post_keepAll ks h
/-- A PIECE OF CODE, run with answers; what is kept of its end -/
theorem awp_runk {P : Program} (inl : FuncId → Bool) (hf : FitS P) (n : Nat) (e : Fin_) (an : List (Nat × An)) {c : Code} {s s' : St} {x : AX} {ob : List Prop}
    (h : resC e s (run P inl n (.c c s) ⟨0, an, []⟩) = some ((x, s'), ob)) (ho : allP ob) {ro : Option Nat} {Q : AX → St → Prop} (hQ : Q x s') : AWP ro P c Q s := by
  unfold resC at h
  split at h
  · rename_i x1 s1 k hr
    split at h
    · rename_i s2 hs2
      split at h
      · rename_i hx
        injection h with h; injection h with h1 h2; injection h1 with h1 h3; subst h1; subst h2; subst h3
        exact awp_fin e hs2 hx hQ fun Q1 hQ1 => (run_ok hf n _ _ _ _ hr ho).1 ro Q1 hQ1
      · cases h
    · cases h
  · cases h
/-- what is owed, with its proofs -/
inductive Obs : List Prop → Prop
  | n : Obs []
  | c {p : Prop} {l : List Prop} (h : p) (r : Obs l) : Obs (p :: l)
theorem Obs.all : ∀ {l : List Prop}, Obs l → allP l
  | [], _ => trivial
  | _ :: _, .c h r => ⟨h, r.all⟩
theorem dT {p : Prop} [Decidable p] (h : p) : decide p = true := decide_eq_true h
theorem dF {p : Prop} [Decidable p] (h : ¬ p) : decide p = false := decide_eq_false h
theorem eT {a b : Int} (h : a = b) : (a == b) = true := by simpa using h
theorem eF {a b : Int} (h : ¬ a = b) : (a == b) = false := by simpa using h
theorem neT {a b : Int} (h : ¬ a = b) : (a != b) = true := by simpa using h
theorem neF {a b : Int} (h : a = b) : (a != b) = false := by simpa using h
theorem nT {b : Bool} (h : b = false) : (!b) = true := by rw [h]; rfl
theorem nF {b : Bool} (h : b = true) : (!b) = false := by rw [h]; rfl
theorem nn0 (k : Nat) : 0 ≤ (k : Int) := Int.natCast_nonneg k
/-- a loop over a number: its states, what holds -/
theorem loop_ix {P : Program} {b : Code} {x : AX} {s' : St} (ks : List Nat) (st : Nat → St) (N : Nat) (I : Nat → Prop) (h0 : I 0) (hst : ∀ k, (st k).keep ks = st k)
    (round : ∀ k, k ≤ N → I k → ∀ (ro : Option Nat) (K : St → Prop) (Q : AX → St → Prop), Q x s' → (∀ s1, k < N → s1.keep ks = st (k + 1) → I (k + 1) → K s1) → AWP ro P b (AX.next K Q) (st k)) : LoopOK P b (st 0) x s' := by
  intro ro Q hQ
  refine awp_loopk ks (fun m s => ∃ k, m = N - k ∧ k ≤ N ∧ I k ∧ s = st k) N ⟨0, rfl, Nat.zero_le _, h0, hst 0⟩ ?_
  rintro m s ⟨k, rfl, hk, hI, rfl⟩ K hK
  exact round k hk hI ro K Q hQ fun s1 h1 h2 h3 => hK s1 ⟨N - (k + 1), by omega, k + 1, rfl, h1, h3, h2⟩
theorem loop_x {P : Program} {b : Code} {s : St} {x y : AX} {s' : St} (h : LoopOK P b s x s') (he : x = y) : LoopOK P b s y s' := he ▸ h
end Go.Proofs.YtikfefjaeejeeaaGreatDoor
