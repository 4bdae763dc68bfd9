/- The abstract machine, 9: lists of operations, code, calls. -/
import Derived.Test.YtikfefjaeejeeaaGreatDoorAe8
import Derived.Deep.LoopGhost
import Derived.Tactics
import Derived.RangeFuncCalls
import Derived.OrdersIn
import Derived.TacticsIn
import Derived.Sort.LoopGhostIn
import Derived.OwnWalkIn
namespace Go.Proofs.YtikfefjaeejeeaaGreatDoor
open Go.RowKit

inductive AX where
  | norm | exit (id : Nat) | goto (l : Nat) | ret | panic (d : DV)
def XRel (G : Gh) (w : World) : AX → Exit → Prop
  | .norm, .normal => True
  | .exit i, .exit j => i = j
  | .goto i, .goto j => i = j
  | .ret, .ret => True
  | .panic d, .panic ch => ∃ v, ch = [{ v, recovered := false }] ∧ CRel G w d v
  | _, _ => False
def Post (G : Gh) (w : World) (Q : AX → St → Prop) : Exit → Act → World → Prop := fun e a' w' => ∃ x s' G', XRel G' w' x e ∧ Q x s' ∧ SRel G' s' a' w' ∧ Grw G w G' w'
theorem Post.back {G G1 : Gh} {w w1 : World} (h : Grw G w G1 w1) {Q : AX → St → Prop} {e : Exit} {a' : Act} {w' : World} (k : Post G1 w1 Q e a' w') : Post G w Q e a' w' := by
  obtain ⟨x, s', G', h1, h2, h3, h4⟩ := k
  exact ⟨x, s', G', h1, h2, h3, h.trans h4⟩
/-- anything may be called; in a round of a range over a function, or not -/
def FF (ro : Option Nat) : Fence := { Fence.wide with round := ro }
theorem callsIn_ff {ro : Option Nat} {n : Nat} {P : Program} {f : FuncId} {args : Array Value} {w : World} {R : Ending → World → Prop} (h : Calls P f args w R) : CallsIn (FF ro) n P f args w R := by
  cases ro with
  | none => exact callsIn_wide.2 h
  | some l => exact (callsIn_wide.2 h).inRound l
section
variable {ro : Option Nat} {P : Program} {o : Oper} {a : Act} {w : World} {K : Act → World → Prop} {Q : Exit → Act → World → Prop}
theorem opw_value {v : Value} {w' : World} (hd : ∀ c, o.op ≠ .defer c) (h : (execOp a.eval o).run P w = .ok (.value v) w') (k : K (a.put o.dst v) w') : o.wpIn (FF ro) 0 P a w K Q :=
  ⟨fun _ _ => trivial, by rw [Oper.semAt_plain (FF ro) _ _ hd, h]; exact k⟩
theorem opw_skip {w' : World} (hd : ∀ c, o.op ≠ .defer c) (h : (execOp a.eval o).run P w = .ok .skip w') (k : K (a.put o.dst undef) w') : o.wpIn (FF ro) 0 P a w K Q :=
  ⟨fun _ _ => trivial, by rw [Oper.semAt_plain (FF ro) _ _ hd, h]; exact k⟩
theorem opw_enter {f : FuncId} {args : Array Value} {w' : World} {R : Ending → World → Prop} (hd : ∀ c, o.op ≠ .defer c) (h : (execOp a.eval o).run P w = .ok (.enter f args) w') (hc : Calls P f args w' R)
    (k : ∀ e w2, R e w2 → match e with | .returned v => K (a.put o.dst v) w2 | .panicked ch => Q (.panic ch) a w2 | .outgrown => LetsOut Q) : o.wpIn (FF ro) 0 P a w K Q :=
  ⟨fun _ _ => trivial, by
    rw [Oper.semAt_plain (FF ro) _ _ hd, h]
    refine ⟨(fun hs => absurd hs (by simp [FF, Fence.wide])), (callsIn_ff hc).mono fun e w2 he => ?_⟩
    have := k e w2 he
    cases e <;> exact this⟩
theorem opw_mono {K' : Act → World → Prop} {Q' : Exit → Act → World → Prop} (hK : ∀ a w, K a w → K' a w) (hQ : ∀ e a w, Q e a w → Q' e a w) (h : o.wpIn (FF ro) 0 P a w K Q) : o.wpIn (FF ro) 0 P a w K' Q' := by
  have hl : LetsOut Q → LetsOut Q' := fun ⟨a, w, h⟩ => ⟨a, w, hQ _ _ _ h⟩
  unfold Oper.wpIn at *
  refine ⟨h.1, ?_⟩
  have hh := h.2
  generalize (o.semAt (FF ro).round a.eval).run P w = r at *
  cases r with
  | ok x w' =>
    cases x <;> simp only [Oper.uponIn] at hh ⊢ <;>
      first
        | exact hK _ _ hh
        | exact ⟨hh.1, CallsIn.mono hh.2 (fun e w'' he => by cases e <;> first | exact hK _ _ he | exact hQ _ _ _ he | exact hl he)⟩
        | exact ⟨hh.1, RowsIn.mono hh.2 (fun _ _ he => hK _ _ he)⟩
        | exact ⟨hh.1, RoundIn.mono hh.2 (fun e w'' he => by cases e <;> first | exact hK _ _ he | exact hQ _ _ _ he | exact hl he)⟩
  | halt x w' => cases x <;> simp only [Oper.uponIn] at hh ⊢ <;> first | exact hQ _ _ _ hh | exact hl hh | exact hh
end
def AList (ro : Option Nat) (P : Program) (ops : Array Oper) (l : List Oper) (Q : AX → St → Prop) (s : St) : Prop := ∀ G a w, SRel G s a w → wpListIn (FF ro) 0 P ops (Post G w Q) l a w
def AWP (ro : Option Nat) (P : Program) (c : Code) (Q : AX → St → Prop) (s : St) : Prop := ∀ G a w, SRel G s a w → c.wpIn (FF ro) 0 P (Post G w Q) a w
def AX.next (K : St → Prop) (Q : AX → St → Prop) : AX → St → Prop
  | .norm, s => K s
  | x, s => Q x s
def AX.blk (id : Nat) (Q : AX → St → Prop) : AX → St → Prop
  | .exit j, s => if j = id then Q .norm s else Q (.exit j) s
  | x, s => Q x s

section
variable {ro : Option Nat} {P : Program} {ops : Array Oper} {Q : AX → St → Prop} {s : St}

theorem wpList_mono {Q Q' : Exit → Act → World → Prop} (hq : ∀ e a w, Q e a w → Q' e a w) : ∀ (l : List Oper) (a : Act) (w : World), wpListIn (FF ro) 0 P ops Q l a w → wpListIn (FF ro) 0 P ops Q' l a w := by
  intro l
  induction l with
  | nil => intro a w h; exact hq _ _ _ h
  | cons o r ih =>
    intro a w h
    unfold wpListIn at h ⊢
    split
    · rename_i hw
      rw [if_pos hw] at h
      exact opw_mono (fun a w hk => ih a w hk) hq h
    · rename_i hw
      rw [if_neg hw] at h
      exact ⟨h.1, ih _ _ h.2⟩

/-- the deferred calls of a frame do not matter -/
def Gh.dfr (G : Gh) (l : List Deferred) : Gh := { G with df := l }
theorem CRel.dfr {G : Gh} {w : World} (l : List Deferred) {d : DV} {x : Value} (h : CRel G w d x) : CRel (G.dfr l) w d x := by
  induction h with
  | undef x => exact .undef x
  | p d x h => exact .p d x h
  | agg cs vs hn h ih => exact .agg cs vs hn ih
  | tup cs vs hn h ih => exact .tup cs vs hn ih
  | row t els x y n h ht hn he => exact .row t els x y n h ht hn he
  | bsl b off sz len cap g h hc hm => exact .bsl b off sz len cap g h hc hm
  | fn f cs vs hn h ih => exact .fn f cs vs hn ih
  | loc b o g h => exact .loc b o g h
  | ep els i o g a c sz h hi hs => exact .ep els i o g a c sz h hi hs
  | cut0 A => exact .cut0 A
  | mp m g h => exact .mp m g h
  | it m g h => exact .it m g h
theorem MRel.dfr {G : Gh} {μ : Mem} {w : World} (l : List Deferred) (h : MRel G μ w) : MRel (G.dfr l) μ w :=
  ⟨h.bel, h.hb, h.zlt, h.zsub, h.len, h.tlen, h.inj, fun j B g hB hg => by
    obtain ⟨h1, vs, h2, h3, h4, h5⟩ := h.box j B g hB hg
    exact ⟨h1, vs, h2, h3, fun i d x hd hx => ⟨(h4 i d x hd hx).1.dfr l, (h4 i d x hd hx).2⟩, h5⟩, h.tok, h.tne, h.lw, h.mp⟩
theorem SRel.dfr {G : Gh} {s : St} {a : Act} {w : World} (h : SRel G s a w) : SRel (G.dfr []) s { a with defers := [] } w := ⟨h.size, fun i d x hd hx => (h.tmp i d x hd hx).dfr [], rfl, h.mem.dfr []⟩
/-- back to the caller's frame -/
theorem Grw.back {G G' : Gh} {w w' : World} {l : List Deferred} (h : Grw (G.dfr l) w G' w') : Grw G w (G'.dfr G.df) w' := ⟨h.base, h.w0, h.z0, h.z, h.cell, h.bs, h.tv, h.mps, rfl, h.hsz, h.oth, h.mnew⟩
theorem alist_nil (h : Q .norm s) : AList ro P ops [] Q s := fun G a w hs => ⟨.norm, s, G, trivial, h, hs, Grw.refl G w⟩
/-- is an operation wanted? -/
def wantA (ops : Array Oper) (o : Oper) (s : St) : Option Bool :=
  match o.guard with
  | none => some true
  | some (j, want) => match (ops[j]?).bind (·.dst) with
    | some t => match getT s.tmps t with
      | .p (.v (.bool b)) => some (bif want then b else !b)
      | .p (.v (.tuple _)) => some false
      | _ => none
    | none => none
theorem wantA_sound {o : Oper} {b : Bool} (h : wantA ops o s = some b) {G : Gh} {a : Act} {w : World} (hs : SRel G s a w) : Region.wanted o (yielded ops a.tmps) = b := by
  unfold wantA at h
  unfold Region.wanted
  cases hg : o.guard with
  | none => rw [hg] at h; injection h
  | some p =>
    obtain ⟨j, want⟩ := p
    rw [hg] at h
    simp only at h ⊢
    unfold yielded
    split at h
    · rename_i t ht
      rw [ht]
      simp only [Option.bind_some]
      have hx := hs.ev (.tmp t)
      have hev : s.ev (.tmp t) = getT s.tmps t := rfl
      rw [hev] at hx
      have hat : t < s.tmps.length → a.tmps[t]? = some (a.eval (.tmp t)) := by
        intro hl
        have hlt : t < a.tmps.size := by rw [hs.size]; exact hl
        simp [Act.eval, Array.getElem?_eq_getElem hlt]
      have hlen : getT s.tmps t ≠ .undef → t < s.tmps.length := by
        intro hne
        rcases Nat.lt_or_ge t s.tmps.length with hl | hl
        · exact hl
        · rw [getT_get, List.getElem?_eq_none hl] at hne; exact absurd rfl hne
      split at h
      · rename_i b' hb
        injection h with h; subst h
        rw [hat (hlen (by rw [hb]; simp))]
        rw [hb] at hx
        generalize a.eval (.tmp t) = v at hx ⊢
        cases hx with
        | p d v hp => cases hp; cases b' <;> cases want <;> rfl
      · rename_i vs hb
        injection h with h; subst h
        rw [hat (hlen (by rw [hb]; simp))]
        rw [hb] at hx
        generalize a.eval (.tmp t) = v at hx ⊢
        cases hx with
        | p d v hp => cases hp; rfl
      · cases h
    · cases h
/-- a value: what an operation may come to -/
theorem evOp_nodefer {o : Oper} {d : DV × Mem} (h : evOp P o s = some d) : ∀ c, o.op ≠ .defer c := by
  intro c ho
  unfold evOp at h
  rw [ho] at h
  cases h
theorem alist_gives {o : Oper} {r : List Oper} {d : DV} {μ' : Mem} (hd : ∀ c, o.op ≠ .defer c) (hw : wantA ops o s = some true) (h : ∀ G a w, SRel G s a w → Gives G w d μ' ((execOp a.eval o).run P w)) (k : AList ro P ops r Q ⟨putT s.tmps o.dst d, μ'⟩) : AList ro P ops (o :: r) Q s := by
  intro G a w hs
  unfold wpListIn
  rw [if_pos (wantA_sound hw hs)]
  obtain ⟨w', G', v, hr, hdv, hm, hl⟩ := h G a w hs
  have hs' := hs.put hl o.dst hdv hm
  rcases hr with hr | ⟨hr, rfl⟩
  · exact opw_value hd hr (wpList_mono (fun _ _ _ => Post.back hl) _ _ _ (k G' _ w' hs'))
  · exact opw_skip hd hr (wpList_mono (fun _ _ _ => Post.back hl) _ _ _ (k G' _ w' hs'))
theorem alist_skip {o : Oper} {r : List Oper} (hw : wantA ops o s = some false) (k : AList ro P ops r Q ⟨putT s.tmps o.dst (.p (.v (.tuple #[]))), s.μ⟩) : AList ro P ops (o :: r) Q s := by
  intro G a w hs
  unfold wpListIn
  rw [if_neg (by rw [wantA_sound hw hs]; simp)]
  exact ⟨fun _ _ => trivial, k G _ w (hs.put (Grw.refl G w) o.dst (.p _ _ (.v _)) hs.mem)⟩

/-- as far as it goes without a call -/
def runL (P : Program) (ops : Array Oper) : List Oper → St → (List Oper → St → Prop) → Prop
  | [], s, K => K [] s
  | o :: r, s, K => match wantA ops o s with
    | none => K (o :: r) s
    | some b => bif b then (match evOp P o s with
        | some (d, μ') => runL P ops r ⟨putT s.tmps o.dst d, μ'⟩ K
        | none => K (o :: r) s)
      else runL P ops r ⟨putT s.tmps o.dst (.p (.v (.tuple #[]))), s.μ⟩ K
theorem alist_run : ∀ (l : List Oper) (s : St), (∀ K : List Oper → St → Prop, (∀ l s, AList ro P ops l Q s → K l s) → runL P ops l s K) → AList ro P ops l Q s := by
  have key : ∀ (l : List Oper) (s : St), runL P ops l s (fun l s => AList ro P ops l Q s) → AList ro P ops l Q s := by
    intro l
    induction l with
    | nil => intro s h; exact h
    | cons o r ih =>
      intro s h
      unfold runL at h
      split at h
      · exact h
      · rename_i b hb
        cases b with
        | true =>
          simp only [cond_true] at h
          split at h
          · rename_i d μ' he
            exact alist_gives (evOp_nodefer he) hb (fun G a w hs => evOp_sound he hs) (ih _ h)
          · exact h
        | false =>
          simp only [cond_false] at h
          exact alist_skip hb (ih _ h)
  exact fun l s h => key l s (h _ (fun _ _ h => h))

theorem awp_region {id : Nat} {l : List Oper} (h : AList ro P l.toArray l Q s) : AWP ro P (.region id l.toArray false) Q s := fun G a w hs => wpIn_region_lit (h G a w hs)
theorem awp_skip (h : Q .norm s) : AWP ro P .skip Q s := fun G a w hs => wpIn_skip ⟨.norm, s, G, trivial, h, hs, Grw.refl G w⟩
theorem awp_label {l : Nat} (h : Q .norm s) : AWP ro P (.label l) Q s := fun G a w hs => wpIn_label ⟨.norm, s, G, trivial, h, hs, Grw.refl G w⟩
theorem awp_exit {id : Nat} (h : Q (.exit id) s) : AWP ro P (.exit id) Q s := fun G a w hs => wpIn_exit ⟨.exit id, s, G, rfl, h, hs, Grw.refl G w⟩
theorem awp_goto {l : Nat} (h : Q (.goto l) s) : AWP ro P (.goto l) Q s := fun G a w hs => wpIn_goto ⟨.goto l, s, G, rfl, h, hs, Grw.refl G w⟩
theorem awp_ret (h : Q .ret s) : AWP ro P .ret Q s := fun G a w hs => wpIn_ret ⟨.ret, s, G, trivial, h, hs, Grw.refl G w⟩
theorem awp_mono {c : Code} {Q' : AX → St → Prop} (h : AWP ro P c Q s) (hq : ∀ x s, Q x s → Q' x s) : AWP ro P c Q' s := fun G a w hs =>
  wpIn_mono (h G a w hs) fun e a' w' ⟨x, s', G', h1, h2, h3, h4⟩ => ⟨x, s', G', h1, hq _ _ h2, h3, h4⟩
theorem xrel_next {G0 : Gh} {w0 : World} {K : St → Prop} {Kc : Act → World → Prop} (hk : ∀ G s a w, Grw G0 w0 G w → K s → SRel G s a w → Kc a w) {e : Exit} {a : Act} {w : World} (h : Post G0 w0 (AX.next K Q) e a w) : Exit.then Kc (Post G0 w0 Q) e a w := by
  obtain ⟨x, s', G', h1, h2, h3, h4⟩ := h
  cases x <;> cases e <;> first
    | (exact h1.elim)
    | (exact hk G' s' a w h4 h2 h3)
    | (exact ⟨_, s', G', h1, h2, h3, h4⟩)
theorem awp_seq {x y : Code} (h : AWP ro P x (AX.next (AWP ro P y Q) Q) s) : AWP ro P (.seq x y) Q s := fun G a w hs =>
  wpIn_seq (wpIn_mono (h G a w hs) fun e a' w' hp => xrel_next (fun G1 s1 a1 w1 hl hk h3 => wpIn_mono (hk G1 a1 w1 h3) fun _ _ _ => Post.back hl) hp)
theorem awp_cond {c : Operand} {x y : Code} {t : Bool} (hc : s.ev c = .p (.v (.bool t))) (hx : t = true → AWP ro P x Q s) (hy : t = false → AWP ro P y Q s) : AWP ro P (.cond c x y) Q s := by
  intro G a w hs
  have h1 := hs.ev c
  rw [hc] at h1
  have h2 : a.eval c = .bool t := by
    generalize a.eval c = v at h1 ⊢
    cases h1 with
    | p d v hp => cases hp; rfl
  exact wpIn_cond_split h2 (fun ht => hx ht G a w hs) (fun ht => hy ht G a w hs)
theorem awp_block {id : Nat} {c : Code} (h : AWP ro P c (AX.blk id Q) s) : AWP ro P (.block id c) Q s := by
  intro G a w hs
  refine wpIn_block (wpIn_mono (h G a w hs) fun e a' w' hp => ?_)
  obtain ⟨x, s', G', h1, h2, h3, h4⟩ := hp
  cases x <;> cases e <;> first
    | (exact h1.elim; done)
    | skip
  · exact ⟨_, s', G', h1, h2, h3, h4⟩
  · rename_i i j
    have h1 : i = j := h1
    subst h1
    simp only [AX.blk] at h2
    simp only [Exit.inBlock]
    split
    · rename_i hij
      rw [if_pos hij] at h2
      exact ⟨.norm, s', G', trivial, h2, h3, h4⟩
    · rename_i hij
      rw [if_neg hij] at h2
      exact ⟨.exit i, s', G', rfl, h2, h3, h4⟩
  · exact ⟨_, s', G', h1, h2, h3, h4⟩
  · exact ⟨_, s', G', h1, h2, h3, h4⟩
  · exact ⟨_, s', G', h1, h2, h3, h4⟩
theorem awp_loop {c : Code} (I : Nat → St → Prop) (n : Nat) (h0 : I n s) (round : ∀ n s, I n s → AWP ro P c (AX.next (fun s' => ∃ n', n' < n ∧ I n' s') Q) s) : AWP ro P (.loop c) Q s := by
  intro G a w hs
  refine wpIn_loop_ghost (fun n a' w' => ∃ s' G', I n s' ∧ SRel G' s' a' w' ∧ Grw G w G' w') n ⟨s, G, h0, hs, Grw.refl G w⟩ ?_
  rintro n a' w' ⟨s', G', hI, hs', hl⟩
  refine wpIn_mono (round n s' hI G' a' w' hs') fun e a2 w2 hp => ?_
  have := xrel_next (Kc := fun a3 w3 => ∃ n', n' < n ∧ ∃ s' G', I n' s' ∧ SRel G' s' a3 w3 ∧ Grw G w G' w3) (fun G1 s1 a1 w1 hl1 ⟨n', hn, hI'⟩ h3 => ⟨n', hn, s1, G1, hI', h3, hl.trans hl1⟩) hp
  cases e <;> first
    | exact this
    | exact Post.back hl this
end

/-! ### Calls -/
inductive AEnd where
  | ret (v : PD)
  | panic (v : PD)
def PRelL (Z : Nat → Nat → Prop) (w : World) (ds : List PD) (xs : Array Value) : Prop := xs.size = ds.length ∧ ∀ (i : Nat) (d : PD) (x : Value), ds[i]? = some d → xs[i]? = some x → PRel Z w d x
def Ends (Z : Nat → Nat → Prop) (w : World) : AEnd → Ending → World → Prop
  | .ret d, .returned x, w' => PRel (fun b o => Z b o ∨ (w.heap.size ≤ b ∧ b < w'.heap.size)) w' d x ∧ Below w.heap.size w w'
  | .panic d, .panicked ch, w' => (∃ v, ch = [{ v, recovered := false }] ∧ PRel (fun b o => Z b o ∨ (w.heap.size ≤ b ∧ b < w'.heap.size)) w' d v) ∧ Below w.heap.size w w'
  | _, _, _ => False
structure Callable (P : Program) (f : FuncId) (fn : Func) (c : Code) : Prop where
  at_ : P.funcs[f]? = some fn
  body : fn.body = some c
  name : (fn.name == "runtime.NumGoroutine") = false
/-- THE CONTRACT of a function over pure data -/
def Pure (P : Program) (f : FuncId) (args : List PD) (r : AEnd) : Prop :=
  (∃ fn c, Callable P f fn c) ∧ ∀ Z w xs, LaidW w.heap.size w → (∀ b o, Z b o → b < w.heap.size) → PRelL Z w args xs → Calls P f xs w (Ends Z w r)

def resA (P : Program) (s : St) : List ResultVar → Option (List DV)
  | [] => some []
  | .tmp t :: r => match resA P s r with | some l => some (getT s.tmps t :: l) | none => none
  | .cell a t :: r => match evLoad P t (getT s.tmps a) s.μ, resA P s r with | some d, some l => some (d :: l) | _, _ => none
def oneOrTup : List DV → DV
  | [d] => d
  | l => .tup l
def resOne (tmps : Array Value) : ResultVar → Sem Value
  | .tmp t => pure (tmps.getD t undef)
  | .cell q t => do loadVar t (← asAddr (tmps.getD q undef))
theorem results_eq (fn : Func) (tmps : Array Value) : results fn tmps = (fn.results.mapM (resOne tmps) >>= fun vs => pure (if h : vs.size = 1 then vs[0] else .tuple vs)) := by
  unfold results
  congr 1
theorem mapM_run_cons {P : Program} {w : World} {f : ResultVar → Sem Value} {x : ResultVar} {r : List ResultVar} {v : Value} {vs : List Value} (h : (f x).run P w = .ok v w) (h' : (r.mapM f).run P w = .ok vs w) : ((x :: r).mapM f).run P w = .ok (v :: vs) w := by
  rw [List.mapM_cons]
  simp [h, h']
theorem resA_sound {P : Program} {G : Gh} {s : St} {a : Act} {w : World} (hs : SRel G s a w) : ∀ (rs : List ResultVar) (l : List DV), resA P s rs = some l →
    ∃ vs : List Value, (rs.mapM (resOne a.tmps)).run P w = .ok vs w ∧ vs.length = l.length ∧ ∀ (i : Nat) (d : DV) (x : Value), l[i]? = some d → vs[i]? = some x → CRel G w d x
  | [], l, h => by
    injection h with h; subst h
    exact ⟨[], by simp, rfl, fun i d x hd => by simp at hd⟩
  | .tmp t :: r, l, h => by
    simp only [resA] at h
    split at h
    · rename_i l' hl
      injection h with h; subst h
      obtain ⟨vs, h1, h2, h3⟩ := resA_sound hs r l' hl
      have hv : (resOne a.tmps (.tmp t)).run P w = .ok (a.eval (.tmp t)) w := rfl
      refine ⟨_, mapM_run_cons hv h1, by simp [h2], fun i d x hd hx => ?_⟩
      cases i with
      | zero =>
        have hd : getT s.tmps t = d := by simpa using hd
        have hx : a.eval (.tmp t) = x := by simpa using hx
        subst hd; subst hx
        exact hs.ev (.tmp t)
      | succ i => exact h3 i d x (by simpa using hd) (by simpa using hx)
    · cases h
  | .cell q t :: r, l, h => by
    simp only [resA] at h
    split at h
    · rename_i d0 l' hd0 hl
      injection h with h; subst h
      obtain ⟨vs, h1, h2, h3⟩ := resA_sound hs r l' hl
      obtain ⟨v, k1, k2⟩ := evLoad_sound hs.mem (hs.ev (.tmp q)) hd0
      have hv : (resOne a.tmps (.cell q t)).run P w = .ok v w := by
        show ((asAddr (a.eval (.tmp q)) >>= fun x => loadVar t x : Sem Value)).run P w = _
        generalize a.eval (.tmp q) = y at k1
        cases y <;> first | (simp [Instr.loadAt, Instr.sureAddr] at k1; done) | skip
        rename_i p
        cases p with
        | none => simp [Instr.loadAt, Instr.sureAddr] at k1
        | some ad => simpa [asAddr, Instr.loadAt, Instr.sureAddr] using k1
      refine ⟨_, mapM_run_cons hv h1, by simp [h2], fun i d x hd hx => ?_⟩
      cases i with
      | zero => simp at hd hx; subst hd; subst hx; exact k2
      | succ i => exact h3 i d x (by simpa using hd) (by simpa using hx)
    · cases h
theorem results_run {P : Program} {G : Gh} {s : St} {a : Act} {w : World} (hs : SRel G s a w) {fn : Func} {l : List DV} (h : resA P s fn.results.toList = some l) : ∃ v, (results fn a.tmps).run P w = .ok v w ∧ CRel G w (oneOrTup l) v := by
  obtain ⟨vs, h1, h2, h3⟩ := resA_sound hs _ _ h
  have hm : (fn.results.mapM (resOne a.tmps)).run P w = .ok vs.toArray w := by
    rw [Array.mapM_eq_mapM_toList]
    simp [h1]
  refine ⟨if h : vs.toArray.size = 1 then vs.toArray[0] else .tuple vs.toArray, ?_, ?_⟩
  · rw [results_eq, Sem.run_bind, hm]
    simp
  · by_cases hl : vs.length = 1
    · obtain ⟨x, rfl⟩ := List.length_eq_one_iff.1 hl
      rw [hl] at h2
      obtain ⟨d, rfl⟩ := List.length_eq_one_iff.1 h2.symm
      exact h3 0 d x rfl rfl
    · rw [dif_neg (by simpa using hl)]
      have : oneOrTup l = .tup l := by
        cases l with
        | nil => rfl
        | cons d r => cases r with
          | nil => simp at h2; exact absurd h2 hl
          | cons e r => rfl
      rw [this]
      exact .tup l vs.toArray (by simpa using h2) (fun i d x hd hx => h3 i d x hd (by simpa using hx))

/-- a call, as an operation -/
theorem execOp_call {P : Program} {a : Act} {w : World} {o : Oper} {co : Operand} {cargs : Array Operand} {cts : Array TypeId} (ho : o.op = .call { callee := .value co, args := cargs, argTypes := cts }) {f : FuncId} {first caps : Array Value} (hf : a.eval co = .func (.func f) first caps)
    {fn : Func} {c : Code} (hc : Callable P f fn c) : (execOp a.eval o).run P w = .ok (.enter f (first ++ cargs.map a.eval ++ caps)) w := by
  have hn : fn.name ≠ "runtime.NumGoroutine" := by have := hc.name; simpa using this
  unfold execOp
  simp [ho, resolve, hf, Deferred.ofValue, invoke, callFunc, hc.at_, hn]
  intro hno
  rw [hc.body] at hno
  cases hno

/-- what a function's code has to come to -/
def FPost (P : Program) (rs : List ResultVar) (r : AEnd) : AX → St → Prop := fun x s' => match x with
  | .norm | .ret => ∃ l v μ', resA P s' rs = some l ∧ frz 200 s'.μ (oneOrTup l) = some (v, μ') ∧ r = .ret v
  | .panic d => ∃ v μ', frz 200 s'.μ d = some (v, μ') ∧ r = .panic v
  | _ => False
theorem fpost_ret {P : Program} {rs : List ResultVar} {s' : St} {l : List DV} {v : PD} {μ' : Mem} (h1 : resA P s' rs = some l) (h2 : frz 200 s'.μ (oneOrTup l) = some (v, μ')) {r : AEnd} (h3 : r = .ret v) : FPost P rs r .ret s' := ⟨l, v, μ', h1, h2, h3⟩
theorem fpost_norm {P : Program} {rs : List ResultVar} {s' : St} {l : List DV} {v : PD} {μ' : Mem} (h1 : resA P s' rs = some l) (h2 : frz 200 s'.μ (oneOrTup l) = some (v, μ')) {r : AEnd} (h3 : r = .ret v) : FPost P rs r .norm s' := ⟨l, v, μ', h1, h2, h3⟩
theorem fpost_panic {P : Program} {rs : List ResultVar} {s' : St} {d : DV} {v : PD} {μ' : Mem} (h2 : frz 200 s'.μ d = some (v, μ')) {r : AEnd} (h3 : r = .panic v) : FPost P rs r (.panic d) s' := ⟨v, μ', h2, h3⟩
/-- what a function comes to, out of its code -/
theorem pure_of {P : Program} {f : FuncId} {fn : Func} {c : Code} (hc : Callable P f fn c) {args : List PD} {r : AEnd} {n : Nat} (hn : fn.ntmps = n) {rs : List ResultVar} (hrs : fn.results.toList = rs)
    (h : AWP none P c (FPost P rs r) ⟨args.map .p ++ List.replicate (n - args.length) .undef, ⟨[], [], []⟩⟩) : Pure P f args r := by
  refine ⟨⟨fn, c, hc⟩, fun Z w xs hlw hz hx => ?_⟩
  subst hn
  subst hrs
  obtain ⟨G, hG⟩ : ∃ G : Gh, G = ⟨w.heap.size, w, Z, Z, [], [], [], []⟩ := ⟨_, rfl⟩
  have hM : MRel G ⟨[], [], []⟩ w := by
    subst hG
    exact ⟨Below.refl _ _, Nat.le_refl _, hz, fun b o h => .inl h, rfl, rfl, fun i j g hi => by simp at hi, fun j B g hB => by simp at hB, fun t e s n ht => by simp at ht, fun t t' a a' x x' g ht => by simp at ht, hlw, ⟨rfl, fun i j g hi => by simp at hi, fun i g a ha => by simp at ha⟩⟩
  have hs : SRel G ⟨args.map .p ++ List.replicate (fn.ntmps - args.length) .undef, ⟨[], [], []⟩⟩ { tmps := xs ++ Array.replicate (fn.ntmps - xs.size) undef, defers := [] } w := by
    refine ⟨by simp [hx.1], fun i d x hd hx' => ?_, by rw [hG], hM⟩
    rcases Nat.lt_or_ge i args.length with hi | hi
    · rw [List.getElem?_append_left (by simpa using hi)] at hd
      simp only [List.getElem?_map, Option.map_eq_some_iff] at hd
      obtain ⟨q, hq, rfl⟩ := hd
      simp only at hx'
      rw [Array.getElem?_append_left (by rw [hx.1]; exact hi)] at hx'
      have := hx.2 i q x hq hx'
      subst hG
      exact .p _ _ this
    · rw [List.getElem?_append_right (by simpa using hi), List.getElem?_replicate] at hd
      split at hd
      · injection hd with hd; subst hd; exact .undef _
      · cases hd
  refine calls_of_wp hc.at_ hc.body (wp_mono (wpIn_wide.1 (h G _ w hs)) ?_)
  rintro e a' w' ⟨x, s', G', h1, h2, h3, h4⟩
  have fin : ∀ (G2 : Gh) (μ2 : Mem) (v : PD) (y : Value), MRel G2 μ2 w' → Grw G w G2 w' → PRel G2.Z w' v y → PRel (fun b o => Z b o ∨ (w.heap.size ≤ b ∧ b < w'.heap.size)) w' v y ∧ Below w.heap.size w w' := by
    intro G2 μ2 v y hm hl hp
    have e1 : G2.base = w.heap.size := by rw [hl.base, hG]
    have e2 : G2.w0 = w := by rw [hl.w0, hG]
    have e3 : G2.Z0 = Z := by rw [hl.z0, hG]
    refine ⟨hp.mono (fun b o hz => ?_) (fun _ _ _ => rfl), by rw [← e1]; have := hm.bel; rw [e2] at this; exact this⟩
    rcases hm.zsub b o hz with h | h
    · left; rw [← e3]; exact h
    · right; exact ⟨by rw [← e1]; exact h, hm.zlt b o hz⟩
  cases x <;> cases e <;> first
    | (exact h1.elim; done)
    | (exact h2.elim; done)
    | skip
  · obtain ⟨l, v, μ', k1, k2, rfl⟩ := h2
    obtain ⟨y, q1, q2⟩ := results_run h3 k1
    obtain ⟨G2, m1, m2, m3, _⟩ := (frz_sound 200).1 _ _ _ _ k2 G' w' y h3.mem q2
    exact ⟨h3.defers.trans (h4.df.trans (by rw [hG])), y, q1, fin G2 _ _ _ m1 (h4.trans m2) m3⟩
  · obtain ⟨l, v, μ', k1, k2, rfl⟩ := h2
    obtain ⟨y, q1, q2⟩ := results_run h3 k1
    obtain ⟨G2, m1, m2, m3, _⟩ := (frz_sound 200).1 _ _ _ _ k2 G' w' y h3.mem q2
    exact ⟨h3.defers.trans (h4.df.trans (by rw [hG])), y, q1, fin G2 _ _ _ m1 (h4.trans m2) m3⟩
  · obtain ⟨v, μ', k2, rfl⟩ := h2
    obtain ⟨y, rfl, hy⟩ := h1
    obtain ⟨G2, m1, m2, m3, _⟩ := (frz_sound 200).1 _ _ _ _ k2 G' w' y h3.mem hy
    obtain ⟨f1, f2⟩ := fin G2 _ _ _ m1 (h4.trans m2) m3
    exact ⟨h3.defers.trans (h4.df.trans (by rw [hG])), ⟨y, rfl, f1⟩, f2⟩
end Go.Proofs.YtikfefjaeejeeaaGreatDoor
