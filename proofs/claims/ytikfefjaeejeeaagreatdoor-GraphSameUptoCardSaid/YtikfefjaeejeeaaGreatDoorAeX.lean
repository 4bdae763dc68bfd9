/- The abstract machine: iterators. -/
import Derived.Test.YtikfefjaeejeeaaGreatDoorAeW
import Derived.Test.YtikfefjaeejeeaaGreatDoorAeU
namespace Go.Proofs.YtikfefjaeejeeaaGreatDoor
open Go.RowKit

abbrev μ0 : Mem := ⟨[], [], []⟩
def fz (Z : Nat → Nat → Prop) (w : World) : Gh := ⟨w.heap.size, w, Z, Z, [], [], [], []⟩
theorem fz_mem {Z : Nat → Nat → Prop} {w : World} (lw : LaidW w.heap.size w) (hz : ∀ b o, Z b o → b < w.heap.size) : MRel (fz Z w) μ0 w :=
  ⟨Below.refl _ _, Nat.le_refl _, hz, fun b o h => .inl h, rfl, rfl, fun i j g hi => by simp [fz] at hi, fun j B g hB => by simp at hB, fun t e s n ht => by simp at ht, fun t t' a a' x x' g ht => by simp at ht, lw, ⟨rfl, fun i j g hi => by simp [fz] at hi, fun i g a ha => by simp at ha⟩⟩
/-- what outlives a round -/
def allPD : List DV → Option (List PD)
  | [] => some []
  | .p d :: r => (allPD r).map (d :: ·)
  | _ :: _ => none
theorem allPD_eq : ∀ {l : List DV} {ps : List PD}, allPD l = some ps → l = ps.map .p
  | [], ps, h => by injection h with h; subst h; rfl
  | d :: r, ps, h => by
    cases d <;> first
      | (simp [allPD] at h; done)
      | (simp only [allPD, Option.map_eq_some_iff] at h
         obtain ⟨q, hq, rfl⟩ := h
         rw [allPD_eq hq]; rfl)
def DV.clr : DV → DV
  | .p d => .p d
  | .agg cs => match allPD cs with
    | some ps => .p (.agg ps)
    | none => .undef
  | .ep els i o => .ep els i o
  | _ => .undef
theorem DV.clr_clr (d : DV) : d.clr.clr = d.clr := by
  cases d with
  | agg cs =>
    show DV.clr (DV.clr (.agg cs)) = DV.clr (.agg cs)
    simp only [DV.clr]
    cases allPD cs <;> rfl
  | _ => rfl
theorem CRel.clr {G : Gh} {w : World} {Z : Nat → Nat → Prop} (hZ : ∀ b o, G.Z b o → Z b o) {d : DV} {x : Value} (h : CRel G w d x) : CRel (fz Z w) w d.clr x := by
  cases h with
  | p d x h => exact .p d x (h.mono' hZ fun _ _ _ _ h => h)
  | ep els i o g a c sz h hi hs => exact .ep els i o g a c sz (h.mono' hZ fun _ _ _ _ h => h) hi hs
  | agg cs vs hl h =>
    show CRel (fz Z w) w (match allPD cs with | some ps => .p (.agg ps) | none => .undef) _
    cases hc : allPD cs with
    | none => exact .undef _
    | some ps =>
      have e := allPD_eq hc
      subst e
      refine .p _ _ (.agg ps vs (by simpa using hl) fun i d x hd hx => ?_)
      have := h i (.p d) x (by simp [hd]) hx
      cases this with
      | p d x h => exact h.mono' hZ fun _ _ _ _ h => h
  | _ => exact .undef _
/-- an iterator ahead of a round -/
def IS (J : (Nat → Nat → Prop) → Nat → World → Prop) (k : Nat) (tm : List DV) (a : Act) (w : World) : Prop := ∃ Z, J Z k w ∧ SRel (fz Z w) ⟨tm, μ0⟩ a w
theorem is_next {J : (Nat → Nat → Prop) → Nat → World → Prop} (hJ : JOK J) {Z : Nat → Nat → Prop} {k : Nat} {w : World} (h : J Z k w) {G' : Gh} {s' : St} {a' : Act} {w' : World} (hs : SRel G' s' a' w') (hl : Grw (fz Z w) w G' w') :
    ∃ Z', J Z' k w' ∧ (∀ b o, G'.Z b o → Z' b o) ∧ SRel (fz Z' w') ⟨s'.tmps.map DV.clr, μ0⟩ a' w' := by
  have hb : Below w.heap.size w w' := by
    have := hs.mem.bel
    rw [hl.base, hl.w0] at this
    exact this
  have hJ' := hJ.grow Z k w w' h hb
  have hZ : ∀ b o, G'.Z b o → (Z b o ∨ (w.heap.size ≤ b ∧ b < w'.heap.size)) := fun b o hz => by
    rcases hs.mem.zsub b o hz with h | h
    · left; rw [hl.z0] at h; exact h
    · right; rw [hl.base] at h; exact ⟨h, hs.mem.zlt b o hz⟩
  refine ⟨_, hJ', hZ, by simpa using hs.size, fun i d x hd hx => ?_, hs.defers.trans hl.df, fz_mem (hJ.lw _ _ _ hJ') (hJ.zlt _ _ _ hJ')⟩
  simp only [List.getElem?_map, Option.map_eq_some_iff] at hd
  obtain ⟨q, hq, rfl⟩ := hd
  exact (hs.tmp i q x hq hx).clr hZ
/-- an iterator's code from a state on, k rounds behind it -/
def FI (P : Program) (J : (Nat → Nat → Prop) → Nat → World → Prop) (k : Nat) (R : Exit → Act → World → Prop) (c : Code) (s : St) : Prop := ∀ Z w0 G a w, J Z k w0 → SRel G s a w → Grw (fz Z w0) w0 G w → c.wpIn (FF none) 0 P R a w
section
variable {P : Program} {J : (Nat → Nat → Prop) → Nat → World → Prop} {k : Nat} {R : Exit → Act → World → Prop} {s : St}
theorem fi_is {c : Code} {tm : List DV} (h : FI P J k R c ⟨tm, μ0⟩) {a : Act} {w : World} (hI : IS J k tm a w) : c.wpIn (FF none) 0 P R a w := by
  obtain ⟨Z, h1, h2⟩ := hI
  exact h Z w _ a w h1 h2 (Grw.refl _ _)
theorem fi_seq {c1 c2 : Code} (h : AWP none P c1 (fun x s' => x = .norm ∧ FI P J k R c2 s') s) : FI P J k R (.seq c1 c2) s := by
  intro Z w0 G a w hj hs hl
  refine wpIn_seq (wpIn_mono (h G a w hs) ?_)
  rintro e a' w' ⟨x, s', G', h1, ⟨rfl, h2⟩, h3, h4⟩
  cases e <;> first
    | (exact h1.elim; done)
    | exact h2 Z w0 G' a' w' hj h3 (hl.trans h4)
theorem fi_seq1 {c1 c2 : Code} (s1 : St) (h : AWP none P c1 (fun x s' => x = .norm ∧ s' = s1) s) (h2 : FI P J k R c2 s1) : FI P J k R (.seq c1 c2) s := fi_seq fun G a w hs => wpIn_mono (h G a w hs) fun e a' w' ⟨x, s', G', q1, ⟨q2, q3⟩, q4, q5⟩ => ⟨x, s', G', q1, ⟨q2, q3 ▸ h2⟩, q4, q5⟩
theorem fi_seq' {c1 c2 : Code} (h : FI P J k (Exit.then (c2.wpIn (FF none) 0 P R) R) c1 s) : FI P J k R (.seq c1 c2) s := fun Z w0 G a w hj hs hl => wpIn_seq (h Z w0 G a w hj hs hl)
theorem fi_block {b : Nat} {c : Code} (h : FI P J k (Exit.inBlock b R) c s) : FI P J k R (.block b c) s := fun Z w0 G a w hj hs hl => wpIn_block (h Z w0 G a w hj hs hl)
theorem fi_cond {c : Operand} {x y : Code} {b : Bool} (hc : s.ev c = .p (.v (.bool b))) (h : FI P J k R (if b then x else y) s) : FI P J k R (.cond c x y) s := by
  intro Z w0 G a w hj hs hl
  have hev := hs.ev c
  rw [hc] at hev
  have e : a.eval c = .bool b := by
    generalize a.eval c = v at hev
    cases hev with
    | p d x h => cases h; rfl
  exact wpIn_cond e (h Z w0 G a w hj hs hl)
theorem fi_end {c : Code} (hJ : JOK J) {tm : List DV} (hc : (c = .skip ∧ ∀ a w, IS J k tm a w → R .normal a w) ∨ ∃ b, c = .exit b ∧ ∀ a w, IS J k tm a w → R (.exit b) a w) (ht : s.tmps.map DV.clr = tm) : FI P J k R c s := by
  intro Z w0 G a w hj hs hl
  obtain ⟨Z', h1, -, h3⟩ := is_next hJ hj hs hl
  rw [ht] at h3
  rcases hc with ⟨rfl, h⟩ | ⟨b, rfl, h⟩
  · exact wpIn_skip (h a w ⟨Z', h1, h3⟩)
  · exact wpIn_exit (h a w ⟨Z', h1, h3⟩)
/-- the last piece -/
theorem fi_last {c : Code} (hJ : JOK J) {tm : List DV} (h : AWP none P c (fun x s' => x = .norm ∧ s'.tmps.map DV.clr = tm) s) (hN : ∀ a w, IS J k tm a w → R .normal a w) : FI P J k R c s := by
  intro Z w0 G a w hj hs hl
  refine wpIn_mono (h G a w hs) ?_
  rintro e a' w' ⟨x, s', G', h1, ⟨rfl, h2⟩, h3, h4⟩
  obtain ⟨Z', j1, -, s2⟩ := is_next hJ hj h3 (hl.trans h4)
  rw [h2] at s2
  cases e <;> first
    | (exact h1.elim; done)
    | exact hN _ _ ⟨Z', j1, s2⟩
/-- from here on as from afresh -/
theorem fi_fresh {c : Code} (hJ : JOK J) {tm : List DV} (h : FI P J k R c ⟨tm, μ0⟩) (ht : s.tmps.map DV.clr = tm) : FI P J k R c s := by
  intro Z w0 G a w hj hs hl
  obtain ⟨Z', h1, -, h3⟩ := is_next hJ hj hs hl
  rw [ht] at h3
  exact fi_is h ⟨Z', h1, h3⟩
end

theorem execOp_yield {P : Program} {a : Act} {w w' : World} {o : Oper} {co : Operand} {cargs : Array Operand} {cts : Array TypeId} {l : Nat} {r : Next} (ho : o.op = .call { callee := .value co, args := cargs, argTypes := cts }) (hf : a.eval co = .func (.yield l) #[] #[])
    (hy : (Instr.yield l (cargs.map a.eval)).run P w = .ok r w') : (execOp a.eval o).run P w = .ok r w' := by
  unfold execOp
  simp [ho, resolve, hf, Deferred.ofValue, invoke, hy]
theorem opw_round {ro : Option Nat} {P : Program} {o : Oper} {a : Act} {w w' : World} {K : Act → World → Prop} {Q : Exit → Act → World → Prop} {l : Nat} {f : FuncId} {tmps : Array Value} {assign body : Code} {E : Ending → World → Prop}
    (hd : ∀ c, o.op ≠ .defer c) (h : (execOp a.eval o).run P w = .ok (.round l f tmps assign body) w') (hc : RoundIn (FF ro) 0 P l f tmps assign body w' E)
    (k : ∀ e w2, E e w2 → match e with | .returned v => K (a.put o.dst v) w2 | .panicked ch => Q (.panic ch) a w2 | .outgrown => LetsOut Q) : o.wpIn (FF ro) 0 P a w K Q :=
  ⟨fun _ _ => trivial, by
    rw [Oper.semAt_plain (FF ro) _ _ hd, h]
    refine ⟨(fun hs => absurd hs (by simp [FF, Fence.wide])), hc.mono fun e w2 he => ?_⟩
    have := k e w2 he
    cases e <;> exact this⟩
theorem execOp_not {P : Program} {a : Act} {w : World} {o : Oper} {ty : TypeId} {x : Operand} {b : Bool} (ho : o.op = .unOp .not ty x) (hx : a.eval x = .bool b) : (execOp a.eval o).run P w = .ok (.value (.bool (!b))) w := by
  unfold execOp
  simp only [ho]
  rw [hx]
  simp [go_sem]
theorem opw_mono' {ro : Option Nat} {P : Program} {o : Oper} {a : Act} {w : World} {K K' : Act → World → Prop} {Q Q' : Exit → Act → World → Prop} (hK : ∀ a w, K a w → K' a w) (hQ : ∀ e a w, e ≠ .normal → Q e a w → Q' e a w) (h : o.wpIn (FF ro) 0 P a w K Q) : o.wpIn (FF ro) 0 P a w K' Q' := by
  have hl : LetsOut Q → LetsOut Q' := fun ⟨a, w, h⟩ => ⟨a, w, hQ _ _ _ (by simp) h⟩
  have hp : ∀ ch a w, Q (.panic ch) a w → Q' (.panic ch) a w := fun ch a w h => hQ _ _ _ (by simp) h
  unfold Oper.wpIn at *
  refine ⟨h.1, ?_⟩
  have hh := h.2
  generalize (o.semAt (FF ro).round a.eval).run P w = r at *
  cases r with
  | ok x w' =>
    cases x <;> simp only [Oper.uponIn] at hh ⊢ <;>
      first
        | exact hK _ _ hh
        | exact ⟨hh.1, CallsIn.mono hh.2 (fun e w'' he => by cases e <;> first | exact hK _ _ he | exact hp _ _ _ he | exact hl he)⟩
        | exact ⟨hh.1, RowsIn.mono hh.2 (fun _ _ he => hK _ _ he)⟩
        | exact ⟨hh.1, RoundIn.mono hh.2 (fun e w'' he => by cases e <;> first | exact hK _ _ he | exact hp _ _ _ he | exact hl he)⟩
  | halt x w' => cases x <;> simp only [Oper.uponIn] at hh ⊢ <;> first | exact hp _ _ _ hh | exact hl hh | exact hh
theorem wpList_bind {ro : Option Nat} {P : Program} {ops : Array Oper} {Q Q' : Exit → Act → World → Prop} {l2 : List Oper} (hq : ∀ a w, Q .normal a w → wpListIn (FF ro) 0 P ops Q' l2 a w) (hq' : ∀ e a w, e ≠ .normal → Q e a w → Q' e a w) :
    ∀ (l : List Oper) (a : Act) (w : World), wpListIn (FF ro) 0 P ops Q l a w → wpListIn (FF ro) 0 P ops Q' (l ++ l2) a w := by
  intro l
  induction l with
  | nil => intro a w h; exact hq _ _ h
  | cons o r ih =>
    intro a w h
    simp only [List.cons_append]
    unfold wpListIn at h ⊢
    split
    · rename_i hw
      rw [if_pos hw] at h
      exact opw_mono' (fun a w hk => ih a w hk) hq' h
    · rename_i hw
      rw [if_neg hw] at h
      exact ⟨h.1, ih _ _ h.2⟩
theorem want_none {ops : Array Oper} {o : Oper} (h : o.guard = none) (tmps : Array Value) : Region.wanted o (yielded ops tmps) = true := by
  unfold Region.wanted
  rw [h]

/-- one round: what is ahead of the call in its region; the call of yield; on, or back -/
theorem fi_yield {P : Program} {J : (Nat → Nat → Prop) → Nat → World → Prop} {Jx : Nat → World → Prop} {k l : Nat} {xs : List (List PD)} (hJ : JOK J)
    (hy : ∀ Z k x ys w, J Z k w → xs[k]? = some x → PRelL Z w x ys → YieldAt (FF none) 0 P l ys w fun e w' => (e = .returned (.bool true) ∧ J Z (k + 1) w' ∧ Stay Z w w') ∨ (e = .returned (.bool false) ∧ Jx k w'))
    {R : Exit → Act → World → Prop} {s : St} {i : Nat} {l3 : List Oper} (m : Nat) {oy on : Oper} {co : Operand} {cargs : Array Operand} {cts : Array TypeId} {ty tn : Tmp} {tt : TypeId} {tm : List DV} {x : List PD}
    (hl3 : l3.drop m = [oy, on]) (ho : oy.op = .call { callee := .value co, args := cargs, argTypes := cts }) (gy : oy.guard = none) (hd : oy.dst = some ty) (hn : on.op = .unOp .not tt (.tmp ty)) (gn : on.guard = none) (hdn : on.dst = some tn)
    (hpre : AList none P l3.toArray (l3.take m) (fun x s' => x = .norm ∧ s'.tmps.map DV.clr = tm) s) (hty : (ty : Nat) < tm.length) (htn : (tn : Nat) < tm.length)
    (hco : (⟨tm, μ0⟩ : St).ev co = .p (.v (.func (.yield l) #[] #[]))) (hx : xs[k]? = some x) (hca : cargs.toList.map (⟨tm, μ0⟩ : St).ev = x.map .p)
    (hN : ∀ a w, IS J (k + 1) (putT (putT tm (some ty) (.p (.v (.bool true)))) (some tn) (.p (.v (.bool false)))) a w → R .normal a w) (hR : ∀ a w, a.defers = [] → Jx k w → R .ret a w) :
    FI P J k R (.seq (.region i l3.toArray false) (.cond (.tmp tn) .ret .skip)) s := by
  intro Z w0 G a w hj hs hl
  refine wpIn_seq (wpIn_region_lit ?_)
  have h0 := hpre G a w hs
  have hl3 : l3 = l3.take m ++ [oy, on] := by rw [← hl3]; exact (List.take_append_drop m l3).symm
  generalize l3.take m = pre at h0 hl3
  rw [hl3] at h0 ⊢
  refine wpList_bind ?_ ?_ pre a w h0
  · rintro a1 w1 ⟨x', s1, G1, -, ⟨rfl, ht⟩, h3, h4⟩
    obtain ⟨Z', j1, -, s2⟩ := is_next hJ hj h3 (hl.trans h4)
    rw [ht] at s2
    have hev := s2.ev co
    rw [hco] at hev
    have hco' : a1.eval co = .func (.yield l) #[] #[] := by
      generalize a1.eval co = v at hev
      cases hev with
      | p d x h => cases h; rfl
    have hargs : PRelL Z' w1 x (cargs.map a1.eval) := by
      have hlen : cargs.size = x.length := by simpa using congrArg List.length hca
      refine ⟨by simpa using hlen, fun i d y hd hy => ?_⟩
      simp only [Array.getElem?_map, Option.map_eq_some_iff] at hy
      obtain ⟨c, hc, rfl⟩ := hy
      have h1 := congrArg (fun q : List DV => q[i]?) hca
      simp only [List.getElem?_map, Array.getElem?_toList, hc, hd, Option.map_some] at h1
      injection h1 with h1
      have := s2.ev c
      rw [h1] at this
      cases this with
      | p d x h => exact h
    obtain ⟨fn, tmps, assign, body, y1, y2⟩ := hy Z' k x _ w1 j1 hx hargs
    have hrest : ∀ (b : Bool) (a2 : Act) (w2 : World), a2.eval (.tmp ty) = .bool b → a2.defers = [] → (b = true → IS J (k + 1) (putT (putT tm (some ty) (.p (.v (.bool true)))) (some tn) (.p (.v (.bool false)))) (a2.put (some tn) (.bool false)) w2) → (b = false → Jx k w2) → (tn : Nat) < a2.tmps.size →
        wpListIn (FF none) 0 P (pre ++ [oy, on]).toArray (Exit.then ((Code.cond (.tmp tn) .ret .skip).wpIn (FF none) 0 P R) R) [on] a2 w2 := by
      intro b a2 w2 e1 e2 e3 e4 e5
      unfold wpListIn
      rw [if_pos (want_none gn _)]
      refine opw_value (fun c hdf => by rw [hn] at hdf; cases hdf) (execOp_not hn e1) ?_
      rw [hdn]
      show (Code.cond (.tmp tn) .ret .skip).wpIn (FF none) 0 P R (a2.put (some tn) (.bool (!b))) w2
      refine wpIn_cond (t := !b) ?_ ?_
      · simp [Act.put, Act.eval, e5]
      · cases b with
        | true => exact wpIn_skip (hN _ _ (e3 rfl))
        | false => exact wpIn_ret (hR _ _ (by simpa [Act.put] using e2) (e4 rfl))
    show wpListIn (FF none) 0 P (pre ++ [oy, on]).toArray _ [oy, on] a1 w1
    unfold wpListIn
    rw [if_pos (want_none gy _)]
    refine opw_round (fun c hdf => by rw [ho] at hdf; cases hdf) (execOp_yield ho hco' y1) y2 ?_
    have hsz : a1.tmps.size = tm.length := s2.size
    have hds : a1.defers = [] := s2.defers
    have hty' : (ty : Nat) < a1.tmps.size := hsz ▸ hty
    have htn' : (tn : Nat) < a1.tmps.size := hsz ▸ htn
    rintro e w2 (⟨rfl, j2, st⟩ | ⟨rfl, jx⟩)
    · rw [hd]
      refine hrest true _ w2 (by simp [Act.put, Act.eval, hty']) (by simpa [Act.put] using hds) (fun _ => ?_) (fun h => by cases h) (by simpa [Act.put] using htn')
      refine ⟨Z', j2, ?_⟩
      have s3 : SRel (fz Z' w2) ⟨tm, μ0⟩ a1 w2 := ⟨s2.size, fun i d v hd' hv => by
        have h := ((s2.tmp i d v hd' hv).same (w' := w2) (fun b o v hz hv => st.2 b o v hz hv)).clr (Z := Z') (fun _ _ h => h)
        have e : d.clr = d := by
          simp only [← ht, List.getElem?_map, Option.map_eq_some_iff] at hd'
          obtain ⟨q, _, rfl⟩ := hd'
          exact DV.clr_clr q
        rw [e] at h; exact h, s2.defers, fz_mem (hJ.lw _ _ _ j2) (hJ.zlt _ _ _ j2)⟩
      have s4 := s3.put (Grw.refl _ _) (some ty) (.p _ _ (.v (.bool true))) s3.mem
      exact s4.put (Grw.refl _ _) (some tn) (.p _ _ (.v (.bool false))) s4.mem
    · rw [hd]
      exact hrest false _ w2 (by simp [Act.put, Act.eval, hty']) (by simpa [Act.put] using hds) (fun h => by cases h) (fun _ => jx) (by simpa [Act.put] using htn')
  · rintro e a1 w1 he ⟨x', s1, G1, h1, ⟨rfl, ht⟩, h3, h4⟩
    cases e <;> first
      | (exact h1.elim; done)
      | exact absurd rfl he
theorem results_nil {P : Program} {fn : Func} (h : fn.results = #[]) (tmps : Array Value) (w : World) : ∃ v, (results fn tmps).run P w = .ok v w := by
  rw [results_eq, h]
  simp
abbrev YieldOK (P : Program) (xs : List (List PD)) (l : Nat) (J : (Nat → Nat → Prop) → Nat → World → Prop) (Jx : Nat → World → Prop) : Prop :=
  ∀ Z k x ys w, J Z k w → xs[k]? = some x → PRelL Z w x ys → YieldAt (FF none) 0 P l ys w fun e w' => (e = .returned (.bool true) ∧ J Z (k + 1) w' ∧ Stay Z w w') ∨ (e = .returned (.bool false) ∧ Jx k w')
abbrev yV (l : Nat) : Value := .func (.yield l) #[] #[]
/-- how an iterator's round ends -/
def RoundR (J : (Nat → Nat → Prop) → Nat → World → Prop) (Jx : Nat → World → Prop) (b0 N k : Nat) (tm : List DV) : Exit → Act → World → Prop
  | .normal, a, w => k < N ∧ IS J (k + 1) tm a w
  | .exit b, a, w => b = b0 ∧ k = N ∧ ∃ tm, IS J k tm a w
  | .ret, a, w => k < N ∧ a.defers = [] ∧ Jx k w
  | _, _, _ => False
theorem it_ok {P : Program} {gf : FuncId} {fn : Func} {A : Code} {b0 : Nat} {body : Code} (hc : Callable P gf fn (.seq A (.block b0 (.loop body)))) (hrs : fn.results = #[]) {c : PD} {xs : List (List PD)} {n : Nat} (hn : fn.ntmps = n)
    (T : Nat → Value → List DV) (hA : ∀ l, AWP none P A (fun x s' => x = .norm ∧ s'.tmps.map DV.clr = T 0 (yV l)) ⟨[.p (.v (yV l)), .ep [c] 0 0] ++ List.replicate (n - 2) .undef, μ0⟩)
    (hround : ∀ J Jx l k, JOK J → YieldOK P xs l J Jx → k ≤ xs.length → FI P J k (RoundR J Jx b0 xs.length k (T (k + 1) (yV l))) body ⟨T k (yV l), μ0⟩) : ItOK P gf c xs := by
  intro Z g l J Jx W hp hJ hy h0
  subst hn
  refine callsIn_of_wp_marks hc.at_ hc.body trivial ?_ rfl
  have lw := hJ.lw _ _ _ h0
  have zl := hJ.zlt _ _ _ h0
  have hs : SRel (fz Z W) ⟨[.p (.v (yV l)), .ep [c] 0 0] ++ List.replicate (fn.ntmps - 2) .undef, μ0⟩ { tmps := #[.func (.yield l) #[] #[], .pointer (some ⟨g, 0, none⟩)] ++ Array.replicate (fn.ntmps - 2) undef, defers := [] } W := by
    refine ⟨by simp only [Array.size_append, List.length_append]; simp, fun i d x hd hx => ?_, rfl, fz_mem lw zl⟩
    simp only at hd hx
    match i, hd, hx with
    | 0, hd, hx =>
      rw [Array.getElem?_append_left (by simp)] at hx
      simp at hd hx
      subst hd; subst hx
      exact .p _ _ (.v _)
    | 1, hd, hx =>
      rw [Array.getElem?_append_left (by simp)] at hx
      simp at hd hx
      subst hd; subst hx
      have := CRel.ep (G := fz Z W) (w := W) [c] 0 0 g 0 1 c.cells.length hp (by simp) (by simp)
      simpa using this
    | i + 2, hd, hx =>
      rw [List.getElem?_append_right (by simp)] at hd
      simp only [List.getElem?_replicate] at hd
      split at hd
      · injection hd with hd; subst hd; exact .undef _
      · cases hd
  obtain ⟨R, hR⟩ : ∃ R, R = bodyPostM (FF none) 0 P fn (fun e w' => ∃ v, e = .returned v ∧ ((∃ Z', J Z' xs.length w') ∨ ∃ k, k < xs.length ∧ Jx k w')) := ⟨_, rfl⟩
  have fin : ∀ (a : Act) (w : World), a.defers = [] → ((∃ Z', J Z' xs.length w) ∨ ∃ k, k < xs.length ∧ Jx k w) → LeavesInM (FF none) 0 P fn a.tmps (fun e w' => ∃ v, e = .returned v ∧ ((∃ Z', J Z' xs.length w') ∨ ∃ k, k < xs.length ∧ Jx k w')) a.defers .returning w := by
    intro a w hd h
    rw [hd]
    obtain ⟨v, hv⟩ := results_nil (P := P) hrs a.tmps w
    exact ⟨v, hv, v, rfl, h⟩
  show Code.wpIn (FF none) 0 P _ _ _ _
  rw [← hR]
  refine wpIn_seq (wpIn_mono (hA l _ _ _ hs) ?_)
  rintro e a' w' ⟨x, s', G', h1, ⟨rfl, h2⟩, h3, h4⟩
  obtain ⟨Z', j1, -, s2⟩ := is_next hJ h0 h3 h4
  rw [h2] at s2
  cases e <;> first
    | (exact h1.elim; done)
    | skip
  refine wpIn_block (wpIn_loop_ghost (fun m a w => ∃ k, k ≤ xs.length ∧ m = xs.length - k ∧ IS J k (T k (yV l)) a w) xs.length ⟨0, Nat.zero_le _, by omega, Z', j1, s2⟩ ?_)
  rintro m a w ⟨k, hk, rfl, hI⟩
  refine wpIn_mono (fi_is (hround J Jx l k hJ hy hk) hI) ?_
  rintro e a2 w2 h
  cases e with
  | normal => exact ⟨xs.length - (k + 1), by have := h.1; omega, k + 1, by have := h.1; omega, rfl, h.2⟩
  | exit b =>
    obtain ⟨rfl, rfl, tm, Z2, j2, s3⟩ := h
    show Exit.inBlock b R (.exit b) a2 w2
    unfold Exit.inBlock
    simp only [if_pos]
    rw [hR]
    exact fin a2 w2 s3.defers (.inl ⟨Z2, j2⟩)
  | ret =>
    show R .ret a2 w2
    rw [hR]
    exact fin a2 w2 h.2.1 (.inr ⟨k, h.1, h.2.2⟩)
  | _ => exact h.elim
theorem eg_fn {P : Program} {gf : FuncId} {fn : Func} (h : P.funcs[gf]? = some fn) (hb : fn.body.isSome = true) (hn : (fn.name == "runtime.NumGoroutine") = false) : ∀ args w, (callFunc gf args).run P w = .ok (.enter gf args) w := by
  intro args w
  have hn : fn.name ≠ "runtime.NumGoroutine" := by simpa using hn
  simp [callFunc, h, hn]
  intro hno
  rw [hno] at hb
  cases hb
/-- operations in a row, run; what is kept of their end -/
def resLT (ks : List Nat) (s : St) : Option ((AX × St) × Cf) → Option (List DV)
  | some ((.norm, s'), k) => match k.ob with
    | [] => some ((s'.keep ks).tmps.map DV.clr)
    | _ => none
  | _ => none
theorem lrun (inl : List Nat) (ks : List Nat) (an : List (Nat × An)) {ops : Array Oper} {l : List Oper} {s : St} {tm : List DV} (h : resLT ks s (run Tryz.prog (inlOf inl) fuel (.l ops l s) ⟨0, an, []⟩) = some tm) {ro : Option Nat} : AList ro Tryz.prog ops l (fun x s' => x = .norm ∧ s'.tmps.map DV.clr = tm) s := by
  unfold resLT at h
  split at h
  · rename_i s' k hr
    split at h
    · rename_i hob
      injection h with h
      intro G a w hs
      refine wpList_mono ?_ _ _ _ ((run_ok fitS fuel _ _ _ _ hr (by rw [hob]; trivial)).1 ro (fun x s1 => x = .norm ∧ s1 = s') ⟨rfl, rfl⟩ G a w hs)
      intro e a' w' hp
      refine post_keepAll ks ?_
      obtain ⟨x, s1, G', h1, ⟨rfl, rfl⟩, h3, h4⟩ := hp
      exact ⟨_, _, G', h1, ⟨rfl, h⟩, h3, h4⟩
    · cases h
  · cases h
end Go.Proofs.YtikfefjaeejeeaaGreatDoor
