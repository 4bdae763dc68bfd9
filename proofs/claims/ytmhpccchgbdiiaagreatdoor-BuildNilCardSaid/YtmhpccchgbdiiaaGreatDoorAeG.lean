/- The abstract machine, 15: a statement whose order is open: THE LAW. -/
import Derived.Test.YtmhpccchgbdiiaaGreatDoorAeE
namespace Go.Proofs.YtmhpccchgbdiiaaGreatDoor
open Go.RowKit

theorem maskT_get' (ks : List Nat) : ∀ (i : Nat) (l : List DV) (j : Nat) (d : DV), (maskT ks i l)[j]? = some d → d = .undef ∨ (i + j ∈ ks ∧ l[j]? = some d)
  | _, [], j, d, h => by simp [maskT] at h
  | i, e :: r, 0, d, h => by
    simp only [maskT, List.getElem?_cons_zero, Option.some.injEq] at h
    split at h
    · rename_i hk
      right
      exact ⟨by simpa using hk, by simp [h]⟩
    · left; exact h.symm
  | i, e :: r, j + 1, d, h => by
    simp only [maskT, List.getElem?_cons_succ] at h ⊢
    have := maskT_get' ks (i + 1) r j d h
    rwa [show i + 1 + j = i + (j + 1) by omega] at this
theorem getT_mask (ks : List Nat) : ∀ (i : Nat) (l : List DV) (j : Nat), i + j ∈ ks → getT (maskT ks i l) j = getT l j
  | _, [], j, h => by simp [maskT]
  | i, e :: r, 0, h => by
    simp only [maskT, getT]
    rw [if_pos (by simpa using h)]
  | i, e :: r, j + 1, h => by
    simp only [maskT, getT]
    exact getT_mask ks (i + 1) r j (by rwa [show i + 1 + j = i + (j + 1) by omega])
theorem putT_length (l : List DV) (o : Option Nat) (v : DV) : (putT l o v).length = l.length := by
  cases o with
  | none => rfl
  | some i => simp [putT, setT_set]
theorem getT_put (l : List DV) (o : Option Nat) (v : DV) (t : Nat) (ht : t < l.length) : getT (putT l o v) t = if o = some t then v else getT l t := by
  cases o with
  | none => simp [putT]
  | some i =>
    simp only [putT, setT_set, getT_get]
    by_cases h : i = t
    · subst h; rw [List.getElem?_set_self ht, if_pos rfl]; rfl
    · rw [List.getElem?_set_ne h, if_neg (by simpa using h)]
theorem countP_less {α : Type} {p p' : α → Bool} : ∀ {l : List α}, (∀ x ∈ l, p' x = true → p x = true) → (∃ x ∈ l, p x = true ∧ p' x = false) → l.countP p' < l.countP p
  | [], _, ⟨x, hx, _⟩ => by cases hx
  | a :: r, h, ⟨x, hx, h1, h2⟩ => by
    have hle : r.countP p' ≤ r.countP p := List.countP_mono_left (fun y hy hp => h y (List.mem_cons_of_mem _ hy) hp)
    rcases List.mem_cons.1 hx with rfl | hx
    · rw [List.countP_cons_of_pos h1, List.countP_cons_of_neg (by rw [h2]; simp)]
      omega
    · have ih := countP_less (l := r) (fun y hy => h y (List.mem_cons_of_mem _ hy)) ⟨x, hx, h1, h2⟩
      cases hp' : p' a with
      | true => rw [List.countP_cons_of_pos hp', List.countP_cons_of_pos (h a List.mem_cons_self hp')]; omega
      | false =>
        rw [List.countP_cons_of_neg (by rw [hp']; simp)]
        cases hp : p a with
        | true => rw [List.countP_cons_of_pos hp]; omega
        | false => rw [List.countP_cons_of_neg (by rw [hp]; simp)]; exact ih
theorem frz_any : ∀ (k : Nat), (∀ d q μ', frz k ⟨[], [], []⟩ d = some (q, μ') → ∀ μ, frz k μ d = some (q, μ)) ∧ (∀ ds l μ', frzL k ⟨[], [], []⟩ ds = some (l, μ') → ∀ μ, frzL k μ ds = some (l, μ)) := by
  intro k
  induction k with
  | zero => exact ⟨fun d q μ' h => by simp [frz] at h, fun ds l μ' h => by simp [frzL] at h⟩
  | succ k ih =>
    have emp : ∀ k, (∀ d q μ', frz k ⟨[], [], []⟩ d = some (q, μ') → μ' = ⟨[], [], []⟩) ∧ (∀ ds l μ', frzL k ⟨[], [], []⟩ ds = some (l, μ') → μ' = ⟨[], [], []⟩) := by
      intro k
      induction k with
      | zero => exact ⟨fun d q μ' h => by simp [frz] at h, fun ds l μ' h => by simp [frzL] at h⟩
      | succ k ih =>
        refine ⟨fun d q μ' h => ?_, fun ds l μ' h => ?_⟩
        · cases d with
          | fn f cs => cases cs <;> simp [frz] at h; exact h.2.symm
          | agg cs => simp only [frz] at h; split at h; (rename_i hl; injection h with h; injection h with _ h; subst h; exact ih.2 _ _ _ hl); cases h
          | tup cs => simp only [frz] at h; split at h; (rename_i hl; injection h with h; injection h with _ h; subst h; exact ih.2 _ _ _ hl); cases h
          | bsl b off sz len cap => simp [frz] at h
          | _ => simp [frz] at h <;> exact h.2.symm
        · cases ds with
          | nil => simp [frzL] at h; exact h.2.symm
          | cons d r =>
            simp only [frzL] at h
            split at h
            · rename_i p μ1 h1
              split at h
              · rename_i l2 μ2 h2
                injection h with h; injection h with _ h; subst h
                have := ih.1 _ _ _ h1
                subst this
                exact ih.2 _ _ _ h2
              · cases h
            · cases h
    refine ⟨fun d q μ' h μ => ?_, fun ds l μ' h μ => ?_⟩
    · cases d with
      | fn f cs => cases cs <;> simp [frz] at h ⊢; exact h.1
      | agg cs =>
        simp only [frz] at h ⊢
        split at h
        · rename_i l μ1 hl
          injection h with h; injection h with h _; subst h
          rw [ih.2 _ _ _ hl μ]
        · cases h
      | tup cs =>
        simp only [frz] at h ⊢
        split at h
        · rename_i l μ1 hl
          injection h with h; injection h with h _; subst h
          rw [ih.2 _ _ _ hl μ]
        · cases h
      | bsl b off sz len cap => simp [frz] at h
      | undef => simp [frz] at h
      | loc b o => simp [frz] at h
      | ep els i o => simp [frz] at h
      | _ => simp [frz] at h ⊢ <;> exact h.1
    · cases ds with
      | nil => simp [frzL] at h ⊢; exact h.1
      | cons d r =>
        simp only [frzL] at h ⊢
        split at h
        · rename_i p μ1 h1
          split at h
          · rename_i l2 μ2 h2
            injection h with h; injection h with h _; subst h
            have := (emp k).1 _ _ _ h1
            subst this
            rw [ih.1 _ _ _ h1 μ]
            simp only
            rw [ih.2 _ _ _ h2 μ]
          · cases h
        · cases h
/-- a pure call, as the weakest condition -/
theorem call_wp {ro : Option Nat} {P : Program} {G : Gh} {s : St} {a : Act} {w : World} (hs : SRel G s a w) {o : Oper} {d : DV} (h : PCall P o s d) {K : Act → World → Prop} {Q : Exit → Act → World → Prop}
    (hk : ∀ x w1 G1, CRel G1 w1 d x → MRel G1 s.μ w1 → Grw G w G1 w1 → K (a.put o.dst x) w1) : o.wpIn (FF ro) 0 P a w K Q := by
  obtain ⟨co, cargs, cts, f, caps, pargs, v, ho, hc, hf, hp, rfl⟩ := h
  obtain ⟨⟨fn, c, hcl⟩, hp⟩ := hp
  obtain ⟨vs, hv1, hv2, hv3⟩ := fn_val hs hc
  obtain ⟨ha1, ha2⟩ := args_rel hs cargs caps vs hv2 hv3
  obtain ⟨G1, m1, m2, _, m4, m5⟩ := (frz_sound 200).2 _ _ _ _ ((frz_any 200).2 _ _ _ hf s.μ) G w (cargs.map a.eval ++ vs).toList hs.mem (by simpa using ha1) (fun i d x hd hx => ha2 i d x hd (by rw [Array.getElem?_toList] at hx; exact hx))
  have hrun := execOp_call (P := P) (w := w) ho hv1 hcl
  rw [Array.empty_append] at hrun
  refine opw_enter (fun c hdf => by rw [ho] at hdf; cases hdf) hrun (hp G1.Z w _ (m1.lw.below m1.bel m1.hb) m1.zlt ⟨by rw [m4]; simpa using ha1, fun i d x hd hx => m5 i d x hd (by rw [Array.getElem?_toList]; exact hx)⟩) ?_
  rintro e1 w1 he
  cases e1 with
  | returned x =>
    obtain ⟨h1, h2⟩ := he
    exact hk x w1 (G1.grown w w1) (.p _ _ h1) (m1.below h2) (m2.trans (Grw.below m1.zlt h2))
  | panicked ch => exact he.elim
  | outgrown => exact he.elim

/-- a closure's call, as the weakest condition -/
theorem icall_wp {ro : Option Nat} {P : Program} {G : Gh} {s : St} {a : Act} {w : World} (hs : SRel G s a w) {o : Oper} {d : DV} {μ' : Mem} (h : ICall0 P o s d μ') {K : Act → World → Prop} {Q : Exit → Act → World → Prop}
    (hk : ∀ x w1 G1, CRel G1 w1 d x → MRel G1 μ' w1 → Grw G w G1 w1 → K (a.put o.dst x) w1) : o.wpIn (FF ro) 0 P a w K Q := by
  obtain ⟨co, cargs, cts, f, caps, fn, c, ho, hc, hcl, h⟩ := h
  obtain ⟨vs, hv1, hv2, hv3⟩ := fn_val hs hc
  obtain ⟨ha1, ha2⟩ := args_rel hs cargs caps vs hv2 hv3
  have hrun := execOp_call (P := P) (w := w) ho hv1 hcl
  rw [Array.empty_append] at hrun
  have hs1 : SRel (G.dfr []) ⟨(cargs.toList.map s.ev ++ caps) ++ List.replicate (fn.ntmps - (cargs.toList.map s.ev ++ caps).length) .undef, s.μ⟩ { tmps := (cargs.map a.eval ++ vs) ++ Array.replicate (fn.ntmps - (cargs.map a.eval ++ vs).size) undef, defers := [] } w := by
    refine ⟨by rw [Array.size_append, List.length_append, ha1]; simp, fun i d x hd hx => ?_, rfl, hs.mem.dfr []⟩
    rcases Nat.lt_or_ge i (cargs.toList.map s.ev ++ caps).length with hi | hi
    · simp only at hd hx
      rw [List.getElem?_append_left hi] at hd
      rw [Array.getElem?_append_left (by rw [ha1]; exact hi)] at hx
      exact (ha2 i d x hd hx).dfr []
    · simp only at hd
      rw [List.getElem?_append_right hi, List.getElem?_replicate] at hd
      split at hd
      · injection hd with hd; subst hd; exact .undef _
      · cases hd
  refine opw_enter (fun c hdf => by rw [ho] at hdf; cases hdf) hrun (calls_of_wp (R := fun e w'' => match e with
    | .returned v => ∃ G', CRel G' w'' d v ∧ MRel G' μ' w'' ∧ Grw G w G' w''
    | _ => False) hcl.at_ hcl.body (wp_mono (wpIn_wide.1 (h (G.dfr []) _ w hs1)) ?_)) ?_
  · rintro e a' w' ⟨x, s', G', h1, h2, h3, h4⟩
    cases x <;> cases e <;> first
      | (exact h1.elim; done)
      | (exact h2.elim; done)
      | skip
    · obtain ⟨l, k1, k2, k3⟩ := h2
      obtain ⟨y, q1, q2⟩ := results_run h3 k1
      exact ⟨h3.defers.trans h4.df, y, q1, G'.dfr G.df, by rw [← k2]; exact q2.dfr _, by rw [← k3]; exact h3.mem.dfr _, h4.back⟩
    · obtain ⟨l, k1, k2, k3⟩ := h2
      obtain ⟨y, q1, q2⟩ := results_run h3 k1
      exact ⟨h3.defers.trans h4.df, y, q1, G'.dfr G.df, by rw [← k2]; exact q2.dfr _, by rw [← k3]; exact h3.mem.dfr _, h4.back⟩
  · intro e w'' he
    cases e with
    | returned v =>
      obtain ⟨G', k2, k3, k4⟩ := he
      exact hk v w'' G' k2 k3 k4
    | panicked ch => exact he.elim
    | outgrown => exact he.elim

/-- what holds when the listed ones have been done -/
structure DInv (xc : Bool) (l : List Oper) (sts : Nat → St) (vals : Nat → DV) (G0 : Gh) (w0 : World) (listed : Array Bool) (a : Act) (w : World) : Prop where
  size : listed.size = l.length
  closed : ∀ (i : Nat) (o : Oper), l[i]? = some o → listed.getD i true = true → ∀ j ∈ dirs o, listed.getD j true = true
  state : ∃ G m, Grw G0 w0 G w ∧ MRel G (sts m).μ w ∧ a.defers = G.df ∧ a.tmps.size = (sts 0).tmps.length ∧
    (∀ (t : Nat) (x : Value), a.tmps[t]? = some x → (∀ (j : Nat) (o : Oper), l[j]? = some o → listed.getD j true = true → o.dst = some t → CRel G w (vals j) x) ∧ ((∀ (j : Nat) (o : Oper), l[j]? = some o → listed.getD j true = true → o.dst ≠ some t) → CRel G w (getT (sts 0).tmps t) x)) ∧
    m ≤ l.length ∧ (∀ (j : Nat) (o : Oper), l[j]? = some o → isMem xc o.op = true → (listed.getD j true = true ↔ j < m))
theorem anc_listed {xc : Bool} {l : List Oper} {ops : Array Oper} {an : List AS} (hc : CalmOps xc l ops an) {listed : Array Bool} (hcl : ∀ (i : Nat) (o : Oper), l[i]? = some o → listed.getD i true = true → ∀ j ∈ dirs o, listed.getD j true = true) (hsz : listed.size = l.length) :
    ∀ (n : Nat) (i : Nat) (o : Oper), i < n → l[i]? = some o → (∀ j ∈ dirs o, listed.getD j true = true) → ∀ j ∈ (an[i]?).getD ⟨0⟩, listed.getD j true = true := by
  intro n
  induction n with
  | zero => intro i o hi; omega
  | succ n ih =>
    intro i o hi ho hd j hj
    obtain ⟨k, hk, hj⟩ := hc.anc i o ho j hj
    have hki := hc.dir i o ho k hk
    rcases hj with rfl | hj
    · exact hd j hk
    · have hkl : k < l.length := Nat.lt_trans hki (List.getElem?_eq_some_iff.1 ho).1
      exact ih k l[k] (by omega) (List.getElem?_eq_getElem hkl) (hcl k _ (List.getElem?_eq_getElem hkl) (hd k hk)) j hj
theorem tmps_len {xc : Bool} {P : Program} {ops : Array Oper} {l : List Oper} {an : List AS} {sts : Nat → St} {vals : Nat → DV} (ht : ∀ j, j < l.length → TrOK xc P ops l an sts vals j) : ∀ i, i ≤ l.length → (sts i).tmps.length = (sts 0).tmps.length := by
  intro i
  induction i with
  | zero => intro _; rfl
  | succ i ih =>
    intro hi
    rw [(ht i (by omega) l[i] (List.getElem?_eq_getElem (by omega))).1, putT_length, ih (by omega)]
/-- a slot in the text's order -/
theorem slot_text {xc : Bool} {P : Program} {ops : Array Oper} {l : List Oper} {an : List AS} {sts : Nat → St} {vals : Nat → DV} (hc : CalmOps xc l ops an) (ht : ∀ j, j < l.length → TrOK xc P ops l an sts vals j) (t : Nat) (htl : t < (sts 0).tmps.length) : ∀ i, i ≤ l.length →
    (∀ (j : Nat) (o : Oper), j < i → l[j]? = some o → o.dst = some t → getT (sts i).tmps t = vals j) ∧ ((∀ (j : Nat) (o : Oper), j < i → l[j]? = some o → o.dst ≠ some t) → getT (sts i).tmps t = getT (sts 0).tmps t) := by
  intro i
  induction i with
  | zero => intro _; exact ⟨fun j o hj => by omega, fun _ => rfl⟩
  | succ i ih =>
    intro hi
    obtain ⟨h1, h2⟩ := ih (by omega)
    have hio : l[i]? = some (l[i]'(by omega)) := List.getElem?_eq_getElem _
    have he := (ht i (by omega) _ hio).1
    have hlen := tmps_len ht i (by omega)
    rw [he, getT_put _ _ _ _ (by omega)]
    refine ⟨fun j o hj ho hd => ?_, fun h => ?_⟩
    · by_cases hji : j = i
      · subst hji
        rw [ho] at hio
        injection hio with hio
        rw [← hio, if_pos hd]
      · have hne : (l[i]'(by omega)).dst ≠ some t := fun hd' => hji (hc.dst i j _ o t hio ho hd hd')
        rw [if_neg hne]
        exact h1 j o (by omega) ho hd
    · rw [if_neg (h i _ (by omega) hio)]
      exact h2 (fun j o hj ho => h j o (by omega) ho)
theorem mem_const {xc : Bool} {P : Program} {ops : Array Oper} {l : List Oper} {an : List AS} {sts : Nat → St} {vals : Nat → DV} (ht : ∀ j, j < l.length → TrOK xc P ops l an sts vals j) (m : Nat) : ∀ i, m ≤ i → i ≤ l.length → (∀ (j : Nat) (o : Oper), m ≤ j → j < i → l[j]? = some o → isMem xc o.op = false ∨ freeAt ops j = true) → (sts i).μ = (sts m).μ := by
  intro i
  induction i with
  | zero => intro h _ _; obtain rfl : m = 0 := by omega
            rfl
  | succ i ih =>
    intro h1 h2 h3
    by_cases hm : m = i + 1
    · rw [hm]
    · have hio : l[i]? = some (l[i]'(by omega)) := List.getElem?_eq_getElem _
      have := (ht i (by omega) _ hio).2
      have hnm := h3 i _ (by omega) (by omega) hio
      have hs : (sts (i + 1)).μ = (sts i).μ := by
        rcases this with t | t | t | t
        · exact t.2.2
        · rcases hnm with hnm | hnm
          · rw [hnm] at t; cases t.2.1
          · exact t.2.2.2.2 hnm
        · exact t.2.2.2
        · exact t.2.2.2.2
      rw [hs]
      exact ih (by omega) (by omega) (fun j o a b => h3 j o a (by omega))
end Go.Proofs.YtmhpccchgbdiiaaGreatDoor
