/- The abstract machine, 16: a statement whose order is open: THE LAW. -/
import Derived.Test.YtmhpccchgbdiiaaGreatDoorAeG
namespace Go.Proofs.YtmhpccchgbdiiaaGreatDoor
open Go.RowKit

theorem getD_set {listed : Array Bool} {i j : Nat} (hi : i < listed.size) : (listed.setIfInBounds i true).getD j true = if j = i then true else listed.getD j true := by
  by_cases h : j = i
  · subst h; rw [if_pos rfl]; simp [hi]
  · rw [if_neg h, getD_set_ne true (Ne.symm h)]
/-- what an operation sees when it comes up -/
theorem DInv.sees {xc : Bool} {P : Program} {l : List Oper} {ops : Array Oper} {an : List AS} (hc : CalmOps xc l ops an) {sts : Nat → St} {vals : Nat → DV} (ht : ∀ j, j < l.length → TrOK xc P ops l an sts vals j) {G0 : Gh} {w0 : World} {listed : Array Bool} {a : Act} {w : World} (hI : DInv xc l sts vals G0 w0 listed a w)
    {i : Nat} {o : Oper} (ho : l[i]? = some o) (hu : listed.getD i true = false) (hd : ∀ j ∈ dirs o, listed.getD j true = true)
    {G : Gh} {μ : Mem} (hm : MRel G μ w)
    (h5 : ∀ (t : Nat) (x : Value), a.tmps[t]? = some x → (∀ (j : Nat) (o : Oper), l[j]? = some o → listed.getD j true = true → o.dst = some t → CRel G w (vals j) x) ∧ ((∀ (j : Nat) (o : Oper), l[j]? = some o → listed.getD j true = true → o.dst ≠ some t) → CRel G w (getT (sts 0).tmps t) x)) (h3 : a.defers = G.df) (h4 : a.tmps.size = (sts 0).tmps.length) :
    SRel G ⟨maskT (readsOf ops o) 0 (sts i).tmps, μ⟩ a w := by
  have hil : i < l.length := (List.getElem?_eq_some_iff.1 ho).1
  have hlen := tmps_len ht i (by omega)
  refine ⟨by rw [maskT_length, hlen, h4], fun t d x hdt hxt => ?_, h3, hm⟩
  rcases maskT_get' _ _ _ _ _ hdt with rfl | ⟨hr, hdt⟩
  · exact .undef x
  · rw [Nat.zero_add] at hr
    have htl : t < (sts 0).tmps.length := by
      have := (List.getElem?_eq_some_iff.1 hdt).1
      rw [hlen] at this; exact this
    have hdv : getT (sts i).tmps t = d := by rw [getT_get, hdt]; rfl
    obtain ⟨s1, s2⟩ := slot_text hc ht t htl i (by omega)
    obtain ⟨q1, q2⟩ := h5 t x hxt
    by_cases hex : ∃ (j : Nat) (p : Oper), l[j]? = some p ∧ p.dst = some t ∧ j < i
    · obtain ⟨j, p, hp, hpd, hji⟩ := hex
      rw [← hdv, s1 j p hji hp hpd]
      refine q1 j p hp ?_ hpd
      rcases hc.read i j o p t ho hp hpd hr with h | h | h
      · omega
      · exact anc_listed hc hI.closed hI.size (i + 1) i o (by omega) ho hd j h.2
      · omega
    · rw [← hdv, s2 fun j p hj hp hpd => hex ⟨j, p, hp, hpd, hj⟩]
      refine q2 fun j p hp hj hpd => ?_
      have hpl : j < l.length := (List.getElem?_eq_some_iff.1 hp).1
      rcases hc.read i j o p t ho hp hpd hr with h | h | h
      · subst h; rw [hu] at hj; cases hj
      · exact hex ⟨j, p, hp, hpd, h.1⟩
      · have := anc_listed hc hI.closed hI.size (j + 1) j p (by omega) hp (hI.closed j p hp hj) i h.2
        rw [hu] at this; cases this
theorem operands_reads {ops : Array Oper} {o : Oper} {t : Tmp} (h : Operand.tmp t ∈ o.op.operands) : t ∈ readsOf ops o := by
  unfold readsOf Oper.looksAt
  refine List.mem_append.2 (.inl (List.mem_filterMap.2 ⟨.tmp t, by simpa using h, rfl⟩))
theorem mask_ev {ops : Array Oper} {o : Oper} {l : List DV} {μ μ' : Mem} : ∀ x ∈ o.op.operands, (⟨maskT (readsOf ops o) 0 l, μ⟩ : St).ev x = (⟨l, μ'⟩ : St).ev x := by
  intro x hx
  cases x with
  | tmp t =>
    show getT _ t = getT _ t
    exact getT_mask _ 0 l t (by rw [Nat.zero_add]; exact operands_reads hx)
  | _ => rfl
theorem mask_want {ops : Array Oper} {o : Oper} {l : List DV} {μ μ' : Mem} : wantA ops o ⟨maskT (readsOf ops o) 0 l, μ⟩ = wantA ops o ⟨l, μ'⟩ := by
  unfold wantA
  cases hg : o.guard with
  | none => rfl
  | some p =>
    obtain ⟨j, want⟩ := p
    simp only
    cases hb : (ops[j]?).bind (·.dst) with
    | none => rfl
    | some t =>
      have : t ∈ readsOf ops o := by
        unfold readsOf Oper.looksAt
        refine List.mem_append.2 (.inr ?_)
        rw [hg]
        simp only [hb]
        simp
      simp only
      rw [getT_mask _ 0 l t (by rw [Nat.zero_add]; exact this)]
theorem pcall_mask {P : Program} {ops : Array Oper} {o : Oper} {l : List DV} {μ μ' : Mem} {d : DV} (tp : PCall P o ⟨l, μ'⟩ d) : PCall P o ⟨maskT (readsOf ops o) 0 l, μ⟩ d := by
  obtain ⟨co, cargs, cts, f, caps, pargs, v, k1, k2, k3, k4, k5⟩ := tp
  have hops : ∀ x, x = co ∨ x ∈ cargs.toList → (⟨maskT (readsOf ops o) 0 l, μ⟩ : St).ev x = (⟨l, μ'⟩ : St).ev x := fun x hx => mask_ev x (by
    rw [k1]
    simp only [Op.operands, Call.operands, Array.mem_append, List.mem_toArray, List.mem_cons, List.not_mem_nil, or_false]
    rcases hx with rfl | hx
    · exact .inl rfl
    · exact .inr (by simpa using hx))
  refine ⟨co, cargs, cts, f, caps, pargs, v, k1, by rw [hops co (.inl rfl)]; exact k2, ?_, k4, k5⟩
  rw [show cargs.toList.map (⟨maskT (readsOf ops o) 0 l, μ⟩ : St).ev = cargs.toList.map (⟨l, μ'⟩ : St).ev from List.map_congr_left fun x hx => hops x (.inr hx)]
  exact k3
theorem ld_keeps {P : Program} {o : Oper} (h : isLd o.op = true) {s : St} {d : DV} {μ' : Mem} (he : evOp P o s = some (d, μ')) : μ' = s.μ := by
  obtain ⟨dst, op, ty, pos, after, guard⟩ := o
  cases op <;> simp only [isLd, Bool.false_eq_true] at h
  all_goals
    unfold evOp at he
    exact (keep_some he).2
/-- a load that waited -/
theorem ld_later {xc : Bool} {P : Program} {l : List Oper} {ops : Array Oper} {an : List AS} {sts : Nat → St} {vals : Nat → DV} (ht : ∀ j, j < l.length → TrOK xc P ops l an sts vals j)
    {i : Nat} {o : Oper} (ho : l[i]? = some o) (hl : isLd o.op = true) (hw : wantA ops o (sts i) = some true) {listed : Array Bool} (hcl : ∀ j p, l[j]? = some p → listed.getD j true = true → ∀ k ∈ (an[j]?).getD ⟨0⟩, listed.getD k true = true) (hu : listed.getD i true = false)
    {m : Nat} (hml : m ≤ l.length) (hmem : ∀ (j : Nat) (o : Oper), l[j]? = some o → isMem xc o.op = true → (listed.getD j true = true ↔ j < m)) (h0 : evOp P o (sts i) = some (vals i, (sts i).μ)) :
    ∀ k, i ≤ k → k ≤ m → evOp P o ⟨(sts i).tmps, (sts k).μ⟩ = some (vals i, (sts k).μ) := by
  intro k
  induction k with
  | zero => intro h1 _; obtain rfl : i = 0 := by omega
            exact h0
  | succ k ih =>
    intro h1 h2
    by_cases hik : i = k + 1
    · subst hik; exact h0
    · have ih' := ih (by omega) (by omega)
      have hko : l[k]? = some (l[k]'(by omega)) := List.getElem?_eq_getElem _
      rcases (ht k (by omega) _ hko).2 with t | t | t | t
      · rw [t.2.2]; exact ih'
      · obtain ⟨t1, t2, t3, t4⟩ := t
        by_cases hki : i = k
        · subst hki
          rw [ho] at hko; injection hko with hko; subst hko
          rw [isLd_notMem hl] at t2; cases t2
        · refine t4.1 i o (by omega) ho hl hw ?_
          cases hcn : ((an[k]?).getD ⟨0⟩).contains i with
          | false => rfl
          | true =>
            have := hcl k _ hko ((hmem k _ hko t2).2 (by omega)) i (AS.mem_iff.1 hcn)
            rw [hu] at this; cases this
      · rw [t.2.2.2]; exact ih'
      · rw [t.2.2.2.2]; exact ih'

/-- one step, whichever -/
theorem draw_step {ro : Option Nat} {xc : Bool} {P : Program} {l : List Oper} {ops : Array Oper} (hl : ops.toList = l) {an : List AS} (hc : CalmOps xc l ops an) {sts : Nat → St} {vals : Nat → DV} (ht : ∀ j, j < l.length → TrOK xc P ops l an sts vals j) {G0 : Gh} {w0 : World} {listed : Array Bool} {a : Act} {w : World} (hI : DInv xc l sts vals G0 w0 listed a w)
    {i : Nat} {o : Oper} (ho : l[i]? = some o) (hu : listed.getD i true = false) (hd : ∀ j ∈ dirs o, listed.getD j true = true)
    {K : Act → World → Prop} {Q : Exit → Act → World → Prop} (hK : ∀ a' w', DInv xc l sts vals G0 w0 (listed.setIfInBounds i true) a' w' → K a' w') : wpOpIn (FF ro) 0 P ops Q i K a w := by
  have hil : i < l.length := (List.getElem?_eq_some_iff.1 ho).1
  have hiz : i < listed.size := by rw [hI.size]; exact hil
  have hoa : ops[i]? = some o := by rw [← Array.getElem?_toList, hl]; exact ho
  have hancl : ∀ j p, l[j]? = some p → listed.getD j true = true → ∀ k ∈ (an[j]?).getD ⟨0⟩, listed.getD k true = true := fun j p hp hj k hk => anc_listed hc hI.closed hI.size (j + 1) j p (by omega) hp (hI.closed j p hp hj) k hk
  have hanc : ∀ j ∈ (an[i]?).getD ⟨0⟩, listed.getD j true = true := anc_listed hc hI.closed hI.size (i + 1) i o (by omega) ho hd
  have hst := hI.state
  obtain ⟨G, m, h1, h2, h3, h4, h5, h6, h7⟩ := hst
  have sees : ∀ μ, MRel G μ w → SRel G ⟨maskT (readsOf ops o) 0 (sts i).tmps, μ⟩ a w := fun μ hm => hI.sees hc ht ho hu hd hm h5 h3 h4
  -- memory operations before stand behind
  have hbefore : (isMem xc o.op = true ∨ isLd o.op = true) → ∀ (j : Nat) (p : Oper), m ≤ j → j < i → l[j]? = some p → isMem xc p.op = false ∨ (isLd o.op = true ∧ freeAt ops j = true) := by
    intro hml j p hmj hji hp
    cases hpm : isMem xc p.op with
    | false => exact .inl rfl
    | true =>
      rcases hc.mem i j o p ho hp hji hpm hml with ha | ha
      · have := hanc j ha
        rw [h7 j p hp hpm] at this
        omega
      · exact .inr ha
  have hmi : isMem xc o.op = true → m ≤ i := by
    intro hm
    have := h7 i o ho hm
    rw [hu] at this
    rcases Nat.lt_or_ge i m with h | h
    · exact absurd (this.2 h) (by simp)
    · exact h
  -- the new count of memory operations
  have hm1 : isMem xc o.op = true → ∀ (j : Nat) (p : Oper), l[j]? = some p → isMem xc p.op = true → ((j = i ∨ listed.getD j true = true) ↔ j < i + 1) := by
    intro hm j p hp hpm
    rw [h7 j p hp hpm]
    have hle := hmi hm
    constructor
    · rintro (rfl | h) <;> omega
    · intro h
      by_cases hji : j = i
      · exact .inl hji
      · right
        rcases Nat.lt_or_ge j m with hjm | hjm
        · exact hjm
        · have := hbefore (.inl hm) j p hjm (by omega) hp
          rcases this with this | this
          · rw [hpm] at this; cases this
          · rw [isLd_notMem this.1] at hm; cases hm
  have hm0 : isMem xc o.op = false → ∀ (j : Nat) (p : Oper), l[j]? = some p → isMem xc p.op = true → ((j = i ∨ listed.getD j true = true) ↔ j < m) := by
    intro hm j p hp hpm
    rw [← h7 j p hp hpm]
    constructor
    · rintro (rfl | h)
      · rw [ho] at hp; injection hp with hp; subst hp; rw [hm] at hpm; cases hpm
      · exact h
    · exact .inr
  have hμ : isMem xc o.op = true → (sts i).μ = (sts m).μ := fun hm => mem_const ht m i (hmi hm) (by omega) (fun j p a b c => (hbefore (.inl hm) j p a b c).imp id (·.2))
  have fin : ∀ {G1 : Gh} {w1 : World} {x : Value}, Grw G w G1 w1 → CRel G1 w1 (vals i) x → (∃ m1, MRel G1 (sts m1).μ w1 ∧ m1 ≤ l.length ∧ (∀ (j : Nat) (p : Oper), l[j]? = some p → isMem xc p.op = true → ((j = i ∨ listed.getD j true = true) ↔ j < m1))) → K (a.put o.dst x) w1 := by
    intro G1 w1 x q1 q2 q3
    obtain ⟨m1, r1, r2, r3⟩ := q3
    have hgd : ∀ j, (listed.setIfInBounds i true).getD j true = true ↔ (j = i ∨ listed.getD j true = true) := fun j => by
      rw [getD_set hiz]
      by_cases h : j = i <;> simp [h]
    refine hK _ _ ⟨by simp [hI.size], fun j p hp hj k hk => ?_, G1, m1, h1.trans q1, r1, ?_, ?_, fun t y hy => ?_, r2, fun j p hp hm => by rw [hgd]; exact r3 j p hp hm⟩
    · rw [hgd] at hj ⊢
      rcases hj with rfl | hj
      · rw [ho] at hp; injection hp with hp; subst hp
        exact .inr (hd k hk)
      · exact .inr (hI.closed j p hp hj k hk)
    · cases hdst : o.dst <;> simp [Act.put, h3, q1.df]
    · cases hdst : o.dst <;> simp [Act.put, h4]
    · have old : (∀ y, a.tmps[t]? = some y → o.dst ≠ some t → (∀ (j : Nat) (p : Oper), l[j]? = some p → (listed.setIfInBounds i true).getD j true = true → p.dst = some t → CRel G1 w1 (vals j) y) ∧ ((∀ (j : Nat) (p : Oper), l[j]? = some p → (listed.setIfInBounds i true).getD j true = true → p.dst ≠ some t) → CRel G1 w1 (getT (sts 0).tmps t) y)) := by
        intro y hy hne
        obtain ⟨q1', q2'⟩ := h5 t y hy
        refine ⟨fun j p hp hj hpd => ?_, fun hall => (q2' fun j p hp hj => hall j p hp ((hgd j).2 (.inr hj))).grw q1⟩
        rcases (hgd j).1 hj with rfl | hj
        · rw [ho] at hp; injection hp with hp; subst hp
          exact absurd hpd hne
        · exact (q1' j p hp hj hpd).grw q1
      cases hdst : o.dst with
      | none => rw [hdst] at hy; exact old y hy (by rw [hdst]; simp)
      | some k =>
        rw [hdst] at hy
        by_cases hkt : k = t
        · subst hkt
          have hkz : k < a.tmps.size := by
            have := (Array.getElem?_eq_some_iff.1 hy).1
            simpa [Act.put] using this
          simp only [Act.put] at hy
          rw [Array.getElem?_setIfInBounds_self_of_lt hkz] at hy
          injection hy with hy; subst hy
          refine ⟨fun j p hp hj hpd => ?_, fun hall => absurd hdst (hall i o ho ((hgd i).2 (.inl rfl)))⟩
          have hji : j = i := hc.dst i j o p k ho hp hpd hdst
          subst hji
          exact q2
        · simp only [Act.put] at hy
          rw [Array.getElem?_setIfInBounds_ne hkt] at hy
          exact old y hy (by rw [hdst]; simpa using hkt)
  have skipm : (sts (i + 1)).μ = (sts i).μ → ∃ m1, MRel G (sts m1).μ w ∧ m1 ≤ l.length ∧ (∀ (j : Nat) (p : Oper), l[j]? = some p → isMem xc p.op = true → ((j = i ∨ listed.getD j true = true) ↔ j < m1)) := by
    intro hsk
    cases hm : isMem xc o.op with
    | true => exact ⟨i + 1, by rw [hsk, hμ hm]; exact h2, by omega, hm1 hm⟩
    | false => exact ⟨m, h2, h6, hm0 hm⟩
  have gives : ∀ {d : DV} {μ' : Mem} {μ : Mem}, MRel G μ w → d = vals i → evOp P o ⟨(sts i).tmps, μ⟩ = some (d, μ') → wantA ops o (sts i) = some true → (∀ G1 w1, MRel G1 μ' w1 → ∃ m1, MRel G1 (sts m1).μ w1 ∧ m1 ≤ l.length ∧ (∀ (j : Nat) (p : Oper), l[j]? = some p → isMem xc p.op = true → ((j = i ∨ listed.getD j true = true) ↔ j < m1))) → o.wpIn (FF ro) 0 P a w K Q := by
    intro d μ' μ hM hd he hw hmm
    subst hd
    have hs := sees μ hM
    have hcg : evOp P o ⟨maskT (readsOf ops o) 0 (sts i).tmps, μ⟩ = evOp P o ⟨(sts i).tmps, μ⟩ := evOp_congr rfl mask_ev
    have he' := hcg.trans he
    obtain ⟨w1, G1, v, hr, hcr, hmr, hgr⟩ := evOp_sound he' hs
    rcases hr with hr | ⟨hr, rfl⟩
    · exact opw_value (evOp_nodefer he) hr (fin hgr hcr (hmm G1 w1 hmr))
    · exact opw_skip (evOp_nodefer he) hr (fin hgr hcr (hmm G1 w1 hmr))
  obtain ⟨t0, t⟩ := ht i hil o ho
  unfold wpOpIn
  rw [hoa]
  simp only
  rcases t with ⟨tw, tv, tm⟩ | ⟨tw, tm, te, _⟩ | ⟨tw, tm, ⟨μ', te⟩, tμ⟩ | ⟨tw, hnm, tn, tp, tμ⟩
  · have hs := sees (sts m).μ h2
    have hw : Region.wanted o (yielded ops a.tmps) = false := wantA_sound (by rw [mask_want (μ' := (sts i).μ)]; exact tw) hs
    rw [if_neg (by rw [hw]; simp)]
    exact ⟨fun _ _ => trivial, fin (Grw.refl G w) (by rw [tv]; exact .p _ _ (.v _)) (skipm tm)⟩
  · have hs := sees (sts m).μ h2
    have hw : Region.wanted o (yielded ops a.tmps) = true := wantA_sound (by rw [mask_want (μ' := (sts i).μ)]; exact tw) hs
    rw [if_pos hw]
    rcases te with te | ⟨_, te⟩
    · exact gives (μ := (sts i).μ) (by rw [hμ tm]; exact h2) rfl te tw fun G1 w1 hmr => ⟨i + 1, hmr, by omega, hm1 tm⟩
    · have hs2 := sees (sts i).μ (by rw [hμ tm]; exact h2)
      rcases te with te | ⟨te, teμ⟩
      · have hp : ICall0 P o ⟨maskT (readsOf ops o) 0 (sts i).tmps, (sts i).μ⟩ (vals i) ((sts (i + 1)).μ) := by
          obtain ⟨co, cargs, cts, f, caps, fn, c, k1, k2, k3, k4⟩ := te
          have hops : ∀ x, x = co ∨ x ∈ cargs.toList → (⟨maskT (readsOf ops o) 0 (sts i).tmps, (sts i).μ⟩ : St).ev x = (sts i).ev x := fun x hx => mask_ev x (by
            rw [k1]
            simp only [Op.operands, Call.operands, Array.mem_append, List.mem_toArray, List.mem_cons, List.not_mem_nil, or_false]
            rcases hx with rfl | hx
            · exact .inl rfl
            · exact .inr (by simpa using hx))
          refine ⟨co, cargs, cts, f, caps, fn, c, k1, by rw [hops co (.inl rfl)]; exact k2, k3, ?_⟩
          rw [show cargs.toList.map (⟨maskT (readsOf ops o) 0 (sts i).tmps, (sts i).μ⟩ : St).ev = cargs.toList.map (sts i).ev from List.map_congr_left fun x hx => hops x (.inr hx)]
          exact k4
        exact icall_wp hs2 hp fun x w1 G1 q1 q2 q3 => fin q3 q1 ⟨i + 1, q2, by omega, hm1 tm⟩
      · exact call_wp hs2 (pcall_mask (μ' := (sts i).μ) te) fun x w1 G1 q1 q2 q3 => fin q3 q1 ⟨i + 1, by rw [teμ]; exact q2, by omega, hm1 tm⟩
  · have hs := sees (sts m).μ h2
    have hw : Region.wanted o (yielded ops a.tmps) = true := wantA_sound (by rw [mask_want (μ' := (sts i).μ)]; exact tw) hs
    rw [if_pos hw]
    have key : evOp P o ⟨(sts i).tmps, (sts m).μ⟩ = some (vals i, (sts m).μ) := by
      cases hld : isLd o.op with
      | false => exact (evOp_nomem tm hld te).2 _
      | true =>
        obtain rfl := ld_keeps hld te
        rcases Nat.lt_or_ge i m with him | him
        · exact ld_later ht ho hld tw hancl hu h6 h7 te m (by omega) (Nat.le_refl _)
        · have := mem_const ht m i him (by omega) (fun j p a b c => (hbefore (.inr hld) j p a b c).imp id (·.2))
          rw [← this]; exact te
    exact gives h2 rfl key tw fun G1 w1 hmr => ⟨m, hmr, h6, hm0 tm⟩
  · have hs := sees (sts m).μ h2
    have hw : Region.wanted o (yielded ops a.tmps) = true := wantA_sound (by rw [mask_want (μ' := (sts i).μ)]; exact tw) hs
    rw [if_pos hw]
    have hp : PCall P o ⟨maskT (readsOf ops o) 0 (sts i).tmps, (sts m).μ⟩ (vals i) := pcall_mask (μ' := (sts i).μ) tp
    exact call_wp hs hp fun x w1 G1 q1 q2 q3 => fin q3 q1 ⟨m, q2, h6, hm0 hnm⟩

theorem draw_any {ro : Option Nat} {xc : Bool} {P : Program} {l : List Oper} {ops : Array Oper} (hl : ops.toList = l) {an : List AS} (hc : CalmOps xc l ops an) {sts : Nat → St} {vals : Nat → DV} (ht : ∀ j, j < l.length → TrOK xc P ops l an sts vals j) {G0 : Gh} {w0 : World} {Q : Exit → Act → World → Prop}
    (hQ : ∀ listed a w, DInv xc l sts vals G0 w0 listed a w → (∀ j, listed.getD j true = true) → Q .normal a w) :
    ∀ (fuel : Nat) (listed : Array Bool) (a : Act) (w : World), DInv xc l sts vals G0 w0 listed a w → (List.range l.length).countP (fun j => !listed.getD j true) ≤ fuel → wpAnyIn (FF ro) 0 P .any ops Q fuel listed a w := by
  have hsz : ops.size = l.length := by rw [← hl]; simp
  have nothing : ∀ (listed : Array Bool), listed.size = l.length → Region.ready .any ops listed = [] → ∀ j, listed.getD j true = true := by
    intro listed hz hr
    have : ∀ n j, j < n → listed.getD j true = true := by
      intro n
      induction n with
      | zero => intro j h; omega
      | succ n ih =>
        intro j hj
        rcases Nat.lt_or_ge j n with h | h
        · exact ih j h
        · obtain rfl : j = n := by omega
          cases hu : listed.getD j true with
          | true => rfl
          | false =>
            have hjl : j < l.length := by
              rcases Nat.lt_or_ge j l.length with h | h
              · exact h
              · simp [Array.getElem?_eq_none (show listed.size ≤ j by omega)] at hu
            have hjo : l[j]? = some l[j] := List.getElem?_eq_getElem hjl
            have : j ∈ Region.ready .any ops listed := mem_ready.2 ⟨hu, l[j], by rw [← Array.getElem?_toList, hl]; exact hjo, fun e he hb => by
              have hdir : e.on ∈ dirs l[j] := List.mem_map.2 ⟨e, List.mem_filter.2 ⟨by simpa using he, hb⟩, rfl⟩
              have hlt := hc.dir j _ hjo _ hdir
              have hk := ih e.on hlt
              have hklt : e.on < listed.size := by omega
              simpa [hklt] using hk⟩
            rw [hr] at this
            cases this
    exact fun j => this (j + 1) j (by omega)
  intro fuel
  induction fuel with
  | zero =>
    intro listed a w hI hcount
    have hall : ∀ j, listed.getD j true = true := by
      intro j
      rcases Nat.lt_or_ge j l.length with h | h
      · have := List.countP_eq_zero.1 (Nat.le_zero.1 hcount) j (by simpa using h)
        simpa using this
      · simp [Array.getElem?_eq_none (show listed.size ≤ j by rw [hI.size]; exact h)]
    refine ⟨?_, hQ listed a w hI hall⟩
    cases hr : Region.ready .any ops listed with
    | nil => rfl
    | cons j r =>
      have : j ∈ Region.ready .any ops listed := by rw [hr]; exact List.mem_cons_self
      rw [mem_ready] at this
      rw [hall j] at this
      cases this.1
  | succ fuel ih =>
    intro listed a w hI hcount
    refine ⟨fun hr => hQ listed a w hI (nothing listed hI.size hr), fun i hi => ?_⟩
    obtain ⟨hu, o, ho, hdd⟩ := mem_ready.1 hi
    have hol : l[i]? = some o := by rw [← hl, Array.getElem?_toList]; exact ho
    have hil : i < l.length := (List.getElem?_eq_some_iff.1 hol).1
    refine draw_step hl hc ht hI hol hu (fun j hj => ?_) (fun a' w' hI' => ih _ a' w' hI' ?_)
    · obtain ⟨e, he, rfl⟩ := List.mem_map.1 hj
      obtain ⟨he1, he2⟩ := List.mem_filter.1 he
      have := hdd e (by simpa using he1) he2
      have hlt : e.on < listed.size := by
        rcases Nat.lt_or_ge e.on listed.size with h | h
        · exact h
        · simp [Array.getElem?_eq_none h] at this
      simpa [hlt] using this
    · have hiz : i < listed.size := by rw [hI.size]; exact hil
      have := countP_less (l := List.range l.length) (p := fun j => !listed.getD j true) (p' := fun j => !(listed.setIfInBounds i true).getD j true) (fun j _ hj => by
        rw [getD_set hiz] at hj
        by_cases h : j = i
        · simp [h] at hj
        · rwa [if_neg h] at hj) ⟨i, by simpa using hil, by simp only [hu]; rfl, by rw [getD_set hiz]; simp⟩
      omega

theorem awp_draw {ro : Option Nat} {xc : Bool} {P : Program} {Q : AX → St → Prop} {s : St} {id : Nat} {l : List Oper} (hm : P.follows .mixedOrders = true) (hc : calm xc l.toArray = true) (h : drawQ xc P l.toArray Q 0 l (ancs l) [] s) : AWP ro P (.region id l.toArray true) Q s := by
  intro G a w hs
  have hC := calm_of hc
  rw [List.toList_toArray] at hC
  obtain ⟨sts, vals, e0, ht, hq⟩ := trace_of (P := P) (ops := l.toArray) (Q := Q) (l := l) (an := ancs l) (by simp) l (ancs l) 0 [] (fun _ => s) (fun _ => .undef) (fun k => by simp) (fun k => by simp) h (fun j hj => by omega) (fun j oj hj => by omega)
  rw [Nat.zero_add] at ht hq
  have e0 : sts 0 = s := e0
  refine wpIn_region_any hm ?_
  have hdr : Below w.heap.size w { w with drawn := w.drawn + 1 } := ?_
  have hI : DInv xc l sts vals G w (Array.replicate l.toArray.size false) a { w with drawn := w.drawn + 1 } := by
    have g1 : Grw G w (G.grown w { w with drawn := w.drawn + 1 }) { w with drawn := w.drawn + 1 } := Grw.below hs.mem.zlt hdr
    have getf : ∀ j, j < l.length → (Array.replicate l.toArray.size false).getD j true = false := fun j hj => by simp [hj]
    refine ⟨by simp, fun i o ho hi => ?_, _, 0, g1, by rw [e0]; exact hs.mem.below hdr, hs.defers, by rw [e0]; exact hs.size, fun t x hx => ⟨fun j o ho hj => ?_, fun _ => ?_⟩, Nat.zero_le _, fun j o ho _ => ⟨fun hj => ?_, fun hj => by omega⟩⟩
    · rw [getf i (List.getElem?_eq_some_iff.1 ho).1] at hi; cases hi
    · rw [getf j (List.getElem?_eq_some_iff.1 ho).1] at hj; cases hj
    · have htl : t < s.tmps.length := by rw [← hs.size]; exact (Array.getElem?_eq_some_iff.1 hx).1
      rw [e0, getT_get, List.getElem?_eq_getElem htl]
      exact (hs.tmp t _ x (List.getElem?_eq_getElem htl) hx).grw g1
    · rw [getf j (List.getElem?_eq_some_iff.1 ho).1] at hj; cases hj
  refine draw_any (by simp) hC ht (fun listed a' w' hI' hall => ?_) _ _ _ _ hI ?_
  · obtain ⟨G1, m, h1, h2, h3, h4, h5, h6, h7⟩ := hI'.state
    have hmm : (sts l.length).μ = (sts m).μ := mem_const ht m l.length h6 (Nat.le_refl _) fun j o hmj hj ho => by
      cases hmo : isMem xc o.op with
      | false => exact .inl rfl
      | true =>
        have := (h7 j o ho hmo).1 (hall j)
        omega
    refine ⟨.norm, sts l.length, G1, trivial, hq, ⟨by rw [h4, tmps_len ht _ (Nat.le_refl _)], fun t d x hd hx => ?_, h3, by rw [hmm]; exact h2⟩, h1⟩
    have htl : t < (sts 0).tmps.length := by
      have := (List.getElem?_eq_some_iff.1 hd).1
      rwa [tmps_len ht _ (Nat.le_refl _)] at this
    have hdv : getT (sts l.length).tmps t = d := by rw [getT_get, hd]; rfl
    obtain ⟨s1, s2⟩ := slot_text hC ht t htl l.length (Nat.le_refl _)
    obtain ⟨q1, q2⟩ := h5 t x hx
    rw [← hdv]
    by_cases hex : ∃ (j : Nat) (p : Oper), l[j]? = some p ∧ p.dst = some t
    · obtain ⟨j, p, hp, hpd⟩ := hex
      rw [s1 j p (List.getElem?_eq_some_iff.1 hp).1 hp hpd]
      exact q1 j p hp (hall j) hpd
    · rw [s2 fun j p _ hp hpd => hex ⟨j, p, hp, hpd⟩]
      exact q2 fun j p hp _ hpd => hex ⟨j, p, hp, hpd⟩
  · refine Nat.le_trans List.countP_le_length ?_
    simp
  · exact ⟨rfl, rfl, rfl, Nat.le_refl _, fun _ _ => rfl⟩
end Go.Proofs.YtmhpccchgbdiiaaGreatDoor
