/- The abstract machine, 24: functions that answer rows of their own. -/
import Derived.Test.YtmhpccchgbdiiaaGreatDoorAeV
namespace Go.Proofs.YtmhpccchgbdiiaaGreatDoor
open Go.RowKit

/-- what a function's code has to come to -/
def FPostM (P : Program) (rs : List ResultVar) (d : DV) (ts : List (Option (TypeId × Nat × Nat))) : AX → St → Prop := fun x s' => match x with
  | .norm | .ret => ∃ l, resA P s' rs = some l ∧ oneOrTup l = d ∧ s'.μ.toks = ts
  | _ => False
theorem fpostM_ret {P : Program} {rs : List ResultVar} {s' : St} {l : List DV} {d : DV} {ts : List (Option (TypeId × Nat × Nat))} (h1 : resA P s' rs = some l) (h2 : oneOrTup l = d) (h3 : s'.μ.toks = ts) : FPostM P rs d ts .ret s' := ⟨l, h1, h2, h3⟩
/-- what a function comes to, out of its code -/
theorem pureM_of {P : Program} {f : FuncId} {fn : Func} {c : Code} (hc : Callable P f fn c) {args : List PD} {d : DV} {ts : List (Option (TypeId × Nat × Nat))} {n : Nat} (hn : fn.ntmps = n) {rs : List ResultVar} (hrs : fn.results.toList = rs)
    (h : AWP none P c (FPostM P rs d ts) ⟨args.map .p ++ List.replicate (n - args.length) .undef, ⟨[], [], []⟩⟩) : PureM P f args d ts := by
  refine ⟨⟨fn, c, hc⟩, fun Z w xs hlw hz hx => ?_⟩
  subst hn
  subst hrs
  obtain ⟨G, hG⟩ : ∃ G : Gh, G = ⟨w.heap.size, w, Z, Z, [], [], [], []⟩ := ⟨_, rfl⟩
  have hG0 : gh0 w Z = G := hG.symm
  have hM : MRel G ⟨[], [], []⟩ w := by
    subst hG
    exact ⟨Below.refl _ _, Nat.le_refl _, hz, fun b o h => .inl h, rfl, rfl, fun i j g hi => by simp at hi, fun j B g hB => by simp at hB, fun t e s n ht => by simp at ht, fun t t' a a' x x' g ht => by simp at ht, hlw, ⟨rfl, fun i j g hi => by simp at hi, fun i g a ha => by simp at ha⟩⟩
  have hs : SRel G ⟨args.map .p ++ List.replicate (fn.ntmps - args.length) .undef, ⟨[], [], []⟩⟩ { tmps := xs ++ Array.replicate (fn.ntmps - xs.size) undef, defers := [] } w := by
    refine ⟨by simp [hx.1], fun i d x hd hx' => ?_, by rw [hG], hM⟩
    rcases Nat.lt_or_ge i args.length with hi | hi
    · rw [List.getElem?_append_left (by simpa using hi)] at hd
      simp only [List.getElem?_map, Option.map_eq_some_iff] at hd
      obtain ⟨q, hq, rfl⟩ := hd
      simp only at hx'
      rw [Array.getElem?_append_left (by rw [hx.1]; exact hi)] at hx'
      have := hx.2 i q x hq hx'
      subst hG
      exact .p _ _ this
    · rw [List.getElem?_append_right (by simpa using hi), List.getElem?_replicate] at hd
      split at hd
      · injection hd with hd; subst hd; exact .undef _
      · cases hd
  refine calls_of_wp hc.at_ hc.body (wp_mono (wpIn_wide.1 (h G _ w hs)) ?_)
  rintro e a' w' ⟨x, s', G', h1, h2, h3, h4⟩
  have fin : ∀ (l : List DV), resA P s' fn.results.toList = some l → oneOrTup l = d → s'.μ.toks = ts → a'.defers = [] ∧ ∃ y, (results fn a'.tmps).run P w' = .ok y w' ∧ ∃ x G' μ', Ending.returned y = .returned x ∧ Grw (gh0 w Z) w G' w' ∧ MRel G' μ' w' ∧ μ'.toks = ts ∧ CRel G' w' d x := by
    intro l k1 k2 k3
    obtain ⟨y, q1, q2⟩ := results_run h3 k1
    rw [k2] at q2
    exact ⟨h3.defers.trans (h4.df.trans (by rw [hG])), y, q1, y, G', s'.μ, rfl, by rw [hG0]; exact h4, h3.mem, k3, q2⟩
  cases x <;> cases e <;> first
    | (exact h1.elim; done)
    | (exact h2.elim; done)
    | skip
  · obtain ⟨l, k1, k2, k3⟩ := h2
    exact fin l k1 k2 k3
  · obtain ⟨l, k1, k2, k3⟩ := h2
    exact fin l k1 k2 k3
/-- A FUNCTION that lays one closure which recovers -/
theorem pureM_of_rec {P : Program} {f : FuncId} {fn : Func} {A B : Code} {id : Nat} {o1 o2 : Oper} (hc : Callable P f fn (.seq A (.seq (.region id #[o1, o2] false) B))) {t : Nat} {g : FuncId} {caps : Array Operand}
    (h1 : o1.op = .makeFunc (.func g) #[] caps) (h1d : o1.dst = some t) (h1g : o1.guard = none)
    (h2 : o2.op = .defer { callee := .value (.tmp t), args := #[], argTypes := #[] }) (h2d : o2.dst = none) (h2g : o2.guard = none)
    {args : List PD} {s1 : St} (hA : ∀ Q : AX → St → Prop, Q .norm s1 → AWP none P A Q ⟨args.map .p ++ List.replicate (fn.ntmps - args.length) .undef, ⟨[], [], []⟩⟩) (ht : t < s1.tmps.length)
    {x : AX} {s3 : St} (hB : ∀ Q : AX → St → Prop, Q x s3 → AWP none P B Q ⟨putT s1.tmps (some t) (.fn g (caps.toList.map s1.ev)), s1.μ⟩)
    {pv : Option Value} {μ4 : Mem} (hx : (x = .ret ∧ pv = none) ∨ (∃ v, x = .panic (.p (.v v)) ∧ pv = some v))
    (hrec : RecRun P g (caps.toList.map s1.ev) pv s3.μ μ4) {l : List DV} (hres : resA P ⟨s3.tmps, μ4⟩ fn.results.toList = some l) : PureM P f args (oneOrTup l) μ4.toks := by
  refine ⟨⟨fn, _, hc⟩, fun Z w xs hlw hzz hxs => ?_⟩
  obtain ⟨G, hG⟩ : ∃ G : Gh, G = ⟨w.heap.size, w, Z, Z, [], [], [], []⟩ := ⟨_, rfl⟩
  have hG0 : gh0 w Z = G := hG.symm
  have hM : MRel G ⟨[], [], []⟩ w := by
    subst hG
    exact ⟨Below.refl _ _, Nat.le_refl _, hzz, fun b o h => .inl h, rfl, rfl, fun i j g hi => by simp at hi, fun j B g hB => by simp at hB, fun t e s n ht => by simp at ht, fun t t' a a' x x' g ht => by simp at ht, hlw, ⟨rfl, fun i j g hi => by simp at hi, fun i g a ha => by simp at ha⟩⟩
  have hs : SRel G ⟨args.map .p ++ List.replicate (fn.ntmps - args.length) .undef, ⟨[], [], []⟩⟩ { tmps := xs ++ Array.replicate (fn.ntmps - xs.size) undef, defers := [] } w := by
    refine ⟨by simp [hxs.1], fun i d x hd hx' => ?_, by rw [hG], hM⟩
    rcases Nat.lt_or_ge i args.length with hi | hi
    · rw [List.getElem?_append_left (by simpa using hi)] at hd
      simp only [List.getElem?_map, Option.map_eq_some_iff] at hd
      obtain ⟨q, hq, rfl⟩ := hd
      simp only at hx'
      rw [Array.getElem?_append_left (by rw [hxs.1]; exact hi)] at hx'
      have := hxs.2 i q x hq hx'
      subst hG
      exact .p _ _ this
    · rw [List.getElem?_append_right (by simpa using hi), List.getElem?_replicate] at hd
      split at hd
      · injection hd with hd; subst hd; exact .undef _
      · cases hd
  refine calls_of_wp_defers hc.at_ hc.body ((wpIn_wide (n := 0)).1 ?_)
  show (Code.seq A (.seq (.region id #[o1, o2] false) B)).wpIn (FF none) 0 P _ _ w
  refine wpIn_seq (wpIn_mono (hA (fun y s => y = .norm ∧ s = s1) ⟨rfl, rfl⟩ G _ w hs) ?_)
  rintro e1 a1 w1 ⟨y, s', G1, k1, ⟨rfl, rfl⟩, k3, k4⟩
  cases e1 <;> first | (exact k1.elim; done) | skip
  show (Code.seq (.region id #[o1, o2] false) B).wpIn (FF none) 0 P _ a1 w1
  -- the closure is made, and laid
  have hdf1 : G1.df = [] := by rw [k4.df, hG]
  obtain ⟨vs, hvs⟩ : ∃ vs : Array Value, vs = caps.map a1.eval := ⟨_, rfl⟩
  have hvl : vs.size = (caps.toList.map s'.ev).length := by rw [hvs]; simp
  have hvr : ∀ (i : Nat) (d : DV) (x : Value), (caps.toList.map s'.ev)[i]? = some d → vs[i]? = some x → CRel G1 w1 d x := by
    intro i d x hd hx
    rw [hvs] at hx
    simp only [List.getElem?_map, Option.map_eq_some_iff, Array.getElem?_toList] at hd
    simp only [Array.getElem?_map, Option.map_eq_some_iff] at hx
    obtain ⟨p, hp, rfl⟩ := hd
    obtain ⟨q, hq, rfl⟩ := hx
    rw [hp] at hq; injection hq with hq; subst hq
    exact k3.ev _
  have hwant : ∀ (o : Oper) (a : Act) (ops : Array Oper), o.guard = none → Region.wanted o (yielded ops a.tmps) = true := fun o a ops hg => by simp [Region.wanted, hg]
  refine wpIn_seq (wpIn_region_list (F := FF none) ?_)
  show wpListIn (FF none) 0 P #[o1, o2] _ [o1, o2] a1 w1
  unfold wpListIn
  rw [if_pos (hwant o1 _ _ h1g)]
  have e1 : (execOp a1.eval o1).run P w1 = .ok (.value (.func (.func g) #[] vs)) w1 := by
    unfold execOp
    rw [h1]
    simp [Instr.makeFunc, hvs]
  refine opw_value (fun c hdf => by rw [h1] at hdf; cases hdf) e1 ?_
  rw [h1d]
  have hs2 : SRel G1 ⟨putT s'.tmps (some t) (.fn g (caps.toList.map s'.ev)), s'.μ⟩ (a1.put (some t) (.func (.func g) #[] vs)) w1 := k3.put (Grw.refl _ _) (some t) (.fn g _ vs hvl hvr) k3.mem
  have hta : t < a1.tmps.size := by rw [k3.size]; exact ht
  have hput : (a1.put (some t) (.func (.func g) #[] vs)).eval (.tmp t) = .func (.func g) #[] vs := by simp [Act.put, Act.eval, hta]
  generalize (a1.put (some t) (.func (.func g) #[] vs)) = a2 at hs2 hput
  unfold wpListIn
  rw [if_pos (hwant o2 _ _ h2g)]
  have e2 : (execOp a2.eval o2).run P w1 = .ok (.defer { target := .fn (.func g) vs, args := #[] }) w1 := by
    unfold execOp
    rw [h2]
    simp [resolve, Deferred.ofValue, hput]
  refine opw_defer e2 ?_
  rw [h2d]
  unfold wpListIn
  show B.wpIn (FF none) 0 P _ _ w1
  have hs3 : SRel (G1.dfr [{ target := .fn (.func g) vs, args := #[] }]) ⟨putT s'.tmps (some t) (.fn g (caps.toList.map s'.ev)), s'.μ⟩ ({ a2 with defers := { target := .fn (.func g) vs, args := #[] } :: a2.defers }.put none undef) w1 :=
    ⟨hs2.size, fun i d x hd hx => (hs2.tmp i d x hd hx).dfr _, by
      have : a2.defers = [] := hs2.defers.trans hdf1
      show _ :: a2.defers = _
      rw [this]; rfl, hs2.mem.dfr _⟩
  refine wpIn_mono (hB (fun y s => y = x ∧ s = s3) ⟨rfl, rfl⟩ _ _ w1 hs3) ?_
  rintro e3 a3 w3 ⟨y, s3', G3, q1, ⟨rfl, rfl⟩, q3, q4⟩
  have hd3 : a3.defers = [{ target := .fn (.func g) vs, args := #[] }] := q3.defers.trans q4.df
  have hcg := hrec
  obtain ⟨fng, idg, p1, p2, rest, i, j, hcg, _⟩ := hcg
  have leaves : Leaves P fn a3.tmps (fun e w' => ∃ x G' μ', e = .returned x ∧ Grw (gh0 w Z) w G' w' ∧ MRel G' μ' w' ∧ μ'.toks = μ4.toks ∧ CRel G' w' (oneOrTup l) x) [{ target := .fn (.func g) vs, args := #[] }] (recM pv) w3 := by
    refine leaves_cons (by cases pv <;> simp [recM]) (invoke_fn hcg vs) (callsD_mono (recD q3.mem hvl (fun i d x hd hx => ((hvr i d x hd hx).dfr _).grw q4) hrec) ?_)
    rintro e u w4 ⟨rfl, hu, G4, m1, m2⟩
    simp only [hu]
    have hs4 : SRel G4 ⟨s3'.tmps, μ4⟩ a3 w4 := ⟨q3.size, fun i d x hd hx => (q3.tmp i d x hd hx).grw m2, q3.defers.trans m2.df.symm, m1⟩
    obtain ⟨z, z1, z2⟩ := results_run hs4 hres
    have gt : Grw G w (G4.dfr G.df) w4 := by
      have g1 : Grw G1 w1 (G4.dfr G1.df) w4 := (q4.trans m2).back
      have g2 := k4.trans g1
      exact ⟨g2.base, g2.w0, g2.z0, g2.z, g2.cell, g2.bs, g2.tv, g2.mps, rfl, g2.hsz, g2.oth, g2.mnew⟩
    refine ⟨z, z1, z, G4.dfr G.df, μ4, rfl, ?_, m1.dfr _, rfl, z2.dfr _⟩
    rw [hG0]; exact gt
  rcases hx with ⟨rfl, rfl⟩ | ⟨pvv, rfl, rfl⟩
  · cases e3 <;> first | (exact q1.elim; done) | skip
    show Leaves P fn a3.tmps _ a3.defers .returning w3
    rw [hd3]; exact leaves
  · cases e3 <;> first | (exact q1.elim; done) | skip
    obtain ⟨pw, rfl, hp⟩ := q1
    cases hp with
    | p d x hp =>
    cases hp
    show Leaves P fn a3.tmps _ a3.defers (.panicking _) w3
    rw [hd3]; exact leaves
end Go.Proofs.YtmhpccchgbdiiaaGreatDoor
