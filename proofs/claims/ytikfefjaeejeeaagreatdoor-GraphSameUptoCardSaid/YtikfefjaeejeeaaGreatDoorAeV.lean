/- The abstract machine, 21: functions that recover. -/
import Derived.Test.YtikfefjaeejeeaaGreatDoorAeT
import Derived.Recover
import Derived.Defers
namespace Go.Proofs.YtikfefjaeejeeaaGreatDoor
open Go.RowKit

/-- what recover answers -/
def recV : Option Value → Value
  | none => .nilIface
  | some v => v
def recM : Option Value → FrameMode
  | none => .returning
  | some v => .panicking [{ v, recovered := false }]
/-- a closure that begins with 'x := recover()', run to its end -/
def RecRun (P : Program) (g : FuncId) (caps : List DV) (pv : Option Value) (μ μ2 : Mem) : Prop :=
  ∃ (fn : Func) (id : Nat) (o1 o2 : Oper) (rest : Code) (i j : Nat), Callable P g fn (.seq (.region id #[o1, o2] false) rest) ∧ fn.results = #[] ∧
    o1.op = .call { callee := .builtin .recover, args := #[], argTypes := #[] } ∧ o1.dst = some i ∧ o1.guard = none ∧ o2.op = .assign (.tmp i) ∧ o2.dst = some j ∧ o2.guard = none ∧
    i < fn.ntmps ∧ caps.length ≤ fn.ntmps ∧
    ∀ Q : AX → St → Prop, (∀ s', s'.μ = μ2 → Q .norm s' ∧ Q .ret s') → AWP none P rest Q ⟨putT (putT (caps ++ List.replicate (fn.ntmps - caps.length) .undef) (some i) (.p (.v (recV pv)))) (some j) (.p (.v (recV pv))), μ⟩
theorem opsS_rec {P : Program} {ops : Array Oper} {Q : Exit → Act → List Frame → World → Prop} {i : Nat} {r : List Nat} {o : Oper} {a : Act} {cs : List Frame} {w : World} (ho : ops[i]? = some o) (hg : Region.wanted o (yielded ops a.tmps) = true) (hr : (execOp a.eval o).run P w = .ok .recover w) :
    wpOpsS P ops Q (i :: r) a cs w = (match recoverD cs with | some (v, cs') => wpOpsS P ops Q r (a.put o.dst v) cs' w | none => wpOpsS P ops Q r (a.put o.dst .nilIface) cs w) := by
  rw [wpOpsS, ho]
  simp only
  rw [if_pos hg, hr]
  rfl
theorem recD {P : Program} {G : Gh} {w : World} {g : FuncId} {caps : List DV} {vs : Array Value} {pv : Option Value} {μ μ2 : Mem} (hM : MRel G μ w) (hl : vs.size = caps.length) (hv : ∀ (i : Nat) (d : DV) (x : Value), caps[i]? = some d → vs[i]? = some x → CRel G w d x)
    (h : RecRun P g caps pv μ μ2) : CallsD P g vs (recM pv) w fun e u' w' => e = .returned (.tuple #[]) ∧ settle u' = .returning ∧ ∃ G', MRel G' μ2 w' ∧ Grw G w G' w' := by
  obtain ⟨fn, id, o1, o2, rest, i, j, hc, hres, h1, h1d, h1g, h2, h2d, h2g, hin, hcn, hQ⟩ := h
  refine callsD_of_wpS hc.at_ hc.body ?_
  intro c₀ cs hu
  refine wpS_seq (wpS_region ?_)
  have e1 : ∀ a : Act, (execOp a.eval o1).run P w = .ok .recover w := fun a => by
    unfold execOp
    rw [h1]
    simp [resolve, invoke, builtin]
  have key : ∀ (u' : FrameMode), settle u' = .returning → ∀ cs', cs' = ({ c₀ with mode := u' } : Frame) :: cs →
      rest.wpS P (bodyPostS P fn c₀ cs fun e u' w' => e = .returned (.tuple #[]) ∧ settle u' = .returning ∧ ∃ G', MRel G' μ2 w' ∧ Grw G w G' w')
        ((({ tmps := vs ++ Array.replicate (fn.ntmps - vs.size) undef, defers := [] } : Act).put (some i) (recV pv)).put (some j) (recV pv)) cs' w := by
    intro u' hu' cs' hcs
    refine wpS_of_wp ?_
    have hs : SRel (G.dfr []) ⟨caps ++ List.replicate (fn.ntmps - caps.length) .undef, μ⟩ { tmps := vs ++ Array.replicate (fn.ntmps - vs.size) undef, defers := [] } w := by
      refine ⟨by simp [hl], fun k d x hd hx => ?_, rfl, hM.dfr []⟩
      rcases Nat.lt_or_ge k caps.length with hk | hk
      · rw [List.getElem?_append_left hk] at hd
        rw [Array.getElem?_append_left (by rw [hl]; exact hk)] at hx
        exact (hv k d x hd hx).dfr []
      · rw [List.getElem?_append_right hk, List.getElem?_replicate] at hd
        split at hd
        · injection hd with hd; subst hd; exact .undef _
        · cases hd
    have hs1 := hs.put (Grw.refl _ w) (some i) (.p _ _ (.v (recV pv))) hs.mem
    have hs2 := hs1.put (Grw.refl _ w) (some j) (.p _ _ (.v (recV pv))) hs1.mem
    have := wpIn_wide.1 (hQ (fun x s' => s'.μ = μ2 ∧ (x = .norm ∨ x = .ret)) (fun s' hs' => ⟨⟨hs', .inl rfl⟩, ⟨hs', .inr rfl⟩⟩) _ _ _ hs2)
    refine wp_mono this ?_
    rintro e a' w' ⟨x, s', G', k1, ⟨k2, k3⟩, k4, k5⟩
    have hr : (results fn a'.tmps).run P w' = .ok (.tuple #[]) w' := by
      rw [results_eq, hres]
      simp
    have fin : a'.defers = [] ∧ ∃ u', cs' = ({ c₀ with mode := u' } : Frame) :: cs ∧ ∃ v, (results fn a'.tmps).run P w' = .ok v w' ∧ (Ending.returned v = .returned (.tuple #[]) ∧ settle u' = .returning ∧ ∃ G', MRel G' μ2 w' ∧ Grw G w G' w') :=
      ⟨k4.defers.trans k5.df, u', hcs, _, hr, rfl, hu', G'.dfr G.df, by rw [← k2]; exact k4.mem.dfr _, k5.back⟩
    rcases k3 with rfl | rfl <;> cases e <;> first
      | exact k1.elim
      | exact fin
  have hw : ∀ (o : Oper) (a : Act) (ops : Array Oper), o.guard = none → Region.wanted o (yielded ops a.tmps) = true := fun o a ops hg => by simp [Region.wanted, hg]
  have step2 : ∀ (a : Act) (cs' : List Frame), (∃ v, a.eval (.tmp i) = v ∧ v = recV pv) → (rest.wpS P (bodyPostS P fn c₀ cs fun e u' w' => e = .returned (.tuple #[]) ∧ settle u' = .returning ∧ ∃ G', MRel G' μ2 w' ∧ Grw G w G' w') (a.put (some j) (recV pv)) cs' w) →
      wpOpsS P #[o1, o2] (Exit.thenS (rest.wpS P (bodyPostS P fn c₀ cs fun e u' w' => e = .returned (.tuple #[]) ∧ settle u' = .returning ∧ ∃ G', MRel G' μ2 w' ∧ Grw G w G' w')) (bodyPostS P fn c₀ cs fun e u' w' => e = .returned (.tuple #[]) ∧ settle u' = .returning ∧ ∃ G', MRel G' μ2 w' ∧ Grw G w G' w')) [1] a cs' w := by
    rintro a cs' ⟨v, hv1, rfl⟩ hk
    simp only [wpOpsS, List.getElem?_toArray, List.getElem?_cons_succ, List.getElem?_cons_zero]
    rw [if_pos (hw o2 a _ h2g)]
    have : (execOp a.eval o2).run P w = .ok (.value (recV pv)) w := by
      unfold execOp
      rw [h2]
      simp [hv1]
    rw [this]
    simp only [Oper.upon, h2d]
    exact hk
  have hev : ∀ (a : Act) (v : Value), i < a.tmps.size → (a.put (some i) v).eval (.tmp i) = v := fun a v hi => by simp [Act.put, Act.eval, hi]
  have hsz : i < ({ tmps := vs ++ Array.replicate (fn.ntmps - vs.size) undef, defers := [] } : Act).tmps.size := by
    show i < (vs ++ Array.replicate (fn.ntmps - vs.size) undef).size
    rw [Array.size_append, Array.size_replicate]; omega
  show wpOpsS P #[o1, o2] _ [0, 1] _ _ w
  rw [opsS_rec (o := o1) rfl (hw o1 _ _ h1g) (e1 _), h1d]
  cases pv with
  | none =>
    have : recoverD (c₀ :: cs) = none := by simp only [recoverD, hu, recM]
    rw [this]
    exact step2 _ _ ⟨_, hev _ _ hsz, rfl⟩ (key .returning rfl _ (by rw [← show c₀.mode = .returning from hu]))
  | some v =>
    have : recoverD (c₀ :: cs) = some (v, { c₀ with mode := .panicking [{ v, recovered := true }] } :: cs) := by simp only [recoverD, hu, recM]
    rw [this]
    exact step2 _ _ ⟨_, hev _ _ hsz, rfl⟩ (key (.panicking [{ v, recovered := true }]) rfl _ rfl)
theorem callsD_mono {P : Program} {f : FuncId} {args : Array Value} {u : FrameMode} {w : World} {R R' : Ending → FrameMode → World → Prop} (h : CallsD P f args u w R) (hr : ∀ e u w, R e u w → R' e u w) : CallsD P f args u w R' := fun c cs hu => by
  obtain ⟨e, u', w', fr, k1, k2⟩ := h c cs hu
  exact ⟨e, u', w', fr, hr _ _ _ k1, k2⟩
theorem opw_defer {P : Program} {o : Oper} {a : Act} {w : World} {K : Act → World → Prop} {Q : Exit → Act → World → Prop} {d : Deferred} (h : (execOp a.eval o).run P w = .ok (.defer d) w) (k : K ({ a with defers := d :: a.defers }.put o.dst undef) w) : o.wpIn (FF none) 0 P a w K Q :=
  ⟨fun _ _ => trivial, by
    have : o.semAt (FF none).round a.eval = execOp a.eval o := Oper.semAt_none _ _
    rw [this, h]
    exact k⟩
theorem invoke_fn {P : Program} {w : World} {g : FuncId} {fn : Func} {c : Code} (hc : Callable P g fn c) (vs : Array Value) : (invoke (.fn (.func g) vs) #[]).run P w = .ok (.enter g vs) w := by
  have hn : fn.name ≠ "runtime.NumGoroutine" := by have := hc.name; simpa using this
  simp [invoke, callFunc, hc.at_, hn]
  intro hno
  rw [hc.body] at hno
  cases hno
/-- A FUNCTION that lays one closure which recovers -/
theorem pure_of_rec {P : Program} {f : FuncId} {fn : Func} {A B : Code} {id : Nat} {o1 o2 : Oper} (hc : Callable P f fn (.seq A (.seq (.region id #[o1, o2] false) B))) {t : Nat} {g : FuncId} {caps : Array Operand}
    (h1 : o1.op = .makeFunc (.func g) #[] caps) (h1d : o1.dst = some t) (h1g : o1.guard = none)
    (h2 : o2.op = .defer { callee := .value (.tmp t), args := #[], argTypes := #[] }) (h2d : o2.dst = none) (h2g : o2.guard = none)
    {args : List PD} {r : AEnd} {s1 : St} (hA : ∀ Q : AX → St → Prop, Q .norm s1 → AWP none P A Q ⟨args.map .p ++ List.replicate (fn.ntmps - args.length) .undef, ⟨[], [], []⟩⟩) (ht : t < s1.tmps.length)
    {x : AX} {s3 : St} (hB : ∀ Q : AX → St → Prop, Q x s3 → AWP none P B Q ⟨putT s1.tmps (some t) (.fn g (caps.toList.map s1.ev)), s1.μ⟩)
    {pv : Option Value} {μ4 : Mem} (hx : (x = .ret ∧ pv = none) ∨ (∃ v, x = .panic (.p (.v v)) ∧ pv = some v))
    (hrec : RecRun P g (caps.toList.map s1.ev) pv s3.μ μ4) {l : List DV} {v : PD} {μ5 : Mem} (hres : resA P ⟨s3.tmps, μ4⟩ fn.results.toList = some l) (hz : frz 200 μ4 (oneOrTup l) = some (v, μ5)) (hr : r = .ret v) : Pure P f args r := by
  subst hr
  refine ⟨⟨fn, _, hc⟩, fun Z w xs hlw hzz hxs => ?_⟩
  obtain ⟨G, hG⟩ : ∃ G : Gh, G = ⟨w.heap.size, w, Z, Z, [], [], [], []⟩ := ⟨_, rfl⟩
  have hM : MRel G ⟨[], [], []⟩ w := by
    subst hG
    exact ⟨Below.refl _ _, Nat.le_refl _, hzz, fun b o h => .inl h, rfl, rfl, fun i j g hi => by simp at hi, fun j B g hB => by simp at hB, fun t e s n ht => by simp at ht, fun t t' a a' x x' g ht => by simp at ht, hlw, ⟨rfl, fun i j g hi => by simp at hi, fun i g a ha => by simp at ha⟩⟩
  have hs : SRel G ⟨args.map .p ++ List.replicate (fn.ntmps - args.length) .undef, ⟨[], [], []⟩⟩ { tmps := xs ++ Array.replicate (fn.ntmps - xs.size) undef, defers := [] } w := by
    refine ⟨by simp [hxs.1], fun i d x hd hx' => ?_, by rw [hG], hM⟩
    rcases Nat.lt_or_ge i args.length with hi | hi
    · rw [List.getElem?_append_left (by simpa using hi)] at hd
      simp only [List.getElem?_map, Option.map_eq_some_iff] at hd
      obtain ⟨q, hq, rfl⟩ := hd
      simp only at hx'
      rw [Array.getElem?_append_left (by rw [hxs.1]; exact hi)] at hx'
      have := hxs.2 i q x hq hx'
      subst hG
      exact .p _ _ this
    · rw [List.getElem?_append_right (by simpa using hi), List.getElem?_replicate] at hd
      split at hd
      · injection hd with hd; subst hd; exact .undef _
      · cases hd
  refine calls_of_wp_defers hc.at_ hc.body ((wpIn_wide (n := 0)).1 ?_)
  show (Code.seq A (.seq (.region id #[o1, o2] false) B)).wpIn (FF none) 0 P _ _ w
  refine wpIn_seq (wpIn_mono (hA (fun y s => y = .norm ∧ s = s1) ⟨rfl, rfl⟩ G _ w hs) ?_)
  rintro e1 a1 w1 ⟨y, s', G1, k1, ⟨rfl, rfl⟩, k3, k4⟩
  cases e1 <;> first | (exact k1.elim; done) | skip
  show (Code.seq (.region id #[o1, o2] false) B).wpIn (FF none) 0 P _ a1 w1
  -- the closure is made, and laid
  have hdf1 : G1.df = [] := by rw [k4.df, hG]
  obtain ⟨vs, hvs⟩ : ∃ vs : Array Value, vs = caps.map a1.eval := ⟨_, rfl⟩
  have hvl : vs.size = (caps.toList.map s'.ev).length := by rw [hvs]; simp
  have hvr : ∀ (i : Nat) (d : DV) (x : Value), (caps.toList.map s'.ev)[i]? = some d → vs[i]? = some x → CRel G1 w1 d x := by
    intro i d x hd hx
    rw [hvs] at hx
    simp only [List.getElem?_map, Option.map_eq_some_iff, Array.getElem?_toList] at hd
    simp only [Array.getElem?_map, Option.map_eq_some_iff] at hx
    obtain ⟨p, hp, rfl⟩ := hd
    obtain ⟨q, hq, rfl⟩ := hx
    rw [hp] at hq; injection hq with hq; subst hq
    exact k3.ev _
  have hwant : ∀ (o : Oper) (a : Act) (ops : Array Oper), o.guard = none → Region.wanted o (yielded ops a.tmps) = true := fun o a ops hg => by simp [Region.wanted, hg]
  refine wpIn_seq (wpIn_region_list (F := FF none) ?_)
  show wpListIn (FF none) 0 P #[o1, o2] _ [o1, o2] a1 w1
  unfold wpListIn
  rw [if_pos (hwant o1 _ _ h1g)]
  have e1 : (execOp a1.eval o1).run P w1 = .ok (.value (.func (.func g) #[] vs)) w1 := by
    unfold execOp
    rw [h1]
    simp [Instr.makeFunc, hvs]
  refine opw_value (fun c hdf => by rw [h1] at hdf; cases hdf) e1 ?_
  rw [h1d]
  have hs2 : SRel G1 ⟨putT s'.tmps (some t) (.fn g (caps.toList.map s'.ev)), s'.μ⟩ (a1.put (some t) (.func (.func g) #[] vs)) w1 := k3.put (Grw.refl _ _) (some t) (.fn g _ vs hvl hvr) k3.mem
  have hta : t < a1.tmps.size := by rw [k3.size]; exact ht
  have hput : (a1.put (some t) (.func (.func g) #[] vs)).eval (.tmp t) = .func (.func g) #[] vs := by simp [Act.put, Act.eval, hta]
  generalize (a1.put (some t) (.func (.func g) #[] vs)) = a2 at hs2 hput
  unfold wpListIn
  rw [if_pos (hwant o2 _ _ h2g)]
  have e2 : (execOp a2.eval o2).run P w1 = .ok (.defer { target := .fn (.func g) vs, args := #[] }) w1 := by
    unfold execOp
    rw [h2]
    simp [resolve, Deferred.ofValue, hput]
  refine opw_defer e2 ?_
  rw [h2d]
  unfold wpListIn
  show B.wpIn (FF none) 0 P _ _ w1
  have hs3 : SRel (G1.dfr [{ target := .fn (.func g) vs, args := #[] }]) ⟨putT s'.tmps (some t) (.fn g (caps.toList.map s'.ev)), s'.μ⟩ ({ a2 with defers := { target := .fn (.func g) vs, args := #[] } :: a2.defers }.put none undef) w1 :=
    ⟨hs2.size, fun i d x hd hx => (hs2.tmp i d x hd hx).dfr _, by
      have : a2.defers = [] := hs2.defers.trans hdf1
      show _ :: a2.defers = _
      rw [this]; rfl, hs2.mem.dfr _⟩
  refine wpIn_mono (hB (fun y s => y = x ∧ s = s3) ⟨rfl, rfl⟩ _ _ w1 hs3) ?_
  rintro e3 a3 w3 ⟨y, s3', G3, q1, ⟨rfl, rfl⟩, q3, q4⟩
  have hd3 : a3.defers = [{ target := .fn (.func g) vs, args := #[] }] := q3.defers.trans q4.df
  have hcg := hrec
  obtain ⟨fng, idg, p1, p2, rest, i, j, hcg, _⟩ := hcg
  have leaves : Leaves P fn a3.tmps (Ends Z w (.ret v)) [{ target := .fn (.func g) vs, args := #[] }] (recM pv) w3 := by
    refine leaves_cons (by cases pv <;> simp [recM]) (invoke_fn hcg vs) (callsD_mono (recD q3.mem hvl (fun i d x hd hx => ((hvr i d x hd hx).dfr _).grw q4) hrec) ?_)
    rintro e u w4 ⟨rfl, hu, G4, m1, m2⟩
    simp only [hu]
    have hs4 : SRel G4 ⟨s3'.tmps, μ4⟩ a3 w4 := ⟨q3.size, fun i d x hd hx => (q3.tmp i d x hd hx).grw m2, q3.defers.trans m2.df.symm, m1⟩
    obtain ⟨z, z1, z2⟩ := results_run hs4 hres
    obtain ⟨G5, n1, n2, n3, _⟩ := (frz_sound 200).1 _ _ _ _ hz G4 w4 z m1 z2
    have gt : Grw G w { G5 with df := G.df } w4 := by
      have g1 : Grw G1 w1 (G5.dfr G1.df) w4 := ((q4.trans m2).trans n2).back
      have g2 := k4.trans g1
      exact ⟨g2.base, g2.w0, g2.z0, g2.z, g2.cell, g2.bs, g2.tv, g2.mps, rfl, g2.hsz, g2.oth, g2.mnew⟩
    have b1 : G5.base = w.heap.size := by have := gt.base; rw [hG] at this; exact this
    have b2 : G5.w0 = w := by have := gt.w0; rw [hG] at this; exact this
    have b3 : G5.Z0 = Z := by have := gt.z0; rw [hG] at this; exact this
    refine ⟨z, z1, n3.mono (fun b o hzb => ?_) (fun _ _ _ => rfl), ?_⟩
    · rcases n1.zsub b o hzb with h | h
      · left; rw [← b3]; exact h
      · right; exact ⟨by rw [← b1]; exact h, n1.zlt b o hzb⟩
    · have := n1.bel; rw [b1, b2] at this; exact this
  rcases hx with ⟨rfl, rfl⟩ | ⟨pvv, rfl, rfl⟩
  · cases e3 <;> first | (exact q1.elim; done) | skip
    show Leaves P fn a3.tmps _ a3.defers .returning w3
    rw [hd3]; exact leaves
  · cases e3 <;> first | (exact q1.elim; done) | skip
    obtain ⟨pw, rfl, hp⟩ := q1
    cases hp with
    | p d x hp =>
    cases hp
    show Leaves P fn a3.tmps _ a3.defers (.panicking _) w3
    rw [hd3]; exact leaves
end Go.Proofs.YtikfefjaeejeeaaGreatDoor
