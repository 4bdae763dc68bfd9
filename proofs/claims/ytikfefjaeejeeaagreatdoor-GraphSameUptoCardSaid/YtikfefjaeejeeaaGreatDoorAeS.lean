/- The abstract machine, 19: code that is run with open tests: their answers are told, and owed. -/
import Derived.Test.YtikfefjaeejeeaaGreatDoorAeY
namespace Go.Proofs.YtikfefjaeejeeaaGreatDoor
open Go.RowKit

inductive An where
  | t (b : Bool)
  | el (q : PD)
  | v (d : DV)
  | w (d : DV)
  | b (b : Bool)
  | st (b : UInt8)
  | nx (r : Nat) (k : Nat)
  | nx0
  | sc
  | m
  | mu (μ : Mem)
  | cp (d : DV) (μ : Mem)
  | call (e : AEnd)
  | callb (v : PD)
  | callm (d : DV) (ts : List (Option (TypeId × Nat × Nat)))
  | fzs (i : Nat)
  | fzb (i : Nat) (v : PD) (μ : Mem)
  | bi
  | lb (d : DV)
  | sb
  | code (ks : List Nat) (x : AX) (s : St)
  | xc
  | xp (p : Nat)
structure Cf where
  n : Nat
  an : List (Nat × An)
  ob : List Prop
def allP : List Prop → Prop
  | [] => True
  | p :: r => p ∧ allP r
def Cf.hd (c : Cf) : Option (An × Cf) := match c.an with
  | (m, a) :: r => if Nat.beq m c.n = true then some (a, ⟨c.n, r, c.ob⟩) else none
  | [] => none
def Cf.add (c : Cf) (p : Prop) : Cf := ⟨c.n, c.an, p :: c.ob⟩
def Cf.tick (c : Cf) : Cf := ⟨c.n + 1, c.an, c.ob⟩
theorem Cf.hd_ob {c c' : Cf} {a : An} (h : c.hd = some (a, c')) : c'.ob = c.ob := by
  unfold Cf.hd at h
  split at h
  · split at h
    · injection h with h; injection h with _ h; rw [← h]
    · cases h
  · cases h
def qB (t : Bool) (c : Cf) : Bool × Cf := match c.hd with
  | some (.t b, c') => (b, c'.add (t = b))
  | _ => (t, c)
theorem qB_ok {t b : Bool} {c c' : Cf} (h : qB t c = (b, c')) (ho : allP c'.ob) : t = b ∧ allP c.ob := by
  unfold qB at h
  split at h
  · rename_i b' c1 hh
    injection h with h1 h2; subst h1; subst h2
    exact ⟨ho.1, by rw [← Cf.hd_ob hh]; exact ho.2⟩
  · injection h with h1 h2; subst h1; subst h2; exact ⟨rfl, ho⟩
def wantS (ops : Array Oper) (o : Oper) (s : St) (c : Cf) : Option (Bool × Cf) :=
  match o.guard with
  | none => some (true, c)
  | some (j, want) => match (ops[j]?).bind (·.dst) with
    | some t => match getT s.tmps t with
      | .p (.v (.bool b)) => match qB b c with | (b', c') => some ((bif want then b' else !b'), c')
      | .p (.v (.tuple _)) => some (false, c)
      | _ => none
    | none => none
theorem wantS_ok {ops : Array Oper} {o : Oper} {s : St} {c c' : Cf} {b : Bool} (h : wantS ops o s c = some (b, c')) (ho : allP c'.ob) : wantA ops o s = some b ∧ allP c.ob := by
  unfold wantS at h
  unfold wantA
  split at h
  · rename_i hg
    injection h with h; injection h with h1 h2; subst h1; subst h2
    rw [hg]; exact ⟨rfl, ho⟩
  · rename_i j want hg
    rw [hg]
    simp only
    split at h
    · rename_i t ht
      rw [ht]
      simp only
      split at h
      · rename_i b0 hb
        split at h
        rename_i b' c1 hq
        injection h with h; injection h with h1 h2; subst h1; subst h2
        obtain ⟨k1, k2⟩ := qB_ok hq ho
        subst k1
        rw [hb]
        exact ⟨rfl, k2⟩
      · rename_i hb
        injection h with h; injection h with h1 h2; subst h1; subst h2
        rw [hb]
        exact ⟨rfl, ho⟩
      · cases h
    · cases h
theorem evLoad_ep {P : Program} {t : TypeId} {els : List PD} {i off : Nat} {q : PD} {μ μ' : Mem} (h : els[i]? = some q) : evLoad P t (.ep els i off) μ = evLoad P t (.ep [q] 0 off) μ' := by
  unfold evLoad
  simp only [h, List.getElem?_cons_zero]
/-- an append of any rows: what is owed -/
def AppOK (sz by_ n : Nat) (els ys : List PD) : Prop := n = els.length ∧ sized sz els ∧ sized sz ys ∧ (els.length + ys.length) * by_ ≤ 140737488355328 ∧ els.length + ys.length ≤ 1099511627776
def opApp (P : Program) (T : TypeId) (x y : DV) (μ : Mem) : Option (DV × Mem × Prop) :=
  match elT P T with
  | some e => match zrT P e, szT P e, byT P e with
    | some z, some sz, some by_ => match frz 200 μ y with
        | some (.sl ys, μ1) => if 0 < sz ∧ z.cells.size = sz then
            match x with
            | .row t els => match μ1.toks[t]? with
              | some (some (e', s', n)) => if e' = e ∧ s' = sz then
                  some (.row t (els ++ ys), ⟨μ1.boxes, μ1.toks.set t (some (e, sz, els.length + ys.length)), μ1.objs⟩, AppOK sz by_ n els ys) else none
              | _ => none
            | .p (.v (.slice none 0 0)) => some (.row μ1.toks.length ys, ⟨μ1.boxes, μ1.toks ++ [some (e, sz, ys.length)], μ1.objs⟩, AppOK sz by_ 0 [] ys)
            | .cut0 => some (.p (.sl ys), μ1, AppOK sz by_ 0 [] ys)
            | .bsl b off s' len cap => if len = cap ∧ 0 < len then match frz 200 μ1 (.bsl b off s' len cap) with
              | some (.sl els, μ2) => some (.p (.sl (els ++ ys)), μ2, AppOK sz by_ els.length els ys)
              | _ => none
              else none
            | _ => none
          else none
        | _ => none
    | _, _, _ => none
  | none => none
theorem opApp_ok {P : Program} {T : TypeId} {x y d : DV} {μ μ' : Mem} {p : Prop} (h : opApp P T x y μ = some (d, μ', p)) (hp : p) : evAppend P T x y μ = some (d, μ') := by
  unfold opApp at h
  unfold evAppend
  split at h
  · rename_i e he
    rw [he]
    simp only
    split at h
    · rename_i z sz by_ hz hs hb
      rw [hz, hs, hb]
      simp only
      split at h
      · rename_i ys μ1 hf
        rw [hf]
        simp only
        split at h
        · rename_i hc
          split at h
          · rename_i t els
            split at h
            · rename_i e' s' n ht
              split at h
              · rename_i hes
                injection h with h; injection h with h1 h; injection h with h2 h3
                subst h1; subst h2; subst h3
                obtain ⟨p1, p2, p3, p4, p5⟩ := hp
                rw [if_pos ⟨hc.1, hc.2, p3⟩]
                simp only
                rw [ht]
                simp only
                rw [if_pos ⟨hes.1, hes.2, p1, p2, p4, p5⟩]
              · cases h
            · cases h
          · injection h with h; injection h with h1 h; injection h with h2 h3
            subst h1; subst h2; subst h3
            obtain ⟨p1, p2, p3, p4, p5⟩ := hp
            rw [if_pos ⟨hc.1, hc.2, p3⟩]
            simp only [List.length_nil, Nat.zero_add] at p4 p5
            simp only
            rw [if_pos ⟨p4, p5⟩]
          · injection h with h; injection h with h1 h; injection h with h2 h3
            subst h1; subst h2; subst h3
            obtain ⟨p1, p2, p3, p4, p5⟩ := hp
            rw [if_pos ⟨hc.1, hc.2, p3⟩]
            simp only [List.length_nil, Nat.zero_add] at p4 p5
            simp only
            rw [if_pos ⟨p4, p5⟩]
          · rename_i b off s' len cap
            split at h
            · rename_i hfull
              split at h
              · rename_i els μ2 hf2
                injection h with h; injection h with h1 h; injection h with h2 h3
                subst h1; subst h2; subst h3
                obtain ⟨p1, p2, p3, p4, p5⟩ := hp
                rw [if_pos ⟨hc.1, hc.2, p3⟩]
                simp only
                rw [if_pos hfull, hf2]
                simp only
                rw [if_pos ⟨p2, p4, p5⟩]
              · cases h
            · cases h
          · cases h
        · cases h
      · cases h
    · cases h
  · cases h
def AppN (sz by_ : Nat) (ys : List PD) : Prop := sized sz ys ∧ ys.length * by_ ≤ 140737488355328 ∧ ys.length ≤ 1099511627776
def opAppN (P : Program) (T : TypeId) (y : DV) : Option (DV × Prop) :=
  match elT P T, memLess (frz 200 ⟨[], [], []⟩ y) with
  | some e, some ys => match zrT P e, szT P e, byT P e with
    | some z, some sz, some by_ => if 0 < sz ∧ z.cells.size = sz then some (.p (.sl ys), AppN sz by_ ys) else none
    | _, _, _ => none
  | _, _ => none
theorem opAppN_ok {P : Program} {T : TypeId} {y d : DV} {p : Prop} (h : opAppN P T y = some (d, p)) (hp : p) : evAppN P T y = some d := by
  unfold opAppN at h
  unfold evAppN
  split at h
  · rename_i e ys he hf
    rw [he, hf]
    simp only
    split at h
    · rename_i z sz by_ hz hs hb
      rw [hz, hs, hb]
      simp only
      split at h
      · rename_i hc
        injection h with h; injection h with h1 h2; subst h1; subst h2
        rw [if_pos ⟨hc.1, hc.2, hp.1, hp.2.1, hp.2.2⟩]
      · cases h
    · cases h
  · cases h
def opMake (P : Program) (t : TypeId) (l c : DV) (μ : Mem) : Option (DV × Mem × Prop) :=
  match elT P t, l, c with
  | some e, .p (.v (.int _ a)), .p (.v (.int _ b)) => match zrT P e, szT P e, byT P e with
    | some z, some n, some m => if n = 1 ∧ z.oneCell' = true ∧ m ≤ 128 then
          some (.bsl μ.boxes.length 0 1 a.toNat b.toNat, ⟨μ.boxes ++ [⟨e, List.replicate b.toNat (.p (.v z)), false⟩], μ.toks, μ.objs⟩, 0 ≤ a ∧ a ≤ b ∧ b ≤ 1099511627776) else none
    | _, _, _ => none
  | _, _, _ => none
theorem opMake_ok {P : Program} {t : TypeId} {l c d : DV} {μ μ' : Mem} {p : Prop} (h : opMake P t l c μ = some (d, μ', p)) (hp : p) : evMake P t l c μ = some (d, μ') := by
  unfold opMake at h
  unfold evMake
  split at h
  · rename_i e ka a kb b he
    rw [he]
    simp only
    split at h
    · rename_i z n m hz hn hm
      rw [hz, hn, hm]
      simp only
      split at h
      · rename_i hc
        injection h with h; injection h with h1 h; injection h with h2 h3
        subst h1; subst h2; subst h3
        rw [if_pos ⟨hc.1, hc.2.1, hp.1, hp.2.1, hp.2.2, hc.2.2⟩]
      · cases h
    · cases h
  · cases h
/-- a bound: its number, what is owed -/
def bndS (n : Nat) : Option DV → Option (Nat × Prop)
  | none => some (n, True)
  | some (.p (.v (.int _ k))) => some (k.toNat, 0 ≤ k)
  | _ => none
theorem bndS_ok {n l : Nat} {o : Option DV} {p : Prop} (h : bndS n o = some (l, p)) (hp : p) : bnd n o = some l := by
  unfold bndS at h
  split at h
  · injection h with h; injection h with h1 h2; subst h1; rfl
  · injection h with h; injection h with h1 h2; subst h1; subst h2
    simp only [bnd, natOf]
    rw [if_pos hp]
  · cases h
def SlOK (l h n : Nat) (a b : Prop) : Prop := a ∧ b ∧ l ≤ h ∧ h ≤ n
def opSlice (P : Program) (t : TypeId) (x : DV) (lo hi : Option DV) : Option (DV × Prop) :=
  match bndS 0 lo with
  | some (l, a) => match x with
    | .p (.v (.string s)) => match P.underlying t, bndS s.size hi with
      | some .string, some (h, b) => some (.p (.v (.string (s.extract l h))), SlOK l h s.size a b)
      | _, _ => none
    | .p (.sl els) => match elT P t, bndS els.length hi with
      | some e, some (h, b) => match szT P e with
        | some sz => some (.p (.sl ((els.drop l).take (h - l))), SlOK l h els.length a b ∧ sized sz els)
        | none => none
      | _, _ => none
    | .row _ els => match elT P t, bndS els.length hi with
      | some e, some (h, b) => match szT P e with
        | some sz => some (.p (.sl ((els.drop l).take (h - l))), SlOK l h els.length a b ∧ sized sz els)
        | none => none
      | _, _ => none
    | .bsl b off sz len cap => match elT P t, bndS len hi with
      | some e, some (h, b') => match szT P e with
        | some sz' => if sz' = sz then some (.bsl b (off + l * sz) sz (h - l) (cap - l), SlOK l h len a b' ∧ l < cap) else none
        | none => none
      | _, _ => none
    | _ => none
  | none => none
theorem opSlice_ok {P : Program} {t : TypeId} {x d : DV} {lo hi : Option DV} {p : Prop} (h : opSlice P t x lo hi = some (d, p)) (hp : p) : evSlice P t x lo hi none = some d := by
  unfold opSlice at h
  split at h
  case h_2 => cases h
  rename_i l a hlo
  have hl : ∀ (q : a), bnd 0 lo = some l := fun q => bndS_ok hlo q
  split at h
  · rename_i s
    split at h
    · rename_i h1 b hu hhi
      injection h with h; injection h with e1 e2; subst e1; subst e2
      obtain ⟨p1, p2, p3, p4⟩ := hp
      unfold evSlice
      rw [hl p1]; simp only
      rw [hu, bndS_ok hhi p2]; simp only
      rw [if_pos ⟨p3, p4⟩]
    · cases h
  · rename_i els
    split at h
    · rename_i e h1 b hu hhi
      split at h
      · rename_i sz hsz
        injection h with h; injection h with e1 e2; subst e1; subst e2
        obtain ⟨⟨p1, p2, p3, p4⟩, p5⟩ := hp
        unfold evSlice
        rw [hl p1]; simp only
        rw [hu, bndS_ok hhi p2]; simp only
        rw [if_pos ⟨p3, p4, fun d hd => by rw [hsz, p5 d hd]⟩]
      · cases h
    · cases h
  · rename_i t1 els
    split at h
    · rename_i e h1 b hu hhi
      split at h
      · rename_i sz hsz
        injection h with h; injection h with e1 e2; subst e1; subst e2
        obtain ⟨⟨p1, p2, p3, p4⟩, p5⟩ := hp
        unfold evSlice
        rw [hl p1]; simp only
        rw [hu, bndS_ok hhi p2]; simp only
        rw [if_pos ⟨p3, p4, fun d hd => by rw [hsz, p5 d hd]⟩]
      · cases h
    · cases h
  · rename_i b off sz len cap
    split at h
    · rename_i e h1 b' hu hhi
      split at h
      · rename_i sz' hsz
        split at h
        · rename_i hss
          subst hss
          injection h with h; injection h with e1 e2; subst e1; subst e2
          obtain ⟨⟨p1, p2, p3, p4⟩, p5⟩ := hp
          unfold evSlice
          rw [hl p1]; simp only
          rw [hu, bndS_ok hhi p2]; simp only
          rw [if_pos ⟨p3, p4, p5, hsz⟩]
        · cases h
      · cases h
    · cases h
  · cases h
def one1 : DV → Option DV
  | .p (.v x) => some (.p (.v x))
  | _ => none
/-- an index into a box of ours, an element of it, a store into it: any place -/
def opBi (P : Program) (t : TypeId) (x i : DV) : Option (DV × Prop) :=
  match x, i with
  | .bsl b off sz len _, .p (.v (.int _ n)) => match elT P t with
    | some e => match szT P e with
      | some (s + 1) => if sz = s + 1 then some (.loc b (off + n.toNat * sz), 0 ≤ n ∧ n < len) else none
      | _ => none
    | none => none
  | _, _ => none
theorem opBi_ok {P : Program} {t : TypeId} {x i d : DV} {p : Prop} (h : opBi P t x i = some (d, p)) (hp : p) : ∃ n, i = .p (.v n) ∧ evOp.posT P t = true ∧ evIndexAddr P t x n = some d := by
  unfold opBi at h
  split at h
  · rename_i b off sz len cap k n
    split at h
    · rename_i e he
      split at h
      · rename_i s hs
        split at h
        · rename_i hz
          injection h with h; injection h with h1 h2; subst h1; subst h2
          refine ⟨_, rfl, by unfold evOp.posT; rw [he]; simp only; rw [hs], ?_⟩
          unfold evIndexAddr
          rw [he]; simp only; rw [hs]; simp only
          rw [if_pos ⟨hp.1, hp.2, hz⟩]
        · cases h
      · cases h
    · cases h
  · cases h
def opLb (P : Program) (t : TypeId) (x d : DV) (μ : Mem) : Option Prop :=
  match x with
  | .loc b q => match μ.boxes[b]?, szT P t, aggT P t with
    | some B, some _, some false => some (B.cells[q]? = some d)
    | _, _, _ => none
  | _ => none
theorem opLb_ok {P : Program} {t : TypeId} {x d : DV} {μ : Mem} {p : Prop} (h : opLb P t x d μ = some p) (hp : p) : evLoad P t x μ = some d := by
  unfold opLb at h
  split at h
  · rename_i b q
    split at h
    · rename_i B n h1 h2 h3
      injection h with h; subst h
      unfold evLoad
      simp only [h1, h2, h3]
      exact hp
    · cases h
  · cases h
def opSb (P : Program) (t : TypeId) (x y : DV) (μ : Mem) : Option (Mem × Prop) :=
  match x with
  | .loc b q => match μ.boxes[b]?, szT P t, one1 y with
    | some B, some 1, some d => if B.shut = false ∧ d.one = true then some (⟨μ.boxes.set b ⟨B.t, B.cells.set q d, false⟩, μ.toks, μ.objs⟩, q < B.cells.length) else none
    | _, _, _ => none
  | _ => none
theorem set_take_drop {α : Type} {l : List α} {q : Nat} {d : α} (h : q < l.length) : l.take q ++ [d] ++ l.drop (q + 1) = l.set q d := by
  rw [List.set_eq_take_append_cons_drop, if_pos h]
  simp
theorem opSb_ok {P : Program} {t : TypeId} {x y : DV} {μ μ' : Mem} {p : Prop} (h : opSb P t x y μ = some (μ', p)) (hp : p) : evStore P t x y μ = some μ' := by
  unfold opSb at h
  split at h
  · rename_i b q
    split at h
    · rename_i B d h1 h2 h3
      split at h
      · rename_i hc
        injection h with h; injection h with e1 e2; subst e1; subst e2
        unfold one1 at h3
        split at h3
        · rename_i v
          injection h3 with h3
          subst h3
          have hcells : (DV.p (PD.v v)).cells = [DV.p (PD.v v)] := rfl
          unfold evStore
          simp only
          rw [h1]
          simp only
          rw [hcells, if_pos ⟨hc.1, by unfold DV.okc; rw [hcells]; simp [hc.2], h2, hp⟩]
          rw [show q + [DV.p (PD.v v)].length = q + 1 from rfl, set_take_drop hp]
        · cases h3
      · cases h
    · cases h
  · cases h
/-- an operation whose answer is told -/
def opA (P : Program) (o : Oper) (s : St) : An → Option (DV × Mem × Prop)
  | .w d => match evOp P o s with | some (e, μ') => some (d, μ', e = d) | none => none
  | .b b => match evOp P o s with | some (.p (.v (.bool t)), μ') => some (.p (.v (.bool b)), μ', t = b) | _ => none
  | .sc => match o.op with
    | .slice t x lo hi none => if evOp.posT P t = true then (match opSlice P t (s.ev x) (lo.map s.ev) (hi.map s.ev) with
      | some (d, p) => some (d, s.μ, p)
      | none => none) else none
    | _ => none
  | .st b => match o.op with
    | .index t x i => match P.underlying t, s.ev x, s.ev i with
      | some .string, .p (.v (.string z)), .p (.v (.int _ n)) => some (.p (.v (.int .u8 b.toNat)), s.μ, z[n.toNat]? = some b ∧ 0 ≤ n)
      | _, _, _ => none
    | _ => none
  | .nx r k => match o.op with
    | .next x true => match s.ev x with
      | .it m => match s.μ.objs[m]? with
        | some (.it z pos) => some (.tup [.p (.v (.bool true)), .p (.v (.int .i64 pos)), .p (.v (.int .i32 r))], ⟨s.μ.boxes, s.μ.toks, s.μ.objs.set m (.it z (pos + k))⟩, pos < z.size ∧ Utf8.decode z pos = (r, k))
        | _ => none
      | _ => none
    | _ => none
  | .nx0 => match o.op with
    | .next x true => match s.ev x with
      | .it m => match s.μ.objs[m]? with
        | some (.it z pos) => some (.tup [.p (.v (.bool false))], s.μ, ¬ pos < z.size)
        | _ => none
      | _ => none
    | _ => none
  | .v d => match o.op with
    | .binOp op t x y _ => some (d, s.μ, evBinD P op t y (s.ev x) (s.ev y) = some d)
    | .slice t x lo hi mx => if evOp.posT P t = true then some (d, s.μ, evSlice P t (s.ev x) (lo.map s.ev) (hi.map s.ev) (mx.map s.ev) = some d) else none
    | .index t x i => some (d, s.μ, evIndex P t (s.ev x) (s.ev i) = some d)
    | .load t x => some (d, s.μ, evLoad P t (s.ev x) s.μ = some d)
    | .lookup t x i ok => some (d, s.μ, evLookup P t (s.ev x) (s.ev i) ok s.μ = some d)
    | .indexAddr t x i => match s.ev i with
      | .p (.v n) => if evOp.posT P t = true then some (d, s.μ, evIndexAddr P t (s.ev x) n = some d) else none
      | _ => none
    | _ => none
  | .el q => match o.op with
    | .load t x => match s.ev x with
      | .ep els i off => match evLoad P t (.ep [q] 0 off) s.μ with | some e => some (e, s.μ, els[i]? = some q) | none => none
      | _ => none
    | .indexAddr t x i => match s.ev i with
      | .p (.v (.int _ n)) => match elT P t with
        | some e => match szT P e with
          | some (sz + 1) => match isSl (s.ev x) with
            | some els => if q.cells.length = sz + 1 then some (.ep els n.toNat 0, s.μ, els[n.toNat]? = some q ∧ 0 ≤ n) else none
            | none => none
          | _ => none
        | none => none
      | _ => none
    | _ => none
  | .bi => match o.op with
    | .indexAddr t x i => match opBi P t (s.ev x) (s.ev i) with
      | some (d, p) => some (d, s.μ, p)
      | none => none
    | _ => none
  | .lb d => match o.op with
    | .load t x => match opLb P t (s.ev x) d s.μ with
      | some p => some (d, s.μ, p)
      | none => none
    | _ => none
  | .sb => match o.op with
    | .store t x y => match opSb P t (s.ev x) (s.ev y) s.μ with
      | some (μ2, p) => some (.undef, μ2, p)
      | none => none
    | _ => none
  | .m => match o.op with
    | .call c => match c.callee, c.args.toList, c.argTypes.toList with
      | .builtin .append, [x, y], [t, t'] => if slTs P t t' = true then (if isNilC x = true then (match opAppN P t (s.ev y) with | some (d, p) => some (d, s.μ, p) | none => none) else opApp P t (s.ev x) (s.ev y) s.μ) else none
      | _, _, _ => none
    | .makeSlice t l c => opMake P t (s.ev l) (s.ev c) s.μ
    | _ => none
  | .mu μ2 => match o.op with
    | .store t x y => some (.undef, μ2, evStore P t (s.ev x) (s.ev y) s.μ = some μ2)
    | .mapUpdate t m k v => some (.undef, μ2, evMapUpdate P t (s.ev m) (s.ev k) (s.ev v) s.μ = some μ2)
    | _ => none
  | .cp d μ2 => match o.op with
    | .call c => match c.callee, c.args.toList, c.argTypes.toList with
      | .builtin .copy, [x, y], [t, _] => some (d, μ2, evCopy P t (s.ev x) (s.ev y) s.μ = some (d, μ2))
      | _, _, _ => none
    | _ => none
  | _ => none
theorem opA_ok {P : Program} {o : Oper} {s : St} {a : An} {d : DV} {μ' : Mem} {p : Prop} (h : opA P o s a = some (d, μ', p)) (hp : p) : evOp P o s = some (d, μ') := by
  obtain ⟨dst, op, ty, pos, after, guard⟩ := o
  cases a with
  | w e =>
    simp only [opA] at h
    split at h
    · rename_i e' μ1 he
      injection h with h; injection h with h1 h; injection h with h2 h3
      subst h1; subst h2; subst h3
      rw [he, hp]
    · cases h
  | b b =>
    simp only [opA] at h
    split at h
    · rename_i t μ1 he
      injection h with h; injection h with h1 h; injection h with h2 h3
      subst h1; subst h2; subst h3
      rw [he, hp]
    · cases h
  | sc =>
    cases op <;> simp only [opA] at h <;> (try cases h; done)
    rename_i t x lo hi mx
    cases mx <;> simp only at h
    · split at h
      · rename_i hpos
        split at h
        · rename_i d1 p1 hs
          injection h with h; injection h with h1 h; injection h with h2 h3
          subst h1; subst h2; subst h3
          unfold evOp; simp only
          rw [if_pos hpos]
          simp only [Option.map_none]
          rw [opSlice_ok hs hp]; rfl
        · cases h
      · cases h
    · cases h
  | st b =>
    cases op <;> simp only [opA] at h <;> (try cases h; done)
    unfold evOp; simp only
    split at h
    · rename_i z k n hu hx hi
      injection h with h; injection h with h1 h; injection h with h2 h3
      subst h1; subst h2; subst h3
      unfold evIndex
      rw [hu, hx, hi]; simp only
      rw [if_pos hp.2, hp.1]; rfl
    · cases h
  | nx r k =>
    cases op <;> simp only [opA] at h <;> (try cases h; done)
    rename_i x b
    cases b <;> simp only at h
    · cases h
    unfold evOp; simp only
    split at h
    · rename_i m hx
      split at h
      · rename_i z pos hm
        injection h with h; injection h with h1 h; injection h with h2 h3
        subst h1; subst h2; subst h3
        unfold evNext
        rw [hx]; simp only
        rw [hm]; simp only
        rw [if_pos hp.1, hp.2]
      · cases h
    · cases h
  | nx0 =>
    cases op <;> simp only [opA] at h <;> (try cases h; done)
    rename_i x b
    cases b <;> simp only at h
    · cases h
    unfold evOp; simp only
    split at h
    · rename_i m hx
      split at h
      · rename_i z pos hm
        injection h with h; injection h with h1 h; injection h with h2 h3
        subst h1; subst h2; subst h3
        unfold evNext
        rw [hx]; simp only
        rw [hm]; simp only
        rw [if_neg hp]
      · cases h
    · cases h
  | v e =>
    cases op <;> simp only [opA] at h <;> (try cases h; done)
    all_goals unfold evOp; simp only
    all_goals first
      | (injection h with h; injection h with h1 h; injection h with h2 h3
         subst h1; subst h2; subst h3
         rw [hp]; rfl)
      | (split at h
         · rename_i hpos
           injection h with h; injection h with h1 h; injection h with h2 h3
           subst h1; subst h2; subst h3
           rw [if_pos hpos, hp]; rfl
         · cases h)
      | (split at h
         · rename_i n hn
           split at h
           · rename_i hpos
             injection h with h; injection h with h1 h; injection h with h2 h3
             subst h1; subst h2; subst h3
             rw [hn]; simp only
             rw [if_pos hpos, hp]; rfl
           · cases h
         · cases h)
  | el q =>
    cases op <;> simp only [opA] at h <;> (try cases h; done)
    all_goals unfold evOp; simp only
    · split at h
      · rename_i els i off hx
        split at h
        · rename_i e he
          injection h with h; injection h with h1 h; injection h with h2 h3
          subst h1; subst h2; subst h3
          rw [hx, evLoad_ep hp, he]; rfl
        · cases h
      · cases h
    · split at h
      · rename_i k n hn
        split at h
        · rename_i e he
          split at h
          · rename_i sz hs
            split at h
            · rename_i els hx
              split at h
              · rename_i hq
                injection h with h; injection h with h1 h; injection h with h2 h3
                subst h1; subst h2; subst h3
                rw [hn]; simp only
                have hpos : ∀ t, elT P t = some e → evOp.posT P t = true := by
                  intro t ht
                  unfold evOp.posT
                  rw [ht]; simp only; rw [hs]
                rw [if_pos (hpos _ he)]
                unfold isSl at hx
                split at hx
                · injection hx with hx; subst hx
                  rename_i hx
                  rw [hx]
                  unfold evIndexAddr
                  rw [he]; simp only; rw [hs]; simp only; rw [hp.1]; simp only
                  rw [if_pos ⟨hp.2, hq⟩]; rfl
                · injection hx with hx; subst hx
                  rename_i hx
                  rw [hx]
                  unfold evIndexAddr
                  rw [he]; simp only; rw [hs]; simp only; rw [hp.1]; simp only
                  rw [if_pos ⟨hp.2, hq⟩]; rfl
                · cases hx
              · cases h
            · cases h
          · cases h
        · cases h
      · cases h
  | bi =>
    cases op <;> simp only [opA] at h <;> (try cases h; done)
    unfold evOp; simp only
    split at h
    · rename_i d1 p1 hs
      injection h with h; injection h with h1 h; injection h with h2 h3
      subst h1; subst h2; subst h3
      obtain ⟨n, e1, e2, e3⟩ := opBi_ok hs hp
      rw [e1]; simp only
      rw [if_pos e2, e3]; rfl
    · cases h
  | lb e =>
    cases op <;> simp only [opA] at h <;> (try cases h; done)
    unfold evOp; simp only
    split at h
    · rename_i p1 hs
      injection h with h; injection h with h1 h; injection h with h2 h3
      subst h1; subst h2; subst h3
      rw [opLb_ok hs hp]; rfl
    · cases h
  | sb =>
    cases op <;> simp only [opA] at h <;> (try cases h; done)
    unfold evOp; simp only
    split at h
    · rename_i m2 p1 hs
      injection h with h; injection h with h1 h; injection h with h2 h3
      subst h1; subst h2; subst h3
      rw [opSb_ok hs hp]
    · cases h
  | m =>
    cases op <;> simp only [opA] at h <;> (try cases h; done)
    all_goals unfold evOp; simp only
    · exact opMake_ok h hp
    · split at h
      · rename_i hx ht h3
        rw [hx, ht, h3]; simp only
        split at h
        · rename_i htt
          rw [if_pos htt]
          split at h
          · rename_i hn
            rw [if_pos hn]
            split at h
            · rename_i d1 p1 hd
              injection h with h; injection h with h1 h; injection h with h2 h4
              subst h1; subst h2; subst h4
              rw [opAppN_ok hd hp]
              rfl
            · cases h
          · rename_i hn
            rw [if_neg hn]
            exact opApp_ok h hp
        · cases h
      · cases h
  | cp d1 μ2 =>
    cases op <;> simp only [opA] at h <;> (try cases h; done)
    unfold evOp; simp only
    split at h
    · rename_i hx ht h3
      injection h with h; injection h with h1 h; injection h with h2 h3
      subst h1; subst h2; subst h3
      rw [hx, ht, h3]; simp only
      rw [hp]
    · cases h
  | mu μ2 =>
    cases op <;> simp only [opA] at h <;> (try cases h; done)
    all_goals unfold evOp; simp only
    · injection h with h; injection h with h1 h; injection h with h2 h3
      subst h1; subst h2; subst h3
      rw [hp]
    · injection h with h; injection h with h1 h; injection h with h2 h3
      subst h1; subst h2; subst h3
      rw [hp]
  | _ => simp only [opA] at h; cases h
def opS (P : Program) (o : Oper) (s : St) (c : Cf) : Option ((DV × Mem) × Cf) :=
  match c.hd with
  | some (a, c') => match opA P o s a with
    | some (d, μ', p) => some ((d, μ'), c'.add p)
    | none => none
  | none => match evOp P o s with
    | some r => some (r, c)
    | none => none
theorem opS_ok {P : Program} {o : Oper} {s : St} {c c' : Cf} {d : DV} {μ' : Mem} (h : opS P o s c = some ((d, μ'), c')) (ho : allP c'.ob) : evOp P o s = some (d, μ') ∧ allP c.ob := by
  unfold opS at h
  split at h
  · rename_i a c1 hh
    split at h
    · rename_i d' μ1 p ha
      injection h with h; injection h with h1 h2; injection h1 with h3 h4; subst h3; subst h4; subst h2
      exact ⟨opA_ok ha ho.1, by rw [← Cf.hd_ob hh]; exact ho.2⟩
    · cases h
  · split at h
    · rename_i r hr
      injection h with h; injection h with h1 h2; subst h1; subst h2
      exact ⟨hr, ho⟩
    · cases h
theorem evOp_callv {P : Program} {o : Oper} {s : St} {c : Call} {co : Operand} (h : o.op = .call c) (hc : c.callee = .value co) : evOp P o s = none := by
  unfold evOp
  rw [h]; simp only; rw [hc]
end Go.Proofs.YtikfefjaeejeeaaGreatDoor
