/- The abstract machine, 8: one operation. -/
import Derived.Test.YtikfefjaeejeeaaGreatDoorAeO
namespace Go.Proofs.YtikfefjaeejeeaaGreatDoor
open Go.RowKit

def evPick (c a b : DV) : Option DV :=
  match c with
  | .p (.v (.bool t)) => match a, b with
    | .p (.v (.bool x)), .p (.v (.bool y)) => some (.p (.v (.bool (bif t then x else y))))
    | .p (.v (.int k x)), .p (.v (.int k' y)) => if k = k' then some (.p (.v (.int k (bif t then x else y)))) else none
    | a, b => some (bif t then a else b)
  | _ => none
theorem evPick_sound {P : Program} {G : Gh} {w : World} {c a b e : DV} {x y z : Value} (hc : CRel G w c x) (ha : CRel G w a y) (hb : CRel G w b z) (h : evPick c a b = some e) : ∃ t : Bool, (asBool x).run P w = .ok t w ∧ CRel G w e (if t then y else z) := by
  unfold evPick at h
  split at h
  · rename_i t
    cases hc with
    | p d x hp =>
    cases hp
    refine ⟨t, rfl, ?_⟩
    split at h
    · injection h with h; subst h
      cases ha with
      | p d y h1 =>
      cases h1
      cases hb with
      | p d z h2 =>
      cases h2
      cases t <;> exact .p _ _ (.v _)
    · split at h
      · rename_i hk; subst hk
        injection h with h; subst h
        cases ha with
        | p d y h1 =>
        cases h1
        cases hb with
        | p d z h2 =>
        cases h2
        cases t <;> exact .p _ _ (.v _)
      · cases h
    · injection h with h; subst h
      cases t
      · exact hb
      · exact ha
  · cases h

def isSl : DV → Option (List PD)
  | .p (.sl els) => some els
  | .row _ els => some els
  | _ => none
def eqBool : DV → DV → Option Bool
  | .p (.v (.bool x)), .p (.v (.bool y)) => some (x == y)
  | _, _ => none
def isNilSl : DV → Bool
  | .p (.v (.slice none 0 0)) => true
  | _ => false
def eqNilSl : DV → Option Bool
  | .p (.sl (d :: _)) => if 0 < d.cells.length then some false else none
  | .row _ (d :: _) => if 0 < d.cells.length then some false else none
  | .bsl _ _ _ _ _ => some false
  | .p (.v (.slice x _ _)) => some x.isNone
  | _ => none
def isConstOp : Operand → Bool
  | .const _ => true
  | _ => false
def eqIf (c : Bool) : DV → DV → Option Bool
  | .p (.v (.iface _ _)), .p (.v .nilIface) => some false
  | .p (.v .nilIface), .p (.v .nilIface) => if c = true then some true else none
  | _, _ => none
def eqPtr : DV → DV → Option Bool
  | .loc _ _, .p (.v (.pointer none)) => some false
  | .p (.v (.pointer none)), .p (.v (.pointer none)) => some true
  | _, _ => none
def evEq (P : Program) (t : TypeId) (q : Operand) (a b : DV) : Option Bool :=
  match P.underlying t with
  | some .bool => eqBool a b
  | some (.slice _) => if isNilSl b = true then eqNilSl a else none
  | some (.interface _) => eqIf (isConstOp q) a b
  | some (.pointer _) => eqPtr a b
  | _ => none
def evBinD (P : Program) (op : BinOp) (t : TypeId) (q : Operand) (a b : DV) : Option DV :=
  match evEqOp op, evEq P t q a b with
  | some f, some r => some (.p (.v (.bool (f r))))
  | _, _ => match a, b with
    | .p (.v x), .p (.v y) => match evBin op x y with
      | some v => some (.p (.v v))
      | none => none
    | _, _ => none
where
  evEqOp : BinOp → Option (Bool → Bool)
    | .eql => some id
    | .neq => some not
    | _ => none
theorem sl_cons_ne {Z : Nat → Nat → Prop} {w : World} {d : PD} {r : List PD} {x : Value} (h : PRel Z w (.sl (d :: r)) x) (hd : d.cells ≠ []) : ∃ a n c, x = .slice (some a) n c := by
  cases h with
  | sl els A c sz val hc hm hs hA hr =>
  cases hq : d.cells with
  | nil => exact absurd hq hd
  | cons e es =>
    obtain ⟨g, o, h1, _⟩ := hA 0 0 d e rfl (by rw [hq]; rfl)
    exact ⟨_, _, _, by rw [h1]⟩

theorem evEq_sound {P : Program} {G : Gh} {w : World} {t : TypeId} {q : Operand} {a b : DV} {x y : Value} {r : Bool} (ha : CRel G w a x) (hb : CRel G w b y) (h : evEq P t q a b = some r) (p : Operand) :
    (∀ op, (op = .eql ∨ op = .neq) → (eqGuard op t p q x y).run P w = .ok () w) ∧ (Op.equal t x y).run P w = .ok r w ∧ (∀ k n, x ≠ .int k n) ∧ (∀ k n, x ≠ .float k n) ∧ (∀ k n m, x ≠ .complex k n m) ∧ (∀ n, x ≠ .string n) := by
  unfold evEq at h
  have hd : Op.maxDepth = 9999 + 1 := rfl
  split at h
  · rename_i hu
    unfold eqBool at h
    split at h
    · injection h with h; subst h
      cases ha with
      | p d x h1 =>
      cases h1
      cases hb with
      | p d y h2 =>
      cases h2
      refine ⟨fun op _ => by simp [eqGuard], ?_, by simp⟩
      rw [Op.equal, hd, Op.equalIn]
      simp [run_underlying hu]
    · cases h
  · rename_i e hu
    have fin : ∀ A n c, x = .slice A n c → y = .slice none 0 0 → r = A.isNone → (∀ op, (op = .eql ∨ op = .neq) → (eqGuard op t p q x y).run P w = .ok () w) ∧ (Op.equal t x y).run P w = .ok r w ∧ (∀ k n, x ≠ .int k n) ∧ (∀ k n, x ≠ .float k n) ∧ (∀ k n m, x ≠ .complex k n m) ∧ (∀ n, x ≠ .string n) := by
      rintro A n c rfl rfl rfl
      refine ⟨fun op _ => by simp [eqGuard], ?_, by simp⟩
      rw [Op.equal, hd, Op.equalIn]
      cases A <;> simp [run_underlying hu]
    split at h
    · rename_i hn
      unfold isNilSl at hn
      split at hn
      · cases hb with
        | p d y h2 =>
        cases h2
        unfold eqNilSl at h
        split at h
        · rename_i d l
          split at h
          · rename_i hp0
            injection h with h; subst h
            cases ha with
            | p d' x h1 =>
            obtain ⟨g, n, c, rfl⟩ := sl_cons_ne h1 (by intro e; rw [e] at hp0; simp at hp0)
            exact fin _ _ _ rfl rfl rfl
          · cases h
        · rename_i d l
          split at h
          · rename_i hp0
            injection h with h; subst h
            cases ha with
            | row t1 els x y' n h1 _ _ _ =>
            obtain ⟨g, n, c, rfl⟩ := sl_cons_ne h1 (by intro e; rw [e] at hp0; simp at hp0)
            exact fin _ _ _ rfl rfl rfl
          · cases h
        · injection h with h; subst h
          cases ha with
          | bsl b off sz len cap g hg hc hm => exact fin _ _ _ rfl rfl rfl
        · injection h with h; subst h
          cases ha with
          | p d' x h1 =>
          cases h1
          exact fin _ _ _ rfl rfl rfl
        · cases h
      · cases hn
    · cases h
  · rename_i ms hu
    unfold eqIf at h
    split at h
    · injection h with h; subst h
      cases ha with
      | p d x h1 =>
      cases h1
      cases hb with
      | p d y h2 =>
      cases h2
      refine ⟨fun op _ => by simp [eqGuard], ?_, by simp⟩
      rw [Op.equal, hd, Op.equalIn]
      simp [run_underlying hu]
    · split at h
      · rename_i hc
        injection h with h; subst h
        unfold isConstOp at hc
        split at hc
        · cases ha with
          | p d x h1 =>
          cases h1
          cases hb with
          | p d y h2 =>
          cases h2
          refine ⟨fun op ho => by rcases ho with rfl | rfl <;> simp [eqGuard], ?_, by simp⟩
          rw [Op.equal, hd, Op.equalIn]
          simp [run_underlying hu]
        · cases hc
      · cases h
    · cases h
  · rename_i e hu
    unfold eqPtr at h
    split at h
    · injection h with h; subst h
      cases ha with
      | loc b' o g hg =>
      cases hb with
      | p d y h2 =>
      cases h2
      refine ⟨fun op _ => by simp [eqGuard], ?_, by simp⟩
      rw [Op.equal, hd, Op.equalIn]
      simp [run_underlying hu]
    · injection h with h; subst h
      cases ha with
      | p d x h1 =>
      cases h1
      cases hb with
      | p d y h2 =>
      cases h2
      refine ⟨fun op _ => by simp [eqGuard], ?_, by simp⟩
      rw [Op.equal, hd, Op.equalIn]
      simp [run_underlying hu]
    · cases h
  · cases h
theorem evBinD_sound {P : Program} {G : Gh} {w : World} {op : BinOp} {t : TypeId} {q : Operand} {a b e : DV} {x y : Value} (ha : CRel G w a x) (hb : CRel G w b y) (h : evBinD P op t q a b = some e) (p : Operand) :
    ∃ v, (eqGuard op t p q x y).run P w = .ok () w ∧ (binOp op t x y).run P w = .ok v w ∧ CRel G w e v := by
  unfold evBinD at h
  split at h
  · rename_i f r ho hr
    injection h with h; subst h
    obtain ⟨h1, h2, h3, h4, h5, h6⟩ := evEq_sound ha hb hr p
    cases op <;> simp only [evBinD.evEqOp] at ho <;> first | (cases ho; done) | skip
    · injection ho with ho; subst ho
      refine ⟨.bool r, h1 _ (.inl rfl), ?_, .p _ _ (.v _)⟩
      cases x <;> first | exact absurd rfl (h3 _ _) | exact absurd rfl (h4 _ _) | exact absurd rfl (h5 _ _ _) | exact absurd rfl (h6 _) | (simp [binOp, h2])
    · injection ho with ho; subst ho
      refine ⟨.bool (!r), h1 _ (.inr rfl), ?_, .p _ _ (.v _)⟩
      cases x <;> first | exact absurd rfl (h3 _ _) | exact absurd rfl (h4 _ _) | exact absurd rfl (h5 _ _ _) | exact absurd rfl (h6 _) | (simp [binOp, h2])
  · split at h
    · split at h
      · rename_i v hv
        injection h with h; subst h
        cases ha with
        | p d x h1 =>
        cases h1
        cases hb with
        | p d y h2 =>
        cases h2
        obtain ⟨k1, k2⟩ := evBin_sound hv P w t p q
        exact ⟨v, k1, k2, .p _ _ (.v _)⟩
      · cases h
    · cases h

def evConv (P : Program) (src dst : TypeId) (d : DV) : Option DV :=
  match P.underlying src, P.underlying dst, d with
  | some _, some (.int k), .p (.v (.int _ n)) => some (.p (.v (.int k (k.wrap n))))
  | some _, some .string, .p (.v (.string s)) => some (.p (.v (.string s)))
  | _, _, _ => none
theorem evConv_sound {P : Program} {G : Gh} {w : World} {src dst : TypeId} {d e : DV} {x : Value} (hx : CRel G w d x) (h : evConv P src dst d = some e) : ∃ v, (convert src dst x).run P w = .ok v w ∧ CRel G w e v := by
  unfold evConv at h
  split at h
  · rename_i u k _ n hs hd
    injection h with h; subst h
    cases hx with
    | p d x h1 =>
    cases h1
    exact ⟨_, by simp [convert, run_underlying hs, run_underlying hd, Conv.intToInt], .p _ _ (.v _)⟩
  · rename_i u s hs hd
    injection h with h; subst h
    cases hx with
    | p d x h1 =>
    cases h1
    exact ⟨.string s, by simp [convert, run_underlying hs, run_underlying hd], .p _ _ (.v _)⟩
  · cases h

def evIface (P : Program) (t : TypeId) (d : DV) : Option DV :=
  match P.underlying t, d with
  | some (.interface _), _ => none
  | some _, .p (.v x) => some (.p (.v (.iface t x)))
  | _, _ => none
theorem evIface_sound {P : Program} {G : Gh} {w : World} {t : TypeId} {d e : DV} {x : Value} (hx : CRel G w d x) (h : evIface P t d = some e) : ∃ v, (Instr.makeInterface t x).run P w = .ok v w ∧ CRel G w e v := by
  unfold evIface at h
  split at h
  · cases h
  · rename_i hne hu
    injection h with h; subst h
    cases hx with
    | p d x h1 =>
    cases h1
    refine ⟨_, ?_, .p _ _ (.v _)⟩
    unfold Instr.makeInterface
    rw [Sem.run_bind, run_underlying hu w]
    generalize ‹TypeDesc› = u at hne
    cases u <;> first | rfl | exact (hne _ rfl).elim
  · cases h

def evNil (d : DV) : Option DV :=
  match d with
  | .loc _ _ | .ep _ _ _ | .fn _ _ | .bsl _ _ _ _ _ => some d
  | .p (.v (.pointer (some _))) => some d
  | _ => none
def evIndex (P : Program) (t : TypeId) (d i : DV) : Option DV :=
  match P.underlying t, d, i with
  | some .string, .p (.v (.string s)), .p (.v (.int _ n)) => if 0 ≤ n then match s[n.toNat]? with
    | some b => some (.p (.v (.int .u8 b.toNat)))
    | none => none
    else none
  | _, _, _ => none
theorem evIndex_sound {P : Program} {G : Gh} {w : World} {t : TypeId} {d i e : DV} {x y : Value} (hx : CRel G w d x) (hy : CRel G w i y) (h : evIndex P t d i = some e) : ∃ v, (Instr.index t x y).run P w = .ok v w ∧ CRel G w e v := by
  unfold evIndex at h
  split at h
  · rename_i s k n hu
    split at h
    · rename_i h0
      split at h
      · rename_i b hb
        injection h with h; subst h
        cases hx with
        | p d x h1 =>
        cases h1
        cases hy with
        | p d y h2 =>
        cases h2
        exact ⟨_, by simp [Instr.index, asIntOf, run_underlying hu, h0, hb], .p _ _ (.v _)⟩
      · cases h
    · cases h
  · cases h
def evExtract (d : DV) (i : Nat) : Option DV :=
  match d with
  | .tup vs => vs[i]?
  | .p (.tup vs) => match vs[i]? with | some e => some (.p e) | none => none
  | _ => none
theorem evExtract_sound {P : Program} {G : Gh} {w : World} {d e : DV} {i : Nat} {x : Value} (hx : CRel G w d x) (h : evExtract d i = some e) : ∃ v, (Instr.extract x i).run P w = .ok v w ∧ CRel G w e v := by
  unfold evExtract at h
  split at h
  · cases hx with
    | tup cs vs hl hc =>
    have hi := (List.getElem?_eq_some_iff.1 h).1
    have hv : vs[i]? = some (vs[i]'(by omega)) := Array.getElem?_eq_getElem _
    exact ⟨_, by simp [Instr.extract, hv], hc i e _ h hv⟩
  · split at h
    · rename_i q hq
      injection h with h; subst h
      cases hx with
      | p d x hp =>
      cases hp with
      | tup cs vs hl hc =>
      have hi := (List.getElem?_eq_some_iff.1 hq).1
      have hv : vs[i]? = some (vs[i]'(by omega)) := Array.getElem?_eq_getElem _
      exact ⟨_, by simp [Instr.extract, hv], .p _ _ (hc i q _ hq hv)⟩
    · cases h
  · cases h
def evLen (P : Program) (t : TypeId) (d : DV) : Option DV :=
  match P.underlying t, d with
  | some .string, .p (.v (.string s)) => some (.p (.v (.int .i64 s.size)))
  | some (.slice _), .p (.sl els) => some (.p (.v (.int .i64 els.length)))
  | some (.slice _), .row _ els => some (.p (.v (.int .i64 els.length)))
  | some (.slice _), .bsl _ _ _ len _ => some (.p (.v (.int .i64 len)))
  | some (.slice _), .p (.v (.slice _ n _)) => some (.p (.v (.int .i64 n)))
  | some (.slice _), .cut0 => some (.p (.v (.int .i64 0)))
  | _, _ => none
theorem evLen_sound {P : Program} {G : Gh} {w : World} {t ty : TypeId} {ts : List TypeId} {d e : DV} {x : Value} (hx : CRel G w d x) (h : evLen P t d = some e) : ∃ v, (Builtin.len_ (t :: ts).toArray ty #[x]).run P w = .ok v w ∧ CRel G w e v := by
  have fin : ∀ e', P.underlying t = some (.slice e') → ∀ A n c, x = .slice A n c → e = .p (.v (.int .i64 n)) → ∃ v, (Builtin.len_ (t :: ts).toArray ty #[x]).run P w = .ok v w ∧ CRel G w e v := by
    rintro e' hu A n c rfl rfl
    exact ⟨_, by simp [Builtin.len_, run_underlying hu, goInt], .p _ _ (.v _)⟩
  unfold evLen at h
  split at h
  · rename_i s hu
    injection h with h; subst h
    cases hx with
    | p d x h1 =>
    cases h1
    exact ⟨_, by simp [Builtin.len_, run_underlying hu, goInt], .p _ _ (.v _)⟩
  · rename_i e' els hu
    injection h with h
    cases hx with
    | p d x h1 => obtain ⟨A, c, rfl, _⟩ := h1.sl_slice; exact fin _ hu _ _ _ rfl h.symm
  · rename_i e' t1 els hu
    injection h with h
    cases hx with
    | row t1 els x y n h1 _ _ _ => obtain ⟨A, c, rfl, _⟩ := h1.sl_slice; exact fin _ hu _ _ _ rfl h.symm
  · rename_i hu
    injection h with h
    cases hx with
    | bsl b off sz len cap g hg hc hm => exact fin _ hu _ _ _ rfl h.symm
  · rename_i hu
    injection h with h
    cases hx with
    | p d x h1 => cases h1; exact fin _ hu _ _ _ rfl h.symm
  · rename_i hu
    injection h with h
    cases hx with
    | cut0 A => exact fin _ hu _ _ _ rfl h.symm
  · cases h
def evMax (mx : Bool) (a b : DV) : Option DV :=
  match a, b with
  | .p (.v (.int k x)), .p (.v (.int _ y)) => some (.p (.v (.int k (if mx then (if x < y then y else x) else (if y < x then y else x)))))
  | _, _ => none

def evAssert (P : Program) (at_ : TypeId) (d : DV) (ok : Bool) : Option DV :=
  match P.underlying at_, d with
  | some (.interface _), _ => none
  | some _, .p (.v (.iface t v)) => if t = at_ ∧ ok = false then some (.p (.v v)) else none
  | _, _ => none
theorem evAssert_sound {P : Program} {G : Gh} {w : World} {at_ : TypeId} {d e : DV} {x : Value} {ok : Bool} (hx : CRel G w d x) (h : evAssert P at_ d ok = some e) : ∃ v, (∀ xt, (Instr.typeAssert x xt at_ ok).run P w = .ok v w) ∧ CRel G w e v := by
  unfold evAssert at h
  split at h
  · cases h
  · rename_i u t v hn hu
    split at h
    · rename_i hc
      injection h with h; subst h
      obtain ⟨rfl, rfl⟩ := hc
      cases hx with
      | p d x h1 =>
      cases h1
      refine ⟨v, fun xt => ?_, .p _ _ (.v _)⟩
      simp only [Instr.typeAssert, Sem.run_bind, run_underlying hu]
      cases u <;> first | (exact absurd rfl (hn _)) | simp
    · cases h
  · cases h
/-- AN OPERATION: what it answers, and the memory then -/
def evOp (P : Program) (o : Oper) (s : St) : Option (DV × Mem) :=
  match o.op with
  | .move x => some (s.ev x, s.μ)
  | .assign x => some (s.ev x, s.μ)
  | .pick c a b => keep (evPick (s.ev c) (s.ev a) (s.ev b))
  | .alloc t => evAlloc P t s.μ
  | .box t x => evBox t (s.ev x) s.μ
  | .build t ps => keep (evBuild P t (ps.toList.map fun q => (q.1, s.ev q.2)))
  | .buildSlice t n ps => evBuildSlice P t n (ps.toList.map fun q => (q.1, s.ev q.2)) s.μ
  | .load t x => keep (evLoad P t (s.ev x) s.μ)
  | .store t x y => match evStore P t (s.ev x) (s.ev y) s.μ with | some μ' => some (.undef, μ') | none => none
  | .nilCheck x => keep (evNil (s.ev x))
  | .binOp op t x y _ => keep (evBinD P op t y (s.ev x) (s.ev y))
  | .unOp op _ x => match s.ev x with
    | .p (.v v) => match evUn op v with | some r => some (.p (.v r), s.μ) | none => none
    | _ => none
  | .convert a b x => keep (evConv P a b (s.ev x))
  | .makeInterface t x => keep (evIface P t (s.ev x))
  | .makeFunc (.func f) first caps => if first.size = 0 then some (.fn f (caps.toList.map s.ev), s.μ) else none
  | .makeSlice t l c => evMake P t (s.ev l) (s.ev c) s.μ
  | .slice t x lo hi mx => if posT P t = true then keep (evSlice P t (s.ev x) (lo.map s.ev) (hi.map s.ev) (mx.map s.ev)) else none
  | .fieldAddr t x f => keep (evFieldAddr P t (s.ev x) f)
  | .field t x f => keep (evField P t (s.ev x) f)
  | .indexAddr t x i => match s.ev i with
    | .p (.v n) => if posT P t = true then keep (evIndexAddr P t (s.ev x) n) else none
    | _ => none
  | .index t x i => keep (evIndex P t (s.ev x) (s.ev i))
  | .extract x i => keep (evExtract (s.ev x) i)
  | .call c => match c.callee, c.args.toList, c.argTypes.toList with
    | .builtin .len, [x], t :: _ => keep (evLen P t (s.ev x))
    | .builtin .append, [x, y], [t, t'] => if slTs P t t' = true then (if isNilC x = true then keep (evAppN P t (s.ev y)) else evAppend P t (s.ev x) (s.ev y) s.μ) else none
    | .builtin .copy, [x, y], [t, _] => evCopy P t (s.ev x) (s.ev y) s.μ
    | .builtin .max, [x, y], _ => keep (evMax true (s.ev x) (s.ev y))
    | .builtin .min, [x, y], _ => keep (evMax false (s.ev x) (s.ev y))
    | _, _, _ => none
  | .makeMap _ r => match r with
    | none => some (.mp s.μ.objs.length, ⟨s.μ.boxes, s.μ.toks, s.μ.objs ++ [.mp []]⟩)
    | _ => none
  | .lookup t x i ok => keep (evLookup P t (s.ev x) (s.ev i) ok s.μ)
  | .mapUpdate t m k v => match evMapUpdate P t (s.ev m) (s.ev k) (s.ev v) s.μ with | some μ' => some (.undef, μ') | none => none
  | .range t x => evRange P t (s.ev x) s.μ
  | .next x b => evNext (s.ev x) b s.μ
  | .typeAssert x _ at_ ok => keep (evAssert P at_ (s.ev x) ok)
  | _ => none
where
  keep (d : Option DV) : Option (DV × Mem) := match d with | some d => some (d, s.μ) | none => none
  posT (P : Program) (t : TypeId) : Bool := match elT P t with | some e => (match szT P e with | some (_ + 1) => true | _ => false) | none => true
theorem posT_pos {P : Program} {t : TypeId} (h : evOp.posT P t = true) : ∀ t', elT P t = some t' → ∃ s, szT P t' = some (s + 1) := by
  intro t' ht
  unfold evOp.posT at h
  rw [ht] at h
  simp only at h
  split at h
  · rename_i n hn; exact ⟨n, hn⟩
  · cases h
theorem keep_some {s : St} {d : Option DV} {e : DV} {μ' : Mem} (h : evOp.keep s d = some (e, μ')) : d = some e ∧ μ' = s.μ := by
  unfold evOp.keep at h
  split at h
  · injection h with h; injection h with h1 h2; exact ⟨by rw [h1], h2.symm⟩
  · cases h
theorem evOp_sound {P : Program} {o : Oper} {s : St} {d : DV} {μ' : Mem} (h : evOp P o s = some (d, μ')) {G : Gh} {a : Act} {w : World} (hs : SRel G s a w) : Gives G w d μ' ((execOp a.eval o).run P w) := by
  have hM := hs.mem
  have stay : ∀ (d : Option DV) (r : Result Next), evOp.keep s d = some (‹DV›, μ') → True := fun _ _ _ => trivial
  have val : ∀ {e : DV} {r : Result Next}, (∃ v, r = .ok (.value v) w ∧ CRel G w e v) → Gives G w e s.μ r := by
    rintro e r ⟨v, hr, hc⟩
    exact ⟨w, G, v, .inl hr, hc, hM, Grw.refl G w⟩
  have mem : ∀ {e : DV} {μ1 : Mem} {r : Result Next}, (∃ w' G' v, r = .ok (.value v) w' ∧ CRel G' w' e v ∧ MRel G' μ1 w' ∧ Grw G w G' w') → Gives G w e μ1 r := by
    rintro e μ1 r ⟨w', G', v, hr, hc, h1, h2⟩
    exact ⟨w', G', v, .inl hr, hc, h1, h2⟩
  have args : ∀ (ps : Array (Nat × Operand)), (ps.map fun x => (x.1, a.eval x.2)).size = (ps.toList.map fun q => (q.1, s.ev q.2)).length ∧ ∀ (i : Nat) (p : Nat × DV) (q : Nat × Value), (ps.toList.map fun q => (q.1, s.ev q.2))[i]? = some p → (ps.map fun x => (x.1, a.eval x.2))[i]? = some q → p.1 = q.1 ∧ CRel G w p.2 q.2 := by
    intro ps
    refine ⟨by simp, fun i p q hp hq => ?_⟩
    simp only [List.getElem?_map, Option.map_eq_some_iff, Array.getElem?_toList] at hp
    simp only [Array.getElem?_map, Option.map_eq_some_iff] at hq
    obtain ⟨x, hx, rfl⟩ := hp
    obtain ⟨y, hy, rfl⟩ := hq
    rw [hx] at hy
    injection hy with hy
    subst hy
    exact ⟨rfl, hs.ev _⟩
  have orel : ∀ (o : Option Operand), ORel G w (o.map s.ev) (o.map a.eval) := by
    intro o
    cases o with
    | none => trivial
    | some x => exact hs.ev x
  clear stay
  obtain ⟨dst, op, ty, pos, after, guard⟩ := o
  unfold evOp at h
  simp only at h
  split at h
  · injection h with h; injection h with h1 h2; subst h1; subst h2
    exact val ⟨_, rfl, hs.ev _⟩
  · injection h with h; injection h with h1 h2; subst h1; subst h2
    exact val ⟨_, rfl, hs.ev _⟩
  · obtain ⟨hk, hμ⟩ := keep_some h; subst hμ; replace h := hk
    obtain ⟨t, h1, h2⟩ := evPick_sound (P := P) (hs.ev _) (hs.ev _) (hs.ev _) h
    exact val ⟨_, by simp [execOp, h1], h2⟩
  · obtain ⟨w', G', v, h1, h2⟩ := evAlloc_sound hM h
    exact mem ⟨w', G', v, by simp [execOp, h1], h2⟩
  · obtain ⟨w', G', v, h1, h2⟩ := evBox_sound (P := P) hM (hs.ev _) h
    exact mem ⟨w', G', v, by simp [execOp, h1], h2⟩
  · rename_i t ps
    obtain ⟨hk, hμ⟩ := keep_some h; subst hμ; replace h := hk
    obtain ⟨v, h1, h2⟩ := evBuild_sound h (args ps).1 (args ps).2
    exact val ⟨v, by simp [execOp, h1], h2⟩
  · rename_i t n ps
    obtain ⟨w', G', v, h1, h2⟩ := evBuildSlice_sound hM h (args ps).1 (args ps).2
    exact mem ⟨w', G', v, by simp [execOp, h1], h2⟩
  · obtain ⟨hk, hμ⟩ := keep_some h; subst hμ; replace h := hk
    obtain ⟨v, h1, h2⟩ := evLoad_sound hM (hs.ev _) h
    exact val ⟨v, by simp [execOp, h1], h2⟩
  · split at h
    · rename_i μ1 hst
      injection h with h; injection h with h1 h2; subst h1; subst h2
      obtain ⟨w', h1, h2, h3⟩ := evStore_sound hM (hs.ev _) (hs.ev _) hst
      exact ⟨w', G, undef, .inr ⟨by simp [execOp, h1], rfl⟩, .undef _, h2, h3⟩
    · cases h
  · rename_i x
    obtain ⟨hk, hμ⟩ := keep_some h; subst hμ; replace h := hk
    have hx := hs.ev x
    unfold evNil at h
    generalize s.ev x = dx at h hx
    generalize hax : a.eval x = vx at hx
    refine val ⟨vx, ?_, ?_⟩
    · split at h <;> first
        | (cases h; done)
        | (cases hx <;> first | (simp [execOp, hax]; done) | (rename_i hp; cases hp; simp [execOp, hax]))
    · split at h <;> first
        | (cases h; done)
        | (injection h with h; subst h; exact hx)
  · rename_i op t x y yt
    obtain ⟨hk, hμ⟩ := keep_some h; subst hμ; replace h := hk
    obtain ⟨v, h1, h2, h3⟩ := evBinD_sound (hs.ev _) (hs.ev _) h x
    exact val ⟨v, by simp [execOp, h1, h2], h3⟩
  · rename_i op t x
    split at h
    · rename_i v hv
      split at h
      · rename_i r hr
        injection h with h; injection h with h1 h2; subst h1; subst h2
        have hx := hs.ev x
        rw [hv] at hx
        generalize hax : a.eval x = ax at hx
        cases hx with
        | p d y hp =>
        cases hp
        exact val ⟨r, by simp [execOp, hax, evUn_sound hr], .p _ _ (.v _)⟩
      · cases h
    · cases h
  · obtain ⟨hk, hμ⟩ := keep_some h; subst hμ; replace h := hk
    obtain ⟨v, h1, h2⟩ := evConv_sound (hs.ev _) h
    exact val ⟨v, by simp [execOp, h1], h2⟩
  · obtain ⟨hk, hμ⟩ := keep_some h; subst hμ; replace h := hk
    obtain ⟨v, h1, h2⟩ := evIface_sound (hs.ev _) h
    exact val ⟨v, by simp [execOp, h1], h2⟩
  · rename_i f first caps
    split at h
    · rename_i hf
      injection h with h; injection h with h1 h2; subst h1; subst h2
      have hf0 : first = #[] := Array.eq_empty_of_size_eq_zero hf
      subst hf0
      refine val ⟨.func (.func f) #[] (caps.map a.eval), by simp [execOp, Instr.makeFunc], .fn f _ _ (by simp) (fun i d x hd hx => ?_)⟩
      simp only [List.getElem?_map, Option.map_eq_some_iff, Array.getElem?_toList] at hd
      simp only [Array.getElem?_map, Option.map_eq_some_iff] at hx
      obtain ⟨p, hp, rfl⟩ := hd
      obtain ⟨q, hq, rfl⟩ := hx
      rw [hp] at hq
      injection hq with hq
      subst hq
      exact hs.ev _
    · cases h
  · obtain ⟨w', G', v, h1, h2⟩ := evMake_sound hM (hs.ev _) (hs.ev _) h
    exact mem ⟨w', G', v, by simp [execOp, h1], h2⟩
  · split at h
    · rename_i hp
      obtain ⟨hk, hμ⟩ := keep_some h; subst hμ; replace h := hk
      obtain ⟨v, h1, h2⟩ := evSlice_sound (hs.ev _) (orel _) (orel _) (orel _) h (fun t' ht => by obtain ⟨q, hq⟩ := posT_pos hp t' ht; exact ⟨q + 1, hq⟩)
      exact val ⟨v, by simp [execOp, h1], h2⟩
    · cases h
  · obtain ⟨hk, hμ⟩ := keep_some h; subst hμ; replace h := hk
    obtain ⟨v, h1, h2⟩ := evFieldAddr_sound (P := P) (hs.ev _) h
    exact val ⟨v, by simp [execOp, h1], h2⟩
  · obtain ⟨hk, hμ⟩ := keep_some h; subst hμ; replace h := hk
    obtain ⟨v, h1, h2⟩ := evField_sound (P := P) (hs.ev _) h
    exact val ⟨v, by simp [execOp, h1], h2⟩
  · rename_i t x i
    split at h
    · rename_i n hn
      split at h
      · rename_i hp
        obtain ⟨hk, hμ⟩ := keep_some h; subst hμ; replace h := hk
        have hi := hs.ev i
        rw [hn] at hi
        obtain ⟨v, h1, h2⟩ := evIndexAddr_sound (P := P) (hs.ev x) h (posT_pos hp)
        cases hi with
        | p d y hq =>
        generalize hai : a.eval i = ai at *
        cases hq
        exact val ⟨v, by simp [execOp, hai, h1], h2⟩
      · cases h
    · cases h
  · obtain ⟨hk, hμ⟩ := keep_some h; subst hμ; replace h := hk
    obtain ⟨v, h1, h2⟩ := evIndex_sound (P := P) (hs.ev _) (hs.ev _) h
    exact val ⟨v, by simp [execOp, h1], h2⟩
  · obtain ⟨hk, hμ⟩ := keep_some h; subst hμ; replace h := hk
    obtain ⟨v, h1, h2⟩ := evExtract_sound (P := P) (hs.ev _) h
    exact val ⟨v, by simp [execOp, h1], h2⟩
  · rename_i c
    obtain ⟨callee, cargs, cts⟩ := c
    simp only at h
    split at h
    · rename_i x t ts hx ht
      obtain ⟨hk, hμ⟩ := keep_some h; subst hμ; replace h := hk
      obtain rfl : cargs = #[x] := by rw [← Array.toArray_toList (xs := cargs), hx]
      obtain rfl : cts = (t :: ts).toArray := by rw [← Array.toArray_toList (xs := cts), ht]
      obtain ⟨v, h1, h2⟩ := evLen_sound (P := P) (ty := ty) (ts := ts) (hs.ev x) h
      exact val ⟨v, by simp [execOp, resolve, invoke, builtin, h1], h2⟩
    · rename_i x y t t' hx ht
      split at h
      · rename_i htt
        obtain rfl : cargs = #[x, y] := by rw [← Array.toArray_toList (xs := cargs), hx]
        obtain rfl : cts = #[t, t'] := by rw [← Array.toArray_toList (xs := cts), ht]
        split at h
        · rename_i hnil
          obtain ⟨hk, hμ⟩ := keep_some h; subst hμ; replace h := hk
          have hx0 : a.eval x = .slice none 0 0 := by
            unfold isNilC at hnil
            split at hnil
            · rfl
            · cases hnil
          obtain ⟨w', G', v, h1, h2⟩ := evAppN_sound (ty := ty) hM (hs.ev y) h
          rw [← slTs_run htt, ← hx0] at h1
          exact mem ⟨w', G', v, by simp [execOp, resolve, invoke, builtin, h1], h2⟩
        · obtain ⟨w', G', v, h1, h2⟩ := evAppend_sound (ty := ty) hM (hs.ev x) (hs.ev y) h
          rw [← slTs_run htt] at h1
          exact mem ⟨w', G', v, by simp [execOp, resolve, invoke, builtin, h1], h2⟩
      · cases h
    · rename_i x y t t' hx ht
      obtain rfl : cargs = #[x, y] := by rw [← Array.toArray_toList (xs := cargs), hx]
      obtain rfl : cts = #[t, t'] := by rw [← Array.toArray_toList (xs := cts), ht]
      obtain ⟨w', G', v, h1, h2⟩ := evCopy_sound (T' := t') (ty := ty) hM (hs.ev x) (hs.ev y) h
      exact mem ⟨w', G', v, by simp [execOp, resolve, invoke, builtin, h1], h2⟩
    · rename_i x y hx
      obtain ⟨hk, hμ⟩ := keep_some h; subst hμ; replace h := hk
      obtain rfl : cargs = #[x, y] := by rw [← Array.toArray_toList (xs := cargs), hx]
      unfold evMax at h
      split at h
      · rename_i k n k' m hx' hy'
        injection h with h; subst h
        have h1 := hs.ev x
        have h2 := hs.ev y
        rw [hx'] at h1
        rw [hy'] at h2
        generalize hax : a.eval x = ax at h1
        generalize hay : a.eval y = ay at h2
        cases h1 with
        | p d1 q1 hp1 =>
        cases hp1
        cases h2 with
        | p d2 q2 hp2 =>
        cases hp2
        exact val ⟨_, by simp [execOp, resolve, invoke, builtin, Builtin.max_, Builtin.max2, hax, hay], .p _ _ (.v _)⟩
      · cases h
    · rename_i x y hx
      obtain ⟨hk, hμ⟩ := keep_some h; subst hμ; replace h := hk
      obtain rfl : cargs = #[x, y] := by rw [← Array.toArray_toList (xs := cargs), hx]
      unfold evMax at h
      split at h
      · rename_i k n k' m hx' hy'
        injection h with h; subst h
        have h1 := hs.ev x
        have h2 := hs.ev y
        rw [hx'] at h1
        rw [hy'] at h2
        generalize hax : a.eval x = ax at h1
        generalize hay : a.eval y = ay at h2
        cases h1 with
        | p d1 q1 hp1 =>
        cases hp1
        cases h2 with
        | p d2 q2 hp2 =>
        cases hp2
        exact val ⟨_, by simp [execOp, resolve, invoke, builtin, Builtin.min_, Builtin.min2, hax, hay], .p _ _ (.v _)⟩
      · cases h
    · cases h
  · split at h
    · injection h with h; injection h with h1 h2; subst h1; subst h2
      obtain ⟨m1, m2, m3⟩ := hM.allocO (a := .mp []) (o := .map #[] 0) rfl
      exact mem ⟨_, _, _, by simp [execOp, run_makeMap_plain], .mp _ _ m3, m1, m2⟩
    · cases h
  · obtain ⟨hk, hμ⟩ := keep_some h; subst hμ; replace h := hk
    obtain ⟨v, h1, h2⟩ := evLookup_sound hM (hs.ev _) (hs.ev _) h
    exact val ⟨v, by simp [execOp, h1], h2⟩
  · split at h
    · rename_i μ1 hst
      injection h with h; injection h with h1 h2; subst h1; subst h2
      obtain ⟨w', h1, h2, h3⟩ := evMapUpdate_sound hM (hs.ev _) (hs.ev _) (hs.ev _) hst
      exact ⟨w', G, undef, .inr ⟨by simp [execOp, h1], rfl⟩, .undef _, h2, h3⟩
    · cases h
  · obtain ⟨w', G', v, h1, h2⟩ := evRange_sound hM (hs.ev _) h
    exact mem ⟨w', G', v, by simp [execOp, h1], h2⟩
  · obtain ⟨w', G', v, h1, h2⟩ := evNext_sound (P := P) hM (hs.ev _) h ty
    exact mem ⟨w', G', v, by simp [execOp, h1], h2⟩
  · obtain ⟨hk, hμ⟩ := keep_some h; subst hμ; replace h := hk
    obtain ⟨v, h1, h2⟩ := evAssert_sound (P := P) (hs.ev _) h
    exact val ⟨v, by simp [execOp, h1], h2⟩
  · cases h
end Go.Proofs.YtikfefjaeejeeaaGreatDoor
