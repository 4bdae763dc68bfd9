/- The abstract machine, 7: structs, slices made and appended to; an operation at all. -/
import Derived.Test.YtmhpccchgbdiiaaGreatDoorAe6
namespace Go.Proofs.YtmhpccchgbdiiaaGreatDoor
open Go.RowKit

def placesA (P : Program) : List Field → Option (List (Nat × Nat))
  | [] => some []
  | f :: r => match szT P f.type, placesA P r with
    | some n, some l => some ((f.offset, n) :: l)
    | _, _ => none
theorem placesA_eq (P : Program) : ∀ (fs : List Field) (l : List (Nat × Nat)), placesA P fs = some l → fs.mapM (fun f => (P.info? f.type).map fun i => (f.offset, i.size)) = some l
  | [], l, h => by injection h with h; subst h; rfl
  | f :: r, l, h => by
    simp only [placesA] at h
    split at h
    · rename_i n l' hn hl
      injection h with h; subst h
      unfold szT at hn
      cases hi : P.info? f.type with
      | none => simp [hi] at hn
      | some i =>
        rw [hi] at hn
        injection hn with hn
        simp [List.mapM_cons, hi, placesA_eq P r l' hl, hn]
    · cases h
def evBuild (P : Program) (t : TypeId) (ps : List (Nat × DV)) : Option DV :=
  match zrT P t, P.underlying t with
  | some z, some (.struct fs) => match placesA P fs.toList with
    | some places => if allOne z = true then match fillA (fun i => places[i]?) (cellsV z) ps with
      | some cs => some (.agg cs)
      | none => none
      else none
    | none => none
  | _, _ => none
theorem evBuild_sound {P : Program} {G : Gh} {w : World} {t : TypeId} {ps : List (Nat × DV)} {pv : Array (Nat × Value)} {e : DV} (h : evBuild P t ps = some e) (hl : pv.size = ps.length)
    (hp : ∀ (i : Nat) (p : Nat × DV) (q : Nat × Value), ps[i]? = some p → pv[i]? = some q → p.1 = q.1 ∧ CRel G w p.2 q.2) : ∃ v, (Instr.build t pv).run P w = .ok v w ∧ CRel G w e v := by
  unfold evBuild at h
  split at h
  · rename_i z fs hz hu
    split at h
    · rename_i places hpl
      split at h
      · rename_i h1
        split at h
        · rename_i cs hf
          injection h with h; subst h
          · obtain ⟨it, hi, hz⟩ := zrT_info hz
            obtain ⟨k1, k2⟩ := cellsV_rel G w z
            obtain ⟨vs', m1, m2, m3⟩ := fill_sound (fun i => places[i]?) ps pv.toList (cellsV z) cs z.cells hf (by simpa using hl) (fun i p q a b => hp i p q a (by simpa using b)) k1 (fun j d x hd hx => ⟨k2 j d x hd hx, allOne_get h1 hx⟩)
            refine ⟨.agg vs', run_build w t pv vs' ?_, .agg _ _ m2 (fun i d x hd hx => (m3 i d x hd hx).1)⟩
            unfold Program.built
            simp only [hi, hu, hz, placesA_eq P _ _ hpl]
            simpa using m1
        · cases h
      · cases h
    · cases h
  · cases h

def evBuildSlice (P : Program) (t : TypeId) (n : Nat) (ps : List (Nat × DV)) (μ : Mem) : Option (DV × Mem) :=
  match elT P t with
  | some e => match szT P e, zrT P e with
    | some s, some z => if n = 0 ∧ ps.length = 0 then some (.cut0, ⟨μ.boxes ++ [⟨e, [], false⟩], μ.toks, μ.objs⟩) else if 0 < n * s ∧ n * s ≤ 16777216 ∧ z.cells.size = s ∧ allOne z = true then
        match fillA (fun i => some (i * s, s)) (List.replicate (n * s) .undef) ps with
        | some cs => some (.bsl μ.boxes.length 0 s n n, ⟨μ.boxes ++ [⟨e, cs, false⟩], μ.toks, μ.objs⟩)
        | none => none
      else none
    | _, _ => none
  | none => none
theorem evBuildSlice_sound {P : Program} {G : Gh} {μ μ' : Mem} {w : World} (hM : MRel G μ w) {t : TypeId} {n : Nat} {ps : List (Nat × DV)} {pv : Array (Nat × Value)} {d : DV} (h : evBuildSlice P t n ps μ = some (d, μ')) (hl : pv.size = ps.length)
    (hp : ∀ (i : Nat) (p : Nat × DV) (q : Nat × Value), ps[i]? = some p → pv[i]? = some q → p.1 = q.1 ∧ CRel G w p.2 q.2) :
    ∃ w' G' v, (Instr.buildSlice t n pv).run P w = .ok v w' ∧ CRel G' w' d v ∧ MRel G' μ' w' ∧ Grw G w G' w' := by
  unfold evBuildSlice at h
  split at h
  · rename_i e he
    split at h
    · rename_i s z hs hz
      split at h
      · rename_i hc
        obtain ⟨rfl, hps⟩ := hc
        injection h with h; injection h with ha hb; subst ha; subst hb
        obtain ⟨q1, q2, q3⟩ := new_loc hM e [] #[] rfl (fun i d x hd => by simp at hd)
        have hpv : pv = #[] := Array.size_eq_zero_iff.1 (by omega)
        subst hpv
        refine ⟨_, _, .slice (some ⟨w.heap.size, 0, none⟩) 0 0, ?_, .cut0 _, q1, q2⟩
        simp [Instr.buildSlice, run_underlying (elT_und he), sizeOf_run hs, Instr.fill, newRow]
        exact congrArg (fun c => w.alloc (Obj.cells c e)) (Array.eq_empty_of_size_eq_zero (by simp))
      split at h
      · rename_i hc
        obtain ⟨c1, c2, c3, c4⟩ := hc
        split at h
        · rename_i cs hf
          injection h with h; injection h with ha hb; subst ha; subst hb
          · obtain ⟨ie, hi, hz⟩ := zrT_info hz
            have hsz : ie.size = s := by unfold szT at hs; rw [hi] at hs; injection hs
            have hs0 : 0 < s := by rcases Nat.eq_zero_or_pos s with h0 | h0
                                   · rw [h0] at c1; simp at c1
                                   · exact h0
            obtain ⟨vs', m1, m2, m3⟩ := fill_sound (fun i => some (i * s, s)) ps pv.toList (List.replicate (n * s) .undef) cs ((Array.range (n * s)).map (z.cells[· % z.cells.size]!)) hf (by simpa using hl) (fun i p q a b => hp i p q a (by simpa using b)) (by simp) (fun j q x hq hx => by
              have hj := (List.getElem?_eq_some_iff.1 hq).1
              simp only [List.length_replicate] at hj
              rw [List.getElem?_replicate, if_pos hj] at hq
              injection hq with hq
              subst hq
              refine ⟨.undef _, ?_⟩
              simp only [Array.getElem?_map, Array.getElem?_range, hj, if_true, Option.map_some, Option.some.injEq] at hx
              subst hx
              have hm : j % z.cells.size < z.cells.size := Nat.mod_lt _ (by omega)
              exact allOne_get c4 (i := j % z.cells.size) (by rw [getElem!_pos z.cells (j % z.cells.size) hm]; exact Array.getElem?_eq_getElem hm))
            obtain ⟨q1, q2, q3⟩ := new_loc hM e cs vs' m2 m3
            have hbnd : n ≤ n * s := Nat.le_mul_of_pos_right n hs0
            refine ⟨_, _, .slice (some ⟨w.heap.size, 0, none⟩) n n, run_buildSlice w t e n pv vs' ie z (elT_und he) hi hz (by rw [hsz]; omega) (by rw [hsz]; omega) (by rw [hsz]; exact m1), .bsl _ _ _ _ _ _ q3 (Nat.le_refl _) (by omega), q1, q2⟩
        · cases h
      · cases h
    · cases h
  · cases h

/-- a made slice of whole cells -/
def evMake (P : Program) (t : TypeId) (l c : DV) (μ : Mem) : Option (DV × Mem) :=
  match elT P t, l, c with
  | some e, .p (.v (.int _ a)), .p (.v (.int _ b)) => match zrT P e, szT P e, byT P e with
    | some z, some n, some m => if n = 1 ∧ z.oneCell' = true ∧ 0 ≤ a ∧ a ≤ b ∧ b ≤ 1099511627776 ∧ m ≤ 128 then
          some (.bsl μ.boxes.length 0 1 a.toNat b.toNat, ⟨μ.boxes ++ [⟨e, List.replicate b.toNat (.p (.v z)), false⟩], μ.toks, μ.objs⟩) else none
    | _, _, _ => none
  | _, _, _ => none
theorem evMake_sound {P : Program} {G : Gh} {μ μ' : Mem} {w : World} (hM : MRel G μ w) {t : TypeId} {l c d : DV} {x y : Value} (hx : CRel G w l x) (hy : CRel G w c y) (h : evMake P t l c μ = some (d, μ')) :
    ∃ w' G' v, (Instr.makeSlice t x y).run P w = .ok v w' ∧ CRel G' w' d v ∧ MRel G' μ' w' ∧ Grw G w G' w' := by
  unfold evMake at h
  split at h
  · rename_i e ka a kb b he
    cases hx with
    | p d1 x hp1 =>
    cases hp1
    cases hy with
    | p d2 y hp2 =>
    cases hp2
    split at h
    · rename_i z n m hz hsn hbm
      · obtain ⟨i, hi, hz⟩ := zrT_info hz
        have hsn : i.size = n := by unfold szT at hsn; rw [hi] at hsn; injection hsn
        have hbm : i.bytes = m := by unfold byT at hbm; rw [hi] at hbm; injection hbm
        subst hsn; subst hbm
        split at h
        · rename_i hc
          obtain ⟨c1, c3, c4, c5, c6, c7⟩ := hc
          have c2 : z.cells = #[z] := by cases z <;> simp_all [Value.cells, Value.oneCell']
          injection h with h; injection h with ha hb; subst ha; subst hb
          obtain ⟨na, rfl⟩ := Int.eq_ofNat_of_zero_le c4
          obtain ⟨nb, rfl⟩ := Int.eq_ofNat_of_zero_le (Int.le_trans c4 c5)
          have w1 : IntKind.i64.wrap (na : Int) = na := by rw [IntKind.wrap_i64]; omega
          have w2 : IntKind.i64.wrap (nb : Int) = nb := by rw [IntKind.wrap_i64]; omega
          have hb48 : ¬ ((i.bytes : Int) * nb > 281474976710656) := by
            have : i.bytes * nb ≤ 128 * 1099511627776 := Nat.mul_le_mul c7 (by omega)
            have h2 : ((i.bytes * nb : Nat) : Int) ≤ 140737488355328 := by omega
            rw [Int.natCast_mul] at h2
            omega
          have hcells : (Array.range nb).map (fun k => z.cells[k % z.cells.size]!) = Array.replicate nb z := by
            apply Array.ext
            · simp
            · intro k h1 h2
              simp [c2, Nat.mod_one]
          obtain ⟨q1, q2, q3⟩ := new_loc hM e (List.replicate nb (.p (.v z))) (Array.replicate nb z) (by simp) (fun j q v hq hv => by
            have hj := (List.getElem?_eq_some_iff.1 hq).1
            simp only [List.length_replicate] at hj
            rw [List.getElem?_replicate, if_pos hj] at hq
            rw [Array.getElem?_replicate, if_pos hj] at hv
            injection hq with hq; injection hv with hv; subst hq; subst hv
            exact ⟨.p _ _ (.v _), c3⟩)
          refine ⟨_, _, .slice (some ⟨w.heap.size, 0, none⟩) na nb, ?_, .bsl _ _ _ _ _ _ q3 (by omega) (by omega), q1, q2⟩
          have hn : ¬ ((nb : Int) < 0) := by omega
          have ha' : ¬ ((na : Int) < 0) := by omega
          have hle : ¬ ((nb : Int) < na) := by omega
          have hsz : ¬ nb < na := by omega
          by_cases h0 : nb = 0
          · subst h0
            obtain rfl : na = 0 := by omega
            have w0 : IntKind.i64.wrap 0 = 0 := by rw [IntKind.wrap_i64]; rfl
            simp [Instr.makeSlice, run_underlying (elT_und he), asInt, asIntOf, typeInfo, hi, w0, sizeOf, c1, newRow]
            congr 2
            exact Array.eq_empty_of_size_eq_zero (by simp)
          · simp [Instr.makeSlice, run_underlying (elT_und he), asInt, asIntOf, typeInfo, zeroValue, hi, hz, w1, w2, hb48, hn, ha', hsz, sizeOf, c1, newRow, h0, hcells]
        · cases h
    · cases h
  · cases h

theorem append_cut0 {P : Program} {G : Gh} {μ : Mem} {w : World} (hM : MRel G μ w) {T ty e : TypeId} {i : TypeInfo} {z : Value} {s : Nat} (hT : P.underlying T = some (.slice e)) (hi : P.info? e = some i) (hz : i.zero = some z) (hsize : i.size = s) (hzs : z.cells.size = s) (hs0 : 0 < s)
    (A : Option Addr) {ys : List PD} {y : Value} {news : List Value} (hy : SrcOf G.Z w s ys y news) (hbytes : ys.length * i.bytes ≤ 140737488355328) (h63 : ys.length ≤ 9223372036854775807) :
    ∃ v' w' G', (Builtin.append_ #[T, T] ty #[.slice A 0 0, y]).run P w = .ok v' w' ∧ CRel G' w' (.p (.sl ys)) v' ∧ MRel G' μ w' ∧ Grw G w G' w' := by
  obtain ⟨A', c, hyv, hyc⟩ := hy.val
  by_cases hm : ys.length = 0
  · have hys : ys = [] := List.eq_nil_of_length_eq_zero hm
    subst hys
    refine ⟨.slice A 0 0, w, G, ?_, .p _ _ (.sl [] A 0 0 (fun _ => undef) (Nat.le_refl _) (by simp) (by simp) (by simp) (by simp)), hM, Grw.refl G w⟩
    rw [hyv]; exact run_append_none P w T ty e i hT hi _ _ _ _ _ (Nat.le_refl _)
  have hnl : 0 < news.length := by rw [hy.len]; exact Nat.mul_pos (by omega) hs0
  obtain ⟨ga, oa, hA0, _⟩ := hyc 0 news[0] (List.getElem?_eq_getElem hnl)
  have hcells : ∀ (j : Nat) (u : Value), news[j]? = some u → w.cell? ((⟨ga, oa, none⟩ : Addr).add j) = some u := by
    intro j u hu
    obtain ⟨g, o, h1, h2⟩ := hyc j u hu
    rw [hA0] at h1
    injection h1 with h1
    injection h1 with h1 h1'
    subst h1; subst h1'
    rw [Addr.add_mid]; exact h2
  subst hsize
  have hsrc : Src P i.size T (.slice (some ⟨ga, oa, none⟩) ys.length c) ys.length news w := Src.ofSlice w hT _ _ _ _ hy.len hcells hy.one
  have hold : (Builtin.firstCells i.size 0 (.slice A 0 0)).run P w.drew = .ok ([] : List Value).toArray w.drew := by
    cases A <;> simp [Builtin.firstCells, loadCells, loadCellsFrom]
  have hr := run_append_grow_src w T T ty e i z hT hi hz A 0 0 [] hold (.slice (some ⟨ga, oa, none⟩) ys.length c) ys.length news hsrc (by omega) (by omega) (by
    rw [Nat.zero_add, nextslicecap_zero (by omega)]; omega)
  simp only [Nat.zero_add, List.nil_append] at hr
  have hb : Below w.heap.size w (w.drew.alloc (.cells (news.toArray ++ Builtin.zeroCells z.cells (grownCap w ys.length 0 e - ys.length)) e)) := ((Below.refl _ _).drew).alloc (Nat.le_refl _) _
  have hge := grownCap_ge w ys.length 0 e
  have hblk := heap_alloc_new w.drew (.cells (news.toArray ++ Builtin.zeroCells z.cells (grownCap w ys.length 0 e - ys.length)) e)
  refine ⟨_, _, G.grown w _, by rw [hyv, hA0]; exact hr, ?_, hM.below hb, Grw.below hM.zlt hb⟩
  refine .p _ _ (.sl ys _ _ i.size (fun k => news.getD k undef) hge h63 hy.sz (fun a b d q hd hq => ?_) (fun a b d q hd hq => ?_))
  · have ha := (List.getElem?_eq_some_iff.1 hd).1
    have hb' := (List.getElem?_eq_some_iff.1 hq).1
    have hds := hy.sz d (List.mem_of_getElem? hd)
    have hk := mul_add_lt ha (show b < i.size by omega)
    have hkl : a * i.size + b < news.length := by rw [hy.len]; exact hk
    have hval : news.getD (a * i.size + b) undef = news[a * i.size + b] := by rw [List.getD_eq_getElem?_getD, List.getElem?_eq_getElem hkl]; rfl
    refine ⟨w.heap.size, 0, rfl, .inr ⟨Nat.le_refl _, by simp⟩, ?_, by simp only [hval]; exact hy.one _ (List.getElem_mem _)⟩
    rw [Nat.zero_add, hval, cell_of_row _ w.heap.size _ _ e (0, 0) hblk]
    rw [Array.getElem?_append_left (by simpa using hkl)]
    simp [hkl]
  · have ha := (List.getElem?_eq_some_iff.1 hd).1
    have hb' := (List.getElem?_eq_some_iff.1 hq).1
    have hds := hy.sz d (List.mem_of_getElem? hd)
    have hk := mul_add_lt ha (show b < i.size by omega)
    have hkl : a * i.size + b < news.length := by rw [hy.len]; exact hk
    have hval : news.getD (a * i.size + b) undef = news[a * i.size + b] := by rw [List.getD_eq_getElem?_getD, List.getElem?_eq_getElem hkl]; rfl
    simp only [hval]
    exact (hy.rel a b d q _ hd hq (List.getElem?_eq_getElem hkl)).grw (Grw.below hM.zlt hb)

def sized (s : Nat) (l : List PD) : Prop := ∀ d ∈ l, d.cells.length = s
instance (s : Nat) (l : List PD) : Decidable (sized s l) := inferInstanceAs (Decidable (∀ d ∈ l, d.cells.length = s))
def evAppend (P : Program) (T : TypeId) (x y : DV) (μ : Mem) : Option (DV × Mem) :=
  match elT P T with
  | some e => match zrT P e, szT P e, byT P e with
    | some z, some sz, some by_ => match frz 200 μ y with
        | some (.sl ys, μ1) => if 0 < sz ∧ z.cells.size = sz ∧ sized sz ys then
            match x with
            | .row t els => match μ1.toks[t]? with
              | some (some (e', s', n)) => if e' = e ∧ s' = sz ∧ n = els.length ∧ sized sz els ∧ (els.length + ys.length) * by_ ≤ 140737488355328 ∧ els.length + ys.length ≤ 1099511627776 then
                  some (.row t (els ++ ys), ⟨μ1.boxes, μ1.toks.set t (some (e, sz, els.length + ys.length)), μ1.objs⟩) else none
              | _ => none
            | .p (.v (.slice none 0 0)) => if ys.length * by_ ≤ 140737488355328 ∧ ys.length ≤ 1099511627776 then
                some (.row μ1.toks.length ys, ⟨μ1.boxes, μ1.toks ++ [some (e, sz, ys.length)], μ1.objs⟩) else none
            | .cut0 => if ys.length * by_ ≤ 140737488355328 ∧ ys.length ≤ 1099511627776 then some (.p (.sl ys), μ1) else none
            | _ => none
          else none
        | _ => none
    | _, _, _ => none
  | none => none
theorem append_types {P : Program} {w : World} {T T' ty : TypeId} {x y : Value} {e e' : TypeId} (h : P.underlying T = some (.slice e)) (h' : P.underlying T' = some (.slice e')) : (Builtin.append_ #[T, T'] ty #[x, y]).run P w = (Builtin.append_ #[T, T] ty #[x, y]).run P w := by
  cases x <;> first
    | rfl
    | (simp [Builtin.append_, run_underlying h, run_underlying h']; done)
/-- two types of slices -/
def slTs (P : Program) (t t' : TypeId) : Bool := Nat.beq t t' || ((elT P t).isSome && (elT P t').isSome)
theorem slTs_run {P : Program} {w : World} {T T' ty : TypeId} {x y : Value} (h : slTs P T T' = true) : (Builtin.append_ #[T, T'] ty #[x, y]).run P w = (Builtin.append_ #[T, T] ty #[x, y]).run P w := by
  unfold slTs at h
  rw [Bool.or_eq_true, Bool.and_eq_true] at h
  rcases h with h | ⟨h, h'⟩
  · rw [Nat.eq_of_beq_eq_true h]
  · obtain ⟨e, he⟩ := Option.isSome_iff_exists.1 h
    obtain ⟨e', he'⟩ := Option.isSome_iff_exists.1 h'
    exact append_types (elT_und he) (elT_und he')
theorem evAppend_sound {P : Program} {G : Gh} {μ μ' : Mem} {w : World} (hM : MRel G μ w) {T ty : TypeId} {a b d : DV} {x y : Value} (hx : CRel G w a x) (hy : CRel G w b y) (h : evAppend P T a b μ = some (d, μ')) :
    ∃ w' G' v, (Builtin.append_ #[T, T] ty #[x, y]).run P w = .ok v w' ∧ CRel G' w' d v ∧ MRel G' μ' w' ∧ Grw G w G' w' := by
  unfold evAppend at h
  split at h
  case h_2 => cases h
  rename_i e he
  have hT := elT_und he
  split at h
  case h_2 => cases h
  rename_i z sz by_ hz hsn hbm
  obtain ⟨i, hi, hzz⟩ := zrT_info hz
  have hsn : i.size = sz := by unfold szT at hsn; rw [hi] at hsn; injection hsn
  have hbm : i.bytes = by_ := by unfold byT at hbm; rw [hi] at hbm; injection hbm
  subst hsn; subst hbm
  split at h
  case h_2 => cases h
  rename_i ys μ1 hf
  obtain ⟨G1, m1, m2, m3, _⟩ := (frz_sound 200).1 μ b _ μ1 hf G w y hM hy
  have hx1 := hx.grw m2
  split at h
  case isFalse => cases h
  rename_i hc
  obtain ⟨c1, c2, c3⟩ := hc
  obtain ⟨news, hsrc⟩ := SrcOf.sl m3 c3
  split at h
  · rename_i t els
    split at h
    · rename_i e' s' n ht
      split at h
      · rename_i hc2
        obtain ⟨rfl, rfl, rfl, k4, k5, k6⟩ := hc2
        injection h with h; injection h with ha hb; subst ha; subst hb
        obtain ⟨v', w', G', r1, r2, r3, r4⟩ := m1.append ht hx1 rfl hsrc k4 T ty i z hT hi hzz rfl c2 k5 (by omega)
        exact ⟨w', G', v', r1, r2, r3, m2.trans r4⟩
      · cases h
    · cases h
  · split at h
    · rename_i hc2
      injection h with h; injection h with ha hb; subst ha; subst hb
      cases hx1 with
      | p d x hp =>
      cases hp
      obtain ⟨G2, a1, a2, a3⟩ := m1.adopt e i.size c1
      have hsrc2 : SrcOf G2.Z w i.size ys y news := ⟨hsrc.val, hsrc.len, hsrc.one, hsrc.sz, fun a b d e u h1 h2 h3 => (hsrc.rel a b d e u h1 h2 h3).grw a2, hsrc.max⟩
      obtain ⟨v', w', G', r1, r2, r3, r4⟩ := a1.append (t := μ1.toks.length) (by simp) a3 rfl hsrc2 (by simp) T ty i z hT hi hzz rfl c2 (by simpa using hc2.1) (by simp; omega)
      refine ⟨w', G', v', r1, by simpa using r2, ?_, (m2.trans a2).trans r4⟩
      simpa using r3
    · cases h
  · split at h
    · rename_i hc2
      injection h with h; injection h with ha hb; subst ha; subst hb
      cases hx1 with
      | cut0 A =>
      obtain ⟨v', w', G', r1, r2, r3, r4⟩ := append_cut0 m1 (ty := ty) hT hi hzz rfl c2 c1 A hsrc hc2.1 (by omega)
      exact ⟨w', G', v', r1, r2, r3, m2.trans r4⟩
    · cases h
  · cases h
end Go.Proofs.YtmhpccchgbdiiaaGreatDoor
