/- The abstract machine, 2: rows that grow. -/
import Derived.Test.YtikfefjaeejeeaaGreatDoorAe1
namespace Go.Proofs.YtikfefjaeejeeaaGreatDoor
open Go.RowKit

instance : Inhabited PD := ⟨.v (.tuple #[])⟩
/-- cells, taken together to elements of s cells each -/
def chunk (s m : Nat) (cs : List PD) : List PD := (List.range m).map fun i => if s = 1 then cs.getD i default else .agg ((cs.drop (i * s)).take s)
/-- what an append takes its elements from -/
structure SrcOf (Z : Nat → Nat → Prop) (w : World) (s : Nat) (ys : List PD) (y : Value) (news : List Value) : Prop where
  val : ∃ A c, y = .slice A ys.length c ∧ ∀ (j : Nat) (u : Value), news[j]? = some u → ∃ g o, A = some ⟨g, o, none⟩ ∧ w.cell? ⟨g, o + j, none⟩ = some u
  len : news.length = ys.length * s
  one : ∀ u ∈ news, u.oneCell' = true
  sz : ∀ d ∈ ys, d.cells.length = s
  rel : ∀ (i j : Nat) (d e : PD) (u : Value), ys[i]? = some d → d.cells[j]? = some e → news[i * s + j]? = some u → PRel Z w e u
  max : ys.length ≤ 9223372036854775807

theorem divmod_lt {s m k : Nat} (hk : k < m * s) : 0 < s ∧ k / s < m ∧ k % s < s ∧ k / s * s + k % s = k := by
  have hs : 0 < s := by
    rcases Nat.eq_zero_or_pos s with h | h
    · rw [h] at hk; simp at hk
    · exact h
  refine ⟨hs, (Nat.div_lt_iff_lt_mul hs).2 hk, Nat.mod_lt _ hs, ?_⟩
  have := Nat.div_add_mod k s
  rw [Nat.mul_comm] at this
  exact this
theorem mul_add_lt {i j s m : Nat} (hi : i < m) (hj : j < s) : i * s + j < m * s := by
  have : (i + 1) * s ≤ m * s := Nat.mul_le_mul_right s hi
  rw [Nat.add_mul] at this
  omega

theorem SrcOf.sl {Z : Nat → Nat → Prop} {w : World} {s : Nat} {ys : List PD} {y : Value} (h : PRel Z w (.sl ys) y) (hs : ∀ d ∈ ys, d.cells.length = s) : ∃ news, SrcOf Z w s ys y news := by
  cases h with
  | sl els A c sz val hc hm hs' hA hr =>
    have hsz : ∀ i, i < ys.length → sz = s := fun i hi => (hs' _ (List.getElem_mem hi)).symm.trans (hs _ (List.getElem_mem hi))
    have key : ∀ k, k < ys.length * s → ∃ i j d e, i * s + j = k ∧ ys[i]? = some d ∧ d.cells[j]? = some e ∧ sz = s := by
      intro k hk
      obtain ⟨h0, h1, h2, h3⟩ := divmod_lt hk
      have hd : (ys[k / s]'h1).cells.length = s := hs _ (List.getElem_mem h1)
      exact ⟨k / s, k % s, ys[k / s]'h1, (ys[k / s]'h1).cells[k % s]'(by omega), h3, List.getElem?_eq_getElem h1, List.getElem?_eq_getElem _, hsz _ h1⟩
    refine ⟨(List.range (ys.length * s)).map val, ⟨A, c, rfl, ?_⟩, by simp, ?_, hs, ?_, hm⟩
    · intro j u hu
      simp only [List.getElem?_map, Option.map_eq_some_iff, List.getElem?_range] at hu
      obtain ⟨k, hk, rfl⟩ := hu
      have hj := (List.getElem?_eq_some_iff.1 hk).1
      simp only [List.length_range] at hj
      rw [List.getElem?_range hj] at hk
      injection hk with hk
      subst hk
      obtain ⟨a, b, d, e, rfl, hd, he, rfl⟩ := key j hj
      obtain ⟨g, o, h1, _, h3, _⟩ := hA a b d e hd he
      exact ⟨g, o, h1, h3⟩
    · intro u hu
      simp only [List.mem_map, List.mem_range] at hu
      obtain ⟨k, hk, rfl⟩ := hu
      obtain ⟨a, b, d, e, rfl, hd, he, rfl⟩ := key k hk
      obtain ⟨g, o, _, _, _, h4⟩ := hA a b d e hd he
      exact h4
    · intro i j d e u hd he hu
      have hi := (List.getElem?_eq_some_iff.1 hd).1
      have hj := (List.getElem?_eq_some_iff.1 he).1
      have hsd := hs d (List.mem_of_getElem? hd)
      have hlt := mul_add_lt hi (show j < s by omega)
      simp only [List.getElem?_map, List.getElem?_range hlt, Option.map_some, Option.some.injEq] at hu
      subst hu
      have := hr i j d e hd he
      rw [hsz i hi] at this
      exact this

theorem run_append_none (P : Program) (w : World) (t ty e : TypeId) (i : TypeInfo) (ht : P.underlying t = some (.slice e)) (hi : P.info? e = some i) (base A : Option Addr) (n cap c : Nat) (hle : n ≤ cap) :
    (Builtin.append_ #[t, t] ty #[.slice base n cap, .slice A 0 c]).run P w = .ok (.slice base n cap) w := by
  cases base <;> cases A <;> simp [Builtin.append_, run_underlying ht, sizeOf, typeInfo, hi, Builtin.lenOf, Builtin.firstCells, loadCells, loadCellsFrom, hle, storeCells]

theorem World.ownsRow.slice {w : World} {base : Nat} {e : TypeId} {size : Nat} {v : Value} {n : Nat} {xs : List Value} (h : w.ownsRow base e size v n xs) : ∃ A c, v = .slice A n c ∧ n ≤ c := by
  rcases h.2 with ⟨rfl, rfl⟩ | ⟨g, cap, cur, rfl, _, _, hn, _⟩
  · exact ⟨none, 0, rfl, Nat.le_refl _⟩
  · exact ⟨_, cap, rfl, hn⟩

/-- an append of at least one element: where the row lies then -/
theorem append_shape {P : Program} (w : World) (base : Nat) (t ty e : TypeId) (i : TypeInfo) (z : Value) (s : Nat) (ht : P.underlying t = some (.slice e)) (hi : P.info? e = some i) (hz : i.zero = some z)
    (hsize : i.size = s) (hzs : z.cells.size = s) (hs0 : 0 < s) (v : Value) (n : Nat) (xs : List Value) (hown : w.ownsRow base e s v n xs) (hbase : base ≤ w.heap.size)
    (a : Addr) (m c : Nat) (news : List Value) (hl : news.length = m * s) (hnews : ∀ (j : Nat) (u : Value), news[j]? = some u → w.cell? (a.add j) = some u) (h1 : ∀ u ∈ news, u.oneCell' = true)
    (hm : 0 < m) (h63 : n + m ≤ 9223372036854775807) (hbytes : (n + m) * i.bytes ≤ 140737488355328) :
    ∃ v' w' g cap cur, (Builtin.append_ #[t, t] ty #[v, .slice (some a) m c]).run P w = .ok v' w' ∧ v' = .slice (some ⟨g, 0, none⟩) (n + m) cap ∧ w'.heap[g]? = some (.cells cur e (0, 0)) ∧ n + m ≤ cap ∧ cap ≤ maxLen ∧ cur.size = cap * s ∧
      cur.toList.take ((n + m) * s) = xs ++ news ∧ (v.ownBlock = some g ∨ g = w.heap.size) ∧ (∀ k, k < w.heap.size → k ≠ g → w'.heap[k]? = w.heap[k]?) ∧ w'.os = w.os ∧ w'.tape = w.tape ∧ w'.output = w.output ∧ w.heap.size ≤ w'.heap.size ∧ base ≤ g := by
  subst hsize
  have h63' : n + m ≤ maxLen := h63
  have hlen : (xs ++ news).length = (n + m) * i.size := by rw [List.length_append, hown.1, hl, Nat.add_mul]
  have fresh : ∀ old v0, (Builtin.append_ #[t, t] ty #[v0, .slice (some a) m c]).run P w = .ok (.slice (some ⟨w.heap.size, 0, none⟩) (n + m) (grownCap w (n + m) old e)) (w.drew.alloc (.cells (xs.toArray ++ news.toArray ++ Builtin.zeroCells z.cells (grownCap w (n + m) old e - (n + m))) e)) →
      ∃ v' w' g cap cur, (Builtin.append_ #[t, t] ty #[v0, .slice (some a) m c]).run P w = .ok v' w' ∧ v' = .slice (some ⟨g, 0, none⟩) (n + m) cap ∧ w'.heap[g]? = some (.cells cur e (0, 0)) ∧ n + m ≤ cap ∧ cap ≤ maxLen ∧ cur.size = cap * i.size ∧
      cur.toList.take ((n + m) * i.size) = xs ++ news ∧ (v0.ownBlock = some g ∨ g = w.heap.size) ∧ (∀ k, k < w.heap.size → k ≠ g → w'.heap[k]? = w.heap[k]?) ∧ w'.os = w.os ∧ w'.tape = w.tape ∧ w'.output = w.output ∧ w.heap.size ≤ w'.heap.size ∧ base ≤ g := by
    intro old v0 hr
    have hge := grownCap_ge w (n + m) old e
    have hcm : grownCap w (n + m) old e ≤ maxLen := grownCap_le_maxLen w (n + m) old e h63'
    refine ⟨_, _, w.heap.size, _, _, hr, rfl, heap_alloc_new w.drew _, hge, hcm, ?_, ?_, .inr rfl, fun k hk _ => Below.heap_alloc w.drew _ k hk, rfl, rfl, rfl, by simp, hbase⟩
    · simp only [Array.size_append, List.size_toArray, size_zeroCells, hzs, hown.1, hl, ← Nat.add_mul]
      congr 1
      omega
    · simp only [Array.toList_append, List.append_assoc]
      rw [← List.append_assoc, ← hlen]
      exact List.take_left
  rcases hown.2 with ⟨rfl, rfl⟩ | ⟨g, cap, cur, rfl, hbg, hg, hnc, hcm, hcs, htake⟩
  · have hx : xs = [] := List.eq_nil_of_length_eq_zero (by simpa using hown.1)
    subst hx
    have hr := run_append_nil (P := P) w t ty e i z ht hi hz a m c news hl hnews hm (by omega) (by have hb := hbytes; simp only [Nat.zero_add] at hb; omega)
    exact fresh 0 (.slice none 0 0) (by simpa using hr)
  · by_cases hroom : n + m ≤ cap
    · have hfit : n * i.size + news.length ≤ cur.size := by rw [hl, hcs, ← Nat.add_mul]; exact Nat.mul_le_mul_right _ hroom
      have hr := run_append_room (P := P) w t ty e i ht hi g n cap cur hg a m c news hl hnews h1 hroom hfit
      refine ⟨_, _, g, cap, _, hr, rfl, setRow_heap w g cur _ e _ hg, hroom, hcm, ?_, ?_, .inl rfl, fun k _ hk => setRow_other w g k _ hk, rfl, rfl, rfl, by simp, hbg⟩
      · simp only [List.size_toArray, List.length_append, List.length_take, List.length_drop, Array.length_toList]
        omega
      · rw [htake, ← hlen]
        exact List.take_left
    · have holds : ∀ (j : Nat) (u : Value), xs[j]? = some u → w.cell? ((⟨g, 0, none⟩ : Addr).add j) = some u := hown.cells (g := g) rfl
      have hr := run_append_grow (P := P) w t ty e i z ht hi hz ⟨g, 0, none⟩ n cap xs hown.1 holds a m c news hl hnews (by omega) (by omega) (growslice_fits (by omega) hbytes)
      exact fresh cap _ hr

/-- THE LAW of an append to a row of one's own -/
theorem MRel.append {P : Program} {G : Gh} {μ : Mem} {w : World} (h : MRel G μ w) {t : Nat} {e : TypeId} {s n : Nat} (ht : μ.toks[t]? = some (some (e, s, n))) {els : List PD} {x : Value} (hx : CRel G w (.row t els) x) (hn : els.length = n)
    {ys : List PD} {y : Value} {news : List Value} (hy : SrcOf G.Z w s ys y news) (hes : ∀ d ∈ els, d.cells.length = s)
    (T ty : TypeId) (i : TypeInfo) (z : Value) (hT : P.underlying T = some (.slice e)) (hi : P.info? e = some i) (hz : i.zero = some z) (hsize : i.size = s) (hzs : z.cells.size = s)
    (hbytes : (n + ys.length) * i.bytes ≤ 140737488355328) (h63 : n + ys.length ≤ 9223372036854775807) :
    ∃ v' w' G', (Builtin.append_ #[T, T] ty #[x, y]).run P w = .ok v' w' ∧ CRel G' w' (.row t (els ++ ys)) v' ∧ MRel G' ⟨μ.boxes, μ.toks.set t (some (e, s, n + ys.length)), μ.objs⟩ w' ∧ Grw G w G' w' := by
  obtain ⟨q, xs, htv, hown, hs0, hfree⟩ := h.tok t e s n ht
  cases hx with
  | row t els x q' n' hp ht' hle heq =>
  rw [htv] at ht'
  injection ht' with ht'
  injection ht' with e1 e2
  subst e1
  subst e2
  obtain rfl : x = q := heq hn
  obtain ⟨A, c, hyv, hyc⟩ := hy.val
  by_cases hm : ys.length = 0
  · have hys : ys = [] := List.eq_nil_of_length_eq_zero hm
    subst hys
    obtain ⟨A', c', hxv, hcc⟩ := World.ownsRow.slice hown
    subst hxv
    refine ⟨.slice A' n c', w, G, ?_, ?_, ?_, Grw.refl G w⟩
    · rw [hyv]; exact run_append_none P w T ty e i hT hi _ _ _ _ _ hcc
    · rw [List.append_nil]; exact .row t els _ _ _ hp htv hle heq
    · have : μ.toks.set t (some (e, s, n)) = μ.toks := by
        apply List.ext_getElem?
        intro k
        by_cases hk : k = t
        · subst hk; rw [List.getElem?_set_self (List.getElem?_eq_some_iff.1 ht).1, ht]
        · rw [List.getElem?_set_ne (Ne.symm hk)]
      show MRel G ⟨μ.boxes, μ.toks.set t (some (e, s, n + 0)), μ.objs⟩ w
      rw [Nat.add_zero, this]
      exact h
  have hmpos : 0 < ys.length := by omega
  have hnl : 0 < news.length := by rw [hy.len]; exact Nat.mul_pos hmpos hs0
  obtain ⟨ga, oa, hA0, _⟩ := hyc 0 news[0] (List.getElem?_eq_getElem hnl)
  have hcells : ∀ (j : Nat) (u : Value), news[j]? = some u → w.cell? ((⟨ga, oa, none⟩ : Addr).add j) = some u := by
    intro j u hu
    obtain ⟨g, o, h1, h2⟩ := hyc j u hu
    rw [hA0] at h1
    injection h1 with h1
    injection h1 with h1 h1'
    subst h1; subst h1'
    rw [Addr.add_mid]; exact h2
  obtain ⟨v', w', g, cap, cur, hrun, hv', hgg, hnc, hcm, hcs, htake, hwhere, hkeep, hos, htape, hout, hsz, hbg⟩ := append_shape w G.base T ty e i z s hT hi hz hsize hzs hs0 x n xs hown h.hb ⟨ga, oa, none⟩ ys.length c news hy.len hcells hy.one hmpos h63 hbytes
  have hxl : xs.length = n * s := hown.1
  rw [hyv, hA0]
  have hcell' : ∀ (j : Nat) (u : Value), (xs ++ news)[j]? = some u → w'.cell? ⟨g, j, none⟩ = some u := by
    intro j u hu
    rw [cell_of_row w' g j cur e (0, 0) hgg]
    rw [← htake, List.getElem?_take] at hu
    split at hu
    · simpa using hu
    · cases hu
  have hown' : w'.ownsRow G.base e s v' (n + ys.length) (xs ++ news) := ⟨by rw [List.length_append, hxl, hy.len, Nat.add_mul], .inr ⟨g, cap, cur, hv', hbg, hgg, hnc, hcm, hcs, htake⟩⟩
  have hin : ∀ o, (hx : x.ownBlock = some g) → G.Z g o → o < n * s := by
    intro o hx hz
    rcases Nat.lt_or_ge o (n * s) with ho | ho
    · exact ho
    · exact absurd hz ((hfree g hx).1 o ho)
  have hgold : ∀ o, G.Z g o → x.ownBlock = some g := by
    intro o hz
    rcases hwhere with hw | hw
    · exact hw
    · have := h.zlt g o hz; omega
  have hstay : ∀ b o, G.Z b o → w'.cell? ⟨b, o, none⟩ = w.cell? ⟨b, o, none⟩ := by
    intro b o hz
    by_cases hb : b = g
    · subst hb
      have hr := hgold o hz
      have ho := hin o hr hz
      have h1 := hown.cells hr o _ (List.getElem?_eq_getElem (show o < xs.length by omega))
      rw [Addr.add_mid, Nat.zero_add] at h1
      rw [h1]
      exact hcell' o _ (by rw [List.getElem?_append_left (by omega)]; exact List.getElem?_eq_getElem _)
    · exact World.cell?_of_block (w := w) (hkeep b (h.zlt b o hz) hb)
  have htl := (List.getElem?_eq_some_iff.1 ht).1
  have htvl : t < G.tv.length := (List.getElem?_eq_some_iff.1 htv).1
  obtain ⟨G', hG'⟩ : ∃ G', G' = { G with Z := fun b o => G.Z b o ∨ (b = g ∧ o < (n + ys.length) * s), tv := G.tv.set t (n + ys.length, v') } := ⟨_, rfl⟩
  have hnotc : ∀ (o : Obj), w.heap[g]? = some o → cellsO o = false → False := by
    intro o hk hc
    rcases hwhere with hw | hw
    · rcases hown.2 with ⟨hx, _⟩ | ⟨g2, c2, cur2, hx, _, hc2, _⟩
      · rw [hx] at hw; cases hw
      · rw [hx] at hw
        have : g2 = g := by simpa [Value.ownBlock] using hw
        subst this
        rw [hc2] at hk; injection hk with hk; subst hk; cases hc
    · have := (Array.getElem?_eq_some_iff.1 hk).1
      omega
  have hgr : Grw G w G' w' := by
    subst hG'
    refine ⟨rfl, rfl, rfl, fun _ _ hz => .inl hz, fun b o v hz hv => (hstay b o hz).trans hv, fun _ _ hh => hh, fun t1 n1 x1 h1 => ?_, fun _ _ hh => hh, rfl, hsz, fun k o hk hc _ => (hkeep k (Array.getElem?_eq_some_iff.1 hk).1 (fun e => by subst e; exact hnotc o hk hc)).trans hk, fun _ _ h => .inl h⟩
    by_cases ht1 : t1 = t
    · subst ht1
      rw [htv] at h1
      injection h1 with h1
      injection h1 with h1 h2
      subst h1; subst h2
      exact ⟨n + ys.length, v', by simp [List.getElem?_set_self htvl], by omega, fun e => by omega⟩
    · exact ⟨n1, x1, by simp only [List.getElem?_set_ne (Ne.symm ht1)]; exact h1, Nat.le_refl _, fun _ => rfl⟩
  have hkb : ∀ k, k < G.base → w'.heap[k]? = w.heap[k]? := fun k hk => hkeep k (Nat.lt_of_lt_of_le hk h.hb) (by omega)
  have hnotrow : ∀ k, k ≠ g → ∀ o, G.Z k o ↔ G'.Z k o := by
    intro k hk o
    subst hG'
    exact ⟨.inl, fun hz => hz.resolve_right (fun hz => hk hz.1)⟩
  have hmp : MpOK G.base G.mps μ.objs w' := h.mp.keep fun k o _ hk ho => by
    refine (hkeep k (Array.getElem?_eq_some_iff.1 hk).1 fun hkg => ?_).trans hk
    subst hkg
    rcases hwhere with hw | hw
    · rcases hown.2 with ⟨hx, _⟩ | ⟨g2, c2, cur2, hx, _, hc2, _⟩
      · rw [hx] at hw; cases hw
      · rw [hx] at hw
        have : g2 = k := by simpa [Value.ownBlock] using hw
        subst this
        rw [hc2] at hk; injection hk with hk; subst hk; cases ho
    · have := (Array.getElem?_eq_some_iff.1 hk).1
      omega
  refine ⟨v', w', G', hrun, ?_, ?_, hgr⟩
  · subst hG'
    refine .row t _ _ v' (n + ys.length) ?_ (by simp [List.getElem?_set_self htvl]) (by simp [hn]) (fun _ => rfl)
    subst hv'
    have hlen : (els ++ ys).length = n + ys.length := by rw [List.length_append, hn]
    rw [← hlen]
    refine .sl (els ++ ys) _ cap s (fun k => (xs ++ news).getD k undef) (by omega) (by omega) (fun d hd => ?_) (fun a b d q hd hq => ?_) (fun a b d q hd hq => ?_)
    · rcases List.mem_append.1 hd with hd | hd
      · exact hes d hd
      · exact hy.sz d hd
    · have ha := (List.getElem?_eq_some_iff.1 hd).1
      have hb := (List.getElem?_eq_some_iff.1 hq).1
      have hds : d.cells.length = s := by
        rcases List.mem_append.1 (List.mem_of_getElem? hd) with hd | hd
        · exact hes d hd
        · exact hy.sz d hd
      have hk := mul_add_lt ha (show b < s by omega)
      rw [hlen] at hk
      have hkl : a * s + b < (xs ++ news).length := by rw [hown'.1]; exact hk
      have hval : (xs ++ news).getD (a * s + b) undef = (xs ++ news)[a * s + b] := by rw [List.getD_eq_getElem?_getD, List.getElem?_eq_getElem hkl]; rfl
      refine ⟨g, 0, rfl, by rw [Nat.zero_add]; exact .inr ⟨rfl, by rw [hlen]; exact hk⟩, ?_, ?_⟩
      · rw [Nat.zero_add, hval]; exact hcell' _ _ (List.getElem?_eq_getElem hkl)
      · simp only [hval]
        by_cases hlt : a * s + b < xs.length
        · rw [List.getElem_append_left hlt]
          -- a cell of the old row
          have hal : a < els.length := by
            rcases Nat.lt_or_ge a els.length with h1 | h1
            · exact h1
            · have : els.length * s ≤ a * s := Nat.mul_le_mul_right s h1
              rw [hn] at this; omega
          rw [List.getElem?_append_left hal] at hd
          cases hp with
          | sl els A1 c1 sz1 val1 hc1 hm1 hs1 hA1 hr1 =>
          obtain rfl : sz1 = s := (hs1 d (List.mem_of_getElem? hd)).symm.trans hds
          obtain ⟨g1, o1, e1, _, e3, e4⟩ := hA1 a b d q hd hq
          have : some (val1 (a * sz1 + b)) = some xs[a * sz1 + b] := by
            rw [← e3]
            rcases hown.2 with ⟨hh, _⟩ | ⟨g0, cap0, cur0, hh, _⟩
            · rw [hh] at heq; injection hh with hh; rw [e1] at hh; cases hh
            · injection hh with hh
              rw [e1] at hh
              injection hh with hh
              injection hh with hh1 hh2
              subst hh1; subst hh2
              have := hown.cells (g := g1) (by rw [e1]; rfl) (a * sz1 + b) _ (List.getElem?_eq_getElem hlt)
              rwa [Addr.add_mid] at this
          injection this with this
          rw [← this]; exact e4
        · rw [List.getElem_append_right (by omega)]
          exact hy.one _ (List.getElem_mem _)
    · have ha := (List.getElem?_eq_some_iff.1 hd).1
      have hb := (List.getElem?_eq_some_iff.1 hq).1
      have hds : d.cells.length = s := by
        rcases List.mem_append.1 (List.mem_of_getElem? hd) with hd | hd
        · exact hes d hd
        · exact hy.sz d hd
      have hk := mul_add_lt ha (show b < s by omega)
      rw [hlen] at hk
      have hkl : a * s + b < (xs ++ news).length := by rw [hown'.1]; exact hk
      have hval : (xs ++ news).getD (a * s + b) undef = (xs ++ news)[a * s + b] := by rw [List.getD_eq_getElem?_getD, List.getElem?_eq_getElem hkl]; rfl
      simp only [hval]
      by_cases hal : a < els.length
      · rw [List.getElem?_append_left hal] at hd
        have hlt : a * s + b < xs.length := by
          have := mul_add_lt hal (show b < s by omega)
          rw [hxl, ← hn]; exact this
        rw [List.getElem_append_left hlt]
        cases hp with
        | sl els A1 c1 sz1 val1 hc1 hm1 hs1 hA1 hr1 =>
        obtain rfl : sz1 = s := (hs1 d (List.mem_of_getElem? hd)).symm.trans hds
        obtain ⟨g1, o1, e1, _, e3, e4⟩ := hA1 a b d q hd hq
        have : some (val1 (a * sz1 + b)) = some xs[a * sz1 + b] := by
          rw [← e3]
          rcases hown.2 with ⟨hh, _⟩ | ⟨g0, cap0, cur0, hh, _⟩
          · injection hh with hh; rw [e1] at hh; cases hh
          · injection hh with hh
            rw [e1] at hh
            injection hh with hh
            injection hh with hh1 hh2
            subst hh1; subst hh2
            have := hown.cells (g := g1) (by rw [e1]; rfl) (a * sz1 + b) _ (List.getElem?_eq_getElem hlt)
            rwa [Addr.add_mid] at this
        injection this with this
        rw [← this]
        exact (hr1 a b d q hd hq).mono (fun _ _ hz => .inl hz) hstay
      · rw [List.getElem?_append_right (by omega)] at hd
        have hge : xs.length ≤ a * s + b := by
          have : els.length * s ≤ a * s := Nat.mul_le_mul_right s (by omega)
          rw [hn] at this; omega
        rw [List.getElem_append_right hge]
        have hidx : a * s + b - xs.length = (a - els.length) * s + b := by
          rw [Nat.sub_mul, hn, hxl]
          have : n * s ≤ a * s := Nat.mul_le_mul_right s (by omega)
          omega
        refine (hy.rel (a - els.length) b d q _ hd hq ?_).mono (fun _ _ hz => .inl hz) hstay
        rw [← hidx]; exact List.getElem?_eq_getElem _
  · refine ⟨?_, ?_, ?_, ?_, ?_, ?_, ?_, ?_, ?_, ?_, by subst hG'; exact h.lw, by subst hG'; exact hmp⟩
    · subst hG'; exact h.bel.trans ⟨hos, htape, hout, hsz, hkb⟩
    · subst hG'; exact Nat.le_trans h.hb hsz
    · subst hG'
      rintro b o (hz | ⟨rfl, _⟩)
      · exact Nat.lt_of_lt_of_le (h.zlt b o hz) hsz
      · exact (Array.getElem?_eq_some_iff.1 hgg).1
    · subst hG'
      rintro b o (hz | ⟨rfl, _⟩)
      · exact h.zsub b o hz
      · exact .inr hbg
    · subst hG'; exact h.len
    · subst hG'; simpa using h.tlen
    · subst hG'; exact h.inj
    · intro j B gb hB hgb
      have hgb0 : G.bs[j]? = some gb := by subst hG'; exact hgb
      obtain ⟨k1, vs, k2, k3, k4, k5⟩ := h.box j B gb hB hgb0
      have hgbl : gb < w.heap.size := (Array.getElem?_eq_some_iff.1 k2).1
      have hne : gb ≠ g := by
        intro he
        rcases hwhere with hw | hw
        · exact (hfree g hw).2 j (by rw [← he]; exact hgb0)
        · omega
      refine ⟨by subst hG'; exact k1, vs, (hkeep gb hgbl hne).trans k2, k3, fun i d x hd hx => ⟨(k4 i d x hd hx).1.grw hgr, (k4 i d x hd hx).2⟩, fun hs o hz => ?_⟩
      exact k5 hs o ((hnotrow gb hne o).2 hz)
    · intro t1 e1 s1 n1 h1
      by_cases ht1 : t1 = t
      · subst ht1
        simp only [List.getElem?_set_self htl, Option.some.injEq, Prod.mk.injEq] at h1
        obtain ⟨rfl, rfl, rfl⟩ := h1
        refine ⟨v', xs ++ news, by subst hG'; simp [List.getElem?_set_self htvl], by subst hG'; exact hown', hs0, fun gg hgv => ?_⟩
        obtain rfl : gg = g := by rw [hv'] at hgv; simpa [Value.ownBlock] using hgv.symm
        refine ⟨fun o ho hz => ?_, fun j hj => ?_⟩
        · subst hG'
          rcases hz with hz | hz
          · have hr := hgold o hz
            have := hin o hr hz
            rw [Nat.add_mul] at ho
            omega
          · omega
        · have hj0 : G.bs[j]? = some gg := by subst hG'; exact hj
          rcases hwhere with hw | hw
          · exact (hfree gg hw).2 j hj0
          · have hjl := (List.getElem?_eq_some_iff.1 hj0).1
            obtain ⟨_, vs, k2, _⟩ := h.box j (μ.boxes[j]'(by rw [← h.len]; exact hjl)) gg (List.getElem?_eq_getElem _) hj0
            have := (Array.getElem?_eq_some_iff.1 k2).1
            omega
      · simp only [List.getElem?_set_ne (Ne.symm ht1)] at h1
        obtain ⟨x1, xs1, k1, k2, k3, k4⟩ := h.tok t1 e1 s1 n1 h1
        have hneb : ∀ gg, x1.ownBlock = some gg → gg ≠ g := by
          intro gg hgv he
          rcases hwhere with hw | hw
          · exact ht1 (h.tne t1 t _ _ _ _ gg h1 ht k1 htv hgv (by rw [he]; exact hw))
          · have := (k2.lt gg hgv).2; omega
        refine ⟨x1, xs1, by subst hG'; simp only [List.getElem?_set_ne (Ne.symm ht1)]; exact k1, ?_, k3, fun gg hgv => ⟨fun o ho hz => ?_, fun j hj => ?_⟩⟩
        · have hb : G'.base = G.base := by subst hG'; rfl
          rw [hb]
          refine k2.kept (row := some g) ⟨hos, htape, hout, hsz, fun k hk hne => hkeep k hk (fun e => hne (by rw [e]))⟩ (.inr fun he => hneb g he rfl)
        · exact (k4 gg hgv).1 o ho ((hnotrow gg (hneb gg hgv) o).2 hz)
        · exact (k4 gg hgv).2 j (by subst hG'; exact hj)
    · intro t1 t2 a1 a2 x1 x2 gg h1 h2 k1 k2 b1 b2
      have other : ∀ (t1 : Nat) (a1 : TypeId × Nat × Nat) (x1 : Nat × Value), t1 ≠ t → (μ.toks.set t (some (e, s, n + ys.length)))[t1]? = some (some a1) → G'.tv[t1]? = some x1 → x1.2.ownBlock = some g → False := by
        intro t1 a1 x1 ht1 h1 k1 b1
        simp only [List.getElem?_set_ne (Ne.symm ht1)] at h1
        have k1' : G.tv[t1]? = some x1 := by subst hG'; simpa only [List.getElem?_set_ne (Ne.symm ht1)] using k1
        obtain ⟨q1, q2, q3⟩ := a1
        obtain ⟨x3, xs3, m1, m2, _, _⟩ := h.tok t1 q1 q2 q3 h1
        rw [k1'] at m1
        injection m1 with m1
        subst m1
        rcases hwhere with hw | hw
        · exact ht1 (h.tne t1 t _ _ _ _ g h1 ht k1' htv b1 hw)
        · have := (m2.lt g b1).2; omega
      have self : ∀ (x1 : Nat × Value), G'.tv[t]? = some x1 → x1.2.ownBlock = some gg → gg = g := by
        intro x1 k1 b1
        subst hG'
        simp only [List.getElem?_set_self htvl, Option.some.injEq] at k1
        subst k1
        rw [hv'] at b1
        simpa [Value.ownBlock] using b1.symm
      by_cases e1 : t1 = t <;> by_cases e2 : t2 = t
      · rw [e1, e2]
      · subst e1
        obtain rfl := self x1 k1 b1
        exact (other t2 a2 x2 e2 h2 k2 b2).elim
      · subst e2
        obtain rfl := self x2 k2 b2
        exact (other t1 a1 x1 e1 h1 k1 b1).elim
      · simp only [List.getElem?_set_ne (Ne.symm e1)] at h1
        simp only [List.getElem?_set_ne (Ne.symm e2)] at h2
        have k1' : G.tv[t1]? = some x1 := by subst hG'; simpa only [List.getElem?_set_ne (Ne.symm e1)] using k1
        have k2' : G.tv[t2]? = some x2 := by subst hG'; simpa only [List.getElem?_set_ne (Ne.symm e2)] using k2
        exact h.tne t1 t2 _ _ _ _ gg h1 h2 k1' k2' b1 b2
end Go.Proofs.YtikfefjaeejeeaaGreatDoor

/- The abstract machine, 3: a nil slice as a row; boxes that are shut; values as pure data. -/
namespace Go.Proofs.YtikfefjaeejeeaaGreatDoor
open Go.RowKit

/-- a nil slice is a row of one's own -/
theorem MRel.adopt {G : Gh} {μ : Mem} {w : World} (h : MRel G μ w) (e : TypeId) (s : Nat) (hs : 0 < s) :
    ∃ G', MRel G' ⟨μ.boxes, μ.toks ++ [some (e, s, 0)], μ.objs⟩ w ∧ Grw G w G' w ∧ CRel G' w (.row μ.toks.length []) (.slice none 0 0) := by
  have key : ∀ {α : Type} (l : List α) (a : α) (t : Nat) (x : α), (l ++ [a])[t]? = some x → l[t]? = some x ∨ (t = l.length ∧ x = a) := by
    intro α l a t x hx
    rcases Nat.lt_trichotomy t l.length with ht | ht | ht
    · left; rwa [List.getElem?_append_left ht] at hx
    · right; subst ht; simp at hx; exact ⟨rfl, hx.symm⟩
    · rw [List.getElem?_eq_none (by simp; omega)] at hx; cases hx
  have old : ∀ {α : Type} (l : List α) (a : α) (t : Nat) (x : α), l[t]? = some x → (l ++ [a])[t]? = some x := by
    intro α l a t x hx
    rw [List.getElem?_append_left (List.getElem?_eq_some_iff.1 hx).1]; exact hx
  have hgr : Grw G w { G with tv := G.tv ++ [(0, .slice none 0 0)] } w :=
    ⟨rfl, rfl, rfl, fun _ _ hz => hz, fun _ _ _ _ h => h, fun _ _ hh => hh, fun t n x ht => ⟨n, x, old _ _ _ _ ht, Nat.le_refl _, fun _ => rfl⟩, fun _ _ h => h, rfl, Nat.le_refl _, fun _ _ h _ _ => h, fun _ _ h => .inl h⟩
  refine ⟨{ G with tv := G.tv ++ [(0, .slice none 0 0)] }, ⟨h.bel, h.hb, h.zlt, h.zsub, h.len, by simp [h.tlen], h.inj, ?_, ?_, ?_, h.lw, h.mp⟩, hgr, ?_⟩
  · intro j B g hB hg
    obtain ⟨h1, vs, h2, h3, h4, h5⟩ := h.box j B g hB hg
    exact ⟨h1, vs, h2, h3, fun i d x hd hx => ⟨(h4 i d x hd hx).1.grw hgr, (h4 i d x hd hx).2⟩, h5⟩
  · intro t e' s' n ht
    rcases key _ _ _ _ ht with ht | ⟨htt, hx⟩
    · obtain ⟨x, xs, h1, h2, h3, h4⟩ := h.tok t e' s' n ht
      exact ⟨x, xs, old _ _ _ _ h1, h2, h3, h4⟩
    · injection hx with hx
      injection hx with hx1 hx2
      injection hx2 with hx2 hx3
      subst hx1; subst hx2; subst hx3; subst htt
      refine ⟨.slice none 0 0, [], ?_, World.ownsRow_nil _ _ _ _, hs, fun g hg => by simp [Value.ownBlock] at hg⟩
      show (G.tv ++ [(0, Value.slice none 0 0)])[μ.toks.length]? = _
      rw [← h.tlen]; simp
  · intro t t' a a' x x' g h1 h2 k1 k2 b1 b2
    have nonil : ∀ (t : Nat) (x : Nat × Value), (G.tv ++ [(0, Value.slice none 0 0)])[t]? = some x → x.2.ownBlock = some g → G.tv[t]? = some x := by
      intro t x hx hb
      rcases key _ _ _ _ hx with hx | ⟨_, hx⟩
      · exact hx
      · subst hx; simp [Value.ownBlock] at hb
    have k1' := nonil t x k1 b1
    have k2' := nonil t' x' k2 b2
    have l1 := (List.getElem?_eq_some_iff.1 k1').1
    have l2 := (List.getElem?_eq_some_iff.1 k2').1
    rw [h.tlen] at l1 l2
    simp only [List.getElem?_append_left l1] at h1
    simp only [List.getElem?_append_left l2] at h2
    exact h.tne t t' a a' x x' g h1 h2 k1' k2' b1 b2
  · refine .row _ _ _ (.slice none 0 0) 0 ?_ ?_ (Nat.le_refl _) (fun _ => rfl)
    · exact .sl [] none 0 0 (fun _ => undef) (Nat.le_refl _) (by simp) (by simp) (by simp) (by simp)
    · show (G.tv ++ [(0, Value.slice none 0 0)])[μ.toks.length]? = _
      rw [← h.tlen]; simp

/-- a box is shut: what it holds stays -/
theorem MRel.shutBox {G : Gh} {μ : Mem} {w : World} (h : MRel G μ w) {b g : Nat} {B : Box} (hB : μ.boxes[b]? = some B) (hg : G.bs[b]? = some g) :
    ∃ G', MRel G' ⟨μ.boxes.set b ⟨B.t, B.cells, true⟩, μ.toks, μ.objs⟩ w ∧ Grw G w G' w ∧ (∀ o, G'.Z g o) ∧ G'.bs = G.bs := by
  obtain ⟨g1, vs0, g2, g3, g4, g5⟩ := h.box b B g hB hg
  have hb := (List.getElem?_eq_some_iff.1 hB).1
  have hgl := (Array.getElem?_eq_some_iff.1 g2).1
  have hgr : Grw G w { G with Z := fun k o => G.Z k o ∨ k = g } w :=
    ⟨rfl, rfl, rfl, fun _ _ hz => .inl hz, fun _ _ _ _ h => h, fun _ _ hh => hh, fun t n x ht => ⟨n, x, ht, Nat.le_refl _, fun _ => rfl⟩, fun _ _ h => h, rfl, Nat.le_refl _, fun _ _ h _ _ => h, fun _ _ h => .inl h⟩
  refine ⟨{ G with Z := fun k o => G.Z k o ∨ k = g }, ⟨h.bel, h.hb, ?_, ?_, by simpa using h.len, h.tlen, h.inj, ?_, ?_, h.tne, h.lw, h.mp⟩, hgr, fun o => .inr rfl, rfl⟩
  · rintro k o (hz | rfl)
    · exact h.zlt k o hz
    · exact hgl
  · rintro k o (hz | rfl)
    · exact h.zsub k o hz
    · exact .inr g1
  · intro j B' g' hB' hg'
    by_cases hj : j = b
    · subst hj
      rw [show G.bs[j]? = some g' from hg'] at hg
      injection hg with hg
      subst hg
      simp only [List.getElem?_set_self hb, Option.some.injEq] at hB'
      subst hB'
      exact ⟨g1, vs0, g2, g3, fun i d x hd hx => ⟨(g4 i d x hd hx).1.grw hgr, (g4 i d x hd hx).2⟩, fun h => by cases h⟩
    · simp only [List.getElem?_set_ne (Ne.symm hj)] at hB'
      obtain ⟨k1, vs', k2, k3, k4, k5⟩ := h.box j B' g' hB' hg'
      have hne : g' ≠ g := fun e => hj (h.inj j b g (by rw [← e]; exact hg') hg)
      exact ⟨k1, vs', k2, k3, fun i d x hd hx => ⟨(k4 i d x hd hx).1.grw hgr, (k4 i d x hd hx).2⟩, fun hs o hz => hz.elim (k5 hs o) hne⟩
  · intro t e s n ht
    obtain ⟨x, xs, h1, h2, h3, h4⟩ := h.tok t e s n ht
    exact ⟨x, xs, h1, h2, h3, fun gg hgv => ⟨fun o ho hz => hz.elim ((h4 gg hgv).1 o ho) (fun e => (h4 gg hgv).2 b (by rw [e]; exact hg)), (h4 gg hgv).2⟩⟩

/-- nil is an empty slice -/
def frzP : PD → PD
  | .v (.slice _ 0 _) => .sl []
  | d => d
theorem frzP_rel {Z : Nat → Nat → Prop} {w : World} {d : PD} {x : Value} (h : PRel Z w d x) : PRel Z w (frzP d) x := by
  unfold frzP
  split
  · cases h; exact .sl [] _ _ 0 (fun _ => undef) (Nat.zero_le _) (by simp) (by simp) (by simp) (by simp)
  · exact h
def PD.single : PD → Bool
  | .agg _ => false
  | _ => true
theorem PD.single_cells {d : PD} (h : d.single = true) : d.cells = [d] := by cases d <;> simp_all [PD.single, PD.cells]
mutual
/-- a value as pure data; boxes behind slices are shut -/
def frz : Nat → Mem → DV → Option (PD × Mem)
  | 0, _, _ => none
  | k + 1, μ, d => match d with
    | .p d => some (frzP d, μ)
    | .row _ els => some (.sl els, μ)
    | .cut0 => some (.sl [], μ)
    | .fn f [] => some (.v (.func (.func f) #[] #[]), μ)
    | .agg cs => match frzL k μ cs with | some (l, μ') => some (.agg l, μ') | none => none
    | .tup cs => match frzL k μ cs with | some (l, μ') => some (.tup l, μ') | none => none
    | .bsl b off sz len _ => match μ.boxes[b]? with
      | some B => if off + len * sz ≤ B.cells.length then match frzL k ⟨μ.boxes.set b ⟨B.t, B.cells, true⟩, μ.toks, μ.objs⟩ ((B.cells.drop off).take (len * sz)) with
          | some (l, μ') => if sz ≠ 1 ∨ l.all PD.single = true then some (.sl (chunk sz len l), μ') else none
          | none => none
        else none
      | none => none
    | _ => none
def frzL : Nat → Mem → List DV → Option (List PD × Mem)
  | 0, _, _ => none
  | _ + 1, μ, [] => some ([], μ)
  | k + 1, μ, d :: r => match frz k μ d with
    | some (p, μ1) => match frzL k μ1 r with
      | some (l, μ2) => some (p :: l, μ2)
      | none => none
    | none => none
end

theorem chunk_length (s m : Nat) (l : List PD) : (chunk s m l).length = m := by simp [chunk]
theorem chunk_get {s m : Nat} {l : List PD} {i : Nat} {d : PD} (h : (chunk s m l)[i]? = some d) : i < m ∧ d = if s = 1 then l.getD i default else .agg ((l.drop (i * s)).take s) := by
  have hi : i < m := by have := (List.getElem?_eq_some_iff.1 h).1; rwa [chunk_length] at this
  refine ⟨hi, ?_⟩
  simp only [chunk, List.getElem?_map, List.getElem?_range hi, Option.map_some, Option.some.injEq] at h
  exact h.symm

theorem frz_sound : ∀ (k : Nat),
    (∀ (μ : Mem) (d : DV) (q : PD) (μ' : Mem), frz k μ d = some (q, μ') → ∀ (G : Gh) (w : World) (x : Value), MRel G μ w → CRel G w d x → ∃ G', MRel G' μ' w ∧ Grw G w G' w ∧ PRel G'.Z w q x ∧ G'.bs = G.bs) ∧
    (∀ (μ : Mem) (ds : List DV) (l : List PD) (μ' : Mem), frzL k μ ds = some (l, μ') → ∀ (G : Gh) (w : World) (xs : List Value), MRel G μ w → xs.length = ds.length → (∀ (i : Nat) (d : DV) (x : Value), ds[i]? = some d → xs[i]? = some x → CRel G w d x) →
      ∃ G', MRel G' μ' w ∧ Grw G w G' w ∧ G'.bs = G.bs ∧ l.length = ds.length ∧ ∀ (i : Nat) (q : PD) (x : Value), l[i]? = some q → xs[i]? = some x → PRel G'.Z w q x) := by
  intro k
  induction k with
  | zero => exact ⟨fun μ d q μ' hf => by simp [frz] at hf, fun μ ds l μ' hf => by simp [frzL] at hf⟩
  | succ k ih =>
    constructor
    · intro μ d q μ' hf G w x hM hx
      have done : ∀ q', PRel G.Z w q' x → q = q' → μ' = μ → ∃ G', MRel G' μ' w ∧ Grw G w G' w ∧ PRel G'.Z w q x ∧ G'.bs = G.bs := by
        rintro q' h rfl rfl
        exact ⟨G, hM, Grw.refl G w, h, rfl⟩
      cases hx with
      | undef x => simp [frz] at hf
      | p d x h =>
        simp only [frz, Option.some.injEq, Prod.mk.injEq] at hf
        obtain ⟨rfl, rfl⟩ := hf
        exact done _ (frzP_rel h) rfl rfl
      | agg cs vs hl h =>
        simp only [frz] at hf
        split at hf
        · rename_i l μ1 hl1
          simp only [Option.some.injEq, Prod.mk.injEq] at hf
          obtain ⟨rfl, rfl⟩ := hf
          obtain ⟨G', h1, h2, h3, h4, h5⟩ := ih.2 μ cs l μ1 hl1 G w vs.toList hM (by simpa using hl) (fun i d x hd hx => h i d x hd (by simpa using hx))
          exact ⟨G', h1, h2, .agg l vs (by omega) (fun i d x hd hx => h5 i d x hd (by simpa using hx)), h3⟩
        · cases hf
      | tup cs vs hl h =>
        simp only [frz] at hf
        split at hf
        · rename_i l μ1 hl1
          simp only [Option.some.injEq, Prod.mk.injEq] at hf
          obtain ⟨rfl, rfl⟩ := hf
          obtain ⟨G', h1, h2, h3, h4, h5⟩ := ih.2 μ cs l μ1 hl1 G w vs.toList hM (by simpa using hl) (fun i d x hd hx => h i d x hd (by simpa using hx))
          exact ⟨G', h1, h2, .tup l vs (by omega) (fun i d x hd hx => h5 i d x hd (by simpa using hx)), h3⟩
        · cases hf
      | row t els x y n h h1 h2 h3 =>
        simp only [frz, Option.some.injEq, Prod.mk.injEq] at hf
        obtain ⟨rfl, rfl⟩ := hf
        exact done _ h rfl rfl
      | bsl b off sz len cap g hg hc hm =>
        simp only [frz] at hf
        split at hf
        · rename_i B hB
          split at hf
          · rename_i hlen
            split at hf
            · rename_i l μ1 hl1
              split at hf
              · rename_i hone
                simp only [Option.some.injEq, Prod.mk.injEq] at hf
                obtain ⟨rfl, rfl⟩ := hf
                obtain ⟨g1, vs, g2, g3, g4, _⟩ := hM.box b B g hB hg
                obtain ⟨G1, k1, k2, k3, k4⟩ := hM.shutBox hB hg
                have hlt : ((vs.toList.drop off).take (len * sz)).length = ((B.cells.drop off).take (len * sz)).length := by
                  simp only [List.length_take, List.length_drop, Array.length_toList, g3]
                have hcl : ∀ (i : Nat) (x : Value), ((vs.toList.drop off).take (len * sz))[i]? = some x → i < len * sz ∧ vs[off + i]? = some x := by
                  intro i x hx
                  have hi := (List.getElem?_eq_some_iff.1 hx).1
                  simp only [List.length_take, List.length_drop] at hi
                  rw [List.getElem?_take, if_pos (by omega), List.getElem?_drop] at hx
                  exact ⟨by omega, by simpa using hx⟩
                obtain ⟨G2, m1, m2, m3, m4, m5⟩ := ih.2 _ _ l μ1 hl1 G1 w ((vs.toList.drop off).take (len * sz)) k1 hlt (fun i d x hd hx => by
                  obtain ⟨hi, hx⟩ := hcl i x hx
                  rw [List.getElem?_take, if_pos hi, List.getElem?_drop] at hd
                  exact (g4 _ d x hd hx).1.grw k2)
                have hll : l.length = len * sz := by
                  rw [m4, List.length_take, List.length_drop]; omega
                have hcell : ∀ (j : Nat), (hj : j < len * sz) → ∃ x, vs[off + j]? = some x ∧ x.oneCell' = true ∧ PRel G2.Z w (l[j]'(by omega)) x ∧ ((vs.toList.drop off).take (len * sz))[j]? = some x := by
                  intro j hj
                  have hv : off + j < vs.size := by omega
                  have hx : ((vs.toList.drop off).take (len * sz))[j]? = some vs[off + j] := by
                    rw [List.getElem?_take, if_pos hj, List.getElem?_drop]; simp [hv]
                  exact ⟨vs[off + j], Array.getElem?_eq_getElem hv, (g4 (off + j) _ _ (List.getElem?_eq_getElem (by omega)) (Array.getElem?_eq_getElem hv)).2, m5 j _ _ (List.getElem?_eq_getElem _) hx, hx⟩
                have helem : ∀ (i j : Nat) (d e : PD), (chunk sz len l)[i]? = some d → d.cells[j]? = some e → i * sz + j < len * sz ∧ l[i * sz + j]? = some e := by
                  intro i j d e hd he
                  obtain ⟨hi, hd⟩ := chunk_get hd
                  by_cases h1 : sz = 1
                  · subst h1
                    rw [if_pos rfl] at hd
                    have hil : i < l.length := by omega
                    rw [List.getD_eq_getElem?_getD, List.getElem?_eq_getElem hil] at hd
                    have hcl1 : d.cells = [d] := by
                      rcases hone with hone | hone
                      · exact absurd rfl hone
                      · rw [hd]; exact PD.single_cells (List.all_eq_true.1 hone l[i] (List.getElem_mem hil))
                    rw [hcl1] at he
                    have hj : j = 0 := by have := (List.getElem?_eq_some_iff.1 he).1; simp at this; exact this
                    subst hj
                    simp at he
                    subst he
                    exact ⟨by omega, by rw [Nat.mul_one, Nat.add_zero, List.getElem?_eq_getElem hil, hd]; rfl⟩
                  · rw [if_neg h1] at hd
                    subst hd
                    simp only [PD.cells] at he
                    have hj := (List.getElem?_eq_some_iff.1 he).1
                    simp only [List.length_take] at hj
                    have hj' : j < sz := by omega
                    rw [List.getElem?_take, if_pos hj', List.getElem?_drop] at he
                    exact ⟨mul_add_lt hi hj', he⟩
                have hcs := chunk_length sz len l
                refine ⟨G2, m1, k2.trans m2, ?_, by rw [m3, k4]⟩
                have hfin : PRel G2.Z w (.sl (chunk sz len l)) (.slice (some ⟨g, off, none⟩) (chunk sz len l).length cap) := by
                  refine .sl (chunk sz len l) _ cap sz (fun j => (vs[off + j]?).getD undef) (by omega) (by omega) (fun d hd => ?_) (fun i j d e hd he => ?_) (fun i j d e hd he => ?_)
                  · obtain ⟨i, hi⟩ := List.getElem?_of_mem hd
                    obtain ⟨hi', hd'⟩ := chunk_get hi
                    by_cases h1 : sz = 1
                    · subst h1
                      rw [if_pos rfl] at hd'
                      have hil : i < l.length := by omega
                      rw [List.getD_eq_getElem?_getD, List.getElem?_eq_getElem hil] at hd'
                      rcases hone with hone | hone
                      · exact absurd rfl hone
                      · have := PD.single_cells (List.all_eq_true.1 hone l[i] (List.getElem_mem hil))
                        have hdl : d = l[i] := hd'
                        rw [hdl, this]; rfl
                    · rw [if_neg h1] at hd'
                      subst hd'
                      simp only [PD.cells, List.length_take, List.length_drop, hll]
                      have : (i + 1) * sz ≤ len * sz := Nat.mul_le_mul_right sz hi'
                      rw [Nat.add_mul] at this
                      omega
                  · obtain ⟨hj, _⟩ := helem i j d e hd he
                    obtain ⟨x, q1, q2, _, _⟩ := hcell _ hj
                    refine ⟨g, off, rfl, m2.z _ _ (k3 _), ?_, ?_⟩
                    · rw [cell_of_row w g _ vs B.t (0, 0) g2]; simp [q1]
                    · simp [q1, q2]
                  · obtain ⟨hj, hle⟩ := helem i j d e hd he
                    obtain ⟨x, q1, _, q3, _⟩ := hcell _ hj
                    rw [List.getElem?_eq_getElem (by omega)] at hle
                    injection hle with hle
                    rw [hle] at q3
                    simpa [q1] using q3
                rw [hcs] at hfin
                exact hfin
              · cases hf
            · cases hf
          · cases hf
        · cases hf
      | fn f cs vs hl h =>
        cases cs with
        | nil =>
          simp only [frz, Option.some.injEq, Prod.mk.injEq] at hf
          obtain ⟨rfl, rfl⟩ := hf
          exact done _ (by obtain rfl : vs = #[] := Array.eq_empty_of_size_eq_zero (by simpa using hl); exact .v _) rfl rfl
        | cons c cs => simp [frz] at hf
      | loc b o g h => simp [frz] at hf
      | ep els i o g a c sz h hi hs => simp [frz] at hf
      | cut0 A =>
        simp only [frz, Option.some.injEq, Prod.mk.injEq] at hf
        obtain ⟨rfl, rfl⟩ := hf
        exact done _ (.sl [] A 0 0 (fun _ => undef) (Nat.le_refl _) (by simp) (by simp) (by simp) (by simp)) rfl rfl
      | mp m g h => simp [frz] at hf
      | it m g h => simp [frz] at hf
    · intro μ ds
      cases ds with
      | nil =>
        intro l μ' hf G w xs hM hxs _
        simp only [frzL, Option.some.injEq, Prod.mk.injEq] at hf
        obtain ⟨rfl, rfl⟩ := hf
        exact ⟨G, hM, Grw.refl G w, rfl, rfl, fun i q x hq => by simp at hq⟩
      | cons d r =>
        intro l μ' hf G w xs hM hxs hr
        simp only [frzL] at hf
        split at hf
        · rename_i q μ1 h1
          split at hf
          · rename_i l2 μ2 h2
            simp only [Option.some.injEq, Prod.mk.injEq] at hf
            obtain ⟨rfl, rfl⟩ := hf
            cases xs with
            | nil => simp at hxs
            | cons x xs =>
              obtain ⟨G1, a1, a2, a3, a4⟩ := ih.1 μ d q μ1 h1 G w x hM (hr 0 d x rfl rfl)
              obtain ⟨G2, b1, b2, b3, b4, b5⟩ := ih.2 μ1 r l2 μ2 h2 G1 w xs a1 (by simpa using hxs) (fun i d x hd hx => (hr (i + 1) d x (by simpa using hd) (by simpa using hx)).grw a2)
              refine ⟨G2, b1, a2.trans b2, by rw [b3, a4], by simp [b4], fun i q' x' hq hx => ?_⟩
              cases i with
              | zero =>
                simp at hq hx
                subst hq; subst hx
                exact a3.grw b2
              | succ i => exact b5 i q' x' (by simpa using hq) (by simpa using hx)
          · cases hf
        · cases hf
end Go.Proofs.YtikfefjaeejeeaaGreatDoor
