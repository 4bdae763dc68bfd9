/- The abstract machine, 2: rows that grow. -/
import Derived.Test.YtmhpccchgbdiiaaGreatDoorAe1
namespace Go.Proofs.YtmhpccchgbdiiaaGreatDoor
open Go.RowKit

instance : Inhabited PD := ⟨.v (.tuple #[])⟩
/-- cells, taken together to elements of s cells each -/
def chunk (s m : Nat) (cs : List PD) : List PD := (List.range m).map fun i => if s = 1 then cs.getD i default else .agg ((cs.drop (i * s)).take s)
/-- what an append takes its elements from -/
structure SrcOf (Z : Nat → Nat → Prop) (w : World) (s : Nat) (ys : List PD) (y : Value) (news : List Value) : Prop where
  val : ∃ A c, y = .slice A ys.length c ∧ ∀ (j : Nat) (u : Value), news[j]? = some u → ∃ g o, A = some ⟨g, o, none⟩ ∧ w.cell? ⟨g, o + j, none⟩ = some u
  len : news.length = ys.length * s
  one : ∀ u ∈ news, u.oneCell' = true
  sz : ∀ d ∈ ys, d.cells.length = s
  rel : ∀ (i j : Nat) (d e : PD) (u : Value), ys[i]? = some d → d.cells[j]? = some e → news[i * s + j]? = some u → PRel Z w e u
  max : ys.length ≤ 9223372036854775807

theorem divmod_lt {s m k : Nat} (hk : k < m * s) : 0 < s ∧ k / s < m ∧ k % s < s ∧ k / s * s + k % s = k := by
  have hs : 0 < s := by
    rcases Nat.eq_zero_or_pos s with h | h
    · rw [h] at hk; simp at hk
    · exact h
  refine ⟨hs, (Nat.div_lt_iff_lt_mul hs).2 hk, Nat.mod_lt _ hs, ?_⟩
  have := Nat.div_add_mod k s
  rw [Nat.mul_comm] at this
  exact this
theorem mul_add_lt {i j s m : Nat} (hi : i < m) (hj : j < s) : i * s + j < m * s := by
  have : (i + 1) * s ≤ m * s := Nat.mul_le_mul_right s hi
  rw [Nat.add_mul] at this
  omega

theorem SrcOf.sl {Z : Nat → Nat → Prop} {w : World} {s : Nat} {ys : List PD} {y : Value} (h : PRel Z w (.sl ys) y) (hs : ∀ d ∈ ys, d.cells.length = s) : ∃ news, SrcOf Z w s ys y news := by
  cases h with
  | sl els A c sz val hc hm hs' hA hr =>
    have hsz : ∀ i, i < ys.length → sz = s := fun i hi => (hs' _ (List.getElem_mem hi)).symm.trans (hs _ (List.getElem_mem hi))
    have key : ∀ k, k < ys.length * s → ∃ i j d e, i * s + j = k ∧ ys[i]? = some d ∧ d.cells[j]? = some e ∧ sz = s := by
      intro k hk
      obtain ⟨h0, h1, h2, h3⟩ := divmod_lt hk
      have hd : (ys[k / s]'h1).cells.length = s := hs _ (List.getElem_mem h1)
      exact ⟨k / s, k % s, ys[k / s]'h1, (ys[k / s]'h1).cells[k % s]'(by omega), h3, List.getElem?_eq_getElem h1, List.getElem?_eq_getElem _, hsz _ h1⟩
    refine ⟨(List.range (ys.length * s)).map val, ⟨A, c, rfl, ?_⟩, by simp, ?_, hs, ?_, hm⟩
    · intro j u hu
      simp only [List.getElem?_map, Option.map_eq_some_iff, List.getElem?_range] at hu
      obtain ⟨k, hk, rfl⟩ := hu
      have hj := (List.getElem?_eq_some_iff.1 hk).1
      simp only [List.length_range] at hj
      rw [List.getElem?_range hj] at hk
      injection hk with hk
      subst hk
      obtain ⟨a, b, d, e, rfl, hd, he, rfl⟩ := key j hj
      obtain ⟨g, o, h1, _, h3, _⟩ := hA a b d e hd he
      exact ⟨g, o, h1, h3⟩
    · intro u hu
      simp only [List.mem_map, List.mem_range] at hu
      obtain ⟨k, hk, rfl⟩ := hu
      obtain ⟨a, b, d, e, rfl, hd, he, rfl⟩ := key k hk
      obtain ⟨g, o, _, _, _, h4⟩ := hA a b d e hd he
      exact h4
    · intro i j d e u hd he hu
      have hi := (List.getElem?_eq_some_iff.1 hd).1
      have hj := (List.getElem?_eq_some_iff.1 he).1
      have hsd := hs d (List.mem_of_getElem? hd)
      have hlt := mul_add_lt hi (show j < s by omega)
      simp only [List.getElem?_map, List.getElem?_range hlt, Option.map_some, Option.some.injEq] at hu
      subst hu
      have := hr i j d e hd he
      rw [hsz i hi] at this
      exact this

theorem run_append_none (P : Program) (w : World) (t ty e : TypeId) (i : TypeInfo) (ht : P.underlying t = some (.slice e)) (hi : P.info? e = some i) (base A : Option Addr) (n cap c : Nat) (hle : n ≤ cap) :
    (Builtin.append_ #[t, t] ty #[.slice base n cap, .slice A 0 c]).run P w = .ok (.slice base n cap) w := by
  cases base <;> cases A <;> simp [Builtin.append_, run_underlying ht, sizeOf, typeInfo, hi, Builtin.lenOf, Builtin.firstCells, loadCells, loadCellsFrom, hle, storeCells]

theorem World.ownsRow.slice {w : World} {base : Nat} {e : TypeId} {size : Nat} {v : Value} {n : Nat} {xs : List Value} (h : w.ownsRow base e size v n xs) : ∃ A c, v = .slice A n c ∧ n ≤ c := by
  rcases h.2 with ⟨rfl, rfl⟩ | ⟨g, cap, cur, rfl, _, _, hn, _⟩
  · exact ⟨none, 0, rfl, Nat.le_refl _⟩
  · exact ⟨_, cap, rfl, hn⟩

/-- an append of at least one element: where the row lies then -/
theorem append_shape {P : Program} (w : World) (base : Nat) (t ty e : TypeId) (i : TypeInfo) (z : Value) (s : Nat) (ht : P.underlying t = some (.slice e)) (hi : P.info? e = some i) (hz : i.zero = some z)
    (hsize : i.size = s) (hzs : z.cells.size = s) (hs0 : 0 < s) (v : Value) (n : Nat) (xs : List Value) (hown : w.ownsRow base e s v n xs) (hbase : base ≤ w.heap.size)
    (a : Addr) (m c : Nat) (news : List Value) (hl : news.length = m * s) (hnews : ∀ (j : Nat) (u : Value), news[j]? = some u → w.cell? (a.add j) = some u) (h1 : ∀ u ∈ news, u.oneCell' = true)
    (hm : 0 < m) (h63 : n + m ≤ 9223372036854775807) (hbytes : (n + m) * i.bytes ≤ 140737488355328) :
    ∃ v' w' g cap cur, (Builtin.append_ #[t, t] ty #[v, .slice (some a) m c]).run P w = .ok v' w' ∧ v' = .slice (some ⟨g, 0, none⟩) (n + m) cap ∧ w'.heap[g]? = some (.cells cur e (0, 0)) ∧ n + m ≤ cap ∧ cap ≤ maxLen ∧ cur.size = cap * s ∧
      cur.toList.take ((n + m) * s) = xs ++ news ∧ (v.ownBlock = some g ∨ g = w.heap.size) ∧ (∀ k, k < w.heap.size → k ≠ g → w'.heap[k]? = w.heap[k]?) ∧ w'.os = w.os ∧ w'.tape = w.tape ∧ w'.output = w.output ∧ w.heap.size ≤ w'.heap.size ∧ base ≤ g := by
  subst hsize
  have h63' : n + m ≤ maxLen := h63
  have hlen : (xs ++ news).length = (n + m) * i.size := by rw [List.length_append, hown.1, hl, Nat.add_mul]
  have fresh : ∀ old v0, (Builtin.append_ #[t, t] ty #[v0, .slice (some a) m c]).run P w = .ok (.slice (some ⟨w.heap.size, 0, none⟩) (n + m) (grownCap w (n + m) old e)) (w.drew.alloc (.cells (xs.toArray ++ news.toArray ++ Builtin.zeroCells z.cells (grownCap w (n + m) old e - (n + m))) e)) →
      ∃ v' w' g cap cur, (Builtin.append_ #[t, t] ty #[v0, .slice (some a) m c]).run P w = .ok v' w' ∧ v' = .slice (some ⟨g, 0, none⟩) (n + m) cap ∧ w'.heap[g]? = some (.cells cur e (0, 0)) ∧ n + m ≤ cap ∧ cap ≤ maxLen ∧ cur.size = cap * i.size ∧
      cur.toList.take ((n + m) * i.size) = xs ++ news ∧ (v0.ownBlock = some g ∨ g = w.heap.size) ∧ (∀ k, k < w.heap.size → k ≠ g → w'.heap[k]? = w.heap[k]?) ∧ w'.os = w.os ∧ w'.tape = w.tape ∧ w'.output = w.output ∧ w.heap.size ≤ w'.heap.size ∧ base ≤ g := by
    intro old v0 hr
    have hge := grownCap_ge w (n + m) old e
    have hcm : grownCap w (n + m) old e ≤ maxLen := grownCap_le_maxLen w (n + m) old e h63'
    refine ⟨_, _, w.heap.size, _, _, hr, rfl, heap_alloc_new w.drew _, hge, hcm, ?_, ?_, .inr rfl, fun k hk _ => Below.heap_alloc w.drew _ k hk, rfl, rfl, rfl, by simp, hbase⟩
    · simp only [Array.size_append, List.size_toArray, size_zeroCells, hzs, hown.1, hl, ← Nat.add_mul]
      congr 1
      omega
    · simp only [Array.toList_append, List.append_assoc]
      rw [← List.append_assoc, ← hlen]
      exact List.take_left
  rcases hown.2 with ⟨rfl, rfl⟩ | ⟨g, cap, cur, rfl, hbg, hg, hnc, hcm, hcs, htake⟩
  · have hx : xs = [] := List.eq_nil_of_length_eq_zero (by simpa using hown.1)
    subst hx
    have hr := run_append_nil (P := P) w t ty e i z ht hi hz a m c news hl hnews hm (by omega) (by have hb := hbytes; simp only [Nat.zero_add] at hb; omega)
    exact fresh 0 (.slice none 0 0) (by simpa using hr)
  · by_cases hroom : n + m ≤ cap
    · have hfit : n * i.size + news.length ≤ cur.size := by rw [hl, hcs, ← Nat.add_mul]; exact Nat.mul_le_mul_right _ hroom
      have hr := run_append_room (P := P) w t ty e i ht hi g n cap cur hg a m c news hl hnews h1 hroom hfit
      refine ⟨_, _, g, cap, _, hr, rfl, setRow_heap w g cur _ e _ hg, hroom, hcm, ?_, ?_, .inl rfl, fun k _ hk => setRow_other w g k _ hk, rfl, rfl, rfl, by simp, hbg⟩
      · simp only [List.size_toArray, List.length_append, List.length_take, List.length_drop, Array.length_toList]
        omega
      · rw [htake, ← hlen]
        exact List.take_left
    · have holds : ∀ (j : Nat) (u : Value), xs[j]? = some u → w.cell? ((⟨g, 0, none⟩ : Addr).add j) = some u := hown.cells (g := g) rfl
      have hr := run_append_grow (P := P) w t ty e i z ht hi hz ⟨g, 0, none⟩ n cap xs hown.1 holds a m c news hl hnews (by omega) (by omega) (growslice_fits (by omega) hbytes)
      exact fresh cap _ hr

/-- THE LAW of an append to a row of one's own -/
theorem MRel.append {P : Program} {G : Gh} {μ : Mem} {w : World} (h : MRel G μ w) {t : Nat} {e : TypeId} {s n : Nat} (ht : μ.toks[t]? = some (some (e, s, n))) {els : List PD} {x : Value} (hx : CRel G w (.row t els) x) (hn : els.length = n)
    {ys : List PD} {y : Value} {news : List Value} (hy : SrcOf G.Z w s ys y news) (hes : ∀ d ∈ els, d.cells.length = s)
    (T ty : TypeId) (i : TypeInfo) (z : Value) (hT : P.underlying T = some (.slice e)) (hi : P.info? e = some i) (hz : i.zero = some z) (hsize : i.size = s) (hzs : z.cells.size = s)
    (hbytes : (n + ys.length) * i.bytes ≤ 140737488355328) (h63 : n + ys.length ≤ 9223372036854775807) :
    ∃ v' w' G', (Builtin.append_ #[T, T] ty #[x, y]).run P w = .ok v' w' ∧ CRel G' w' (.row t (els ++ ys)) v' ∧ MRel G' ⟨μ.boxes, μ.toks.set t (some (e, s, n + ys.length)), μ.objs⟩ w' ∧ Grw G w G' w' := by
  obtain ⟨q, xs, htv, hown, hs0, hfree⟩ := h.tok t e s n ht
  cases hx with
  | row t els x q' n' hp ht' hle heq =>
  rw [htv] at ht'
  injection ht' with ht'
  injection ht' with e1 e2
  subst e1
  subst e2
  obtain rfl : x = q := heq hn
  obtain ⟨A, c, hyv, hyc⟩ := hy.val
  by_cases hm : ys.length = 0
  · have hys : ys = [] := List.eq_nil_of_length_eq_zero hm
    subst hys
    obtain ⟨A', c', hxv, hcc⟩ := World.ownsRow.slice hown
    subst hxv
    refine ⟨.slice A' n c', w, G, ?_, ?_, ?_, Grw.refl G w⟩
    · rw [hyv]; exact run_append_none P w T ty e i hT hi _ _ _ _ _ hcc
    · rw [List.append_nil]; exact .row t els _ _ _ hp htv hle heq
    · have : μ.toks.set t (some (e, s, n)) = μ.toks := by
        apply List.ext_getElem?
        intro k
        by_cases hk : k = t
        · subst hk; rw [List.getElem?_set_self (List.getElem?_eq_some_iff.1 ht).1, ht]
        · rw [List.getElem?_set_ne (Ne.symm hk)]
      show MRel G ⟨μ.boxes, μ.toks.set t (some (e, s, n + 0)), μ.objs⟩ w
      rw [Nat.add_zero, this]
      exact h
  have hmpos : 0 < ys.length := by omega
  have hnl : 0 < news.length := by rw [hy.len]; exact Nat.mul_pos hmpos hs0
  obtain ⟨ga, oa, hA0, _⟩ := hyc 0 news[0] (List.getElem?_eq_getElem hnl)
  have hcells : ∀ (j : Nat) (u : Value), news[j]? = some u → w.cell? ((⟨ga, oa, none⟩ : Addr).add j) = some u := by
    intro j u hu
    obtain ⟨g, o, h1, h2⟩ := hyc j u hu
    rw [hA0] at h1
    injection h1 with h1
    injection h1 with h1 h1'
    subst h1; subst h1'
    rw [Addr.add_mid]; exact h2
  obtain ⟨v', w', g, cap, cur, hrun, hv', hgg, hnc, hcm, hcs, htake, hwhere, hkeep, hos, htape, hout, hsz, hbg⟩ := append_shape w G.base T ty e i z s hT hi hz hsize hzs hs0 x n xs hown h.hb ⟨ga, oa, none⟩ ys.length c news hy.len hcells hy.one hmpos h63 hbytes
  have hxl : xs.length = n * s := hown.1
  rw [hyv, hA0]
  have hcell' : ∀ (j : Nat) (u : Value), (xs ++ news)[j]? = some u → w'.cell? ⟨g, j, none⟩ = some u := by
    intro j u hu
    rw [cell_of_row w' g j cur e (0, 0) hgg]
    rw [← htake, List.getElem?_take] at hu
    split at hu
    · simpa using hu
    · cases hu
  have hown' : w'.ownsRow G.base e s v' (n + ys.length) (xs ++ news) := ⟨by rw [List.length_append, hxl, hy.len, Nat.add_mul], .inr ⟨g, cap, cur, hv', hbg, hgg, hnc, hcm, hcs, htake⟩⟩
  have hin : ∀ o, (hx : x.ownBlock = some g) → G.Z g o → o < n * s := by
    intro o hx hz
    rcases Nat.lt_or_ge o (n * s) with ho | ho
    · exact ho
    · exact absurd hz ((hfree g hx).1 o ho)
  have hgold : ∀ o, G.Z g o → x.ownBlock = some g := by
    intro o hz
    rcases hwhere with hw | hw
    · exact hw
    · have := h.zlt g o hz; omega
  have hstay : ∀ b o, G.Z b o → w'.cell? ⟨b, o, none⟩ = w.cell? ⟨b, o, none⟩ := by
    intro b o hz
    by_cases hb : b = g
    · subst hb
      have hr := hgold o hz
      have ho := hin o hr hz
      have h1 := hown.cells hr o _ (List.getElem?_eq_getElem (show o < xs.length by omega))
      rw [Addr.add_mid, Nat.zero_add] at h1
      rw [h1]
      exact hcell' o _ (by rw [List.getElem?_append_left (by omega)]; exact List.getElem?_eq_getElem _)
    · exact World.cell?_of_block (w := w) (hkeep b (h.zlt b o hz) hb)
  have htl := (List.getElem?_eq_some_iff.1 ht).1
  have htvl : t < G.tv.length := (List.getElem?_eq_some_iff.1 htv).1
  obtain ⟨G', hG'⟩ : ∃ G', G' = { G with Z := fun b o => G.Z b o ∨ (b = g ∧ o < (n + ys.length) * s), tv := G.tv.set t (n + ys.length, v') } := ⟨_, rfl⟩
  have hnotc : ∀ (o : Obj), w.heap[g]? = some o → cellsO o = false → False := by
    intro o hk hc
    rcases hwhere with hw | hw
    · rcases hown.2 with ⟨hx, _⟩ | ⟨g2, c2, cur2, hx, _, hc2, _⟩
      · rw [hx] at hw; cases hw
      · rw [hx] at hw
        have : g2 = g := by simpa [Value.ownBlock] using hw
        subst this
        rw [hc2] at hk; injection hk with hk; subst hk; cases hc
    · have := (Array.getElem?_eq_some_iff.1 hk).1
      omega
  have hgr : Grw G w G' w' := by
    subst hG'
    refine ⟨rfl, rfl, rfl, fun _ _ hz => .inl hz, fun b o v hz hv => (hstay b o hz).trans hv, fun _ _ hh => hh, fun t1 n1 x1 h1 => ?_, fun _ _ hh => hh, rfl, hsz, fun k o hk hc _ => (hkeep k (Array.getElem?_eq_some_iff.1 hk).1 (fun e => by subst e; exact hnotc o hk hc)).trans hk, fun _ _ h => .inl h⟩
    by_cases ht1 : t1 = t
    · subst ht1
      rw [htv] at h1
      injection h1 with h1
      injection h1 with h1 h2
      subst h1; subst h2
      exact ⟨n + ys.length, v', by simp [List.getElem?_set_self htvl], by omega, fun e => by omega⟩
    · exact ⟨n1, x1, by simp only [List.getElem?_set_ne (Ne.symm ht1)]; exact h1, Nat.le_refl _, fun _ => rfl⟩
  have hkb : ∀ k, k < G.base → w'.heap[k]? = w.heap[k]? := fun k hk => hkeep k (Nat.lt_of_lt_of_le hk h.hb) (by omega)
  have hnotrow : ∀ k, k ≠ g → ∀ o, G.Z k o ↔ G'.Z k o := by
    intro k hk o
    subst hG'
    exact ⟨.inl, fun hz => hz.resolve_right (fun hz => hk hz.1)⟩
  have hmp : MpOK G.base G.mps μ.objs w' := h.mp.keep fun k o _ hk ho => by
    refine (hkeep k (Array.getElem?_eq_some_iff.1 hk).1 fun hkg => ?_).trans hk
    subst hkg
    rcases hwhere with hw | hw
    · rcases hown.2 with ⟨hx, _⟩ | ⟨g2, c2, cur2, hx, _, hc2, _⟩
      · rw [hx] at hw; cases hw
      · rw [hx] at hw
        have : g2 = k := by simpa [Value.ownBlock] using hw
        subst this
        rw [hc2] at hk; injection hk with hk; subst hk; cases ho
    · have := (Array.getElem?_eq_some_iff.1 hk).1
      omega
  refine ⟨v', w', G', hrun, ?_, ?_, hgr⟩
  · subst hG'
    refine .row t _ _ v' (n + ys.length) ?_ (by simp [List.getElem?_set_self htvl]) (by simp [hn]) (fun _ => rfl)
    subst hv'
    have hlen : (els ++ ys).length = n + ys.length := by rw [List.length_append, hn]
    rw [← hlen]
    refine .sl (els ++ ys) _ cap s (fun k => (xs ++ news).getD k undef) (by omega) (by omega) (fun d hd => ?_) (fun a b d q hd hq => ?_) (fun a b d q hd hq => ?_)
    · rcases List.mem_append.1 hd with hd | hd
      · exact hes d hd
      · exact hy.sz d hd
    · have ha := (List.getElem?_eq_some_iff.1 hd).1
      have hb := (List.getElem?_eq_some_iff.1 hq).1
      have hds : d.cells.length = s := by
        rcases List.mem_append.1 (List.mem_of_getElem? hd) with hd | hd
        · exact hes d hd
        · exact hy.sz d hd
      have hk := mul_add_lt ha (show b < s by omega)
      rw [hlen] at hk
      have hkl : a * s + b < (xs ++ news).length := by rw [hown'.1]; exact hk
      have hval : (xs ++ news).getD (a * s + b) undef = (xs ++ news)[a * s + b] := by rw [List.getD_eq_getElem?_getD, List.getElem?_eq_getElem hkl]; rfl
      refine ⟨g, 0, rfl, by rw [Nat.zero_add]; exact .inr ⟨rfl, by rw [hlen]; exact hk⟩, ?_, ?_⟩
      · rw [Nat.zero_add, hval]; exact hcell' _ _ (List.getElem?_eq_getElem hkl)
      · simp only [hval]
        by_cases hlt : a * s + b < xs.length
        · rw [List.getElem_append_left hlt]
          -- a cell of the old row
          have hal : a < els.length := by
            rcases Nat.lt_or_ge a els.length with h1 | h1
            · exact h1
            · have : els.length * s ≤ a * s := Nat.mul_le_mul_right s h1
              rw [hn] at this; omega
          rw [List.getElem?_append_left hal] at hd
          cases hp with
          | sl els A1 c1 sz1 val1 hc1 hm1 hs1 hA1 hr1 =>
          obtain rfl : sz1 = s := (hs1 d (List.mem_of_getElem? hd)).symm.trans hds
          obtain ⟨g1, o1, e1, _, e3, e4⟩ := hA1 a b d q hd hq
          have : some (val1 (a * sz1 + b)) = some xs[a * sz1 + b] := by
            rw [← e3]
            rcases hown.2 with ⟨hh, _⟩ | ⟨g0, cap0, cur0, hh, _⟩
            · rw [hh] at heq; injection hh with hh; rw [e1] at hh; cases hh
            · injection hh with hh
              rw [e1] at hh
              injection hh with hh
              injection hh with hh1 hh2
              subst hh1; subst hh2
              have := hown.cells (g := g1) (by rw [e1]; rfl) (a * sz1 + b) _ (List.getElem?_eq_getElem hlt)
              rwa [Addr.add_mid] at this
          injection this with this
          rw [← this]; exact e4
        · rw [List.getElem_append_right (by omega)]
          exact hy.one _ (List.getElem_mem _)
    · have ha := (List.getElem?_eq_some_iff.1 hd).1
      have hb := (List.getElem?_eq_some_iff.1 hq).1
      have hds : d.cells.length = s := by
        rcases List.mem_append.1 (List.mem_of_getElem? hd) with hd | hd
        · exact hes d hd
        · exact hy.sz d hd
      have hk := mul_add_lt ha (show b < s by omega)
      rw [hlen] at hk
      have hkl : a * s + b < (xs ++ news).length := by rw [hown'.1]; exact hk
      have hval : (xs ++ news).getD (a * s + b) undef = (xs ++ news)[a * s + b] := by rw [List.getD_eq_getElem?_getD, List.getElem?_eq_getElem hkl]; rfl
      simp only [hval]
      by_cases hal : a < els.length
      · rw [List.getElem?_append_left hal] at hd
        have hlt : a * s + b < xs.length := by
          have := mul_add_lt hal (show b < s by omega)
          rw [hxl, ← hn]; exact this
        rw [List.getElem_append_left hlt]
        cases hp with
        | sl els A1 c1 sz1 val1 hc1 hm1 hs1 hA1 hr1 =>
        obtain rfl : sz1 = s := (hs1 d (List.mem_of_getElem? hd)).symm.trans hds
        obtain ⟨g1, o1, e1, _, e3, e4⟩ := hA1 a b d q hd hq
        have : some (val1 (a * sz1 + b)) = some xs[a * sz1 + b] := by
          rw [← e3]
          rcases hown.2 with ⟨hh, _⟩ | ⟨g0, cap0, cur0, hh, _⟩
          · injection hh with hh; rw [e1] at hh; cases hh
          · injection hh with hh
            rw [e1] at hh
            injection hh with hh
            injection hh with hh1 hh2
            subst hh1; subst hh2
            have := hown.cells (g := g1) (by rw [e1]; rfl) (a * sz1 + b) _ (List.getElem?_eq_getElem hlt)
            rwa [Addr.add_mid] at this
        injection this with this
        rw [← this]
        exact (hr1 a b d q hd hq).mono (fun _ _ hz => .inl hz) hstay
      · rw [List.getElem?_append_right (by omega)] at hd
        have hge : xs.length ≤ a * s + b := by
          have : els.length * s ≤ a * s := Nat.mul_le_mul_right s (by omega)
          rw [hn] at this; omega
        rw [List.getElem_append_right hge]
        have hidx : a * s + b - xs.length = (a - els.length) * s + b := by
          rw [Nat.sub_mul, hn, hxl]
          have : n * s ≤ a * s := Nat.mul_le_mul_right s (by omega)
          omega
        refine (hy.rel (a - els.length) b d q _ hd hq ?_).mono (fun _ _ hz => .inl hz) hstay
        rw [← hidx]; exact List.getElem?_eq_getElem _
  · refine ⟨?_, ?_, ?_, ?_, ?_, ?_, ?_, ?_, ?_, ?_, by subst hG'; exact h.lw, by subst hG'; exact hmp⟩
    · subst hG'; exact h.bel.trans ⟨hos, htape, hout, hsz, hkb⟩
    · subst hG'; exact Nat.le_trans h.hb hsz
    · subst hG'
      rintro b o (hz | ⟨rfl, _⟩)
      · exact Nat.lt_of_lt_of_le (h.zlt b o hz) hsz
      · exact (Array.getElem?_eq_some_iff.1 hgg).1
    · subst hG'
      rintro b o (hz | ⟨rfl, _⟩)
      · exact h.zsub b o hz
      · exact .inr hbg
    · subst hG'; exact h.len
    · subst hG'; simpa using h.tlen
    · subst hG'; exact h.inj
    · intro j B gb hB hgb
      have hgb0 : G.bs[j]? = some gb := by subst hG'; exact hgb
      obtain ⟨k1, vs, k2, k3, k4, k5⟩ := h.box j B gb hB hgb0
      have hgbl : gb < w.heap.size := (Array.getElem?_eq_some_iff.1 k2).1
      have hne : gb ≠ g := by
        intro he
        rcases hwhere with hw | hw
        · exact (hfree g hw).2 j (by rw [← he]; exact hgb0)
        · omega
      refine ⟨by subst hG'; exact k1, vs, (hkeep gb hgbl hne).trans k2, k3, fun i d x hd hx => ⟨(k4 i d x hd hx).1.grw hgr, (k4 i d x hd hx).2⟩, fun hs o hz => ?_⟩
      exact k5 hs o ((hnotrow gb hne o).2 hz)
    · intro t1 e1 s1 n1 h1
      by_cases ht1 : t1 = t
      · subst ht1
        simp only [List.getElem?_set_self htl, Option.some.injEq, Prod.mk.injEq] at h1
        obtain ⟨rfl, rfl, rfl⟩ := h1
        refine ⟨v', xs ++ news, by subst hG'; simp [List.getElem?_set_self htvl], by subst hG'; exact hown', hs0, fun gg hgv => ?_⟩
        obtain rfl : gg = g := by rw [hv'] at hgv; simpa [Value.ownBlock] using hgv.symm
        refine ⟨fun o ho hz => ?_, fun j hj => ?_⟩
        · subst hG'
          rcases hz with hz | hz
          · have hr := hgold o hz
            have := hin o hr hz
            rw [Nat.add_mul] at ho
            omega
          · omega
        · have hj0 : G.bs[j]? = some gg := by subst hG'; exact hj
          rcases hwhere with hw | hw
          · exact (hfree gg hw).2 j hj0
          · have hjl := (List.getElem?_eq_some_iff.1 hj0).1
            obtain ⟨_, vs, k2, _⟩ := h.box j (μ.boxes[j]'(by rw [← h.len]; exact hjl)) gg (List.getElem?_eq_getElem _) hj0
            have := (Array.getElem?_eq_some_iff.1 k2).1
            omega
      · simp only [List.getElem?_set_ne (Ne.symm ht1)] at h1
        obtain ⟨x1, xs1, k1, k2, k3, k4⟩ := h.tok t1 e1 s1 n1 h1
        have hneb : ∀ gg, x1.ownBlock = some gg → gg ≠ g := by
          intro gg hgv he
          rcases hwhere with hw | hw
          · exact ht1 (h.tne t1 t _ _ _ _ gg h1 ht k1 htv hgv (by rw [he]; exact hw))
          · have := (k2.lt gg hgv).2; omega
        refine ⟨x1, xs1, by subst hG'; simp only [List.getElem?_set_ne (Ne.symm ht1)]; exact k1, ?_, k3, fun gg hgv => ⟨fun o ho hz => ?_, fun j hj => ?_⟩⟩
        · have hb : G'.base = G.base := by subst hG'; rfl
          rw [hb]
          refine k2.kept (row := some g) ⟨hos, htape, hout, hsz, fun k hk hne => hkeep k hk (fun e => hne (by rw [e]))⟩ (.inr fun he => hneb g he rfl)
        · exact (k4 gg hgv).1 o ho ((hnotrow gg (hneb gg hgv) o).2 hz)
        · exact (k4 gg hgv).2 j (by subst hG'; exact hj)
    · intro t1 t2 a1 a2 x1 x2 gg h1 h2 k1 k2 b1 b2
      have other : ∀ (t1 : Nat) (a1 : TypeId × Nat × Nat) (x1 : Nat × Value), t1 ≠ t → (μ.toks.set t (some (e, s, n + ys.length)))[t1]? = some (some a1) → G'.tv[t1]? = some x1 → x1.2.ownBlock = some g → False := by
        intro t1 a1 x1 ht1 h1 k1 b1
        simp only [List.getElem?_set_ne (Ne.symm ht1)] at h1
        have k1' : G.tv[t1]? = some x1 := by subst hG'; simpa only [List.getElem?_set_ne (Ne.symm ht1)] using k1
        obtain ⟨q1, q2, q3⟩ := a1
        obtain ⟨x3, xs3, m1, m2, _, _⟩ := h.tok t1 q1 q2 q3 h1
        rw [k1'] at m1
        injection m1 with m1
        subst m1
        rcases hwhere with hw | hw
        · exact ht1 (h.tne t1 t _ _ _ _ g h1 ht k1' htv b1 hw)
        · have := (m2.lt g b1).2; omega
      have self : ∀ (x1 : Nat × Value), G'.tv[t]? = some x1 → x1.2.ownBlock = some gg → gg = g := by
        intro x1 k1 b1
        subst hG'
        simp only [List.getElem?_set_self htvl, Option.some.injEq] at k1
        subst k1
        rw [hv'] at b1
        simpa [Value.ownBlock] using b1.symm
      by_cases e1 : t1 = t <;> by_cases e2 : t2 = t
      · rw [e1, e2]
      · subst e1
        obtain rfl := self x1 k1 b1
        exact (other t2 a2 x2 e2 h2 k2 b2).elim
      · subst e2
        obtain rfl := self x2 k2 b2
        exact (other t1 a1 x1 e1 h1 k1 b1).elim
      · simp only [List.getElem?_set_ne (Ne.symm e1)] at h1
        simp only [List.getElem?_set_ne (Ne.symm e2)] at h2
        have k1' : G.tv[t1]? = some x1 := by subst hG'; simpa only [List.getElem?_set_ne (Ne.symm e1)] using k1
        have k2' : G.tv[t2]? = some x2 := by subst hG'; simpa only [List.getElem?_set_ne (Ne.symm e2)] using k2
        exact h.tne t1 t2 _ _ _ _ gg h1 h2 k1' k2' b1 b2
end Go.Proofs.YtmhpccchgbdiiaaGreatDoor
