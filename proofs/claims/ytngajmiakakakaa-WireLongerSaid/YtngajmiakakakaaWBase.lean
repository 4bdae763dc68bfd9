/- Base words of this seat: what stays of the world, slices that read as lists of cells, a cursor in memory. -/
import Derived.Test.YtngajmiakakakaaProg
import Derived.WalkKit
import Derived.WalkSpells
import Derived.WalkLawsBesides
import Derived.Handy
import Derived.Lib.Hide
import Derived.Laws.AppendOwnNone
import Derived.StillTailTactics
namespace Go.Proofs.Ytngajmiakakakaa
open Go.RowKit

theorem gb_trans {a b c : World} {r : Option Nat} (h : a.grownBy b r) (k : b.grownBy c r) : a.grownBy c r :=
  ⟨k.os.trans h.os, k.tape.trans h.tape, k.output.trans h.output, Nat.le_trans h.size k.size,
   fun i hi hr => (k.block i (Nat.lt_of_lt_of_le hi h.size) hr).trans (h.block i hi hr)⟩
theorem gb_refl (w : World) (r : Option Nat) : w.grownBy w r := World.grownBy.refl w r
theorem gb_below {w w' : World} {r : Option Nat} (h : Below w.heap.size w w') : w.grownBy w' r :=
  ⟨h.os, h.tape, h.output, h.size, fun k hk _ => h.block k hk⟩
theorem gb_of_none {w w' : World} {r : Option Nat} (h : w.grownBy w' none) : w.grownBy w' r :=
  ⟨h.os, h.tape, h.output, h.size, fun k hk _ => h.block k hk (by simp)⟩
theorem gb_drew {a w : World} {r : Option Nat} (h : a.grownBy w r) : a.grownBy w.drew r := ⟨h.os, h.tape, h.output, h.size, h.block⟩
theorem gb_alloc {a w : World} {r : Option Nat} (h : a.grownBy w r) (o : Obj) : a.grownBy (w.alloc o) r :=
  gb_trans h (World.grownBy_alloc w o r)
theorem gb_setCell {a w : World} {r : Option Nat} (h : a.grownBy w r) {p : Addr} (hp : some p.block = r ∨ a.heap.size ≤ p.block) (u : Value) : a.grownBy (w.setCell p u) r :=
  ⟨h.os, h.tape, h.output, by simpa using h.size, fun k hk hr => by
    rw [Below.heap_setCell w p u k (by rintro rfl; rcases hp with hp | hp; exact hr hp; omega)]
    exact h.block k hk hr⟩
theorem below_of_gb {n B : Nat} {a w w' : World} (h : Below n a w) (hg : w.grownBy w' (some B)) (hn : n ≤ w.heap.size) (hB : n ≤ B) : Below n a w' :=
  h.grown hg hn (by intro k hk; cases hk; exact hB)

/-- the slice value v reads, in w, as the cells cs (n elements of 'size' cells each) -/
def Rd (w : World) (v : Value) (n : Nat) (cs : List Value) (size : Nat) : Prop :=
  ∃ ao c, v = .slice ao n c ∧ n ≤ c ∧ cs.length = n * size ∧ (ao = none → c = 0) ∧ ∀ ad, ao = some ad → ∀ j u, cs[j]? = some u → w.cell? (ad.add j) = some u

theorem rd_nil (w : World) (size : Nat) : Rd w (.slice none 0 0) 0 [] size := ⟨none, 0, rfl, Nat.le_refl _, by simp, fun _ => rfl, fun _ h => by cases h⟩

theorem rd_own {w : World} {base : Nat} {e : TypeId} {size : Nat} {v : Value} {n : Nat} {cs : List Value} (h : w.ownsRow base e size v n cs) : Rd w v n cs size := by
  rcases h.2 with ⟨rfl, rfl⟩ | ⟨g, cap, cur, rfl, _, _, hnc, _, _, _⟩
  · obtain rfl : cs = [] := List.eq_nil_of_length_eq_zero (by simpa using h.1)
    exact rd_nil w size
  · exact ⟨some ⟨g, 0, none⟩, cap, rfl, hnc, h.1, fun h => by simp at h, fun ad had j u hj => by cases had; exact h.cells (g := g) rfl j u hj⟩

theorem rd_kept {w w' : World} {v : Value} {n : Nat} {cs : List Value} {size : Nat} (h : Rd w v n cs size)
    (hk : ∀ a u, w.cell? a = some u → w'.cell? a = some u) : Rd w' v n cs size := by
  obtain ⟨ao, c, rfl, h1, h2, h3, h4⟩ := h
  exact ⟨ao, c, rfl, h1, h2, h3, fun ad had j u hj => hk _ _ (h4 ad had j u hj)⟩

/-- a part of a slice, by its two bounds -/
theorem rd_cut {w : World} {ao : Option Addr} {c n : Nat} {cs : List Value} (h : Rd w (.slice ao n c) n cs 1) (i j : Nat) (hij : i ≤ j) (hj : j ≤ n) :
    Rd w (.slice (if c = i then ao else ao.map (·.add i)) (j - i) (c - i)) (j - i) ((cs.drop i).take (j - i)) 1 := by
  obtain ⟨ao', c', he, h1, h2, h3, h4⟩ := h
  cases he
  refine ⟨_, _, rfl, by omega, by simp; omega, ?_, ?_⟩
  · intro ha
    split at ha
    · omega
    · have : ao = none := by simpa using ha
      have := h3 this
      omega
  · intro ad had t u ht
    have ht' : t < j - i ∧ cs[i + t]? = some u := by
      rw [List.getElem?_take] at ht
      split at ht
      · rw [List.getElem?_drop] at ht
        exact ⟨by assumption, ht⟩
      · simp at ht
    split at had
    · omega
    · cases ao with
      | none => simp at had
      | some a =>
        simp at had
        subst had
        have := h4 a rfl (i + t) u ht'.2
        have hs : a.spot = none ∨ (i + t = 0) := by
          by_cases h0 : i + t = 0
          · exact .inr h0
          · left
            by_cases h' : a.spot = none
            · exact h'
            · have h5 := h4 a rfl 0 cs[0] (by simp)
              simp [Addr.add, World.cell?] at h5
              split at h5
              · split at h5
                · simp at h5
                · rename_i hh; simp at hh; exact hh
              · simp at h5
        rcases hs with hs | hs
        · have e : (a.add i).add t = a.add (i + t) := by
            unfold Addr.add
            split <;> split <;> split <;> simp_all; try omega
          rw [e]; exact this
        · obtain ⟨rfl, rfl⟩ : i = 0 ∧ t = 0 := by omega
          simpa [Addr.add] using this
theorem own_addr {w : World} {base : Nat} {e : TypeId} {size : Nat} {ao : Option Addr} {n m c : Nat} {cs : List Value} (h : w.ownsRow base e size (.slice ao m c) n cs) :
    ∀ ad, ao = some ad → ∃ g, ad = ⟨g, 0, none⟩ ∧ base ≤ g ∧ g < w.heap.size ∧ ∀ j u, cs[j]? = some u → w.cell? ⟨g, j, none⟩ = some u := by
  intro ad had
  subst had
  have hl := h.lt ad.block rfl
  rcases h.2 with ⟨h1, _⟩ | ⟨g, cap, cur, h1, _⟩
  · cases h1
  · cases h1
    refine ⟨g, rfl, hl.1, hl.2, fun j u hj => ?_⟩
    have := h.cells (g := g) rfl j u hj
    rwa [Addr.add_lit, Nat.zero_add] at this

theorem ownsRow_below {w w' : World} {base : Nat} {e : TypeId} {size : Nat} {v : Value} {n : Nat} {xs : List Value} (h : w.ownsRow base e size v n xs) (hb : Below w.heap.size w w') : w'.ownsRow base e size v n xs :=
  h.kept (row := none) ⟨hb.os, hb.tape, hb.output, hb.size, fun k hk _ => hb.block k hk⟩ (by
    rcases hv : v.ownBlock with _ | g
    · exact .inl rfl
    · exact .inr (by simp))

/-- the facts on a slice type and its element type -/
structure SliceT (P : Program) (t e : TypeId) (size bytes : Nat) : Prop where
  und : P.underlying t = some (.slice e)
  pos : 0 < size
  ex : ∃ i z, P.info? e = some i ∧ i.zero = some z ∧ i.size = size ∧ i.bytes = bytes ∧ z.cells.size = size
theorem sliceT_of {P : Program} {t e : TypeId} {z : Value} {size bytes : Nat} (hu : P.underlying t = some (.slice e)) (h : (P.info? e).map (fun i => (i.zero, i.size, i.bytes)) = some (some z, size, bytes)) (hz : z.cells.size = size) (hp : 0 < size) : SliceT P t e size bytes := by
  obtain ⟨i, h0, h1, h2, h3⟩ := info_parts h
  exact ⟨hu, hp, i, z, h0, h1, h2, h3, hz⟩

theorem toList_cell (w : World) (cells : Array Value) (e : TypeId) : ∀ j u, cells.toList[j]? = some u → (w.alloc (.cells cells e)).cell? ((⟨w.heap.size, 0, none⟩ : Addr).add j) = some u := by
  intro j u hj
  have h : (w.alloc (.cells cells e)).heap[w.heap.size]? = some (.cells cells e) := heap_alloc_new w _
  rw [Addr.add_lit]
  simp only [World.cell?, h, Option.isSome_none, Nat.zero_add]
  simpa using hj

/-- append of ONE element, which lies in the block laid for it; the row may grow -/
theorem wpList_append_elem {P : Program} {ops : Array Oper} {rest : List Oper} {o : Oper} {a : Act} {Q : Exit → Act → World → Prop} {w0 : World} {cells : Array Value} {e' : TypeId}
    (hgd : o.guard = none) (s x : Operand) (t e : TypeId) (size bytes : Nat) (hT : SliceT P t e size bytes)
    (ho : o.op = .call { callee := .builtin .append, args := #[s, x], argTypes := #[t, t] })
    (base : Nat) (v : Value) (n : Nat) (xs : List Value) (hs : a.eval s = v) (hown : w0.ownsRow base e size v n xs)
    (hx : a.eval x = .slice (some ⟨w0.heap.size, 0, none⟩) 1 1) (hcs : cells.toList.length = 1 * size) (h1 : ∀ u ∈ cells.toList, u.oneCell' = true)
    (h63 : n + 1 ≤ maxLen) (hbytes : (n + 1) * bytes ≤ 140737488355328) (hbase : base ≤ w0.heap.size)
    (h : ∀ v' w', w'.ownsRow base e size v' (n + 1) (xs ++ cells.toList) → Below base w0 w' → w0.grownBy w' v.ownBlock → w0.heap.size < w'.heap.size → wpList P ops Q rest (a.put o.dst v') w') :
    wpList P ops Q (o :: rest) a (w0.alloc (.cells cells e')) := by
  obtain ⟨i, z, hi, hz, hsz, hby, hzs⟩ := hT.ex
  refine wpList_append_own _ hgd s x t ho base e i z size bytes hT.und hi hz hsz hby hzs hT.pos v n xs hs (hown.alloc _) ⟨w0.heap.size, 0, none⟩ 1 1 cells.toList hx hcs (toList_cell w0 cells e') h1 h63 hbytes (by simp; omega) ?_
  intro v' w' hown' hg _
  refine h v' w' hown' ?_ ?_ ?_
  · refine ((Below.refl base w0).alloc hbase _).grown hg (by simp; omega) ?_
    intro k hk
    exact (hown.lt k hk).1
  · exact gb_trans (World.grownBy_alloc w0 _ _) hg
  · have := hg.size; simp at this; omega

/-- append of what another slice holds; the row may grow -/
theorem wpList_append_slice {P : Program} {ops : Array Oper} {rest : List Oper} {o : Oper} {a : Act} {Q : Exit → Act → World → Prop} {w0 : World}
    (hgd : o.guard = none) (s x : Operand) (t e : TypeId) (size bytes : Nat) (hT : SliceT P t e size bytes)
    (ho : o.op = .call { callee := .builtin .append, args := #[s, x], argTypes := #[t, t] })
    (base : Nat) (v : Value) (n : Nat) (xs : List Value) (hs : a.eval s = v) (hown : w0.ownsRow base e size v n xs)
    (vx : Value) (m : Nat) (news : List Value) (hx : a.eval x = vx) (hrd : Rd w0 vx m news size) (h1 : ∀ u ∈ news, u.oneCell' = true)
    (h63 : n + m ≤ maxLen) (hbytes : (n + m) * bytes ≤ 140737488355328) (hbase : base ≤ w0.heap.size)
    (h : ∀ v' w', w'.ownsRow base e size v' (n + m) (xs ++ news) → Below base w0 w' → w0.grownBy w' v.ownBlock → wpList P ops Q rest (a.put o.dst v') w') :
    wpList P ops Q (o :: rest) a w0 := by
  obtain ⟨i, z, hi, hz, hsz, hby, hzs⟩ := hT.ex
  obtain ⟨ao, c, rfl, hmc, hlen, hnone, hcells⟩ := hrd
  cases ao with
  | none =>
    obtain rfl : c = 0 := hnone rfl
    obtain rfl : m = 0 := by omega
    obtain rfl : news = [] := List.eq_nil_of_length_eq_zero (by simpa using hlen)
    refine wpList_append_own_none hgd s x t ho base e i size hT.und hi v n xs hs hown hx ?_
    have := h v w0 (by simpa using hown) (Below.refl _ _) (gb_refl _ _)
    simpa using this
  | some ad =>
    refine wpList_append_own _ hgd s x t ho base e i z size bytes hT.und hi hz hsz hby hzs hT.pos v n xs hs hown ad m c news hx hlen (hcells ad rfl) h1 h63 hbytes hbase ?_
    intro v' w' hown' hg _
    refine h v' w' hown' ?_ hg
    exact (Below.refl base w0).grown hg hbase fun k hk => (hown.lt k hk).1

/-- an operation whose guard says yes is carried out as one without a guard -/
theorem wpList_unguard {P : Program} {ops : Array Oper} {rest : List Oper} {o : Oper} {a : Act} {Q : Exit → Act → World → Prop} {w : World}
    (hw : Region.wanted o (yielded ops a.tmps) = true) (h : wpList P ops Q ({ o with guard := none } :: rest) a w) : wpList P ops Q (o :: rest) a w := by
  have h' : if Region.wanted ({ o with guard := none } : Oper) (yielded ops a.tmps) then ({ o with guard := none } : Oper).wp P a w (wpList P ops Q rest) Q ∨ (({ o with guard := none } : Oper).asks P a w ∧ LetsOut Q) else wpList P ops Q rest (a.put o.dst undef) w := h
  simp only [Region.wanted, if_true] at h'
  show if Region.wanted o (yielded ops a.tmps) then o.wp P a w (wpList P ops Q rest) Q ∨ (o.asks P a w ∧ LetsOut Q) else wpList P ops Q rest (a.put o.dst undef) w
  rw [if_pos hw]
  exact h'

/-- a region that draws its order, of which all but the last operations (from the n-th on) only read: the world by its word 'drew' -/
theorem wp_still_tail {P : Program} {id : Nat} {Q : Exit → Act → World → Prop} {a : Act} {w : World} {l : List Oper} (n : Nat) (hm : P.follows .mixedOrders = true) (hB : Region.lexTailB .any l.toArray n = true)
    (h : wpStill P l.toArray w.drew (fun a' => wpList P l.toArray Q (l.drop n) a' w.drew) (l.take n) a) : (Code.region id l.toArray true).wp P Q a w :=
  wp_region_still_tail n hm hB h
end Go.Proofs.Ytngajmiakakakaa
