/- Opening the arguments of a statement: integers in slices; how long they are. -/
import Derived.Test.YtngajmiakakakaaRows
import Derived.Test.YtngajmiakakakaaWWalk6
import Derived.ProofKit
import Derived.OpenShut
import Derived.ShutString
import Derived.ChangeOld
import Derived.SizedLaws
import Derived.JoinedCond
namespace Go.Proofs.Ytngajmiakakakaa
open Go.ChangeShapes Go.WideShapes Go.ChangeAt Go.RowKit
open Go.ChangeMaps (open_string shut_string)

theorem ownP : ownKnob Try.prog.godebug = none := by kernel_rfl
theorem laidOutP : laidOutB Try.prog = true := by kernel_rfl

/-- the slice of integers (a, len, cap) in memory: zs, up to its capacity -/
def IsRow (k : IntKind) (w : World) (a : Option Addr) (len cap : Nat) (zs : List Int) : Prop :=
  (a = none ∧ len = 0 ∧ cap = 0 ∧ zs = []) ∨
  ∃ x, a = some x ∧ len ≤ cap ∧ cap ≤ maxLen ∧ zs.length = cap ∧ (∀ i, i < zs.length → w.cell? (x.add i) = some (.int k (zs.getD i 0))) ∧ ∀ n ∈ zs, (Lit.int k n).wf = true

theorem open_row {P : Program} {H : Type} {enc : TypeId × Value → H} {W : World} {T E : TypeId} {k : IntKind} (hu : P.underlying T = some (.slice E)) (he : P.underlying E = some (.int k)) (hc : P.cellsOf E = 1)
    {a : Option Addr} {len cap : Nat} {d : DataW H} {p : List MemPlace} (hT : DataW.Trod enc P W 0 (fun _ => true) true T (.slice a len cap) d p) :
    ∃ zs, IsRow k W a len cap zs ∧ ((a = none ∧ d = .nil) ∨ d = .slice (lits k (zs.take len)) (lits k (zs.drop len))) := by
  obtain ⟨fuel, hf⟩ := hT
  rcases open_ints hu he hc hf with ⟨hcs, hx⟩ | ⟨x, l, c, zs, hcs, _, hl, hm, hz, hx, hcell, hwz⟩
  · simp [Value.cells] at hcs
    obtain ⟨rfl, rfl, rfl⟩ := hcs
    exact ⟨[], .inl ⟨rfl, rfl, rfl, rfl⟩, .inl ⟨rfl, (Prod.mk.inj hx).1⟩⟩
  · simp [Value.cells] at hcs
    obtain ⟨rfl, rfl, rfl⟩ := hcs
    exact ⟨zs, .inr ⟨_, rfl, hl, hm, by simpa using hz, hcell, hwz⟩, .inr (Prod.mk.inj hx).1⟩

theorem isRow_rd {k : IntKind} {w : World} {a : Option Addr} {len cap : Nat} {zs : List Int} (h : IsRow k w a len cap zs) :
    ∃ l, l.length = len ∧ l = zs.take len ∧ (∀ n ∈ l, (Lit.int k n).wf = true) ∧ Rd w (.slice a len cap) len (l.map (Value.int k)) 1 := by
  rcases h with ⟨rfl, rfl, rfl, rfl⟩ | ⟨x, rfl, h1, h2, h3, h4, h5⟩
  · exact ⟨[], rfl, rfl, by simp, rd_nil _ _⟩
  · refine ⟨zs.take len, by simp; omega, rfl, fun n hn => h5 n (List.mem_of_mem_take hn), some x, cap, rfl, h1, by simp; omega, (fun h => by cases h), fun ad had j u hj => ?_⟩
    cases had
    simp only [List.getElem?_map, List.getElem?_take] at hj
    split at hj
    · rename_i hlt
      have hz : j < zs.length := by omega
      rw [List.getElem?_eq_getElem hz] at hj
      simp at hj
      rw [h4 j hz, ← hj]
      simp [List.getD, List.getElem?_eq_getElem hz]
    · simp at hj

theorem rng_u8 {l : List Int} (h : ∀ n ∈ l, (Lit.int .u8 n).wf = true) : ∀ n ∈ l, 0 ≤ n ∧ n < 256 := by
  intro n hn
  have := h n hn
  simp [Lit.wf, IntKind.min, IntKind.max, IntKind.bits, IntKind.signed] at this
  omega
theorem rng_i64 {n : Int} (h : (Lit.int .i64 n).wf = true) : -9223372036854775808 ≤ n ∧ n ≤ 9223372036854775807 := by
  simp [Lit.wf, IntKind.min, IntKind.max, IntKind.bits, IntKind.signed] at h
  omega
theorem rng_u64 {n : Int} (h : (Lit.int .u64 n).wf = true) : 0 ≤ n ∧ n < 18446744073709551616 := by
  simp [Lit.wf, IntKind.min, IntKind.max, IntKind.bits, IntKind.signed] at h
  omega
theorem row_reach {H : Type} {k : IntKind} {w : World} {a : Option Addr} {len cap : Nat} {zs : List Int} {d : DataW H} (h : IsRow k w a len cap zs) (hd : (a = none ∧ d = .nil) ∨ d = .slice (lits k (zs.take len)) (lits k (zs.drop len)))
    (bytes : Nat) (hs : ∀ elems spare, d = .slice elems spare → (elems.length + spare.length) * bytes ≤ reachBytes) : len * bytes ≤ 140737488351232 := by
  rcases h with ⟨rfl, rfl, rfl, rfl⟩ | ⟨x, rfl, h1, h2, h3, h4, h5⟩
  · omega
  · rcases hd with ⟨h, _⟩ | rfl
    · cases h
    · have := hs _ _ rfl
      simp only [lits, List.length_map, List.length_take, List.length_drop, reachBytes] at this
      have : len * bytes ≤ (min len zs.length + (zs.length - len)) * bytes := Nat.mul_le_mul_right _ (by omega)
      omega

/-! ### the second form: what its bound gives -/
theorem bulk_pos {H : Type} (d : DataW H) : 1 ≤ Rows.uptoBulk d := by
  cases d with
  | lit v => cases v <;> simp [Rows.uptoBulk]
  | _ => simp [Rows.uptoBulk]
theorem bulk_all_len {H : Type} (ds : List (DataW H)) : ds.length ≤ Rows.uptoBulkAll ds := by
  induction ds with
  | nil => simp
  | cons d r ih => have := bulk_pos d; simp only [Rows.uptoBulkAll, List.length_cons]; omega
theorem row_bulk {H : Type} {k : IntKind} {w : World} {a : Option Addr} {len cap : Nat} {zs : List Int} {d : DataW H} (h : IsRow k w a len cap zs) (hd : (a = none ∧ d = .nil) ∨ d = .slice (lits k (zs.take len)) (lits k (zs.drop len))) : len ≤ Rows.uptoBulk d := by
  rcases h with ⟨rfl, rfl, rfl, rfl⟩ | ⟨x, rfl, h1, h2, h3, h4, h5⟩
  · omega
  · rcases hd with ⟨h, _⟩ | rfl
    · cases h
    · have h6 := bulk_all_len (H := H) (lits k (zs.take len))
      simp only [lits, List.length_map, List.length_take] at h6
      simp only [Rows.uptoBulk, lits]
      omega
end Go.Proofs.Ytngajmiakakakaa
