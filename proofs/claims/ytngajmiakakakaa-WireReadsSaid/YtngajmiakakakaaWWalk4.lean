/- Walks: Uvarint of nil, Zigzag, Block. -/
import Derived.Test.YtngajmiakakakaaWWalk3
namespace Go.Proofs.Ytngajmiakakakaa
open Go.RowKit

set_option maxHeartbeats 400000 in
theorem uv_nil (w : World) :
    Calls Try.prog 24 #[.pointer none] w fun e w' => e = .returned (.tuple #[.int .u64 0, .int .i64 1]) ∧ Below w.heap.size w w' := by
  have hmf : ∀ (fn : Fn) (first cap : Array Value) (w : World), (Instr.makeFunc fn first cap).run Try.prog w = .ok (.func fn first cap) w := fun _ _ _ _ => rfl
  go_enter_defers Try.func24, Try.ntmps24
  go_wp2_with fail
  go_step3
  go_wp2_with fail
  refine (at_nil _).mono ?_
  rintro e w' ⟨rfl, rfl⟩
  go_wp2_with fail
  go_step3
  go_wp2_with fail
  refine wp_loop_rounds 1 ?_
  rw [rounds_succ]
  go_wp2_with fail
  refine (byte_nil _).mono ?_
  rintro e w' ⟨rfl, rfl⟩
  go_wp2_with fail
  rw [Exit.noGoto_ret]
  refine leaves_cons (f := 34) (args := #[.pointer (some ⟨w.heap.size, 0, none⟩), .pointer (some ⟨w.heap.size + 1 + 1, 0, none⟩), .pointer (some ⟨w.heap.size + 1, 0, none⟩)]) (by simp) (by simp [go_sem]) ?_
  refine (undo_nil _ _ _ _ (.int .i64 0) _ ?_ ?_).mono ?_
  rotate_left
  · simp [go_sem]
  · rintro e u' w'' ⟨rfl, rfl, rfl⟩
    simp [Leaves, settle, results, Try.results24, go_sem]
    exact (((Below.refl _ _).alloc (Nat.le_refl _) _).alloc (by simp) _).alloc (by simp; omega) _
  · simp [go_sem]

set_option maxHeartbeats 400000 in
theorem zin (n : Int) (w : World) (h0 : 0 ≤ n) (h1 : n < 18446744073709551616) :
    Calls Try.prog 33 #[.int .u64 n] w fun e w' => e = .returned (.int .i64 (uz n)) ∧ w = w' := by
  go_enter Try.func33, Try.ntmps33
  go_wp2
  go_ret
  exact ⟨by rw [← zag h0 h1]; rfl, rfl⟩

/-- what Zigzag answers of what Uvarint answers -/
def zigR (r1 r3 : Int) : Int := if r3 = 0 then uz r1 else 0
theorem rdn_rng (l : List Int) (hl : ∀ x ∈ l, 0 ≤ x ∧ x < 256) : 0 ≤ (rdn l).1 ∧ (rdn l).1 < 18446744073709551616 := by
  by_cases h : (rdn l).2.2 = 0
  · obtain ⟨m, _, h2, _, _, h5⟩ := uv_enc 10 0 l 0 rfl hl (by decide) (by decide) h
    unfold rdn
    rw [h2] at h5 ⊢
    omega
  · have := uv_err 10 0 l 0 h
    unfold rdn
    omega
set_option maxHeartbeats 400000 in
theorem turned_any {w : World} {B : Nat} {ao : Option Addr} {c : Nat} {l : List Int} {k : Nat} (h : Cur w B ao c l k) (r1 : Int) (r2 : Nat) (r3 : Int) (hR : rdn (l.drop k) = (r1, r2, r3)) :
    Calls Try.prog 32 #[.func (.func 24) #[.pointer (some ⟨B, 0, none⟩)] #[], .func (.func 33) #[] #[]] w fun e w' => e = .returned (.tuple #[.int .i64 (zigR r1 r3), .int .i64 r3]) ∧ Cur w' B ao c l (k + r2) ∧ w.grownBy w' (some B) := by
  have hrr := rdn_rng (l.drop k) (fun x hx => h.rng x (List.mem_of_mem_drop hx))
  rw [hR] at hrr
  obtain ⟨hr0, hr1⟩ := hrr
  simp only at hr0 hr1
  have HR := Lib.hid hR
  clear hR
  by_cases h0 : r3 = 0
  · have e3 : (r3 == 0) = true := by simp [h0]
    have H0 := Lib.hid h0
    clear h0
    go_enter Try.func32, Try.ntmps32
    go_wp2_with fail
    refine (uv_any h r1 r2 r3 HR.out).mono ?_
    rintro e w1 ⟨rfl, hC, hG⟩
    go_wp2_with fail
    refine (zin r1 _ hr0 hr1).mono ?_
    rintro e w2 ⟨rfl, rfl⟩
    go_wp2
    go_ret2
    exact ⟨by unfold zigR; rw [if_pos H0.out]; rfl, hC, hG⟩
  · have e3 : (r3 == 0) = false := by simp [h0]
    have H0 := Lib.hid h0
    clear h0
    go_enter Try.func32, Try.ntmps32
    go_wp2_with fail
    refine (uv_any h r1 r2 r3 HR.out).mono ?_
    rintro e w1 ⟨rfl, hC, hG⟩
    go_wp2
    go_ret2
    exact ⟨by unfold zigR; rw [if_neg H0.out]; rfl, hC, hG⟩
set_option maxHeartbeats 400000 in
theorem turned_nil (w : World) :
    Calls Try.prog 32 #[.func (.func 24) #[.pointer none] #[], .func (.func 33) #[] #[]] w fun e w' => e = .returned (.tuple #[.int .i64 0, .int .i64 1]) ∧ Below w.heap.size w w' := by
  go_enter Try.func32, Try.ntmps32
  go_wp2_with fail
  refine (uv_nil _).mono ?_
  rintro e w1 ⟨rfl, hb⟩
  go_wp2
  go_ret2
  exact ⟨rfl, hb⟩
set_option maxHeartbeats 400000 in
theorem zig_any {w : World} {B : Nat} {ao : Option Addr} {c : Nat} {l : List Int} {k : Nat} (h : Cur w B ao c l k) (r1 : Int) (r2 : Nat) (r3 : Int) (hR : rdn (l.drop k) = (r1, r2, r3)) :
    Calls Try.prog 20 #[.pointer (some ⟨B, 0, none⟩)] w fun e w' => e = .returned (.tuple #[.int .i64 (zigR r1 r3), .int .i64 r3]) ∧ Cur w' B ao c l (k + r2) ∧ w.grownBy w' (some B) := by
  have hmf : ∀ (fn : Fn) (first cap : Array Value) (w : World), (Instr.makeFunc fn first cap).run Try.prog w = .ok (.func fn first cap) w := fun _ _ _ _ => rfl
  go_enter Try.func20, Try.ntmps20
  go_wp2_with fail
  refine (turned_any h r1 r2 r3 hR).mono ?_
  rintro e w' ⟨rfl, hC, hG⟩
  go_wp2
  go_ret2
  exact ⟨rfl, hC, hG⟩
set_option maxHeartbeats 400000 in
theorem zig_nil (w : World) :
    Calls Try.prog 20 #[.pointer none] w fun e w' => e = .returned (.tuple #[.int .i64 0, .int .i64 1]) ∧ Below w.heap.size w w' := by
  have hmf : ∀ (fn : Fn) (first cap : Array Value) (w : World), (Instr.makeFunc fn first cap).run Try.prog w = .ok (.func fn first cap) w := fun _ _ _ _ => rfl
  go_enter Try.func20, Try.ntmps20
  go_wp2_with fail
  refine (turned_nil _).mono ?_
  rintro e w' ⟨rfl, hb⟩
  go_wp2
  go_ret2
  exact ⟨rfl, hb⟩
end Go.Proofs.Ytngajmiakakakaa
