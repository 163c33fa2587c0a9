import Derived.Test.YteibfhhbdpjpoaaProg
import Derived.Test.YteibfhhbdpjpoaaSkPure
/- The walks of sketch's small functions. -/
set_option linter.unusedVariables false
set_option linter.unusedSimpArgs false
namespace Go.Proofs.Yteibfhhbdpjpoaa
open Go.RowKit
set_option maxHeartbeats 1000000
theorem mo : Try.prog.follows .mixedOrders = true := by kernel_rfl
theorem ix3_0 (a b c : Value) (w : World) : (Instr.index 46 (.agg #[a, b, c]) (.int .i64 0)).run Try.prog w = .ok a w := by kernel_rfl
theorem ix3_1 (a b c : Value) (w : World) : (Instr.index 46 (.agg #[a, b, c]) (.int .i64 1)).run Try.prog w = .ok b w := by kernel_rfl
theorem ix3_2 (a b c : Value) (w : World) : (Instr.index 46 (.agg #[a, b, c]) (.int .i64 2)).run Try.prog w = .ok c w := by kernel_rfl
theorem mix_calls (x j : Int) (w : World) (h0 : 0 ≤ j) (h1 : j ≤ 10) :
    Calls Try.prog 61 #[.int .u64 x, .int .i64 j] w fun e w' => e = .returned (.int .u64 (mixF x j)) ∧ w = w' := by
  go_enter Try.func61, Try.ntmps61
  go_wp2
  go_ret
  exact ⟨by rw [mixF_eq]; rfl, rfl⟩
theorem check_calls (x : Int) (w : World) :
    Calls Try.prog 45 #[.int .u64 x] w fun e w' => e = .returned (.int .u32 (checkF x)) ∧ w = w' := by
  go_enter Try.func45, Try.ntmps45
  go_wp2_with (go_at_call 61; refine (mix_calls _ _ _ (by omega) (by omega)).mono ?_; rintro e w' ⟨rfl, rfl⟩)
  go_ret
  exact ⟨rfl, rfl⟩
theorem placeN_val (n : Nat) (x : Int) (j : Nat) : ((placeN n x j : Nat) : Int) = (j : Int) * ((n : Int) / 3) + mixF x (j : Int) % ((n : Int) / 3) := by
  have h := mixF_lo x j
  unfold placeN
  rw [Int.natCast_add, Int.natCast_mul, Int.natCast_emod, Int.toNat_of_nonneg h]
  rfl
theorem places_calls (x : Int) (p : Nat) (A : Option Addr) (n c : Nat) (w : World) (h3 : 3 ≤ n) (hn : n ≤ 256)
    (hc : w.cell? ⟨p, 0, none⟩ = some (.slice A n c)) :
    Calls Try.prog 46 #[.pointer (some ⟨p, 0, none⟩), .int .u64 x] w fun e w' => e = .returned (.agg #[.int .i64 (placeN n x 0 : Nat), .int .i64 (placeN n x 1 : Nat), .int .i64 (placeN n x 2 : Nat)]) ∧ Fr none_ w w' := by
  have hp : p < w.heap.size := World.block_lt_of_cell? w _ hc
  have m0 := mixF_lo x 0
  have m1 := mixF_lo x 1
  have m2 := mixF_lo x 2
  have k0 : 1 ≤ (n : Int) / 3 := by omega
  have k1 : (n : Int) / 3 ≤ 256 := by omega
  have r0 := Int.emod_lt_of_pos (mixF x 0) (show 0 < (n : Int) / 3 by omega)
  have r1 := Int.emod_lt_of_pos (mixF x 1) (show 0 < (n : Int) / 3 by omega)
  have r2 := Int.emod_lt_of_pos (mixF x 2) (show 0 < (n : Int) / 3 by omega)
  have s0 := Int.emod_nonneg (mixF x 0) (show (n : Int) / 3 ≠ 0 by omega)
  have s1 := Int.emod_nonneg (mixF x 1) (show (n : Int) / 3 ≠ 0 by omega)
  have s2 := Int.emod_nonneg (mixF x 2) (show (n : Int) / 3 ≠ 0 by omega)
  go_enter Try.func46, Try.ntmps46
  go_wp2
  refine wp_loop_rounds 4 ?_
  rw [rounds_succ]
  go_wp2_with (go_at_call 61; refine (mix_calls _ _ _ (by omega) (by omega)).mono ?_; rintro e w' ⟨rfl, rfl⟩)
  rw [rounds_succ]
  go_wp2_with (go_at_call 61; refine (mix_calls _ _ _ (by omega) (by omega)).mono ?_; rintro e w' ⟨rfl, rfl⟩)
  rw [rounds_succ]
  go_wp2_with (go_at_call 61; refine (mix_calls _ _ _ (by omega) (by omega)).mono ?_; rintro e w' ⟨rfl, rfl⟩)
  rw [rounds_succ]
  go_wp2
  refine bodyPost_ret (v := .agg #[.int .i64 (mixF x 0 % ((n : Int) / 3)), .int .i64 ((n : Int) / 3 + mixF x 1 % ((n : Int) / 3)), .int .i64 (2 * ((n : Int) / 3) + mixF x 2 % ((n : Int) / 3))]) (by simp [results, Try.results46, go_sem]) rfl ⟨?_, ((Fr.refl _).alloc _).alloc _⟩
  have e0 := placeN_val n x 0
  have e1 := placeN_val n x 1
  have e2 := placeN_val n x 2
  rw [e0, e1, e2]
  simp
end Go.Proofs.Yteibfhhbdpjpoaa
