import Derived.Test.YteibfhhbdpjpoaaWk
/- slices.Sort at no item and at one. -/
set_option linter.unusedVariables false
set_option linter.unusedSimpArgs false
namespace Go.Proofs.Yteibfhhbdpjpoaa
open Go.RowKit
set_option maxHeartbeats 4000000
set_option maxRecDepth 100000 in
theorem len64_0 (w : World) : Calls Try.prog 73 #[.int .u64 0] w fun e w' => e = .returned (.int .i64 0) ∧ w = w' := by
  go_enter Try.func73, Try.ntmps73
  repeat' (first | go_skip | go_guarded | ((fail_if_success (first | at_builtin | at_make)); go_step) | go_upon)
  go_ret
  exact ⟨by kernel_rfl, rfl⟩
set_option maxRecDepth 100000 in
theorem len64_1 (w : World) : Calls Try.prog 73 #[.int .u64 1] w fun e w' => e = .returned (.int .i64 1) ∧ w = w' := by
  go_enter Try.func73, Try.ntmps73
  repeat' (first | go_skip | go_guarded | ((fail_if_success (first | at_builtin | at_make)); go_step) | go_upon)
  go_ret
  exact ⟨by kernel_rfl, rfl⟩
theorem len_0 (w : World) : Calls Try.prog 49 #[.int .u64 0] w fun e w' => e = .returned (.int .i64 0) ∧ w = w' := by
  go_enter Try.func49, Try.ntmps49
  repeat' (first | go_skip | go_guarded | ((fail_if_success (first | at_builtin | at_make)); go_step) | go_upon)
  refine (len64_0 _).mono ?_
  rintro e w' ⟨rfl, rfl⟩
  dsimp only
  repeat' (first | go_skip | go_guarded | ((fail_if_success (first | at_builtin | at_make)); go_step) | go_upon)
  go_ret
  exact ⟨rfl, rfl⟩
theorem len_1 (w : World) : Calls Try.prog 49 #[.int .u64 1] w fun e w' => e = .returned (.int .i64 1) ∧ w = w' := by
  go_enter Try.func49, Try.ntmps49
  repeat' (first | go_skip | go_guarded | ((fail_if_success (first | at_builtin | at_make)); go_step) | go_upon)
  refine (len64_1 _).mono ?_
  rintro e w' ⟨rfl, rfl⟩
  dsimp only
  repeat' (first | go_skip | go_guarded | ((fail_if_success (first | at_builtin | at_make)); go_step) | go_upon)
  go_ret
  exact ⟨rfl, rfl⟩
theorem ins_0 (v : Value) (w : World) : Calls Try.prog 63 #[v, .int .i64 0, .int .i64 0] w fun e w' => e = .returned (.tuple #[]) ∧ w = w' := by
  go_enter Try.func63, Try.ntmps63
  repeat' (first | go_skip | go_guarded | ((fail_if_success (first | at_builtin | at_make)); go_step) | go_upon)
  refine wp_loop_rounds 1 ?_
  rw [rounds_succ]
  repeat' (first | go_skip | go_guarded | ((fail_if_success (first | at_builtin | at_make)); go_step) | go_upon)
  go_end0
  exact ⟨rfl, rfl⟩
theorem ins_1 (v : Value) (w : World) : Calls Try.prog 63 #[v, .int .i64 0, .int .i64 1] w fun e w' => e = .returned (.tuple #[]) ∧ w = w' := by
  go_enter Try.func63, Try.ntmps63
  repeat' (first | go_skip | go_guarded | ((fail_if_success (first | at_builtin | at_make)); go_step) | go_upon)
  refine wp_loop_rounds 1 ?_
  rw [rounds_succ]
  repeat' (first | go_skip | go_guarded | ((fail_if_success (first | at_builtin | at_make)); go_step) | go_upon)
  go_end0
  exact ⟨rfl, rfl⟩
set_option maxRecDepth 100000 in
theorem pdq_0 (v : Value) (k : Int) (w : World) : Calls Try.prog 48 #[v, .int .i64 0, .int .i64 0, .int .i64 k] w fun e w' => e = .returned (.tuple #[]) ∧ w = w' := by
  go_enter Try.func48, Try.ntmps48
  repeat' (first | go_skip | go_guarded | ((fail_if_success (first | at_builtin | at_make)); go_step) | go_upon)
  refine wp_loop_rounds 1 ?_
  rw [rounds_succ]
  repeat' (first | go_skip | go_guarded | ((fail_if_success (first | at_builtin | at_make)); go_step) | go_upon)
  refine (ins_0 _ _).mono ?_
  rintro e w' ⟨rfl, rfl⟩
  dsimp only
  repeat' (first | go_skip | go_guarded | ((fail_if_success (first | at_builtin | at_make)); go_step) | go_upon)
  exact bodyPost_ret (v := .tuple #[]) (by simp [results, Try.results48, go_sem]) rfl ⟨rfl, rfl⟩
set_option maxRecDepth 100000 in
theorem pdq_1 (v : Value) (k : Int) (w : World) : Calls Try.prog 48 #[v, .int .i64 0, .int .i64 1, .int .i64 k] w fun e w' => e = .returned (.tuple #[]) ∧ w = w' := by
  go_enter Try.func48, Try.ntmps48
  repeat' (first | go_skip | go_guarded | ((fail_if_success (first | at_builtin | at_make)); go_step) | go_upon)
  refine wp_loop_rounds 1 ?_
  rw [rounds_succ]
  repeat' (first | go_skip | go_guarded | ((fail_if_success (first | at_builtin | at_make)); go_step) | go_upon)
  refine (ins_1 _ _).mono ?_
  rintro e w' ⟨rfl, rfl⟩
  dsimp only
  repeat' (first | go_skip | go_guarded | ((fail_if_success (first | at_builtin | at_make)); go_step) | go_upon)
  exact bodyPost_ret (v := .tuple #[]) (by simp [results, Try.results48, go_sem]) rfl ⟨rfl, rfl⟩
theorem sort_0 (A : Option Addr) (c : Nat) (w : World) : Calls Try.prog 30 #[.slice A 0 c] w fun e w' => e = .returned (.tuple #[]) ∧ w = w' := by
  go_enter Try.func30, Try.ntmps30
  repeat' (first | go_skip | go_guarded | ((fail_if_success (first | at_builtin | at_make)); go_step) | go_upon)
  refine (len_0 _).mono ?_
  rintro e w' ⟨rfl, rfl⟩
  dsimp only
  repeat' (first | go_skip | go_guarded | ((fail_if_success (first | at_builtin | at_make)); go_step) | go_upon)
  refine (pdq_0 _ _ _).mono ?_
  rintro e w' ⟨rfl, rfl⟩
  dsimp only
  repeat' (first | go_skip | go_guarded | ((fail_if_success (first | at_builtin | at_make)); go_step) | go_upon)
  go_end0
  exact ⟨rfl, rfl⟩
theorem sort_1 (A : Option Addr) (c : Nat) (w : World) : Calls Try.prog 30 #[.slice A 1 c] w fun e w' => e = .returned (.tuple #[]) ∧ w = w' := by
  go_enter Try.func30, Try.ntmps30
  repeat' (first | go_skip | go_guarded | ((fail_if_success (first | at_builtin | at_make)); go_step) | go_upon)
  refine (len_1 _).mono ?_
  rintro e w' ⟨rfl, rfl⟩
  dsimp only
  repeat' (first | go_skip | go_guarded | ((fail_if_success (first | at_builtin | at_make)); go_step) | go_upon)
  refine (pdq_1 _ _ _).mono ?_
  rintro e w' ⟨rfl, rfl⟩
  dsimp only
  repeat' (first | go_skip | go_guarded | ((fail_if_success (first | at_builtin | at_make)); go_step) | go_upon)
  go_end0
  exact ⟨rfl, rfl⟩
theorem sortOK1 : SortOK 1 := by
  intro v xs base w hl ho
  obtain ⟨A, c, rfl⟩ := own_form ho
  rw [sortL_short xs hl]
  match xs, hl, ho with
  | [], _, ho =>
    exact (sort_0 A c w).mono fun e w' h => ⟨h.1, by rw [← h.2]; exact ho, by rw [← h.2]; exact Fr.refl _⟩
  | [x], _, ho =>
    exact (sort_1 A c w).mono fun e w' h => ⟨h.1, by rw [← h.2]; exact ho, by rw [← h.2]; exact Fr.refl _⟩
end Go.Proofs.Yteibfhhbdpjpoaa
