import Derived.Test.YteibfhhbdpjpoaaProg
import Derived.Test.YteibfhhbdpjpoaaMem
import Derived.Test.YteibfhhbdpjpoaaDgPure
/- digest: the small functions. -/
set_option linter.unusedVariables false
set_option linter.unusedSimpArgs false
namespace Go.Proofs.Yteibfhhbdpjpoaa
open Go.RowKit
set_option maxHeartbeats 1000000
theorem mo' : Try.prog.follows .mixedOrders = true := by kernel_rfl
theorem rot_calls (x k : Int) (r : Nat) (w : World) (h : Go.bits .and .u64 (IntKind.u64.wrap k) 31 = (r : Int)) (h0 : 1 ≤ r) (h1 : r ≤ 31) :
    Calls Try.prog 93 #[.int .u32 x, .int .i64 k] w fun e w' => e = .returned (.int .u32 (rotF x r)) ∧ w = w' := by
  go_enter Try.func93, Try.ntmps93
  go_wp2
  go_ret
  exact ⟨by rw [rotF_eq]; rfl, rfl⟩
theorem rot7 (x : Int) (w : World) : Calls Try.prog 93 #[.int .u32 x, .int .i64 (-7)] w fun e w' => e = .returned (.int .u32 (rotF x 25)) ∧ w' = w :=
  (rot_calls x (-7) 25 w (by decide) (by omega) (by omega)).mono fun _ _ h => ⟨h.1, h.2.symm⟩
theorem rot18 (x : Int) (w : World) : Calls Try.prog 93 #[.int .u32 x, .int .i64 (-18)] w fun e w' => e = .returned (.int .u32 (rotF x 14)) ∧ w' = w :=
  (rot_calls x (-18) 14 w (by decide) (by omega) (by omega)).mono fun _ _ h => ⟨h.1, h.2.symm⟩
theorem rot17 (x : Int) (w : World) : Calls Try.prog 93 #[.int .u32 x, .int .i64 (-17)] w fun e w' => e = .returned (.int .u32 (rotF x 15)) ∧ w' = w :=
  (rot_calls x (-17) 15 w (by decide) (by omega) (by omega)).mono fun _ _ h => ⟨h.1, h.2.symm⟩
theorem rot19 (x : Int) (w : World) : Calls Try.prog 93 #[.int .u32 x, .int .i64 (-19)] w fun e w' => e = .returned (.int .u32 (rotF x 13)) ∧ w' = w :=
  (rot_calls x (-19) 13 w (by decide) (by omega) (by omega)).mono fun _ _ h => ⟨h.1, h.2.symm⟩
theorem rot6 (x : Int) (w : World) : Calls Try.prog 93 #[.int .u32 x, .int .i64 (-6)] w fun e w' => e = .returned (.int .u32 (rotF x 26)) ∧ w' = w :=
  (rot_calls x (-6) 26 w (by decide) (by omega) (by omega)).mono fun _ _ h => ⟨h.1, h.2.symm⟩
theorem rot11 (x : Int) (w : World) : Calls Try.prog 93 #[.int .u32 x, .int .i64 (-11)] w fun e w' => e = .returned (.int .u32 (rotF x 21)) ∧ w' = w :=
  (rot_calls x (-11) 21 w (by decide) (by omega) (by omega)).mono fun _ _ h => ⟨h.1, h.2.symm⟩
theorem rot25 (x : Int) (w : World) : Calls Try.prog 93 #[.int .u32 x, .int .i64 (-25)] w fun e w' => e = .returned (.int .u32 (rotF x 7)) ∧ w' = w :=
  (rot_calls x (-25) 7 w (by decide) (by omega) (by omega)).mono fun _ _ h => ⟨h.1, h.2.symm⟩
theorem rot2 (x : Int) (w : World) : Calls Try.prog 93 #[.int .u32 x, .int .i64 (-2)] w fun e w' => e = .returned (.int .u32 (rotF x 30)) ∧ w' = w :=
  (rot_calls x (-2) 30 w (by decide) (by omega) (by omega)).mono fun _ _ h => ⟨h.1, h.2.symm⟩
theorem rot13 (x : Int) (w : World) : Calls Try.prog 93 #[.int .u32 x, .int .i64 (-13)] w fun e w' => e = .returned (.int .u32 (rotF x 19)) ∧ w' = w :=
  (rot_calls x (-13) 19 w (by decide) (by omega) (by omega)).mono fun _ _ h => ⟨h.1, h.2.symm⟩
theorem rot22 (x : Int) (w : World) : Calls Try.prog 93 #[.int .u32 x, .int .i64 (-22)] w fun e w' => e = .returned (.int .u32 (rotF x 10)) ∧ w' = w :=
  (rot_calls x (-22) 10 w (by decide) (by omega) (by omega)).mono fun _ _ h => ⟨h.1, h.2.symm⟩
theorem cubesInfo : (Try.prog.info? 140).map (·.size) = some 64 := by kernel_rfl
def zeros64 : List Value := List.replicate 64 (.int .u32 0)
theorem zeros64_length : zeros64.length = 64 := rfl
theorem ints_one (k : IntKind) (l : List Int) : ∀ u ∈ ints k l, u.oneCell' = true := by
  intro u hu
  simp only [ints, List.mem_map] at hu
  obtain ⟨s, _, rfl⟩ := hu
  rfl
set_option maxRecDepth 100000 in
theorem cubes_calls (w : World) : Calls Try.prog 92 #[] w fun e w' => e = .returned (.agg (ints .u32 cubesF).toArray) ∧ Fr none_ w w' := by
  have hinfo : (Try.prog.info? 140).map (·.size) = some (ints .u32 cubesF).length := by rw [ints_length, cubesF_length]; exact cubesInfo
  have hl : zeros64.length = (ints .u32 cubesF).length := by rw [ints_length, cubesF_length]; rfl
  have h1 := ints_one .u32 cubesF
  have he : Hid ((ints .u32 cubesF).toArray = (ints .u32 cubesC).toArray) := Lib.hid (by rw [cubesF_eq])
  go_enter Try.func92, Try.ntmps92
  go_upto_region 1 with (fail)
  have hz : Hd (w.alloc (.cells zeros64.toArray 140)) w.heap.size 140 ([] ++ zeros64 ++ []) := Hd.new w _ _
  go_wp2_with ((with_reducible refine wpList_build_as rfl 140 _ rfl (ints .u32 cubesF).toArray (by rw [he.out]; as_aux_lemma => kernel_rfl) ?_); refine wpList_store_at rfl 140 (.tmp 0) (.tmp 1) rfl w.heap.size 0 rfl (ints .u32 cubesF) rfl 140 [] zeros64 [] hz rfl hl hinfo h1 ?_; intro w' hd hF; clear hz hl h1 he)
  go_wp2_with fail
  refine bodyPost_ret (v := .agg (ints .u32 cubesF).toArray) (results_at rfl _ _ w.heap.size 0 _ _ rfl (by simpa using hd.cells0) Try.underlying140 rfl (by simpa using hinfo)) rfl ⟨rfl, ((Fr.refl (S := none_) w).alloc _).trans hF (fun _ _ e => e) (fun k hk e => by omega)⟩
end Go.Proofs.Yteibfhhbdpjpoaa
