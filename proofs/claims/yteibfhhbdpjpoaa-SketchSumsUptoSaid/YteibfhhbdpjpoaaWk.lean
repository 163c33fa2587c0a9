import Derived.Test.YteibfhhbdpjpoaaWkPure
import Derived.Test.YteibfhhbdpjpoaaSm2
/- concordlaw16: works. -/
set_option linter.unusedVariables false
set_option linter.unusedSimpArgs false
namespace Go.Proofs.Yteibfhhbdpjpoaa
open Go.RowKit
set_option maxHeartbeats 4000000
theorem sortL_short (l : List Int) (h : l.length ≤ 1) : sortL l = l := by
  match l, h with
  | [], _ => simp [sortL]
  | [x], _ => simp [sortL]
theorem itemC_lo (k s : ByteArray) : 0 ≤ itemC k s := by unfold itemC itemFrom; exact bits_lo_u64 _ _ _
theorem itemC_hi (k s : ByteArray) : itemC k s < 18446744073709551616 := by
  unfold itemC itemFrom
  exact Int.lt_of_le_of_lt (bits_hi_u64 _ _ _) (by omega)
set_option maxRecDepth 100000 in
theorem works_calls (hsort : SortOK 1) (w : World) :
    Calls Try.prog 6 #[] w fun e w' => e = .returned (.bool true) ∧ Fr none_ w w' := by
  have nc : Calls Try.prog 9 #[.int .i64 3] w (Made w Z3) := new_yes 3 w (by omega) (by omega)
  have NC := Lib.hid nc
  have SO := Lib.hid hsort
  clear nc hsort
  go_enter Try.func6, Try.ntmps6
  repeat' (first | go_skip | go_guarded | ((fail_if_success (first | at_builtin | at_make)); go_step) | go_upon)
  refine (NC.out).mono ?_
  rintro e w1 ⟨p, g, rfl, hp, hg, hs, hF⟩
  have HG := Lib.hid hg
  have HS1 := Lib.hid hs
  have HF1 := Lib.hid hF
  clear hp hg hs hF NC
  dsimp only
  repeat' (first | go_skip | go_guarded | ((fail_if_success (first | at_builtin | at_make)); go_step) | go_upon)
  refine (add_calls 7 p g Z3 _ HS1.out (by rw [Z3, List.length_replicate]; omega) (by rw [Z3, List.length_replicate]; omega)).mono ?_
  rintro e w2 ⟨rfl, hs, hF⟩
  have HS2 := Lib.hid hs
  have HF2 := Lib.hid (HF1.out.trans (S'' := none_) hF (fun _ _ e => e) (fun k hk e => by have := HG.out; omega))
  clear hs hF HS1 HF1
  dsimp only
  repeat' (first | go_skip | go_guarded | ((fail_if_success (first | at_builtin | at_make)); go_step) | go_upon)
  refine (add_calls 9 p g (layL Z3 7 1) _ HS2.out (by rw [layL_length, Z3, List.length_replicate]; omega) (by rw [layL_length, Z3, List.length_replicate]; omega)).mono ?_
  rintro e w3 ⟨rfl, hs, hF⟩
  have HS3 := Lib.hid hs
  have HF3 := Lib.hid (HF2.out.trans (S'' := none_) hF (fun _ _ e => e) (fun k hk e => by have := HG.out; omega))
  clear hs hF HS2 HF2
  dsimp only
  repeat' (first | go_skip | go_guarded | ((fail_if_success (first | at_builtin | at_make)); go_step) | go_upon)
  refine (take_calls 7 p g (layL (layL Z3 7 1) 9 1) _ HS3.out (by rw [layL_length, layL_length, Z3, List.length_replicate]; omega) (by rw [layL_length, layL_length, Z3, List.length_replicate]; omega)).mono ?_
  rintro e w4 ⟨rfl, hs, hF⟩
  rw [worked_sketch] at hs
  have HS4 := Lib.hid hs
  have HF4 := Lib.hid (HF3.out.trans (S'' := none_) hF (fun _ _ e => e) (fun k hk e => by have := HG.out; omega))
  clear hs hF HS3 HF3
  dsimp only
  repeat' (first | go_skip | go_guarded | ((fail_if_success (first | at_builtin | at_make)); go_step) | go_upon)
  refine (peel_calls p g S9 _ HS4.out (by show 3 ≤ 3; omega) (by show 3 ≤ 256; omega) 1 SO.out (by rw [peel9]; exact Nat.le_refl _) (by rw [peel9]; exact Nat.zero_le _)).mono ?_
  rintro e w5 ⟨v2, v3, rfl, o2, o3, hF⟩
  simp only [peel9] at o2 o3 ⊢
  rw [sortL_short [9] (Nat.le_refl _)] at o2
  rw [allZ3]
  obtain ⟨A2, c2, rfl, sv2⟩ := own_sv o2
  obtain ⟨A3, c3, rfl, sv3⟩ := own_sv o3
  have HS5 := Lib.hid (HS4.out.fr hF)
  have HF5 := Lib.hid (HF4.out.then hF)
  have HV2 := Lib.hid sv2
  clear hF HS4 HF4 o2 o3 sv2 sv3
  dsimp only [List.length_cons, List.length_nil]
  repeat' (first | go_skip | go_guarded | ((fail_if_success (first | at_builtin | at_make)); go_step) | go_upon)
  have cc : Calls Try.prog 12 #[.pointer (some ⟨p, 0, none⟩)] w5 (Cloned w5 63 3 3 (flatC S9)) := cells_calls p g S9 _ HS5.out (by show 3 ≤ 256; omega)
  refine (cc).mono ?_
  rintro e w6 ⟨A6, c6, rfl, o6, hF⟩
  have hA : ∃ g6, A6 = some ⟨g6, 0, none⟩ := by
    rcases o6.2 with ⟨hv, hn⟩ | ⟨g6, cap, cur, hv, _⟩
    · cases hn
    · injection hv with e1 e2 e3
      exact ⟨g6, e1⟩
  obtain ⟨g6, rfl⟩ := hA
  obtain ⟨_, hd6⟩ := own_hd o6
  have c60 : w6.cell? ⟨g6, 0, none⟩ = some (.int .i16 1) := hd6.cell (flatC_at0 S9 0 (by show 0 < 3; omega))
  have c61 : w6.cell? ⟨g6, 7, none⟩ = some (.int .u64 9) := hd6.cell (flatC_at1 S9 2 (by show 2 < 3; omega))
  have HV6 := Lib.hid (HV2.out.fr hF (fun _ _ e => e))
  have HSZ := Lib.hid hF.size
  have HF6 := Lib.hid (HF5.out.then hF)
  clear hF HS5 HF5 HV2 o6 hd6 cc
  dsimp only
  repeat' (first | go_skip | go_guarded | ((fail_if_success (first | at_builtin | at_make)); go_step) | go_upon)
  have hone : Hd (w6.alloc (.cells #[.int .u64 9] 36)) w6.heap.size 36 (ints .u64 [9]) := Hd.new _ _ _
  have hFa : Fr none_ w6 (w6.alloc (.cells #[.int .u64 9] 36)) := (Fr.refl _).alloc _
  have sc : Calls Try.prog 25 #[.slice A2 1 c2, .slice (some ⟨w6.heap.size, 0, none⟩) 1 1] (w6.alloc (.cells #[.int .u64 9] 36)) (fun e w' => e = .returned (.bool true) ∧ ∃ n, w' = (w6.alloc (.cells #[.int .u64 9] 36)).drewN n) :=
    sameItems_calls [9] [9] A2 (some ⟨w6.heap.size, 0, none⟩) c2 1 _ _ (by show 1 ≤ _; omega) (by show 1 ≤ _; omega) ((HV6.out.rds.more (B' := w6.heap.size + 1) (by have := HSZ.out; omega)).fr hFa (fun _ _ e => e)) (Rds.of_hd hone (Nat.lt_succ_self _))
  refine (sc).mono ?_
  rintro e w7 ⟨rfl, n, rfl⟩
  have HF7 := Lib.hid ((HF6.out.then hFa).drewN n)
  clear hone hFa sc HV6 HF6 c60 c61
  generalize (w6.alloc (.cells #[.int .u64 9] 36)).drewN n = w7 at *
  dsimp only
  repeat' (first | go_skip | go_guarded | ((fail_if_success (first | at_builtin | at_make)); go_step) | go_upon)
  refine (item_calls ⟨#[97]⟩ ⟨#[120]⟩ _ (by decide) (by decide) (by decide)).mono ?_
  rintro e w8 ⟨rfl, hF⟩
  have HF8 := Lib.hid (HF7.out.then hF)
  have hlo := itemC_lo ⟨#[97]⟩ ⟨#[120]⟩
  have hhi := itemC_hi ⟨#[97]⟩ ⟨#[120]⟩
  have hAX := itemAX
  generalize itemC ⟨#[97]⟩ ⟨#[120]⟩ = it at *
  have HAX := Lib.hid hAX
  clear hF HF7 hAX
  dsimp only
  repeat' (first | go_skip | go_guarded | ((fail_if_success (first | at_builtin | at_make)); go_step) | go_upon)
  refine (segment_calls it _ hlo hhi).mono ?_
  rintro e w9 ⟨rfl, rfl⟩
  rw [HAX.out]
  dsimp only
  repeat' (first | go_skip | go_guarded | ((fail_if_success (first | at_builtin | at_make)); go_step) | go_upon)
  go_ret
  exact ⟨rfl, HF8.out⟩
end Go.Proofs.Yteibfhhbdpjpoaa
