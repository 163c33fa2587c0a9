import Derived.Test.YteibfhhbdpjpoaaSk1
/- The walk of lay: an item over its three cells. -/
set_option linter.unusedVariables false
set_option linter.unusedSimpArgs false
namespace Go.Proofs.Yteibfhhbdpjpoaa
open Go.RowKit
set_option maxHeartbeats 2000000
noncomputable def layC (x b : Int) (s : SC) : SC := ⟨IntKind.i16.wrap (s.c + b), Go.bits .xor .u64 s.i x, Go.bits .xor .u32 s.k (checkF x)⟩
noncomputable def layAt (x b : Int) (l : List SC) (i : Nat) : List SC := l.set i (layC x b (l.getD i default))
noncomputable def layL (l : List SC) (x b : Int) : List SC :=
  layAt x b (layAt x b (layAt x b l (placeN l.length x 0)) (placeN l.length x 1)) (placeN l.length x 2)
noncomputable def layK (l : List SC) (x b : Int) (p : Nat → Nat) : Nat → List SC
  | 0 => l
  | k + 1 => layAt x b (layK l x b p k) (p k)
theorem layAt_length (x b : Int) (l : List SC) (i : Nat) : (layAt x b l i).length = l.length := by simp [layAt]
theorem layK_length (l : List SC) (x b : Int) (p : Nat → Nat) (k : Nat) : (layK l x b p k).length = l.length := by
  induction k with
  | zero => rfl
  | succ k ih => rw [layK, layAt_length, ih]
theorem layL_length (l : List SC) (x b : Int) : (layL l x b).length = l.length := by simp [layL, layAt_length]
theorem ix3_any (n : Nat) (x : Int) (k : Nat) (hk : k < 3) (w : World) : (Instr.index 46 (.agg #[.int .i64 (placeN n x 0 : Nat), .int .i64 (placeN n x 1 : Nat), .int .i64 (placeN n x 2 : Nat)]) (.int .i64 (k : Int))).run Try.prog w = .ok (.int .i64 (placeN n x k : Nat)) w := by
  match k, hk with
  | 0, _ => exact ix3_0 ..
  | 1, _ => exact ix3_1 ..
  | 2, _ => exact ix3_2 ..
/-- three stores into one cell of a sketch -/
theorem Hd.store3 {w : World} {g : Nat} {l : List SC} {i : Nat} {a b c : Int} (h : Hd w g 63 (flatC l)) (hi : i < l.length) :
    Hd (((w.setCell ⟨g, i * 3, none⟩ (.int .i16 a)).setCell ⟨g, i * 3 + 1, none⟩ (.int .u64 b)).setCell ⟨g, i * 3 + 2, none⟩ (.int .u32 c)) g 63 (flatC (l.set i ⟨a, b, c⟩)) := by
  rw [← flatC_set _ _ _ _ _ hi]
  have hl := flatC_length l
  exact ((h.setCell (by omega) _).setCell (by simp only [List.length_set]; omega) _).setCell (by simp only [List.length_set]; omega) _
set_option maxRecDepth 100000 in
theorem lay_calls (x b : Int) (p g : Nat) (l : List SC) (c : Nat) (w : World) (h3 : 3 ≤ l.length) (hn : l.length ≤ 256)
    (hc : w.cell? ⟨p, 0, none⟩ = some (.slice (some ⟨g, 0, none⟩) l.length c)) (hg : Hd w g 63 (flatC l)) :
    Calls Try.prog 29 #[.pointer (some ⟨p, 0, none⟩), .int .u64 x, .int .i16 b] w fun e w' => e = .returned (.tuple #[]) ∧ Hd w' g 63 (flatC (layL l x b)) ∧ Fr (· = g) w w' := by
  have hgl := hg.lt
  have hpl := World.block_lt_of_cell? w _ hc
  go_enter Try.func29, Try.ntmps29
  go_wp2_with fail
  refine (places_calls x p _ l.length c w h3 hn hc).mono ?_
  rintro e w1 ⟨rfl, hF⟩
  have hc1 := hF.cell hc (fun e => e)
  have hg1 := hF.keeps hg (fun e => e)
  have hpg : p ≠ g := by
    rintro rfl
    have := hg.cell (flatC_at0 l 0 (by omega))
    rw [Nat.zero_mul, hc] at this
    cases this
  go_wp2_with fail
  as_aux_lemma =>
  go_loopw [14] (fun i wr => ∃ k : Nat, k ≤ 3 ∧ i = .int .i64 k ∧ Hd wr g 63 (flatC (layK l x b (placeN l.length x) k)) ∧ Fr (· = g) w1 wr) (fun i _ => 3 - (intOf i).toNat)
  case atStart => exact ⟨0, by omega, rfl, hg1, Fr.refl _⟩
  case round =>
    obtain ⟨k, hk, rfl, hgk, hFk⟩ := hrel
    have hck := hFk.cell hc1 (by simpa using hpg)
    have fz := hgk.free
    have hgl := hgk.lt
    by_cases hk3 : k < 3
    · clear hc hg hF hc1 hg1
      have ix := ix3_any l.length x k hk3
      have hi := placeN_lt l.length x k h3 hk3
      have hl := layK_length l x b (placeN l.length x) k
      have hi' : placeN l.length x k < (layK l x b (placeN l.length x) k).length := by omega
      have L : Hid (layK l x b (placeN l.length x) (k + 1) = layAt x b (layK l x b (placeN l.length x) k) (placeN l.length x k)) := Lib.hid rfl
      have c0 := hgk.cell (flatC_at0 _ _ hi')
      have c1 := hgk.cell (flatC_at1 _ _ hi')
      have c2 := hgk.cell (flatC_at2 _ _ hi')
      have HG := Lib.hid hgk
      have HI := Lib.hid hi'
      clear hgk hl hi'
      generalize placeN l.length x k = j at *
      generalize layK l x b (placeN l.length x) k = lk at *
      generalize hs : lk.getD j default = s at c0 c1 c2
      have HS := Lib.hid hs
      clear hs
      go_wp2_with fail
      refine wp_still_tail 9 mo (by as_aux_lemma => kernel_rfl) ?_
      simp only [List.take_succ_cons, List.take_zero, List.drop_succ_cons, List.drop_zero]
      repeat still_step
      still_call ((check_calls x _).mono fun _ _ h => ⟨h.1, h.2.symm⟩)
      repeat still_step
      refine wpStill_nil ?_
      go_wp2_with fail
      go_roundw
      case rel =>
        refine ⟨k + 1, by omega, by go_num, ?_, (((hFk.setCell (.inr rfl) _).setCell (.inr rfl) _).setCell (.inr rfl) _).drew⟩
        rw [L.out]
        unfold layAt
        rw [HS.out]
        exact (HG.out.store3 HI.out).drew
      case measure => simp [intOf]; omega
    · obtain rfl : k = 3 := by omega
      go_wp2_with fail
      go_end0
      exact ⟨rfl, hgk, hF.trans hFk (fun _ _ e => e.elim) (fun _ _ e => e)⟩
end Go.Proofs.Yteibfhhbdpjpoaa
