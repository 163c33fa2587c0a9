import Derived.Test.YteibfhhbdpjpoaaIt1
import Derived.Test.YteibfhhbdpjpoaaSkEq
/- sketch: Segment, pure. -/
set_option linter.unusedVariables false
set_option linter.unusedSimpArgs false
namespace Go.Proofs.Yteibfhhbdpjpoaa
open Go.RowKit
set_option maxHeartbeats 2000000
theorem segment_calls (x : Int) (w : World) (h0 : 0 ≤ x) (h1 : x < 18446744073709551616) :
    Calls Try.prog 26 #[.int .u64 x] w fun e w' => e = .returned (.int .i64 (x / 281474976710656)) ∧ w = w' := by
  have h2 : 0 ≤ x / 281474976710656 := by omega
  have h3 : x / 281474976710656 ≤ 65535 := by omega
  go_enter Try.func26, Try.ntmps26
  repeat' (first | go_skip | go_guarded | go_step | go_upon)
  go_ret
  exact ⟨rfl, rfl⟩
/-- where v stands among three -/
def idx3 (v a0 a1 a2 : Int) : Int := if v = a0 then 0 else if v = a1 then 1 else if v = a2 then 2 else -1
theorem index_calls (v a0 a1 a2 : Int) (b c : Nat) (w : World)
    (c0 : w.cell? ⟨b, 0, none⟩ = some (.int .i64 a0)) (c1 : w.cell? ⟨b, 1, none⟩ = some (.int .i64 a1)) (c2 : w.cell? ⟨b, 2, none⟩ = some (.int .i64 a2)) :
    Calls Try.prog 62 #[.slice (some ⟨b, 0, none⟩) 3 c, .int .i64 v] w fun e w' => e = .returned (.int .i64 (idx3 v a0 a1 a2)) ∧ w = w' := by
  by_cases e0 : v = a0
  · have q0 : (v == a0) = true := by simp [e0]
    rw [show idx3 v a0 a1 a2 = 0 by unfold idx3; rw [if_pos e0]]
    clear e0
    go_enter Try.func62, Try.ntmps62
    repeat' (first | go_skip | go_guarded | go_step | go_upon)
    refine wp_loop_rounds 1 ?_
    rw [rounds_succ]
    repeat' (first | go_skip | go_guarded | go_step | go_upon)
    go_ret
    exact ⟨rfl, rfl⟩
  · have q0 : (v == a0) = false := by simp [e0]
    by_cases e1 : v = a1
    · have q1 : (v == a1) = true := by simp [e1]
      rw [show idx3 v a0 a1 a2 = 1 by unfold idx3; rw [if_neg e0, if_pos e1]]
      clear e0 e1
      go_enter Try.func62, Try.ntmps62
      repeat' (first | go_skip | go_guarded | go_step | go_upon)
      refine wp_loop_rounds 2 ?_
      rw [rounds_succ]
      repeat' (first | go_skip | go_guarded | go_step | go_upon)
      rw [rounds_succ]
      repeat' (first | go_skip | go_guarded | go_step | go_upon)
      go_ret
      exact ⟨rfl, rfl⟩
    · have q1 : (v == a1) = false := by simp [e1]
      by_cases e2 : v = a2
      · have q2 : (v == a2) = true := by simp [e2]
        rw [show idx3 v a0 a1 a2 = 2 by unfold idx3; rw [if_neg e0, if_neg e1, if_pos e2]]
        clear e0 e1 e2
        go_enter Try.func62, Try.ntmps62
        repeat' (first | go_skip | go_guarded | go_step | go_upon)
        refine wp_loop_rounds 3 ?_
        rw [rounds_succ]
        repeat' (first | go_skip | go_guarded | go_step | go_upon)
        rw [rounds_succ]
        repeat' (first | go_skip | go_guarded | go_step | go_upon)
        rw [rounds_succ]
        repeat' (first | go_skip | go_guarded | go_step | go_upon)
        go_ret
        exact ⟨rfl, rfl⟩
      · have q2 : (v == a2) = false := by simp [e2]
        rw [show idx3 v a0 a1 a2 = -1 by unfold idx3; rw [if_neg e0, if_neg e1, if_neg e2]]
        clear e0 e1 e2
        go_enter Try.func62, Try.ntmps62
        repeat' (first | go_skip | go_guarded | go_step | go_upon)
        refine wp_loop_rounds 4 ?_
        rw [rounds_succ]
        repeat' (first | go_skip | go_guarded | go_step | go_upon)
        rw [rounds_succ]
        repeat' (first | go_skip | go_guarded | go_step | go_upon)
        rw [rounds_succ]
        repeat' (first | go_skip | go_guarded | go_step | go_upon)
        rw [rounds_succ]
        repeat' (first | go_skip | go_guarded | go_step | go_upon)
        go_ret
        exact ⟨rfl, rfl⟩
theorem contains_calls (v a0 a1 a2 : Int) (b c : Nat) (w : World)
    (c0 : w.cell? ⟨b, 0, none⟩ = some (.int .i64 a0)) (c1 : w.cell? ⟨b, 1, none⟩ = some (.int .i64 a1)) (c2 : w.cell? ⟨b, 2, none⟩ = some (.int .i64 a2)) :
    Calls Try.prog 47 #[.slice (some ⟨b, 0, none⟩) 3 c, .int .i64 v] w fun e w' => e = .returned (.bool (decide (v = a0 ∨ v = a1 ∨ v = a2))) ∧ w = w' := by
  have hi := index_calls v a0 a1 a2 b c w c0 c1 c2
  have hb : decide (0 ≤ idx3 v a0 a1 a2) = decide (v = a0 ∨ v = a1 ∨ v = a2) := by
    unfold idx3
    by_cases e0 : v = a0
    · rw [if_pos e0]; simp [e0]
    · rw [if_neg e0]
      by_cases e1 : v = a1
      · rw [if_pos e1]; simp [e1]
      · rw [if_neg e1]
        by_cases e2 : v = a2
        · rw [if_pos e2]; simp [e2]
        · rw [if_neg e2]; simp [e0, e1, e2]
  have HI := Lib.hid hi
  have HB := Lib.hid hb
  clear c0 c1 c2 hi hb
  go_enter Try.func47, Try.ntmps47
  repeat' (first | go_skip | go_guarded | go_step | go_upon)
  refine (HI.out).mono ?_
  rintro e w' ⟨rfl, rfl⟩
  dsimp only
  repeat' (first | go_skip | go_guarded | go_step | go_upon)
  go_ret
  refine ⟨ret_bool ?_, rfl⟩
  rw [← HB.out]
/-- whether the cell i is pure -/
noncomputable def pureB (l : List SC) (i : Nat) : Bool :=
  decide (((l.getD i default).c = 1 ∨ (l.getD i default).c = -1) ∧ (l.getD i default).k = checkF (l.getD i default).i ∧ (i = placeN l.length (l.getD i default).i 0 ∨ i = placeN l.length (l.getD i default).i 1 ∨ i = placeN l.length (l.getD i default).i 2))
theorem infoP3 : (Try.prog.info? 46).map (·.size) = some 3 := by kernel_rfl
theorem pure_calls (p g i : Nat) (l : List SC) (w : World) (hs : SkAt w p g l) (h3 : 3 ≤ l.length) (hl : l.length ≤ 256) (hi : i < l.length) :
    Calls Try.prog 28 #[.pointer (some ⟨p, 0, none⟩), .int .i64 i] w fun e w' => e = .returned (.bool (pureB l i)) ∧ Fr none_ w w' := by
  obtain ⟨c, h1, h2, hc, hd⟩ := hs
  have hgl := hd.lt
  have hpl := World.block_lt_of_cell? w _ hc
  have a0 := hd.cell (flatC_at0 l i hi)
  have a1 := hd.cell (flatC_at1 l i hi)
  have a2 := hd.cell (flatC_at2 l i hi)
  obtain ⟨s, hs⟩ : ∃ s, l.getD i default = s := ⟨_, rfl⟩
  rw [hs] at a0 a1 a2
  have HS := Lib.hid hs
  have HC := Lib.hid hc
  have cc := fun (W : World) => (check_calls s.i W).mono (R' := fun e w' => e = .returned (.int .u32 (checkF s.i)) ∧ w' = W) fun _ _ h => ⟨h.1, h.2.symm⟩
  have H3 := Lib.hid h3
  have HL := Lib.hid hl
  have hi63 : (i : Int) < l.length := by omega
  have hpure : pureB l i = decide ((s.c = 1 ∨ s.c = -1) ∧ s.k = checkF s.i ∧ ((i : Int) = (placeN l.length s.i 0 : Nat) ∨ (i : Int) = (placeN l.length s.i 1 : Nat) ∨ (i : Int) = (placeN l.length s.i 2 : Nat))) := by
    unfold pureB
    rw [HS.out]
    simp only [Int.natCast_inj]
  have HP := Lib.hid hpure
  obtain ⟨kc, hkc⟩ : ∃ kc, checkF s.i = kc := ⟨_, rfl⟩
  rw [hkc] at cc
  have HKC := Lib.hid hkc
  obtain ⟨sc, hsc⟩ : ∃ x, s.c = x := ⟨_, rfl⟩
  obtain ⟨si, hsi⟩ : ∃ x, s.i = x := ⟨_, rfl⟩
  obtain ⟨sk, hsk⟩ : ∃ x, s.k = x := ⟨_, rfl⟩
  rw [hsc] at a0
  rw [hsi] at a1
  rw [hsk] at a2
  rw [hsi] at cc
  have CC := Lib.hid cc
  have HSC := Lib.hid hsc
  have HSI := Lib.hid hsi
  have HSK := Lib.hid hsk
  clear hs hd cc h1 h2 hkc hpure h3 hsc hsi hsk
  by_cases q1 : sc = 1
  · have HQ := Lib.hid q1
    have e1 : (sc != 1) = false := by simp [q1]
    clear q1
    by_cases k : sk = kc
    · have HK := Lib.hid k
      have ek : (sk != kc) = false := by simp [k]
      clear k
      go_enter Try.func28, Try.ntmps28
      go_upto_region 2 with (fail)
      generalize hW0 : w.alloc (.cells _ _) = W0
      obtain ⟨g5, hg5⟩ : ∃ g5, g5 = w.heap.size := ⟨_, rfl⟩
      have hb5 : Hd W0 g5 63 [.int .i16 sc, .int .u64 si, .int .u32 sk] := by rw [← hW0, hg5]; exact Hd.new w _ _
      have hF0 : Fr none_ w W0 := by rw [← hW0]; exact (Fr.refl _).alloc _
      rw [← hg5]
      clear hW0 hg5 a0 a1 a2 hc
      have b0 := hb5.cell (j := 0) rfl
      have b1 := hb5.cell (j := 1) rfl
      have b2 := hb5.cell (j := 2) rfl
      have HF0 := Lib.hid hF0
      have HB5 := Lib.hid hb5
      clear hF0 hb5
      refine wp_quiet_all mo' (by as_aux_lemma => kernel_rfl) ?_
      repeat (first | go_big_quiet_skip | (go_big_quiet_want; go_big_quiet_op; go_big_quiet_on))
      go_big_quiet_want
      go_big_quiet_op
      refine ⟨_, CC.out _, ?_⟩
      go_big_quiet_on
      repeat (first | go_big_quiet_skip | (go_big_quiet_want; go_big_quiet_op; go_big_quiet_on))
      refine wpQuiet_nil ?_
      repeat' (first | go_skip | go_guarded | go_step | go_upon)
      have hc1 : W0.drew.cell? ⟨p, 0, none⟩ = _ := HF0.out.cell HC.out (fun e => e)
      refine (places_calls si p _ l.length c _ H3.out HL.out hc1).mono ?_
      rintro e w2 ⟨rfl, hF2⟩
      dsimp only
      have hsz := HF0.out.size
      clear hc1 b0 b1 b2
      have HF2 := Lib.hid hF2
      clear hF2
      repeat' (first | go_skip | go_guarded | go_step | go_upon)
      refine (contains_calls _ (placeN l.length si 0 : Nat) (placeN l.length si 1 : Nat) (placeN l.length si 2 : Nat) _ _ _ (by simp) (by simp) (by simp)).mono ?_
      rintro e w3 ⟨rfl, hw3⟩
      subst hw3
      dsimp only
      repeat' (first | go_skip | go_guarded | go_step | go_upon)
      go_ret
      refine ⟨ret_bool ?_, ?_⟩
      · rw [HP.out, HSC.out, HSK.out, HKC.out, HSI.out]
        simp [HQ.out, HK.out]
      · exact ((HF0.out.drew).then HF2.out).alloc _
    · have HK := Lib.hid k
      have ek : (sk != kc) = true := by simp [k]
      clear k
      go_enter Try.func28, Try.ntmps28
      go_upto_region 2 with (fail)
      generalize hW0 : w.alloc (.cells _ _) = W0
      obtain ⟨g5, hg5⟩ : ∃ g5, g5 = w.heap.size := ⟨_, rfl⟩
      have hb5 : Hd W0 g5 63 [.int .i16 sc, .int .u64 si, .int .u32 sk] := by rw [← hW0, hg5]; exact Hd.new w _ _
      have hF0 : Fr none_ w W0 := by rw [← hW0]; exact (Fr.refl _).alloc _
      rw [← hg5]
      clear hW0 hg5 a0 a1 a2 hc
      have b0 := hb5.cell (j := 0) rfl
      have b1 := hb5.cell (j := 1) rfl
      have b2 := hb5.cell (j := 2) rfl
      have HF0 := Lib.hid hF0
      have HB5 := Lib.hid hb5
      clear hF0 hb5
      refine wp_quiet_all mo' (by as_aux_lemma => kernel_rfl) ?_
      repeat (first | go_big_quiet_skip | (go_big_quiet_want; go_big_quiet_op; go_big_quiet_on))
      go_big_quiet_want
      go_big_quiet_op
      refine ⟨_, CC.out _, ?_⟩
      go_big_quiet_on
      repeat (first | go_big_quiet_skip | (go_big_quiet_want; go_big_quiet_op; go_big_quiet_on))
      refine wpQuiet_nil ?_
      repeat' (first | go_skip | go_guarded | go_step | go_upon)
      go_ret
      refine ⟨ret_bool ?_, HF0.out.drew⟩
      rw [HP.out, HSK.out, HKC.out]
      simp [HK.out]
  · have e1 : (sc != 1) = true := by simp [q1]
    by_cases q2 : sc = -1
    · have HQ := Lib.hid q2
      have e2 : (sc != -1) = false := by simp [q2]
      clear q1 q2
      by_cases k : sk = kc
      · have HK := Lib.hid k
        have ek : (sk != kc) = false := by simp [k]
        clear k
        go_enter Try.func28, Try.ntmps28
        go_upto_region 2 with (fail)
        generalize hW0 : w.alloc (.cells _ _) = W0
        obtain ⟨g5, hg5⟩ : ∃ g5, g5 = w.heap.size := ⟨_, rfl⟩
        have hb5 : Hd W0 g5 63 [.int .i16 sc, .int .u64 si, .int .u32 sk] := by rw [← hW0, hg5]; exact Hd.new w _ _
        have hF0 : Fr none_ w W0 := by rw [← hW0]; exact (Fr.refl _).alloc _
        rw [← hg5]
        clear hW0 hg5 a0 a1 a2 hc
        have b0 := hb5.cell (j := 0) rfl
        have b1 := hb5.cell (j := 1) rfl
        have b2 := hb5.cell (j := 2) rfl
        have HF0 := Lib.hid hF0
        have HB5 := Lib.hid hb5
        clear hF0 hb5
        refine wp_quiet_all mo' (by as_aux_lemma => kernel_rfl) ?_
        repeat (first | go_big_quiet_skip | (go_big_quiet_want; go_big_quiet_op; go_big_quiet_on))
        go_big_quiet_want
        go_big_quiet_op
        refine ⟨_, CC.out _, ?_⟩
        go_big_quiet_on
        repeat (first | go_big_quiet_skip | (go_big_quiet_want; go_big_quiet_op; go_big_quiet_on))
        refine wpQuiet_nil ?_
        repeat' (first | go_skip | go_guarded | go_step | go_upon)
        have hc1 : W0.drew.cell? ⟨p, 0, none⟩ = _ := HF0.out.cell HC.out (fun e => e)
        refine (places_calls si p _ l.length c _ H3.out HL.out hc1).mono ?_
        rintro e w2 ⟨rfl, hF2⟩
        dsimp only
        have hsz := HF0.out.size
        clear hc1 b0 b1 b2
        have HF2 := Lib.hid hF2
        clear hF2
        repeat' (first | go_skip | go_guarded | go_step | go_upon)
        refine (contains_calls _ (placeN l.length si 0 : Nat) (placeN l.length si 1 : Nat) (placeN l.length si 2 : Nat) _ _ _ (by simp) (by simp) (by simp)).mono ?_
        rintro e w3 ⟨rfl, hw3⟩
        subst hw3
        dsimp only
        repeat' (first | go_skip | go_guarded | go_step | go_upon)
        go_ret
        refine ⟨ret_bool ?_, ?_⟩
        · rw [HP.out, HSC.out, HSK.out, HKC.out, HSI.out]
          simp [HQ.out, HK.out]
        · exact ((HF0.out.drew).then HF2.out).alloc _
      · have HK := Lib.hid k
        have ek : (sk != kc) = true := by simp [k]
        clear k
        go_enter Try.func28, Try.ntmps28
        go_upto_region 2 with (fail)
        generalize hW0 : w.alloc (.cells _ _) = W0
        obtain ⟨g5, hg5⟩ : ∃ g5, g5 = w.heap.size := ⟨_, rfl⟩
        have hb5 : Hd W0 g5 63 [.int .i16 sc, .int .u64 si, .int .u32 sk] := by rw [← hW0, hg5]; exact Hd.new w _ _
        have hF0 : Fr none_ w W0 := by rw [← hW0]; exact (Fr.refl _).alloc _
        rw [← hg5]
        clear hW0 hg5 a0 a1 a2 hc
        have b0 := hb5.cell (j := 0) rfl
        have b1 := hb5.cell (j := 1) rfl
        have b2 := hb5.cell (j := 2) rfl
        have HF0 := Lib.hid hF0
        have HB5 := Lib.hid hb5
        clear hF0 hb5
        refine wp_quiet_all mo' (by as_aux_lemma => kernel_rfl) ?_
        repeat (first | go_big_quiet_skip | (go_big_quiet_want; go_big_quiet_op; go_big_quiet_on))
        go_big_quiet_want
        go_big_quiet_op
        refine ⟨_, CC.out _, ?_⟩
        go_big_quiet_on
        repeat (first | go_big_quiet_skip | (go_big_quiet_want; go_big_quiet_op; go_big_quiet_on))
        refine wpQuiet_nil ?_
        repeat' (first | go_skip | go_guarded | go_step | go_upon)
        go_ret
        refine ⟨ret_bool ?_, HF0.out.drew⟩
        rw [HP.out, HSK.out, HKC.out]
        simp [HK.out]
    · have HQ := Lib.hid (show ¬ sc = 1 ∧ ¬ sc = -1 from ⟨q1, q2⟩)
      have e2 : (sc != -1) = true := by simp [q2]
      clear q1 q2
      go_enter Try.func28, Try.ntmps28
      go_upto_region 2 with (fail)
      generalize hW0 : w.alloc (.cells _ _) = W0
      obtain ⟨g5, hg5⟩ : ∃ g5, g5 = w.heap.size := ⟨_, rfl⟩
      have hb5 : Hd W0 g5 63 [.int .i16 sc, .int .u64 si, .int .u32 sk] := by rw [← hW0, hg5]; exact Hd.new w _ _
      have hF0 : Fr none_ w W0 := by rw [← hW0]; exact (Fr.refl _).alloc _
      rw [← hg5]
      clear hW0 hg5 a0 a1 a2 hc
      have b0 := hb5.cell (j := 0) rfl
      have b1 := hb5.cell (j := 1) rfl
      have b2 := hb5.cell (j := 2) rfl
      have HF0 := Lib.hid hF0
      have HB5 := Lib.hid hb5
      clear hF0 hb5
      refine wp_quiet_all mo' (by as_aux_lemma => kernel_rfl) ?_
      repeat (first | go_big_quiet_skip | (go_big_quiet_want; go_big_quiet_op; go_big_quiet_on))
      refine wpQuiet_nil ?_
      repeat' (first | go_skip | go_guarded | go_step | go_upon)
      go_ret
      refine ⟨ret_bool ?_, HF0.out.drew⟩
      rw [HP.out, HSC.out]
      simp [HQ.out]
end Go.Proofs.Yteibfhhbdpjpoaa
