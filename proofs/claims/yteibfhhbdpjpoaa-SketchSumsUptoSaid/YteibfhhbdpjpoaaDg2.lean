import Derived.Test.YteibfhhbdpjpoaaDg1
/- digest: step, one block. -/
set_option linter.unusedVariables false
set_option linter.unusedSimpArgs false
namespace Go.Proofs.Yteibfhhbdpjpoaa
open Go.RowKit
set_option maxHeartbeats 4000000
theorem Rds.int_at {w : World} {B : Nat} {b off : Nat} {kd : IntKind} {l : List Int} (h : Rds w B (some ⟨b, off, none⟩) (ints kd l)) {k : Nat} (hk : k < l.length) :
    w.cell? ⟨b, off + k, none⟩ = some (.int kd (l.getD k default)) := by
  obtain ⟨_, _, he, _, c0⟩ := h.int hk
  injection he with he
  injection he with he1 he2
  subst he1
  subst he2
  exact c0
theorem Hd.int_at {w : World} {g : Nat} {T : TypeId} {kd : IntKind} {l : List Int} (h : Hd w g T (ints kd l)) {k : Nat} (hk : k < l.length) : w.cell? ⟨g, k, none⟩ = some (.int kd (l.getD k default)) := h.cell (ints_at kd l hk)
theorem ints_set (kd : IntKind) (l : List Int) (k : Nat) (x : Int) : (ints kd l).set k (.int kd x) = ints kd (l.set k x) := by simp [ints, List.map_set]
theorem Hd.int_set {w : World} {g : Nat} {T : TypeId} {kd : IntKind} {l : List Int} (h : Hd w g T (ints kd l)) {k : Nat} (hk : k < l.length) (x : Int) : Hd (w.setCell ⟨g, k, none⟩ (.int kd x)) g T (ints kd (l.set k x)) := by
  rw [← ints_set]
  exact h.setCell (by rw [ints_length]; exact hk) _
def zeros8 : List Int := List.replicate 8 0
/-- what stands through all loops of step: the state that came in, the result's block, the rest of memory -/
def StepEnv (w : World) (b : Nat) (S : List Int) (wr : World) : Prop :=
  Hd wr b 117 (ints .u32 S) ∧ Hd wr (b + 1) 117 (ints .u32 zeros8) ∧ Fr none_ w wr
theorem StepEnv.set {w wr : World} {b : Nat} {S : List Int} (h : StepEnv w b S wr) (hb : b = w.heap.size) {a : Addr} (ha : b + 2 ≤ a.block) (v : Value) : StepEnv w b S (wr.setCell a v) :=
  ⟨h.1.setCell_other (by omega) v, h.2.1.setCell_other (by omega) v, h.2.2.setCell (.inl (by omega)) v⟩
theorem StepEnv.fr {w wr w' : World} {b : Nat} {S : List Int} {T : Nat → Prop} (h : StepEnv w b S wr) (hb : b = w.heap.size) (hf : Fr T wr w') (hT : ∀ k, T k → b + 2 ≤ k) : StepEnv w b S w' :=
  ⟨hf.keeps h.1 (fun e => by have := hT _ e; omega), hf.keeps h.2.1 (fun e => by have := hT _ e; omega), h.2.2.trans hf (fun _ _ e => e) (fun k hk e => by have := hT _ e; omega)⟩
theorem StepEnv.drew {w wr : World} {b : Nat} {S : List Int} (h : StepEnv w b S wr) : StepEnv w b S wr.drew := ⟨h.1, h.2.1, h.2.2.drew⟩
theorem list8 {S : List Int} (h : S.length = 8) : ∃ s0 s1 s2 s3 s4 s5 s6 s7, S = [s0, s1, s2, s3, s4, s5, s6, s7] := by
  match S, h with
  | [s0, s1, s2, s3, s4, s5, s6, s7], _ => exact ⟨s0, s1, s2, s3, s4, s5, s6, s7, rfl⟩
theorem sizeU32 : (Try.prog.info? 61).map (·.size) = some 1 := by kernel_rfl
theorem stateInfo : (Try.prog.info? 117).map (·.size) = some 8 := by kernel_rfl
set_option maxRecDepth 100000 in
theorem step_calls (S B : List Int) (bb bo L : Nat) (w : World) (hS : S.length = 8) (hB : B.length = 64) (hb : Rds w L (some ⟨bb, bo, none⟩) (ints .u8 B)) (hL : L ≤ w.heap.size) :
    Calls Try.prog 86 #[.agg (ints .u32 S).toArray, .pointer (some ⟨bb, bo, none⟩)] w fun e w' => e = .returned (.agg (ints .u32 (stepC rotF cubesF S B)).toArray) ∧ Fr none_ w w' := by
  obtain ⟨WB, hWB⟩ : ∃ WB, WB = loadW B 16 := ⟨_, rfl⟩
  obtain ⟨RES, hRES⟩ : ∃ R, R = stepC rotF cubesF S B := ⟨_, rfl⟩
  rw [← hRES]
  have hfin : RES = addS S (turns rotF cubesF WB S 64).2 8 := by rw [hRES, hWB]; rfl
  have hWl : WB.length = 16 := by rw [hWB, loadW_length]
  have HFIN := Lib.hid hfin
  have HWB := Lib.hid hWB
  have HWL := Lib.hid hWl
  have HSL := Lib.hid hS
  clear hfin hWB hWl hRES hS
  obtain ⟨b, hbs⟩ : ∃ b, b = w.heap.size := ⟨_, rfl⟩
  have HBS := Lib.hid hbs
  go_enter Try.func86, Try.ntmps86
  go_upto_region 2 with (fail)
  rw [← hbs]
  go_wp2_with fail
  go_loopw [16] (fun i wr => ∃ k : Nat, k ≤ 16 ∧ i = .int .i64 k ∧ Hd wr (b + 1 + 1) 139 (ints .u32 (loadW B k)) ∧ StepEnv w b S wr) (fun i _ => 16 - (intOf i).toNat)
  case atStart =>
    subst hbs
    exact ⟨0, by omega, rfl, Hd.new' ((w.alloc _).alloc _) _ _ (by simp), ((Hd.new w _ _).alloc _).alloc _, (Hd.new' (w.alloc _) _ _ (by simp)).alloc _, (((Fr.refl _).alloc _).alloc _).alloc _⟩
  case round =>
    obtain ⟨k, hk, rfl, hHW, hE⟩ := hrel
    clear hbs
    by_cases hk16 : k < 16
    · have hbr := hb.fr hE.2.2 (fun _ _ e => e)
      obtain ⟨WK, eWK⟩ : ∃ x, loadW B k = x := ⟨_, rfl⟩
      have hWK : WK.length = 16 := by rw [← eWK, loadW_length]
      obtain ⟨x0, e0⟩ : ∃ x, B.getD (4 * k) default = x := ⟨_, rfl⟩
      obtain ⟨x1, e1⟩ : ∃ x, B.getD (4 * k + 1) default = x := ⟨_, rfl⟩
      obtain ⟨x2, e2⟩ : ∃ x, B.getD (4 * k + 2) default = x := ⟨_, rfl⟩
      obtain ⟨x3, e3⟩ : ∃ x, B.getD (4 * k + 3) default = x := ⟨_, rfl⟩
      have c0 := hbr.int_at (k := 4 * k) (by omega)
      have c1 := hbr.int_at (k := 4 * k + 1) (by omega)
      have c2 := hbr.int_at (k := 4 * k + 2) (by omega)
      have c3 := hbr.int_at (k := 4 * k + 3) (by omega)
      rw [eWK] at hHW
      have cw := hHW.int_at (k := k) (by omega)
      have fz := hHW.free k
      have hNext : loadW B (k + 1) = WK.set k (wordC x0 x1 x2 x3) := by rw [loadW, eWK, e0, e1, e2, e3]
      have hSet := hHW.int_set (k := k) (by omega) (wordC x0 x1 x2 x3)
      rw [← hNext] at hSet
      rw [e0] at c0
      rw [e1] at c1
      rw [e2] at c2
      rw [e3] at c3
      have HSET := Lib.hid hSet
      have HE := Lib.hid hE
      clear e0 e1 e2 e3 hbr hb hSet hNext hE hHW hWK eWK
      go_wp2_with fail
      refine wp_quiet_tail 39 mo' (by as_aux_lemma => kernel_rfl) ?_
      simp only [List.take_succ_cons, List.take_zero, List.drop_succ_cons, List.drop_zero]
      repeat (first | go_big_quiet_skip | (go_big_quiet_want; go_big_quiet_op; go_big_quiet_on))
      refine wpQuiet_nil ?_
      go_wp2_with fail
      go_roundw
      case rel => exact ⟨k + 1, by omega, by go_num, HSET.out.drew, (HE.out.set HBS.out (by simp) _).drew⟩
      case measure => simp [intOf]; omega
    · obtain rfl : k = 16 := by omega
      rw [← HWB.out] at hHW
      clear hb hk hk16
      go_wp2_with fail
      refine (cubes_calls _).mono ?_
      rintro e w2 ⟨rfl, hF2⟩
      have hHW2 := hF2.keeps hHW (fun e => e)
      have hE2 := hE.fr HBS.out hF2 (fun _ e => e.elim)
      clear hHW hE
      have hinfo : (Try.prog.info? 140).map (·.size) = some (ints .u32 cubesF).length := by rw [ints_length, cubesF_length]; exact cubesInfo
      have hl : zeros64.length = (ints .u32 cubesF).length := by rw [ints_length, cubesF_length]; rfl
      have hz : Hd (w2.alloc (.cells zeros64.toArray 140)) w2.heap.size 140 ([] ++ zeros64 ++ []) := Hd.new w2 _ _
      go_upto_region 8 with (refine wpList_store_at rfl 140 (.tmp 7) (.tmp 59) rfl w2.heap.size 0 rfl (ints .u32 cubesF) rfl 140 [] zeros64 [] hz rfl hl hinfo (ints_one .u32 cubesF) ?_; intro w3 hd3 hF3; clear hz)
      rw [List.append_nil, List.nil_append] at hd3
      have hsz2 : b + 3 ≤ w2.heap.size := by have := hHW2.lt; omega
      have hHW3 := hF3.keeps (hHW2.alloc (.cells zeros64.toArray 140)) (show b + 1 + 1 ≠ w2.heap.size by omega)
      have hE3 := (hE2.fr HBS.out ((Fr.refl (S := none_) w2).alloc (.cells zeros64.toArray 140)) (fun _ e => e.elim)).fr HBS.out hF3 (fun k e => by omega)
      have hg7 : w2.heap.size < w3.heap.size := hd3.lt
      obtain ⟨g7, hg7'⟩ : ∃ g, g = w2.heap.size := ⟨_, rfl⟩
      rw [← hg7'] at hd3 hg7 hsz2
      clear hHW2 hE2 hF3 hl hinfo
      have hi8 : (Try.prog.info? 117).map (·.size) = some (ints .u32 S).length := by rw [ints_length, HSL.out]; exact stateInfo
      have hz8 : Hd (w3.alloc (.cells (ints .u32 zeros8).toArray 117)) w3.heap.size 117 ([] ++ ints .u32 zeros8 ++ []) := by rw [List.append_nil, List.nil_append]; exact Hd.new w3 _ _
      have hl8 : (ints .u32 zeros8).length = (ints .u32 S).length := by rw [ints_length, ints_length, HSL.out]; rfl
      rw [← hg7']
      go_upto_region 9 with (first | (refine wpList_load_at rfl 117 (.tmp 2) rfl b 0 rfl (ints .u32 S).toArray _ hE3.1.cells0 Try.underlying117 rfl hi8 ?_) | (refine wpList_store_at rfl 117 (.tmp 8) (.tmp 60) rfl w3.heap.size 0 rfl (ints .u32 S) rfl 117 [] (ints .u32 zeros8) [] hz8 rfl hl8 hi8 (ints_one .u32 S) ?_; intro w4 hd4 hF4; clear hz8))
      dsimp only [Act.put]
      rw [List.append_nil, List.nil_append] at hd4
      have hHW4 := hF4.keeps (hHW3.alloc (.cells (ints .u32 zeros8).toArray 117)) (show b + 1 + 1 ≠ w3.heap.size by omega)
      have hE4 := (hE3.fr HBS.out ((Fr.refl (S := none_) w3).alloc (.cells (ints .u32 zeros8).toArray 117)) (fun _ e => e.elim)).fr HBS.out hF4 (fun k e => by omega)
      have hK4 := hF4.keeps (hd3.alloc (.cells (ints .u32 zeros8).toArray 117)) (show g7 ≠ w3.heap.size by omega)
      obtain ⟨g8, hg8⟩ : ∃ g, g = w3.heap.size := ⟨_, rfl⟩
      rw [← hg8] at hd4
      have hg78 : g7 < g8 := by omega
      rw [← hg8]
      have HE4 := Lib.hid (show StepEnv w b S w4 from hE4)
      rw [← hg7']
      clear hF4 hi8 hl8 hHW3 hE3 hd3 hg7 hF2 hg7' hE4
      go_wp2_with fail
      go_loopw [61] (fun i wr => ∃ k : Nat, k ≤ 64 ∧ i = .int .i64 k ∧ Hd wr (b + 1 + 1) 139 (ints .u32 (turns rotF cubesF WB S k).1) ∧ Hd wr g8 117 (ints .u32 (turns rotF cubesF WB S k).2) ∧ Hd wr g7 140 (ints .u32 cubesF) ∧ StepEnv w b S wr) (fun i _ => 64 - (intOf i).toNat)
      case atStart => exact ⟨0, by omega, rfl, hHW4, hd4, hK4, HE4.out⟩
      case round =>
        obtain ⟨k, hk, rfl, hW, hs, hK, hE⟩ := hrel
        clear hHW4 hd4 hK4 HE4 hg8
        by_cases hk64 : k < 64
        · have hWk := turns_w_length rotF cubesF WB S HWL.out k
          obtain ⟨s0, s1, s2, s3, s4, s5, s6, s7, hse⟩ := list8 (turns_s_length rotF cubesF WB S HSL.out k)
          obtain ⟨W, hWe⟩ : ∃ W, (turns rotF cubesF WB S k).1 = W := ⟨_, rfl⟩
          have hNW : (turns rotF cubesF WB S (k + 1)).1 = turnW rotF k W := by rw [turns, hWe]
          have hNS : (turns rotF cubesF WB S (k + 1)).2 = turnS rotF (cubesF.getD k default) ((turnW rotF k W).getD (k % 16) default) [s0, s1, s2, s3, s4, s5, s6, s7] := by rw [turns, hWe, hse]
          rw [hWe] at hW hWk
          rw [hse] at hs
          obtain ⟨ck, hck⟩ : ∃ c, cubesF.getD k default = c := ⟨_, rfl⟩
          rw [hck] at hNS
          have cK := hK.int_at (k := k) (by rw [cubesF_length]; exact hk64)
          rw [hck] at cK
          have HNW := Lib.hid hNW
          have HNS := Lib.hid hNS
          have HWe := Lib.hid hWe
          have HE := Lib.hid hE
          clear hNW hNS hWe hse hck hE
          go_wp2_with fail
          refine wp_quiet_all mo' (by as_aux_lemma => kernel_rfl) ?_
          repeat (first | go_big_quiet_skip | (go_big_quiet_want; go_big_quiet_op; go_big_quiet_on))
          refine wpQuiet_nil ?_
          go_upto_if 68 with (fail)
          go_cut [9] (fun s9 wx => s9 = .int .i64 k ∧ Hd wx (b + 1 + 1) 139 (ints .u32 (turnW rotF k W)) ∧ Hd wx g8 117 (ints .u32 [s0, s1, s2, s3, s4, s5, s6, s7]) ∧ Hd wx g7 140 (ints .u32 cubesF) ∧ StepEnv w b S wx)
          case first =>
            clear HNS cK
            by_cases hk16 : 16 ≤ k
            · have w0 := hW.int_at (k := k % 16) (by omega)
              have w1 := hW.int_at (k := (k + 1) % 16) (by omega)
              have w2' := hW.int_at (k := (k + 14) % 16) (by omega)
              have w3' := hW.int_at (k := (k + 9) % 16) (by omega)
              obtain ⟨v0, e0⟩ : ∃ x, W.getD (k % 16) default = x := ⟨_, rfl⟩
              obtain ⟨v1, e1⟩ : ∃ x, W.getD ((k + 1) % 16) default = x := ⟨_, rfl⟩
              obtain ⟨v2, e2⟩ : ∃ x, W.getD ((k + 14) % 16) default = x := ⟨_, rfl⟩
              obtain ⟨v3, e3⟩ : ∃ x, W.getD ((k + 9) % 16) default = x := ⟨_, rfl⟩
              have hTW : turnW rotF k W = (W.set (k % 16) ((v0 + sig rotF v1 25 14 8) % 4294967296)).set (k % 16) ((v0 + sig rotF v1 25 14 8 + (v3 + sig rotF v2 15 13 1024)) % 4294967296) := by
                rw [turnW, if_pos hk16, nextW, e0, e1, e2, e3, List.set_set]
              have hSet := (hW.int_set (k := k % 16) (by omega) ((v0 + sig rotF v1 25 14 8) % 4294967296)).int_set (k := k % 16) (by rw [List.length_set]; omega) ((v0 + sig rotF v1 25 14 8 + (v3 + sig rotF v2 15 13 1024)) % 4294967296)
              rw [← hTW] at hSet
              have HSET := Lib.hid hSet
              have fz := hW.free (k % 16)
              rw [e0] at w0
              rw [e1] at w1
              rw [e2] at w2'
              rw [e3] at w3'
              clear e0 e1 e2 e3 hTW hSet
              go_wp2_with fail
              refine wp_quiet_all mo' (by as_aux_lemma => kernel_rfl) ?_
              repeat (first | go_big_quiet_skip | (go_big_quiet_want; go_big_quiet_op; go_big_quiet_on))
              refine wpQuiet_nil ?_
              go_wp2_with fail
              refine wp_quiet_tail 14 mo' (by as_aux_lemma => kernel_rfl) ?_
              simp only [List.take_succ_cons, List.take_zero, List.drop_succ_cons, List.drop_zero]
              repeat (first | go_big_quiet_skip | (go_big_quiet_want; go_big_quiet_op; go_big_quiet_on))
              go_big_quiet_want
              go_big_quiet_op
              refine ⟨_, rot7 _ _, ?_⟩
              go_big_quiet_on
              repeat (first | go_big_quiet_skip | (go_big_quiet_want; go_big_quiet_op; go_big_quiet_on))
              go_big_quiet_want
              go_big_quiet_op
              refine ⟨_, rot18 _ _, ?_⟩
              go_big_quiet_on
              repeat (first | go_big_quiet_skip | (go_big_quiet_want; go_big_quiet_op; go_big_quiet_on))
              refine wpQuiet_nil ?_
              go_wp2_with fail
              refine wp_quiet_tail 20 mo' (by as_aux_lemma => kernel_rfl) ?_
              simp only [List.take_succ_cons, List.take_zero, List.drop_succ_cons, List.drop_zero]
              repeat (first | go_big_quiet_skip | (go_big_quiet_want; go_big_quiet_op; go_big_quiet_on))
              go_big_quiet_want
              go_big_quiet_op
              refine ⟨_, rot17 _ _, ?_⟩
              go_big_quiet_on
              repeat (first | go_big_quiet_skip | (go_big_quiet_want; go_big_quiet_op; go_big_quiet_on))
              go_big_quiet_want
              go_big_quiet_op
              refine ⟨_, rot19 _ _, ?_⟩
              go_big_quiet_on
              repeat (first | go_big_quiet_skip | (go_big_quiet_want; go_big_quiet_op; go_big_quiet_on))
              refine wpQuiet_nil ?_
              go_wp2_with fail
              go_meet
              case rel => exact ⟨rfl, HSET.out, (hs.setCell_other (by simp; omega) _).setCell_other (by simp; omega) _, (hK.setCell_other (by simp; omega) _).setCell_other (by simp; omega) _, (((((HE.out.set HBS.out (by simp) _).set HBS.out (by simp) _).drew).drew).drew).drew⟩
            · have hTW : turnW rotF k W = W := by rw [turnW, if_neg hk16]
              rw [← hTW] at hW
              go_wp2_with fail
              go_meet
              case rel => exact ⟨rfl, hW, hs, hK, HE.out.drew⟩
          case rest =>
            obtain ⟨rfl, hW2, hs2, hK2, hE2⟩ := hcut
            have hWl2 : (turnW rotF k W).length = 16 := by rw [turnW_length, hWk]
            clear hW hs hK HE HWe hWk
            obtain ⟨V, hV⟩ : ∃ V, turnW rotF k W = V := ⟨_, rfl⟩
            rw [hV] at hW2 hWl2
            have cv := hW2.int_at (k := k % 16) (by omega)
            obtain ⟨v, hv⟩ : ∃ v, V.getD (k % 16) default = v := ⟨_, rfl⟩
            rw [hv] at cv
            have HV := Lib.hid hV
            have HVV := Lib.hid hv
            have HE2 := Lib.hid hE2
            have c0 := hs2.cell (j := 0) rfl
            have c1 := hs2.cell (j := 1) rfl
            have c2 := hs2.cell (j := 2) rfl
            have c3 := hs2.cell (j := 3) rfl
            have c4 := hs2.cell (j := 4) rfl
            have c5 := hs2.cell (j := 5) rfl
            have c6 := hs2.cell (j := 6) rfl
            have c7 := hs2.cell (j := 7) rfl
            have hg8 := hs2.lt
            have HW2 := Lib.hid hW2
            have HK2 := Lib.hid hK2
            clear hV hv hE2 hW2 hK2 cK
            go_wp2_with fail
            refine wp_quiet_all mo' (by as_aux_lemma => kernel_rfl) ?_
            repeat (first | go_big_quiet_skip | (go_big_quiet_want; go_big_quiet_op; go_big_quiet_on))
            refine wpQuiet_nil ?_
            go_wp2_with fail
            refine wp_quiet_all mo' (by as_aux_lemma => kernel_rfl) ?_
            repeat (first | go_big_quiet_skip | (go_big_quiet_want; go_big_quiet_op; go_big_quiet_on))
            go_big_quiet_want
            go_big_quiet_op
            refine ⟨_, rot6 _ _, ?_⟩
            go_big_quiet_on
            repeat (first | go_big_quiet_skip | (go_big_quiet_want; go_big_quiet_op; go_big_quiet_on))
            go_big_quiet_want
            go_big_quiet_op
            refine ⟨_, rot11 _ _, ?_⟩
            go_big_quiet_on
            repeat (first | go_big_quiet_skip | (go_big_quiet_want; go_big_quiet_op; go_big_quiet_on))
            go_big_quiet_want
            go_big_quiet_op
            refine ⟨_, rot25 _ _, ?_⟩
            go_big_quiet_on
            repeat (first | go_big_quiet_skip | (go_big_quiet_want; go_big_quiet_op; go_big_quiet_on))
            refine wpQuiet_nil ?_
            go_wp2_with fail
            refine wp_quiet_all mo' (by as_aux_lemma => kernel_rfl) ?_
            repeat (first | go_big_quiet_skip | (go_big_quiet_want; go_big_quiet_op; go_big_quiet_on))
            go_big_quiet_want
            go_big_quiet_op
            refine ⟨_, rot2 _ _, ?_⟩
            go_big_quiet_on
            repeat (first | go_big_quiet_skip | (go_big_quiet_want; go_big_quiet_op; go_big_quiet_on))
            go_big_quiet_want
            go_big_quiet_op
            refine ⟨_, rot13 _ _, ?_⟩
            go_big_quiet_on
            repeat (first | go_big_quiet_skip | (go_big_quiet_want; go_big_quiet_op; go_big_quiet_on))
            go_big_quiet_want
            go_big_quiet_op
            refine ⟨_, rot22 _ _, ?_⟩
            go_big_quiet_on
            repeat (first | go_big_quiet_skip | (go_big_quiet_want; go_big_quiet_op; go_big_quiet_on))
            refine wpQuiet_nil ?_
            obtain ⟨t, ht⟩ : ∃ t, turnT rotF ck v s4 s5 s6 s7 = t := ⟨_, rfl⟩
            obtain ⟨u, hu⟩ : ∃ u, turnU rotF s0 s1 s2 = u := ⟨_, rfl⟩
            have HT := Lib.hid ht
            have HU := Lib.hid hu
            simp only [turnT, turnU, sig3] at ht hu
            rw [ht, hu]
            clear ht hu
            go_wp2_with fail
            refine wp_quiet_tail 2 mo' (by as_aux_lemma => kernel_rfl) ?_
            simp only [List.take_succ_cons, List.take_zero, List.drop_succ_cons, List.drop_zero]
            repeat (first | go_big_quiet_skip | (go_big_quiet_want; go_big_quiet_op; go_big_quiet_on))
            refine wpQuiet_nil ?_
            go_wp2_with (refine wpList_copy_mid rfl (.tmp 177) (.tmp 178) 144 144 rfl 61 Try.underlying144 sizeU32 g8 1 7 7 (some ⟨g8, 0, none⟩) 7 8 (ints .u32 [s0, s1, s2, s3, s4, s5, s6]) rfl rfl rfl (fun _ => ⟨g8, 0, rfl, Hd.cellsAt (pre := []) (vs := ints .u32 [s0, s1, s2, s3, s4, s5, s6]) (post := ints .u32 [s7]) hs2 rfl⟩) 117 (ints .u32 [s0]) (ints .u32 [s1, s2, s3, s4, s5, s6, s7]) [] hs2 rfl rfl (ints_one .u32 _) ?_; intro w5 hd5 hF5; have d0 := hd5.cell (j := 0) rfl; have d4 := hd5.cell (j := 4) rfl; have f0 := hd5.free 0; have f4 := hd5.free 4; clear c0 c1 c2 c3 c4 c5 c6 c7 cv hs2)
            go_roundw
            case rel =>
              refine ⟨k + 1, by omega, by go_num, ?_, ?_, ?_, ?_⟩
              · rw [HNW.out, HV.out]
                exact ((hF5.keeps HW2.out (show ¬ (b + 1 + 1 = g8) by omega)).setCell_other (by simp; omega) _).setCell_other (by simp; omega) _
              · rw [HNS.out, HV.out, HVV.out, turnS, HT.out, HU.out]
                exact (hd5.setCell (j := 4) (by simp [ints]) _).setCell (j := 0) (by simp [ints]) _
              · exact ((hF5.keeps HK2.out (show ¬ (g7 = g8) by omega)).setCell_other (by simp; omega) _).setCell_other (by simp; omega) _
              · exact ((HE2.out.drew.drew.drew.drew.fr HBS.out hF5 (fun k e => by omega)).set HBS.out (by simp; omega) _).set HBS.out (by simp; omega) _
            case measure => simp [intOf]; omega
        · obtain rfl : k = 64 := by omega
          clear hW hK hk hk64
          obtain ⟨s, hse⟩ : ∃ s, (turns rotF cubesF WB S 64).2 = s := ⟨_, rfl⟩
          have hsl : s.length = 8 := by rw [← hse]; exact turns_s_length rotF cubesF WB S HSL.out 64
          rw [hse] at hs
          have HFIN2 : Hid (RES = addS S s 8) := Lib.hid (by rw [HFIN.out, hse])
          have HSLN := Lib.hid hsl
          have hg8 := hs.lt
          clear hse hsl
          go_wp2_with fail
          go_loopw [190] (fun i wr => ∃ k : Nat, k ≤ 8 ∧ i = .int .i64 k ∧ Hd wr g8 117 (ints .u32 (addS S s k)) ∧ StepEnv w b S wr) (fun i _ => 8 - (intOf i).toNat)
          case atStart => exact ⟨0, by omega, rfl, hs, hE⟩
          case round =>
            obtain ⟨k, hk, rfl, hs, hE⟩ := hrel
            have hal := addS_length S s k
            by_cases hk8 : k < 8
            · obtain ⟨x, hx⟩ : ∃ x, (addS S s k).getD k default = x := ⟨_, rfl⟩
              obtain ⟨y, hy⟩ : ∃ y, S.getD k default = y := ⟨_, rfl⟩
              have cx := hs.int_at (k := k) (by rw [hal, HSLN.out]; exact hk8)
              have cy := hE.1.int_at (k := k) (by rw [HSL.out]; exact hk8)
              have hSet := hs.int_set (k := k) (by rw [hal, HSLN.out]; exact hk8) ((x + y) % 4294967296)
              have hN : addS S s (k + 1) = (addS S s k).set k ((x + y) % 4294967296) := by rw [addS, hx, hy]
              rw [← hN] at hSet
              rw [hx] at cx
              rw [hy] at cy
              have fz := hs.free k
              have HSET := Lib.hid hSet
              have HE := Lib.hid hE
              clear hx hy hSet hN hs hE hal
              go_wp2_with fail
              refine wp_quiet_tail 8 mo' (by as_aux_lemma => kernel_rfl) ?_
              simp only [List.take_succ_cons, List.take_zero, List.drop_succ_cons, List.drop_zero]
              repeat (first | go_big_quiet_skip | (go_big_quiet_want; go_big_quiet_op; go_big_quiet_on))
              refine wpQuiet_nil ?_
              go_wp2_with fail
              go_roundw
              case rel => exact ⟨k + 1, by omega, by go_num, HSET.out.drew, (HE.out.set HBS.out (by simp; omega) _).drew⟩
              case measure => simp [intOf]; omega
            · obtain rfl : k = 8 := by omega
              rw [← HFIN2.out] at hs hal
              have hRl : RES.length = 8 := by rw [hal, HSLN.out]
              have hi8 : (Try.prog.info? 117).map (·.size) = some (ints .u32 RES).length := by rw [ints_length, hRl]; exact stateInfo
              have hl8 : (ints .u32 zeros8).length = (ints .u32 RES).length := by rw [ints_length, ints_length, hRl]; rfl
              have hz8 : Hd wr (b + 1) 117 ([] ++ ints .u32 zeros8 ++ []) := by rw [List.append_nil, List.nil_append]; exact hE.2.1
              clear hal hRl hk hk8
              go_wp2_with (first | (refine wpList_load_at rfl 117 (.tmp 8) rfl g8 0 rfl (ints .u32 RES).toArray _ hs.cells0 Try.underlying117 rfl hi8 ?_) | (refine wpList_store_at rfl 117 (.tmp 4) (.tmp 202) rfl (b + 1) 0 rfl (ints .u32 RES) rfl 117 [] (ints .u32 zeros8) [] hz8 rfl hl8 hi8 (ints_one .u32 RES) ?_; intro w6 hd6 hF6; clear hz8))
              rw [List.append_nil, List.nil_append] at hd6
              refine bodyPost_ret (v := .agg (ints .u32 RES).toArray) (results_at rfl _ _ (b + 1) 0 _ _ rfl hd6.cells0 Try.underlying117 rfl hi8) rfl ⟨rfl, hE.2.2.trans hF6 (fun _ _ e => e) (fun k hk e => by have := HBS.out; omega)⟩
end Go.Proofs.Yteibfhhbdpjpoaa
