import Derived.Test.YteibfhhbdpjpoaaSm3
/- sketch: Minus. -/
set_option linter.unusedVariables false
set_option linter.unusedSimpArgs false
namespace Go.Proofs.Yteibfhhbdpjpoaa
open Go.RowKit
set_option maxHeartbeats 4000000
noncomputable def minK (l m : List SC) : Nat → List SC
  | 0 => l
  | k + 1 => (minK l m k).set k (subC (l.getD k default) (m.getD k default))
theorem minK_length (l m : List SC) (k : Nat) : (minK l m k).length = l.length := by
  induction k with
  | zero => rfl
  | succ k ih => unfold minK; rw [List.length_set, ih]
theorem minK_get (l m : List SC) (k j : Nat) (hj : j < l.length) : (minK l m k).getD j default = if j < k then subC (l.getD j default) (m.getD j default) else l.getD j default := by
  induction k with
  | zero => rfl
  | succ k ih =>
    unfold minK
    have hl := minK_length l m k
    by_cases e : k = j
    · subst e
      rw [if_pos (Nat.lt_succ_self _), List.getD_eq_getElem?_getD, List.getElem?_set_self (by omega)]
      rfl
    · rw [List.getD_eq_getElem?_getD, List.getElem?_set_ne e, ← List.getD_eq_getElem?_getD, ih]
      by_cases h : j < k
      · rw [if_pos h, if_pos (by omega)]
      · rw [if_neg h, if_neg (by omega)]
theorem minK_all (l m : List SC) (h : l.length = m.length) : minK l m l.length = subL l m := by
  refine getD_ext (by rw [minK_length, subL_length _ _ h]) fun j hj => ?_
  rw [minK_length] at hj
  rw [minK_get _ _ _ _ hj, if_pos hj]
  unfold subL
  rw [List.getD_eq_getElem?_getD (l := List.zipWith subC l m), List.getElem?_zipWith, List.getElem?_eq_getElem hj, List.getElem?_eq_getElem (show j < m.length by omega)]
  simp [List.getD_eq_getElem?_getD, List.getElem?_eq_getElem hj, List.getElem?_eq_getElem (show j < m.length by omega)]
theorem Fr.set3 (W : World) (g i j k : Nat) (a b c : Value) : Fr (· = g) W (((W.setCell ⟨g, i, none⟩ a).setCell ⟨g, j, none⟩ b).setCell ⟨g, k, none⟩ c).drew.drew.drew :=
  ((((((Fr.refl (S := (· = g)) W).setCell (p := ⟨g, i, none⟩) (.inr rfl) a).setCell (p := ⟨g, j, none⟩) (.inr rfl) b).setCell (p := ⟨g, k, none⟩) (.inr rfl) c).drew).drew).drew
structure MinEnv (w : World) (p g c : Nat) (l : List SC) (wr : World) : Prop where
  hp : w.heap.size ≤ p
  hg : w.heap.size ≤ g
  hpg : p ≠ g
  hcl : l.length ≤ c
  hcm : c ≤ maxLen
  hc : wr.cell? ⟨p, 0, none⟩ = some (.slice (some ⟨g, 0, none⟩) l.length c)
  hd : Hd wr g 63 (flatC l)
  fr : Fr none_ w wr
def MinRel (w : World) (p g c n : Nat) (l m : List SC) (s38 : Value) (wr : World) : Prop :=
  ∃ k : Nat, k ≤ n ∧ s38 = .int .i64 k ∧ MinEnv w p g c (minK l m k) wr
set_option maxRecDepth 100000 in
theorem minus_calls (p0 g0 p1 g1 : Nat) (l m : List SC) (w : World) (hs0 : SkAt w p0 g0 l) (hs1 : SkAt w p1 g1 m) (hlm : l.length = m.length) (h3 : 3 ≤ l.length) (hl : l.length ≤ 256) :
    Calls Try.prog 16 #[.pointer (some ⟨p0, 0, none⟩), .pointer (some ⟨p1, 0, none⟩)] w (Made w (subL l m)) := by
  obtain ⟨c0, h01, h02, hc0, hd0⟩ := hs0
  obtain ⟨c1, h11, h12, hc1, hd1⟩ := hs1
  have hsv : SV w w.heap.size 3 (some ⟨g0, 0, none⟩) l.length c0 (flatC l) := ⟨flatC_length l, h01, h02, (fun h => by cases h), .of_hd hd0 hd0.lt⟩
  have cl := clone_calls _ _ _ _ l w.drew (hsv.fr (Fr.refl (S := none_) w).drew (fun _ _ e => e)) (by omega)
  have hall := minK_all l m hlm
  obtain ⟨n, hn⟩ : ∃ n, l.length = n := ⟨_, rfl⟩
  have hmn : m.length = n := by omega
  rw [hmn] at hc1
  rw [hn] at hc0 cl hall h3 hl
  have CLD := Lib.hid (show Calls Try.prog 27 #[.slice (some ⟨g0, 0, none⟩) n c0] w.drew (Cloned w.drew 63 3 n (flatC l)) from cl)
  have HC1 := Lib.hid hc1
  have HD1 := Lib.hid hd1
  have HALL := Lib.hid hall
  have HN := Lib.hid hn
  have HM := Lib.hid hmn
  have hneq : ((n : Int) != (n : Int)) = false := by simp
  clear h01 h02 h11 h12 hd0 hd1 hsv cl hall hn hmn hlm
  go_enter Try.func16, Try.ntmps16
  repeat' (first | go_skip | go_guarded | ((fail_if_success (first | at_builtin | at_make)); go_step) | go_upon)
  refine wp_quiet_all mo' (by as_aux_lemma => kernel_rfl) ?_
  repeat (first | go_big_quiet_skip | (go_big_quiet_want; go_big_quiet_op; go_big_quiet_on))
  refine wpQuiet_nil ?_
  repeat' (first | go_skip | go_guarded | ((fail_if_success (first | at_builtin | at_make)); go_step) | go_upon)
  have hcw : w.drew.cell? ⟨p1, 0, none⟩ = some (.slice (some ⟨g1, 0, none⟩) n c1) := HC1.out
  have hcl : Calls Try.prog 27 #[.slice (some ⟨g0, 0, none⟩) n c0] w.drew (Cloned w.drew 63 3 n (flatC l)) := CLD.out
  refine (hcl).mono ?_
  rintro e w1 ⟨A, c, rfl, hown, hF⟩
  have hAc : ∃ g, A = some ⟨g, 0, none⟩ := by
    rcases hown.2 with ⟨hv, hn⟩ | ⟨g, cap, cur, hv, _⟩
    · omega
    · injection hv with e1 e2 e3
      exact ⟨g, e1⟩
  obtain ⟨g, rfl⟩ := hAc
  obtain ⟨hg0, hd1⟩ := own_hd hown
  have hsv1 := SV.of_own hown
  clear hcl hcw
  dsimp only
  go_upto_region 6 with (fail)
  generalize hW2 : w1.alloc (.cells _ _) = W2
  obtain ⟨p, hp⟩ : ∃ p, p = w1.heap.size := ⟨_, rfl⟩
  have hpc : Hd W2 p 67 [.slice (some ⟨g, 0, none⟩) n c] := by rw [← hW2, hp]; exact Hd.new w1 _ _
  have hF2 : Fr none_ w1 W2 := by rw [← hW2]; exact (Fr.refl _).alloc _
  have hFw : Fr none_ w w1 := (Fr.refl w).drew.then hF
  have hE : MinEnv w p g c l W2 := by
    have := hFw.size
    have := hd1.lt
    refine ⟨by omega, hg0, by omega, by rw [HN.out]; exact hsv1.le, hsv1.cap, by rw [HN.out]; exact hpc.cell (j := 0) rfl, hF2.keeps hd1 (fun e => e), hFw.then hF2⟩
  have S0 : MinRel w p g c n l m (.int .i64 0) W2 := ⟨0, Nat.zero_le _, rfl, hE⟩
  have hc1' := hE.fr.cell HC1.out (fun e => e)
  rw [← hp]
  have HS0 := Lib.hid S0
  have HPW := Lib.hid hE.hp
  have HGW := Lib.hid hE.hg
  clear hW2 hpc hF2 hE hown hF hd1 hg0 hp hsv1 S0 hFw
  repeat' (first | go_skip | go_guarded | ((fail_if_success (first | at_builtin | at_make)); go_step) | go_upon)
  go_loopw [38] (fun s38 wr => MinRel w p g c n l m s38 wr) (fun s38 _ => n - (intOf s38).toNat)
  case atStart => exact HS0.out
  case round =>
    obtain ⟨k, hk, rfl, henv⟩ := hrel
    have hlk : (minK l m k).length = n := by rw [minK_length]; exact HN.out
    by_cases hkn : k < n
    · have hln := HN.out
      have hmn := HM.out
      have b0 := (henv.fr.keeps HD1.out (fun e => e)).cell (flatC_at0 m k (by omega))
      have b1 := (henv.fr.keeps HD1.out (fun e => e)).cell (flatC_at1 m k (by omega))
      have b2 := (henv.fr.keeps HD1.out (fun e => e)).cell (flatC_at2 m k (by omega))
      have a0 := henv.hd.cell (flatC_at0 _ k (by omega))
      have a1 := henv.hd.cell (flatC_at1 _ k (by omega))
      have a2 := henv.hd.cell (flatC_at2 _ k (by omega))
      rw [minK_get _ _ _ _ (by omega), if_neg (Nat.lt_irrefl k)] at a0 a1 a2
      have hnext : minK l m (k + 1) = (minK l m k).set k (subC (l.getD k default) (m.getD k default)) := rfl
      have hcp := henv.hc
      rw [hlk] at hcp
      have fz := henv.hd.free
      have hgl := henv.hd.lt
      have hpl := World.block_lt_of_cell? _ _ hcp
      have hkl : k < (minK l m k).length := by omega
      obtain ⟨x, hx⟩ : ∃ x, l.getD k default = x := ⟨_, rfl⟩
      obtain ⟨y, hy⟩ : ∃ y, m.getD k default = y := ⟨_, rfl⟩
      rw [hx] at a0 a1 a2 hnext
      rw [hy] at b0 b1 b2 hnext
      obtain ⟨x0, x1, x2⟩ := x
      obtain ⟨y0, y1, y2⟩ := y
      simp only at a0 a1 a2 b0 b1 b2
      have hst : ∀ W : World, Hd W g 63 (flatC (minK l m k)) → Hd (((W.setCell ⟨g, k * 3, none⟩ (.int .i16 (IntKind.i16.wrap (x0 - y0)))).setCell ⟨g, k * 3 + 1, none⟩ (.int .u64 (Go.bits .xor .u64 x1 y1))).setCell ⟨g, k * 3 + 2, none⟩ (.int .u32 (Go.bits .xor .u32 x2 y2))) g 63 (flatC (minK l m (k + 1))) := fun W hW => by
        rw [hnext]
        exact hW.store3 hkl
      have hml : (minK l m (k + 1)).length = n := by rw [minK_length]; exact HN.out
      have HST := Lib.hid hst
      have HENV := Lib.hid henv
      have HML := Lib.hid hml
      have HLK := Lib.hid hlk
      clear henv hlk hln hmn hnext hx hy hst hml hkl
      repeat' (first | go_skip | go_guarded | ((fail_if_success (first | at_builtin | at_make)); go_step) | go_upon)
      generalize hWb : wr.alloc (.cells _ _) = Wb
      obtain ⟨b8, hb8⟩ : ∃ b8, b8 = wr.heap.size := ⟨_, rfl⟩
      have hd8 : Hd Wb b8 63 [.int .i16 y0, .int .u64 y1, .int .u32 y2] := by rw [← hWb, hb8]; exact Hd.new wr _ _
      have hFb : Fr none_ wr Wb := by rw [← hWb]; exact (Fr.refl _).alloc _
      have d0 := hd8.cell (j := 0) rfl
      have d1 := hd8.cell (j := 1) rfl
      have d2 := hd8.cell (j := 2) rfl
      have e0 := hFb.cell a0 (fun e => e)
      have e1 := hFb.cell a1 (fun e => e)
      have e2 := hFb.cell a2 (fun e => e)
      have ep := hFb.cell hcp (fun e => e)
      have hgn : b8 ≠ g := by have := hgl; omega
      have hpg := HENV.out.hpg
      have fzb := (hFb.keeps HENV.out.hd (fun e => e)).free
      have HDB := Lib.hid (hFb.keeps HENV.out.hd (fun e => e))
      have HFB := Lib.hid hFb
      have hgl' : g < Wb.heap.size := HDB.out.lt
      rw [← hb8]
      have HF3 := Lib.hid (Fr.set3 Wb g (k * 3) (k * 3 + 1) (k * 3 + 2) (.int .i16 (IntKind.i16.wrap (x0 - y0))) (.int .u64 (Go.bits .xor .u64 x1 y1)) (.int .u32 (Go.bits .xor .u32 x2 y2)))
      clear a0 a1 a2 b0 b1 b2 hcp fz hpl hgl hWb hb8 hd8 hFb
      refine wp_quiet_tail 13 mo' (by as_aux_lemma => kernel_rfl) ?_
      simp only [List.take_succ_cons, List.take_zero, List.drop_succ_cons, List.drop_zero]
      repeat (first | go_big_quiet_skip | (go_big_quiet_want; go_big_quiet_op; go_big_quiet_on))
      refine wpQuiet_nil ?_
      repeat' (first | go_skip | go_guarded | ((fail_if_success (first | at_builtin | at_make)); go_step) | go_upon)
      refine wp_quiet_tail 13 mo' (by as_aux_lemma => kernel_rfl) ?_
      simp only [List.take_succ_cons, List.take_zero, List.drop_succ_cons, List.drop_zero]
      repeat (first | go_big_quiet_skip | (go_big_quiet_want; go_big_quiet_op; go_big_quiet_on))
      refine wpQuiet_nil ?_
      repeat' (first | go_skip | go_guarded | ((fail_if_success (first | at_builtin | at_make)); go_step) | go_upon)
      refine wp_quiet_tail 13 mo' (by as_aux_lemma => kernel_rfl) ?_
      simp only [List.take_succ_cons, List.take_zero, List.drop_succ_cons, List.drop_zero]
      repeat (first | go_big_quiet_skip | (go_big_quiet_want; go_big_quiet_op; go_big_quiet_on))
      refine wpQuiet_nil ?_
      repeat' (first | go_skip | go_guarded | ((fail_if_success (first | at_builtin | at_make)); go_step) | go_upon)
      go_roundw
      case rel =>
        refine ⟨k + 1, by omega, by go_num, HENV.out.hp, HENV.out.hg, hpg, ?_, HENV.out.hcm, ?_, ((HST.out _ HDB.out).drew).drew.drew, ?_⟩
        · rw [HML.out, ← HLK.out]; exact HENV.out.hcl
        · rw [HML.out]
          exact HF3.out.cell ep hpg
        · exact (HENV.out.fr.then HFB.out).trans HF3.out (fun _ _ e => e) (fun j hj e => by have := HENV.out.hg; omega)
      case measure => simp [intOf]; omega
    · obtain rfl : k = n := by omega
      rw [HALL.out] at henv hlk
      have HENV := Lib.hid henv
      have HLK := Lib.hid hlk
      clear henv hlk
      repeat' (first | go_skip | go_guarded | ((fail_if_success (first | at_builtin | at_make)); go_step) | go_upon)
      go_ret2
      have henv := HENV.out
      exact ⟨p, g, rfl, henv.hp, henv.hg, ⟨c, henv.hcl, henv.hcm, henv.hc, henv.hd⟩, henv.fr⟩
end Go.Proofs.Yteibfhhbdpjpoaa
