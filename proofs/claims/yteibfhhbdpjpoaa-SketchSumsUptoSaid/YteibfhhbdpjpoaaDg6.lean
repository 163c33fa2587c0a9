import Derived.Test.YteibfhhbdpjpoaaDg5
/- digest: Sum, Of. -/
set_option linter.unusedVariables false
set_option linter.unusedSimpArgs false
namespace Go.Proofs.Yteibfhhbdpjpoaa
open Go.RowKit
set_option maxHeartbeats 4000000
theorem hashInfo : (Try.prog.info? 121).map (·.size) = some 74 := by kernel_rfl
theorem hcells_length {st rest : List Int} {held : Nat} {n : Int} (h1 : st.length = 8) (h2 : rest.length = 64) : (hcells st rest held n).length = 74 := by simp [hcells, ints_length, h1, h2]
theorem hcells_one (st rest : List Int) (held : Nat) (n : Int) : ∀ u ∈ hcells st rest held n, u.oneCell' = true := by
  intro u hu
  unfold hcells at hu
  rw [List.mem_append, List.mem_append] at hu
  rcases hu with (hu | hu) | hu
  · exact ints_one _ _ u hu
  · exact ints_one _ _ u hu
  · simp at hu
    rcases hu with rfl | rfl <;> rfl
theorem ix8_0 (s0 s1 s2 s3 s4 s5 s6 s7 : Value) (w : World) : (Instr.index 117 (.agg #[s0, s1, s2, s3, s4, s5, s6, s7]) (.int .i64 0)).run Try.prog w = .ok s0 w := by kernel_rfl
theorem ix8_1 (s0 s1 s2 s3 s4 s5 s6 s7 : Value) (w : World) : (Instr.index 117 (.agg #[s0, s1, s2, s3, s4, s5, s6, s7]) (.int .i64 1)).run Try.prog w = .ok s1 w := by kernel_rfl
theorem ix8_2 (s0 s1 s2 s3 s4 s5 s6 s7 : Value) (w : World) : (Instr.index 117 (.agg #[s0, s1, s2, s3, s4, s5, s6, s7]) (.int .i64 2)).run Try.prog w = .ok s2 w := by kernel_rfl
theorem ix8_3 (s0 s1 s2 s3 s4 s5 s6 s7 : Value) (w : World) : (Instr.index 117 (.agg #[s0, s1, s2, s3, s4, s5, s6, s7]) (.int .i64 3)).run Try.prog w = .ok s3 w := by kernel_rfl
theorem ix8_4 (s0 s1 s2 s3 s4 s5 s6 s7 : Value) (w : World) : (Instr.index 117 (.agg #[s0, s1, s2, s3, s4, s5, s6, s7]) (.int .i64 4)).run Try.prog w = .ok s4 w := by kernel_rfl
theorem ix8_5 (s0 s1 s2 s3 s4 s5 s6 s7 : Value) (w : World) : (Instr.index 117 (.agg #[s0, s1, s2, s3, s4, s5, s6, s7]) (.int .i64 5)).run Try.prog w = .ok s5 w := by kernel_rfl
theorem ix8_6 (s0 s1 s2 s3 s4 s5 s6 s7 : Value) (w : World) : (Instr.index 117 (.agg #[s0, s1, s2, s3, s4, s5, s6, s7]) (.int .i64 6)).run Try.prog w = .ok s6 w := by kernel_rfl
theorem ix8_7 (s0 s1 s2 s3 s4 s5 s6 s7 : Value) (w : World) : (Instr.index 117 (.agg #[s0, s1, s2, s3, s4, s5, s6, s7]) (.int .i64 7)).run Try.prog w = .ok s7 w := by kernel_rfl
theorem ix8_any (st : List Int) (hs : st.length = 8) (k : Nat) (hk : k < 8) (w : World) : (Instr.index 117 (.agg (ints .u32 st).toArray) (.int .i64 (k : Int))).run Try.prog w = .ok (.int .u32 (st.getD k default)) w := by
  obtain ⟨s0, s1, s2, s3, s4, s5, s6, s7, rfl⟩ := list8 hs
  match k, hk with
  | 0, _ => exact ix8_0 ..
  | 1, _ => exact ix8_1 ..
  | 2, _ => exact ix8_2 ..
  | 3, _ => exact ix8_3 ..
  | 4, _ => exact ix8_4 ..
  | 5, _ => exact ix8_5 ..
  | 6, _ => exact ix8_6 ..
  | 7, _ => exact ix8_7 ..
theorem wroteF_lengths (st rest : List Int) (held : Nat) (p : List Int) (h1 : st.length = 8) (h2 : rest.length = 64) (hh : held < 64) :
    (wroteF st rest held p).1.length = 8 ∧ (wroteF st rest held p).2.1.length = 64 ∧ (wroteF st rest held p).2.2 < 64 := by
  unfold wroteF
  exact wrote_lengths stepF stepF_length p.length st rest held p h1 h2 hh
theorem outInfo : (Try.prog.info? 72).map (·.size) = some 32 := by kernel_rfl
def zeroB32 : List Int := List.replicate 32 0
set_option maxRecDepth 100000 in
theorem sum_calls (h : Nat) (st rest : List Int) (held n : Nat) (w : World) (h1 : st.length = 8) (h2 : rest.length = 64) (hh : held < 64) (hn : n ≤ 1125899906842624)
    (hd : Hd w h 121 (hcells st rest held (n : Int))) :
    Calls Try.prog 52 #[.pointer (some ⟨h, 0, none⟩)] w fun e w' => e = .returned (.agg (ints .u8 (outFrom (wroteF st rest held (fillC n)).1 8)).toArray) ∧ Fr none_ w w' := by
  have hlt := hd.lt
  obtain ⟨g, hg⟩ : ∃ g, g = w.heap.size := ⟨_, rfl⟩
  have hlens := wroteF_lengths st rest held (fillC n) h1 h2 hh
  obtain ⟨q, hq⟩ : ∃ q, wroteF st rest held (fillC n) = q := ⟨_, rfl⟩
  have hql : q.1.length = 8 ∧ q.2.1.length = 64 ∧ q.2.2 < 64 := by rw [← hq]; exact hlens
  rw [hq]
  have HQ := Lib.hid hq
  clear hq hlens
  have HGS := Lib.hid hg
  go_enter Try.func52, Try.ntmps52
  go_upto_region 4 with (fail)
  rw [← hg]
  generalize hW0 : (w.alloc (.cells _ _)).alloc (.cells _ _) = W0
  have hdo : Hd W0 g 72 (ints .u8 zeroB32) := by rw [← hW0, hg]; exact (Hd.new w _ _).alloc _
  have hdp : Hd W0 (g + 1) 72 (ints .u8 zeroB32) := by rw [← hW0, hg]; exact Hd.new' (w.alloc _) _ _ (by simp)
  have hdh : Hd W0 h 121 (hcells st rest held (n : Int)) := by rw [← hW0]; exact (hd.alloc _).alloc _
  have hF0 : Fr none_ w W0 := by rw [← hW0]; exact ((Fr.refl _).alloc _).alloc _
  have hsz : W0.heap.size = g + 2 := by rw [← hW0, hg]; simp
  have hhg : h < g := by omega
  clear hW0 hd hlt hg
  have hi0 : (Try.prog.info? 121).map (·.size) = some (hcells st rest held (n : Int)).length := by rw [hcells_length h1 h2]; exact hashInfo
  have hl0 : (hcells zeros8 zeroB64 0 0).length = (hcells st rest held (n : Int)).length := by rw [hcells_length h1 h2]; rfl
  have hz : Hd (W0.alloc (.cells (hcells zeros8 zeroB64 0 0).toArray 121)) (g + 2) 121 ([] ++ hcells zeros8 zeroB64 0 0 ++ []) := by rw [List.append_nil, List.nil_append]; exact Hd.new' W0 _ _ hsz.symm
  have hcs := hdh.cells0
  have HSZ := Lib.hid hsz
  go_upto_region 5 with (first | (refine wpList_load_at rfl 121 (.tmp 11) rfl h 0 rfl (hcells st rest held (n : Int)).toArray _ hcs Try.underlying121 rfl hi0 ?_) | (refine wpList_store_at rfl 121 (.tmp 4) (.tmp 12) rfl (g + 2) 0 rfl (hcells st rest held (n : Int)) rfl 121 [] (hcells zeros8 zeroB64 0 0) [] hz rfl hl0 hi0 (hcells_one _ _ _ _) ?_; intro w1 hd1 hF1; clear hz))
  dsimp only [Act.put]
  rw [List.append_nil, List.nil_append] at hd1
  have hdo1 := hF1.keeps (hdo.alloc (.cells (hcells zeros8 zeroB64 0 0).toArray 121)) (show ¬ (g = g + 2) by omega)
  have hdp1 := hF1.keeps (hdp.alloc (.cells (hcells zeros8 zeroB64 0 0).toArray 121)) (show ¬ (g + 1 = g + 2) by omega)
  have hdh1 := hF1.keeps (hdh.alloc (.cells (hcells zeros8 zeroB64 0 0).toArray 121)) (show ¬ (h = g + 2) by omega)
  have hF1' : Fr none_ w w1 := (hF0.alloc (.cells (hcells zeros8 zeroB64 0 0).toArray 121)).trans hF1 (fun _ _ e => e) (fun k hk e => by have := HGS.out; omega)
  have cn := hc_n hdh1 h1 h2
  have hg2 := hd1.lt
  clear hi0 hl0 hcs hsz hdo hdp hdh hF0 hF1 hdh1
  go_wp2_with fail
  refine (fill_calls n w1 hn).mono ?_
  rintro e w2 ⟨b, rfl, hb, hdb, hF2⟩
  have hd2 := hF2.keeps hd1 (fun e => e)
  have hdo2 := hF2.keeps hdo1 (fun e => e)
  have hdp2 := hF2.keeps hdp1 (fun e => e)
  have hF2' : Fr none_ w w2 := hF1'.then hF2
  have hfl : (fillC n).length ≤ 72 := by rw [fillC_length]; unfold longN; omega
  have hT : Todo w2 b 0 (fillC n).length (fillC n).length (fillC n) := ⟨rfl, Nat.le_refl _, by omega, fun j hj => by rw [Nat.zero_add]; exact hdb.int_at hj⟩
  clear cn hd1 hdo1 hdp1 hF1' hF2 hdb
  go_wp2_with fail
  refine (write_any (g + 2) b 0 _ (fillC n).length st rest (fillC n) held n w2 rfl h1 h2 hh (by omega) (by omega) hd2 hT (by omega)).mono ?_
  rintro e w3 ⟨rfl, hd3, hF3⟩
  rw [HQ.out] at hd3
  have hdo3 := hF3.keeps hdo2 (show ¬ (g = g + 2) by omega)
  have hdp3 := hF3.keeps hdp2 (show ¬ (g + 1 = g + 2) by omega)
  have hF3' : Fr none_ w w3 := hF2'.trans hF3 (fun _ _ e => e) (fun k hk e => by have := HGS.out; omega)
  have hq8 : (Try.prog.info? 117).map (·.size) = some (ints .u32 q.1).length := by rw [ints_length, hql.1]; exact stateInfo
  have hst3 := (hc_state.1 hd3).cellsAt (pre := []) rfl
  obtain ⟨hq1, hq2, hq3⟩ := hql
  have HQ1 := Lib.hid hq1
  clear hd2 hdo2 hdp2 hF2' hT hF3 hq1 hq2 hq3 hfl hg2
  go_wp2_with (refine wpList_load_at rfl 117 (.tmp 19) rfl (g + 2) 0 rfl (ints .u32 q.1).toArray _ hst3 Try.underlying117 rfl hq8 ?_)
  have hix := ix8_any q.1 HQ1.out
  clear hst3 hq8 hd3
  go_loopw [21] (fun s wr => ∃ k : Nat, k ≤ 8 ∧ s = .int .i64 k ∧ Hd wr (g + 1) 72 (ints .u8 (outFrom q.1 k)) ∧ Hd wr g 72 (ints .u8 zeroB32) ∧ Fr none_ w wr) (fun s _ => 8 - (intOf s).toNat)
  case atStart => exact ⟨0, by omega, rfl, hdp3, hdo3, hF3'⟩
  case round =>
    obtain ⟨k, hk, rfl, hdp, hdo, hF⟩ := hrel
    clear hdp3 hdo3 hF3' h1 h2 hh hn HQ HSZ HQ1
    have hol := outFrom_length q.1 k
    have hlt := hdp.lt
    by_cases hk8 : k < 8
    · have hx := hix k hk8
      obtain ⟨x, hxe⟩ : ∃ x, q.1.getD k default = x := ⟨_, rfl⟩
      rw [hxe] at hx
      have c0 := hdp.int_at (k := 4 * k) (by omega)
      have c1 := hdp.int_at (k := 4 * k + 1) (by omega)
      have c2 := hdp.int_at (k := 4 * k + 2) (by omega)
      have c3 := hdp.int_at (k := 4 * k + 3) (by omega)
      obtain ⟨v0, e0⟩ : ∃ v, (outFrom q.1 k).getD (4 * k) default = v := ⟨_, rfl⟩
      obtain ⟨v1, e1⟩ : ∃ v, (outFrom q.1 k).getD (4 * k + 1) default = v := ⟨_, rfl⟩
      obtain ⟨v2, e2⟩ : ∃ v, (outFrom q.1 k).getD (4 * k + 2) default = v := ⟨_, rfl⟩
      obtain ⟨v3, e3⟩ : ∃ v, (outFrom q.1 k).getD (4 * k + 3) default = v := ⟨_, rfl⟩
      rw [e0] at c0
      rw [e1] at c1
      rw [e2] at c2
      rw [e3] at c3
      have f0 := hdp.free (4 * k)
      have f1 := hdp.free (4 * k + 1)
      have f2 := hdp.free (4 * k + 2)
      have f3 := hdp.free (4 * k + 3)
      have hset := (((hdp.int_set (k := 4 * k) (by omega) (x / 16777216 % 256)).int_set (k := 4 * k + 1) (by simp only [List.length_set]; omega) (x / 65536 % 256)).int_set (k := 4 * k + 2) (by simp only [List.length_set]; omega) (x / 256 % 256)).int_set (k := 4 * k + 3) (by simp only [List.length_set]; omega) (x % 256)
      have hN : outFrom q.1 (k + 1) = ((((outFrom q.1 k).set (4 * k) (x / 16777216 % 256)).set (4 * k + 1) (x / 65536 % 256)).set (4 * k + 2) (x / 256 % 256)).set (4 * k + 3) (x % 256) := by rw [outFrom, hxe]
      rw [← hN] at hset
      have HSET := Lib.hid hset
      have HDO := Lib.hid hdo
      clear e0 e1 e2 e3 hset hN hdp hdo hix hxe hol
      go_wp2_with fail
      go_roundw
      case rel =>
        refine ⟨k + 1, by omega, by go_num, HSET.out, (((HDO.out.setCell_other (by simp) _).setCell_other (by simp) _).setCell_other (by simp) _).setCell_other (by simp) _, ?_⟩
        have := HGS.out
        exact (((hF.setCell (.inl (by simp; omega)) _).setCell (.inl (by simp; omega)) _).setCell (.inl (by simp; omega)) _).setCell (.inl (by simp; omega)) _
      case measure => simp [intOf]; omega
    · obtain rfl : k = 8 := by omega
      obtain ⟨R, hR⟩ : ∃ R, outFrom q.1 8 = R := ⟨_, rfl⟩
      rw [hR] at hdp hol
      have HR := Lib.hid hR
      have hi1 : (Try.prog.info? 72).map (·.size) = some (ints .u8 R).length := by rw [ints_length, hol]; exact outInfo
      have hl1 : (ints .u8 zeroB32).length = (ints .u8 R).length := by rw [ints_length, ints_length, hol]; rfl
      have hz1 : Hd wr g 72 ([] ++ ints .u8 zeroB32 ++ []) := by rw [List.append_nil, List.nil_append]; exact hdo
      have hcz := hdp.cells0
      have hol' : R.length = 32 := hol
      clear hix hol hk hk8 hR hdo hdp
      go_upto_region 14 with (fail)
      have HF := Lib.hid hF
      clear hF
      go_upto_region 15 with (first | (refine wpList_load_at rfl 72 (.tmp 3) rfl (g + 1) 0 rfl (ints .u8 R).toArray _ hcz Try.underlying72 rfl hi1 ?_) | (refine wpList_store_at rfl 72 (.tmp 2) (.tmp 52) rfl g 0 rfl (ints .u8 R) rfl 72 [] (ints .u8 zeroB32) [] hz1 rfl hl1 hi1 (ints_one .u8 _) ?_; intro w6 hd6 hF6; clear hz1))
      rw [List.append_nil, List.nil_append] at hd6
      have HO := HR.out
      clear hcz hi1 hl1
      dsimp only [Act.put]
      refine bodyPost_ret (v := .agg (ints .u8 R).toArray) (results_at rfl _ _ g 0 _ _ rfl hd6.cells0 Try.underlying72 rfl (by rw [List.size_toArray, ints_length, hol']; exact outInfo)) rfl ⟨by rw [HO], HF.out.trans hF6 (fun _ _ e => e) (fun k hk e => by have := HGS.out; omega)⟩
end Go.Proofs.Yteibfhhbdpjpoaa
