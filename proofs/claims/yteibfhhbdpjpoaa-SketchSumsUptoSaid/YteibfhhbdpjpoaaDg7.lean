import Derived.Test.YteibfhhbdpjpoaaDg6
/- digest: Of. -/
set_option linter.unusedVariables false
set_option linter.unusedSimpArgs false
namespace Go.Proofs.Yteibfhhbdpjpoaa
open Go.RowKit
set_option maxHeartbeats 4000000
/-- the digest of some bytes -/
noncomputable def sumC (p : List Int) : List Int := outFrom (wroteF (wroteF startC zeroB64 0 p).1 (wroteF startC zeroB64 0 p).2.1 (wroteF startC zeroB64 0 p).2.2 (fillC p.length)).1 8
theorem sumC_length (p : List Int) : (sumC p).length = 32 := outFrom_length _ _
theorem of_calls (s : ByteArray) (w : World) (hs : s.size ≤ 1125899906842624) :
    Calls Try.prog 31 #[.string s] w fun e w' => e = .returned (.agg (ints .u8 (sumC (sbytes s))).toArray) ∧ Fr none_ w w' := by
  have hsz : (sbytes s).length = s.size := sbytes_length s
  obtain ⟨R, hR⟩ : ∃ R, sumC (sbytes s) = R := ⟨_, rfl⟩
  have hRl : R.length = 32 := by rw [← hR]; exact sumC_length _
  rw [hR]
  have h1 : startC.length = 8 := rfl
  have h2 : zeroB64.length = 64 := rfl
  have hlens := wroteF_lengths startC zeroB64 0 (sbytes s) h1 h2 (by omega)
  have hR' : outFrom (wroteF (wroteF startC zeroB64 0 (sbytes s)).1 (wroteF startC zeroB64 0 (sbytes s)).2.1 (wroteF startC zeroB64 0 (sbytes s)).2.2 (fillC s.size)).1 8 = R := by rw [← hR, ← hsz]; rfl
  clear hR
  have hn1 : (0 : Int) + s.size ≤ 4611686018427387904 := by omega
  obtain ⟨q, hq⟩ : ∃ q, wroteF startC zeroB64 0 (sbytes s) = q := ⟨_, rfl⟩
  rw [hq] at hR' hlens
  have tc := fun h w hd => text_calls h startC zeroB64 0 0 s w h1 h2 (by omega) (by omega) hn1 hd
  have sc := fun h w hd => sum_calls h q.1 q.2.1 q.2.2 s.size w hlens.1 hlens.2.1 hlens.2.2 hs hd
  rw [hq] at tc
  rw [hR'] at sc
  have TC := Lib.hid tc
  have SCC := Lib.hid sc
  clear tc sc hn1 hs hsz h1 h2 hlens hR' hq
  go_enter Try.func31, Try.ntmps31
  go_wp2_with fail
  obtain ⟨g, hg⟩ : ∃ g, g = w.heap.size := ⟨_, rfl⟩
  rw [← hg]
  generalize hW0 : w.alloc (.cells _ _) = W0
  have hdo : Hd W0 g 72 (ints .u8 zeroB32) := by rw [← hW0, hg]; exact Hd.new w _ _
  have hF0 : Fr none_ w W0 := by rw [← hW0]; exact (Fr.refl _).alloc _
  have hsz : g < W0.heap.size := hdo.lt
  clear hW0
  refine (newHash_calls W0).mono ?_
  rintro e w1 ⟨h, rfl, hh, hd, hF1⟩
  have hdo1 := hF1.keeps hdo (fun e => e)
  go_wp2_with fail
  refine (TC.out h w1 hd).mono ?_
  rintro e w2 ⟨rfl, hd2, hF2⟩
  have hdo2 := hF2.keeps hdo1 (show ¬ (g = h) by omega)
  have hF2' : Fr none_ w w2 := (hF0.then hF1).trans hF2 (fun _ _ e => e) (fun k hk e => by have := hF0.size; omega)
  go_wp2_with fail
  refine (SCC.out h w2 (by rw [Int.zero_add] at hd2; exact hd2)).mono ?_
  rintro e w3 ⟨rfl, hF3⟩
  have hdo3 := hF3.keeps hdo2 (fun e => e)
  have hz1 : Hd w3 g 72 ([] ++ ints .u8 zeroB32 ++ []) := by rw [List.append_nil, List.nil_append]; exact hdo3
  have hi1 : (Try.prog.info? 72).map (·.size) = some (ints .u8 R).length := by rw [ints_length, hRl]; exact outInfo
  have hl1 : (ints .u8 zeroB32).length = (ints .u8 R).length := by rw [ints_length, ints_length, hRl]; rfl
  have hF3' := Lib.hid (hF2'.then hF3)
  have HG := Lib.hid hg
  clear hdo hdo1 hdo2 hdo3 hF0 hF1 hF2 hF3 hF2' hd hd2 TC SCC hsz hh hg
  rw [← HG.out]
  go_upto_region 9 with (refine wpList_store_at rfl 72 (.tmp 2) (.tmp 9) rfl g 0 rfl (ints .u8 R) rfl 72 [] (ints .u8 zeroB32) [] hz1 rfl hl1 hi1 (ints_one .u8 _) ?_; intro w6 hd6 hF6; clear hz1)
  rw [List.append_nil, List.nil_append] at hd6
  dsimp only [Act.put]
  refine bodyPost_ret (v := .agg (ints .u8 R).toArray) (results_at rfl _ _ g 0 _ _ rfl hd6.cells0 Try.underlying72 rfl (by rw [List.size_toArray, ints_length, hRl]; exact outInfo)) rfl ⟨rfl, hF3'.out.trans hF6 (fun _ _ e => e) (fun k hk e => by have := HG.out; omega)⟩
end Go.Proofs.Yteibfhhbdpjpoaa
