import Derived.Test.YteibfhhbdpjpoaaDg3
/- digest: Start, New, Fill. -/
set_option linter.unusedVariables false
set_option linter.unusedSimpArgs false
namespace Go.Proofs.Yteibfhhbdpjpoaa
open Go.RowKit
set_option maxHeartbeats 4000000
set_option maxRecDepth 100000 in
theorem start_calls (w : World) : Calls Try.prog 74 #[] w fun e w' => e = .returned (.agg #[.int .u32 1779033703, .int .u32 3144134277, .int .u32 1013904242, .int .u32 2773480762, .int .u32 1359893119, .int .u32 2600822924, .int .u32 528734635, .int .u32 1541459225]) ∧ Fr none_ w w' := by
  go_enter Try.func74, Try.ntmps74
  go_wp2
  exact bodyPost_ret (v := .agg #[.int .u32 1779033703, .int .u32 3144134277, .int .u32 1013904242, .int .u32 2773480762, .int .u32 1359893119, .int .u32 2600822924, .int .u32 528734635, .int .u32 1541459225]) (by simp [results, Try.results74, go_sem]) rfl ⟨rfl, (Fr.refl _).alloc _⟩
/-- a new Hash stands at block h -/
def Hashed (w : World) (st rest : List Int) (held : Nat) (n : Int) (e : Ending) (w' : World) : Prop :=
  ∃ h, e = .returned (.pointer (some ⟨h, 0, none⟩)) ∧ w.heap.size ≤ h ∧ Hd w' h 121 (hcells st rest held n) ∧ Fr none_ w w'
set_option maxRecDepth 100000 in
theorem newHash_calls (w : World) : Calls Try.prog 50 #[] w (Hashed w startC zeroB64 0 0) := by
  go_enter Try.func50, Try.ntmps50
  go_wp2_with (go_at_call 74; refine (start_calls _).mono ?_; rintro e w1 ⟨rfl, hF⟩)
  go_ret
  exact ⟨w1.heap.size, rfl, hF.size, Hd.new w1 _ _, hF.alloc _⟩
theorem infoU8 : (Try.prog.info? 5).map (fun i => (i.zero, i.size, i.bytes)) = some (some (.int .u8 0), 1, 1) := by kernel_rfl
/-- a new slice of bytes -/
def Bytes (w : World) (l : List Int) (e : Ending) (w' : World) : Prop :=
  ∃ g, e = .returned (.slice (some ⟨g, 0, none⟩) l.length l.length) ∧ w.heap.size ≤ g ∧ Hd w' g 5 (ints .u8 l) ∧ Fr none_ w w'
theorem fill_calls (n : Nat) (w : World) (hn : n ≤ 1125899906842624) : Calls Try.prog 76 #[.int .u64 (n : Int)] w (Bytes w (fillC n)) := by
  have hl0 : (72 : Int) - ((n : Int) + 8) % 64 = ((longN n : Nat) : Int) := by unfold longN; omega
  have hl1 : 9 ≤ longN n := by unfold longN; omega
  have hl2 : longN n ≤ 72 := by unfold longN; omega
  go_enter Try.func76, Try.ntmps76
  obtain ⟨L, hL⟩ : ∃ L, longN n = L := ⟨_, rfl⟩
  rw [hL] at hl0 hl1 hl2
  have HL := Lib.hid hL
  clear hL
  go_wp2_with (at_make; refine wpList_make_sv rfl _ _ 80 rfl 5 _ 1 1 Try.underlying80 infoU8 _ _ L rfl rfl (by omega) (by omega) ?_)
  intro w1 hown hd hF
  rw [show (madeCells #[.int .u8 0] L).toList = ints .u8 (List.replicate L 0) by rw [toList_madeCells_one]; simp [ints]] at hd
  obtain ⟨g, hg⟩ : ∃ g, g = w.heap.size := ⟨_, rfl⟩
  rw [← hg] at hd
  rw [← hg]
  have c0 := hd.int_at (k := 0) (by simp; omega)
  have f0 := hd.free 0
  have hd1 := hd.int_set (k := 0) (by simp; omega) 128
  have hlt := hd.lt
  have HD1 := Lib.hid hd1
  have HG := Lib.hid hg
  clear hl0 hd hd1 hown hg
  go_wp2_with fail
  go_loopw [15] (fun s wr => ∃ k : Nat, k ≤ 8 ∧ s = .int .i64 k ∧ Hd wr g 5 (ints .u8 (fillFrom n ((List.replicate L 0).set 0 128) k)) ∧ Fr none_ w wr) (fun s _ => 8 - (intOf s).toNat)
  case atStart => exact ⟨0, by omega, rfl, HD1.out, hF.setCell (.inl (by have := HG.out; simp; omega)) _⟩
  case round =>
    obtain ⟨k, hk, rfl, hd, hFr⟩ := hrel
    have hll : (fillFrom n ((List.replicate L 0).set 0 128) k).length = L := by rw [fillFrom_length]; simp
    have hlt := hd.lt
    clear c0 f0 HD1 hF
    by_cases hk8 : k < 8
    · have cc := hd.int_at (k := L - 1 - k) (by omega)
      have ff := hd.free (L - 1 - k)
      have hd1 := hd.int_set (k := L - 1 - k) (by omega) (8 * (n : Int) / 2 ^ (8 * k) % 256)
      have hN : fillFrom n ((List.replicate L 0).set 0 128) (k + 1) = (fillFrom n ((List.replicate L 0).set 0 128) k).set (L - 1 - k) (8 * (n : Int) / 2 ^ (8 * k) % 256) := by rw [fillFrom, HL.out]
      rw [← hN] at hd1
      have HD1 := Lib.hid hd1
      obtain ⟨v, hv⟩ : ∃ v, (fillFrom n ((List.replicate L 0).set 0 128) k).getD (L - 1 - k) default = v := ⟨_, rfl⟩
      rw [hv] at cc
      clear hd hd1 hN hv hll
      go_wp2_with fail
      go_roundw
      case rel => exact ⟨k + 1, by omega, by go_num, HD1.out, hFr.setCell (.inl (by have := HG.out; simp; omega)) _⟩
      case measure => simp [intOf]; omega
    · obtain rfl : k = 8 := by omega
      clear hk
      go_wp2_with fail
      go_ret
      refine ⟨g, ?_, by have := HG.out; omega, ?_, hFr⟩
      · rw [fillC_length, HL.out]; rfl
      · have : fillC n = fillFrom n ((List.replicate L 0).set 0 128) 8 := by rw [fillC, HL.out]
        rw [this]; exact hd
end Go.Proofs.Yteibfhhbdpjpoaa
