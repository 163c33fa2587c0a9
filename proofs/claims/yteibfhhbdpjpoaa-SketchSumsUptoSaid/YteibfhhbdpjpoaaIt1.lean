import Derived.Test.YteibfhhbdpjpoaaItPure
/- sketch.Item. -/
set_option linter.unusedVariables false
set_option linter.unusedSimpArgs false
namespace Go.Proofs.Yteibfhhbdpjpoaa
open Go.RowKit
set_option maxHeartbeats 4000000
section
variable {P : Program} {w : World} {ops : Array Oper} {rest : List Oper} {a : Act} {Q : Exit → Act → World → Prop}
/-- a whole array stored at the head of a block: the operation spelt out, so that another one fails at once -/
theorem L_store_arr (d : Option Tmp) (ty tt : TypeId) (x y : Operand) (ps : String) (af : Array Edge)
    (g : Nat) (hx : a.eval x = .pointer (some ⟨g, 0, none⟩)) (cs : List Value) (hy : a.eval y = .agg cs.toArray) (T : TypeId) (old : List Value) (hg : Hd w g T old) (hlen : old.length = cs.length)
    (hi : (P.info? ty).map (·.size) = some cs.length) (h1 : ∀ u ∈ cs, u.oneCell' = true)
    (h : ∀ w', Hd w' g T cs → Fr (· = g) w w' → wpList P ops Q rest (a.put d undef) w') : wpList P ops Q (⟨d, .store ty x y, tt, ps, af, none⟩ :: rest) a w := by
  refine wpList_store_at rfl ty x y rfl g 0 hx cs hy T [] old [] (by rw [List.append_nil, List.nil_append]; exact hg) rfl hlen hi h1 fun w' hd hf => ?_
  rw [List.append_nil, List.nil_append] at hd
  exact h w' hd hf
end
theorem outFrom_bytey (st : List Int) (i : Nat) : Bytey (outFrom st i) := by
  induction i with
  | zero =>
    intro x hx
    have := (List.mem_replicate.1 hx).2
    omega
  | succ i ih =>
    have st1 : ∀ (l : List Int) (j : Nat) (v : Int), Bytey l → (0 ≤ v ∧ v < 256) → Bytey (l.set j v) := fun l j v hl hv x hx => by
      rcases List.mem_or_eq_of_mem_set hx with h | h
      · exact hl x h
      · rw [h]; exact hv
    unfold outFrom
    exact st1 _ _ _ (st1 _ _ _ (st1 _ _ _ (st1 _ _ _ ih (by omega)) (by omega)) (by omega)) (by omega)
theorem sumC_bytey (p : List Int) : Bytey (sumC p) := outFrom_bytey _ _
theorem Bytey.at_ {l : List Int} (h : Bytey l) (j : Nat) (hj : j < l.length) : 0 ≤ l.getD j default ∧ l.getD j default < 256 := by
  rw [List.getD_eq_getElem?_getD, List.getElem?_eq_getElem hj]
  exact h _ (List.getElem_mem hj)
theorem bytesOf_size (l : List Int) : (bytesOf l).size = l.length := by
  show (l.map _).toArray.size = _
  simp
theorem u8o (x : Int) : (Value.int .u8 x).oneCell' = true := rfl
set_option maxRecDepth 100000 in
theorem item_calls (k s : ByteArray) (w : World) (hk : k.size < 1099511627000) (hs : s.size < 1099511627000) (hks : k.size + s.size < 1099511620000) :
    Calls Try.prog 18 #[.agg #[.string k, .string s]] w fun e w' => e = .returned (.int .u64 (itemC k s)) ∧ Fr none_ w w' := by
  obtain ⟨J, hJ⟩ : ∃ J, itemC k s = J := ⟨_, rfl⟩
  rw [hJ]
  obtain ⟨K, hK⟩ : ∃ K, sumC (sbytes (⟨#[75]⟩ ++ k)) = K := ⟨_, rfl⟩
  obtain ⟨D, hD⟩ : ∃ D, sumC (itemText k s) = D := ⟨_, rfl⟩
  have hKl : K.length = 32 := by rw [← hK]; exact sumC_length _
  have hDl : D.length = 32 := by rw [← hD]; exact sumC_length _
  have hKb : Bytey K := by rw [← hK]; exact sumC_bytey _
  have hDb : Bytey D := by rw [← hD]; exact sumC_bytey _
  have hJ' : itemFrom K D 6 = J := by rw [← hJ, ← hK, ← hD]; rfl
  have hks1 : (⟨#[75]⟩ ++ k : ByteArray).size = k.size + 1 := by rw [ByteArray.size_append]; exact Nat.add_comm _ _
  have kc := fun w => of_calls (⟨#[75]⟩ ++ k) w (by omega)
  rw [hK] at kc
  have hu1 := uvC_length 9 (k.size : Int)
  have hu2 := uvC_length 9 (s.size : Int)
  have hil : (itemText k s).length < 1099511627000 := by
    unfold itemText
    simp only [List.length_append, List.length_cons, List.length_nil, sbytes_length]
    omega
  have hback := bytesOf_back _ (itemText_bytey k s (by omega) (by omega))
  have dc := fun w => of_calls (bytesOf (itemText k s)) w (by rw [bytesOf_size]; omega)
  rw [hback, hD] at dc
  have bc := fun h w hw => byte_calls h [] 73 w (by omega) (by omega) (by simp) hw
  have t1 := fun h w hw => wtext_calls h [73] k w (by simp only [List.length_cons, List.length_nil]; omega) hw
  have t2 := fun h w hw => wtext_calls h ([73] ++ uvC 9 (k.size : Int) ++ sbytes k) s w (by simp only [List.length_append, List.length_cons, List.length_nil, sbytes_length]; omega) hw
  have hit : [73] ++ uvC 9 (k.size : Int) ++ sbytes k ++ uvC 9 (s.size : Int) ++ sbytes s = sbytes (bytesOf (itemText k s)) := by rw [hback]; unfold itemText; simp only [List.append_assoc]
  have tc := fun h w hw => told_calls h (bytesOf (itemText k s)) w hw
  have k0 := hKb.at_ 0 (by omega)
  have k1 := hKb.at_ 1 (by omega)
  have KC := Lib.hid kc
  have DC := Lib.hid dc
  have BC := Lib.hid bc
  have T1 := Lib.hid t1
  have T2 := Lib.hid t2
  have TC := Lib.hid tc
  have HIT := Lib.hid hit
  have HJ := Lib.hid hJ'
  have HKL := Lib.hid hKl
  have HDL := Lib.hid hDl
  have HDB := Lib.hid hDb
  have HK0 := Lib.hid k0
  have HK1 := Lib.hid k1
  have hcat : ¬ (9223372036854775807 < 1 + k.size) := by omega
  obtain ⟨g, hg⟩ : ∃ g, g = w.heap.size := ⟨_, rfl⟩
  clear hJ hD hk hs hks kc hks1 hK hKl hDl dc bc t1 t2 tc hback hil hu1 hu2 hKb hDb hJ' hit k0 k1
  go_enter Try.func18, Try.ntmps18
  go_upto_region 1 with (fail)
  generalize hW0 : w.alloc (.cells _ _) = W0
  have hb0 : Hd W0 g 43 [.string k, .string s] := by rw [← hW0, hg]; exact Hd.new w _ _
  have hF0 : Fr none_ w W0 := by rw [← hW0]; exact (Fr.refl _).alloc _
  clear hW0
  rw [← hg]
  have c0 := hb0.cell (j := 0) rfl
  have HF0 := Lib.hid hF0
  have HB0 := Lib.hid hb0
  have HG := Lib.hid hg
  clear hF0 hb0 hg
  repeat' (first | go_skip | go_guarded | go_step | go_upon)
  clear hcat c0
  refine (KC.out W0).mono ?_
  rintro e w1 ⟨rfl, hF1⟩
  have HB1 := Lib.hid (hF1.keeps HB0.out (fun e => e))
  have HF1 := Lib.hid (HF0.out.then hF1)
  clear hF1 HB0 HF0
  dsimp only
  go_step
  go_step
  go_step
  go_step
  obtain ⟨g3, hg3⟩ : ∃ g3, g3 = w1.heap.size := ⟨_, rfl⟩
  generalize hWa : w1.alloc (.cells _ _) = Wa
  have hda : Hd Wa g3 72 (ints .u8 zeroB32) := by rw [← hWa, hg3]; exact Hd.new _ _ _
  have hFa : Fr none_ w1 Wa := by rw [← hWa]; exact (Fr.refl _).alloc _
  clear hWa
  rw [← hg3]
  refine L_store_arr _ 72 _ _ _ _ _ g3 rfl (ints .u8 K) rfl 72 _ hda ?hl ?hi (ints_one .u8 _) ?_
  case hl => rw [ints_length, ints_length, HKL.out]; rfl
  case hi => rw [ints_length, HKL.out]; exact outInfo
  intro w2 hd3 hF2
  have hgg : g < g3 := by have := HB1.out.lt; omega
  have HB2 := Lib.hid (hF2.keeps (hFa.keeps HB1.out (fun e => e)) (show ¬ (g = g3) by omega))
  have HF2 := Lib.hid ((HF1.out.then hFa).trans hF2 (fun _ _ e => e) (fun k hk e => by have := HF1.out.size; omega))
  have HD3 := Lib.hid hd3
  have HG3 := Lib.hid (show g3 < w2.heap.size from hd3.lt)
  have HGG := Lib.hid hgg
  clear hd3 hF2 hFa hda hg3 HB1 HF1 hgg
  dsimp only [Act.put]
  repeat' (first | go_skip | go_guarded | go_step | go_upon)
  refine (newWriter_calls _).mono ?_
  rintro e w3 ⟨rfl, hw3, hF3⟩
  obtain ⟨h, hh⟩ : ∃ h, h = w2.heap.size := ⟨_, rfl⟩
  rw [← hh] at hw3
  rw [← hh]
  have HB3 := Lib.hid (hF3.keeps HB2.out (fun e => e))
  have HD3' := Lib.hid (hF3.keeps HD3.out (fun e => e))
  have HF3 := Lib.hid (HF2.out.then hF3)
  have HH := Lib.hid (show g3 < h by have := HG3.out; omega)
  clear hF3 HB2 HD3 HF2 hh HG3
  dsimp only
  repeat' (first | go_skip | go_guarded | go_step | go_upon)
  refine (BC.out h _ hw3).mono ?_
  rintro e w4 ⟨rfl, hw4, hF4⟩
  clear hw3
  have hgh : g < h := by have := HH.out; have := HGG.out; omega
  have hb4 := hF4.keeps HB3.out (show ¬ (h ≤ g) by omega)
  have HD4 := Lib.hid (hF4.keeps HD3'.out (show ¬ (h ≤ g3) from Nat.not_le.2 HH.out))
  have hwh : w.heap.size ≤ h := by have := HG.out; omega
  have HF4 := Lib.hid (HF3.out.trans (S'' := none_) hF4 (fun _ _ e => e) (fun k hk e => by omega))
  have HGH := Lib.hid hgh
  have HWH := Lib.hid hwh
  clear hF4 HB3 HD3' HF3 hgh hwh
  dsimp only
  have c0 := hb4.cell (j := 0) rfl
  have HB4 := Lib.hid hb4
  clear hb4
  repeat' (first | go_skip | go_guarded | go_step | go_upon)
  clear c0
  refine (T1.out h _ hw4).mono ?_
  rintro e w5 ⟨rfl, hw5, hF5⟩
  clear hw4
  have hb5 := hF5.keeps HB4.out (Nat.not_le.2 HGH.out)
  have HD5 := Lib.hid (hF5.keeps HD4.out (Nat.not_le.2 HH.out))
  have HF5 := Lib.hid (HF4.out.trans (S'' := none_) hF5 (fun _ _ e => e) (fun k hk e => by have := HWH.out; omega))
  clear hF5 HB4 HD4 HF4
  dsimp only
  have c1 := hb5.cell (j := 1) rfl
  clear hb5
  repeat' (first | go_skip | go_guarded | go_step | go_upon)
  clear c1
  refine (T2.out h _ hw5).mono ?_
  rintro e w6 ⟨rfl, hw6, hF6⟩
  clear hw5
  rw [HIT.out] at hw6
  have HD6 := Lib.hid (hF6.keeps HD5.out (Nat.not_le.2 HH.out))
  have HF6 := Lib.hid (HF5.out.trans (S'' := none_) hF6 (fun _ _ e => e) (fun k hk e => by have := HWH.out; omega))
  clear hF6 HD5 HF5
  dsimp only
  repeat' (first | go_skip | go_guarded | go_step | go_upon)
  refine (TC.out h _ hw6).mono ?_
  rintro e w7 ⟨rfl, hw7⟩
  subst hw7
  clear hw6
  dsimp only
  repeat' (first | go_skip | go_guarded | go_step | go_upon)
  refine (DC.out _).mono ?_
  rintro e w8 ⟨rfl, hF8⟩
  have HD8 := Lib.hid (hF8.keeps HD6.out (fun e => e))
  have HF8 := Lib.hid (HF6.out.then hF8)
  clear hF8 HD6 HF6
  dsimp only
  go_step
  go_step
  go_step
  go_step
  obtain ⟨g5, hg5⟩ : ∃ g5, g5 = w8.heap.size := ⟨_, rfl⟩
  generalize hWa : w8.alloc (.cells _ _) = Wa
  have hda : Hd Wa g5 72 (ints .u8 zeroB32) := by rw [← hWa, hg5]; exact Hd.new _ _ _
  have hFa : Fr none_ w8 Wa := by rw [← hWa]; exact (Fr.refl _).alloc _
  clear hWa
  rw [← hg5]
  refine L_store_arr _ 72 _ _ _ _ _ g5 rfl (ints .u8 D) rfl 72 _ hda ?hl2 ?hi2 (ints_one .u8 _) ?_
  case hl2 => rw [ints_length, ints_length, HDL.out]; rfl
  case hi2 => rw [ints_length, HDL.out]; exact outInfo
  intro w9 hd5 hF9
  have hg35 : g3 < g5 := by have := HD8.out.lt; omega
  have hd3 := hF9.keeps (hFa.keeps HD8.out (fun e => e)) (show ¬ (g3 = g5) by omega)
  have HF9 := Lib.hid ((HF8.out.then hFa).trans hF9 (fun _ _ e => e) (fun k hk e => by have := HF8.out.size; omega))
  clear hF9 hFa hda hg5 HD8 HF8 hg35
  dsimp only [Act.put]
  have c30 := hd3.cell (ints_at .u8 K (j := 0) (by rw [HKL.out]; omega))
  have c31 := hd3.cell (ints_at .u8 K (j := 1) (by rw [HKL.out]; omega))
  clear hd3
  have HD5 := Lib.hid hd5
  clear hd5
  obtain ⟨K0, hK0⟩ : ∃ K0, K.getD 0 default = K0 := ⟨_, rfl⟩
  obtain ⟨K1, hK1⟩ : ∃ K1, K.getD 1 default = K1 := ⟨_, rfl⟩
  rw [hK0] at c30
  rw [hK1] at c31
  have b0 := HK0.out
  have b1 := HK1.out
  rw [hK0] at b0
  rw [hK1] at b1
  obtain ⟨b00, b01⟩ := b0
  obtain ⟨b10, b11⟩ := b1
  have EK0 := Lib.hid hK0
  have EK1 := Lib.hid hK1
  clear hK0 hK1 HK0 HK1
  repeat' (first | go_skip | go_guarded | go_step | go_upon)
  have E0 : itemFrom K D 0 = Go.bits .or .u64 (K0 * 16) (K1 / 16) := by
    show Go.bits .or .u64 (K.getD 0 default * 16 % 18446744073709551616) (K.getD 1 default / 16) = _
    rw [EK0.out, EK1.out, Int.emod_eq_of_lt (by omega) (by omega)]
  rw [← E0]
  clear E0 b00 b01 b10 b11 c30 c31 EK0 EK1
  have hds := HD5.out
  go_loop [6, 38] (fun x i => ∃ j : Nat, j ≤ 6 ∧ i = .int .i64 j ∧ x = .int .u64 (itemFrom K D j)) (fun _ i => 6 - (intOf i).toNat)
  case atStart => exact ⟨0, by omega, rfl, rfl⟩
  case round =>
    obtain ⟨j, hj, rfl, rfl⟩ := hrel
    have hDl := HDL.out
    by_cases hlt : j < 6
    · have hc := hds.cell (ints_at .u8 D (j := j) (by omega))
      have hb := HDB.out.at_ j (by omega)
      obtain ⟨d, hd⟩ : ∃ d, D.getD j default = d := ⟨_, rfl⟩
      obtain ⟨x, hx⟩ : ∃ x, itemFrom K D j = x := ⟨_, rfl⟩
      rw [hd] at hc hb
      have HX := Lib.hid (show itemFrom K D (j + 1) = Go.bits .or .u64 (x * 256 % 18446744073709551616) d by rw [← hx, ← hd]; rfl)
      rw [hx]
      obtain ⟨hb0, hb1⟩ := hb
      clear hds hd hx hDl
      repeat' (first | go_skip | go_guarded | go_step | go_upon)
      go_round
      case rel => exact ⟨j + 1, by omega, by go_num, by rw [HX.out, IntKind.wrap_u64]⟩
      case measure => simp [intOf]; omega
    · obtain rfl : j = 6 := by omega
      clear hds
      repeat' (first | go_skip | go_guarded | go_step | go_upon)
      go_ret
      refine ⟨?_, HF9.out⟩
      have hq := HJ.out
      simp [hq]
end Go.Proofs.Yteibfhhbdpjpoaa
