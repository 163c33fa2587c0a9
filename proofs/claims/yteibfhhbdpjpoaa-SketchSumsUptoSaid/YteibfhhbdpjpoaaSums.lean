import Derived.Test.YteibfhhbdpjpoaaSo1
/- concordlaw16: SketchSums: the call returns true and leaves memory that was there as it was. -/
set_option linter.unusedVariables false
set_option linter.unusedSimpArgs false
namespace Go.Proofs.Yteibfhhbdpjpoaa
open Go.RowKit
set_option maxHeartbeats 8000000
theorem infoEn : (Try.prog.info? 43).map (fun i => (i.zero, i.size, i.bytes)) = some (some (.agg #[.string ⟨#[]⟩, .string ⟨#[]⟩]), 2, 32) := by kernel_rfl
/-- the sketch to which what remains is put: behind the first loop, behind the second -/
def DRel (w : World) (pd gd : Nat) (z : List SC) (l m : List En) (s15 : Value) (wr : World) : Prop :=
  ∃ k : Nat, k ≤ m.length ∧ s15 = .int .i64 ((k : Int) - 1) ∧ SkAt wr pd gd (ap z (neg itemE (sur l (m.drop k)))) ∧ Fr (fun j => j = gd) w wr
def ARel (w : World) (pd gd : Nat) (z : List SC) (l m : List En) (s16 : Value) (wr : World) : Prop :=
  ∃ k : Nat, k ≤ l.length ∧ s16 = .int .i64 ((k : Int) - 1) ∧ SkAt wr pd gd (ap z (pos itemE (sur m (l.drop k)))) ∧ Fr (fun j => j = gd) w wr
theorem SkAt.glt {w : World} {p g : Nat} {l : List SC} (h : SkAt w p g l) : g < w.heap.size := by
  obtain ⟨c, _, _, _, hd⟩ := h
  exact hd.lt
theorem SkAt.frS {S : Nat → Prop} {w w' : World} {p g : Nat} {l : List SC} (h : SkAt w p g l) (hf : Fr S w w') (hp : ¬ S p) (hg : ¬ S g) : SkAt w' p g l := by
  obtain ⟨c, h1, h2, hc, hd⟩ := h
  exact ⟨c, h1, h2, hf.cell hc hp, hf.keeps hd hg⟩
theorem fr_app {w w2 : World} {o : Obj} (g : Nat) (hg : g = w.heap.size) (hF : Fr (fun k => Value.ownBlock (.slice (some ⟨g, 0, none⟩) 0 0) = some k) (w.alloc o) w2) : Fr none_ w w2 := by
  refine Fr.trans (S'' := none_) ((Fr.refl (S := none_) w).alloc o) hF (fun _ _ e => e) (fun k hk e => ?_)
  have : g = k := by simpa [Value.ownBlock] using e
  omega
theorem sur_drop (l m : List En) (k : Nat) (h : k < m.length) : sur l (m.drop k) = if l.count m[k] < (m.drop k).count m[k] then m[k] :: sur l (m.drop (k + 1)) else sur l (m.drop (k + 1)) := by
  rw [List.drop_eq_getElem_cons h]
  rfl
set_option maxRecDepth 100000 in
theorem sums_calls (l m : List En) (cells : Int) (n : Nat) (hn : (n : Int) = if cells < 3 ∨ 256 < cells then 30 else cells) (A1 A2 : Option Addr) (c1 c2 B : Nat) (w : World) (hl : l.length ≤ 1048576) (hm : m.length ≤ 1048576)
    (hsl : Short l) (hsm : Short m) (h1 : SV w B 2 A1 l.length c1 (flatE l)) (h2 : SV w B 2 A2 m.length c2 (flatE m)) (hB : B ≤ w.heap.size) :
    Calls Try.prog 4 #[.slice A1 l.length c1, .slice A2 m.length c2, .int .i64 cells] w fun e w' => e = .returned (.bool true) ∧ Fr none_ w w' := by
  have hll := hl
  have hlm := hm
  have hn3 : 3 ≤ n ∧ n ≤ 256 := by
    split at hn <;> omega
  obtain ⟨hn3, hn256⟩ := hn3
  have law : subL (adds itemE (List.replicate n zeroSC) l) (adds itemE (List.replicate n zeroSC) m) = ap (ap (List.replicate n zeroSC) (neg itemE (sur l m))) (pos itemE (sur m l)) := sums_law itemE n hn3 l m
  have LAW := Lib.hid law
  have H1 := Lib.hid h1
  have H2 := Lib.hid h2
  have HSL := Lib.hid hsl
  have HSM := Lib.hid hsm
  have HL := Lib.hid hl
  have HM := Lib.hid hm
  have HB := Lib.hid hB
  have HN := Lib.hid hn
  clear law h1 h2 hsl hsm hl hm hB hn
  go_enter Try.func4, Try.ntmps4
  repeat' (first | go_skip | go_guarded | ((fail_if_success (first | at_builtin | at_make)); go_step) | go_upon)
  refine (works_calls sortOK1 _).mono ?_
  rintro e w1 ⟨rfl, hF1⟩
  have HF1 := Lib.hid hF1
  clear hF1
  dsimp only
  go_upto_region 3 with (fail)
  go_cut [24] (fun s24 wx => s24 = .bool (decide (cells < 3 ∨ 256 < cells)) ∧ wx = w1)
  case first =>
    by_cases q1 : cells < 3
    · skip
      repeat' (first | go_skip | go_guarded | ((fail_if_success (first | at_builtin | at_make)); go_step) | go_upon)
      go_meet
      case rel => exact ⟨by simp [q1], rfl⟩
    · by_cases q2 : 256 < cells
      · skip
        repeat' (first | go_skip | go_guarded | ((fail_if_success (first | at_builtin | at_make)); go_step) | go_upon)
        go_meet
        case rel => exact ⟨by simp [q2], rfl⟩
      · skip
        repeat' (first | go_skip | go_guarded | ((fail_if_success (first | at_builtin | at_make)); go_step) | go_upon)
        go_meet
        case rel => exact ⟨by simp [q1, q2], rfl⟩
  case rest =>
    obtain ⟨hu, hw⟩ := hcut
    subst hw
    subst hu
    generalize wc = w1 at *
    obtain ⟨b, hb⟩ : ∃ b, decide (cells < 3 ∨ 256 < cells) = b := ⟨_, rfl⟩
    rw [hb]
    have HBB := Lib.hid hb
    clear hb
    go_upto_if 24 with (fail)
    go_cut [2] (fun s2 wx => s2 = .int .i64 n ∧ wx = w1)
    case first =>
      cases b with
      | true =>
        have e30 : (n : Int) = 30 := by rw [HN.out, if_pos (of_decide_eq_true HBB.out)]
        have E30 := Lib.hid e30
        clear e30
        repeat' (first | go_skip | go_guarded | ((fail_if_success (first | at_builtin | at_make)); go_step) | go_upon)
        go_meet
        case rel => exact ⟨by rw [E30.out], rfl⟩
      | false =>
        have e30 : (n : Int) = cells := by rw [HN.out, if_neg (of_decide_eq_false HBB.out)]
        have E30 := Lib.hid e30
        clear e30
        repeat' (first | go_skip | go_guarded | ((fail_if_success (first | at_builtin | at_make)); go_step) | go_upon)
        go_meet
        case rel => exact ⟨by rw [E30.out], rfl⟩
    case rest =>
      obtain ⟨hu, hw⟩ := hcut
      subst hw
      subst hu
      generalize wc = w1 at *
      clear HBB
      have hsv1 := H1.out.fr HF1.out (fun _ _ e => e)
      have hsv2 := H2.out.fr HF1.out (fun _ _ e => e)
      have HV1 := Lib.hid hsv1
      have HV2 := Lib.hid hsv2
      clear hsv1 hsv2
      repeat' (first | go_skip | go_guarded | ((fail_if_success (first | at_builtin | at_make)); go_step) | go_upon)
      refine L_append _ _ _ 38 _ _ _ w1.heap.size 43 _ 2 32 Try.underlying38 infoEn rfl (by omega) (.slice (some ⟨w1.heap.size, 0, none⟩) 0 0) 0 [] rfl (World.ownsRow_made w1 #[] 0 (Nat.le_refl _) (by unfold maxLen; omega) rfl) A1 l.length c1 B (flatE l) rfl (HV1.out.fr ((Fr.refl (S := none_) w1).alloc _) (fun _ _ e => e)) (flatE_one l) ?_ ?_ ?_ ?_
      · have := HL.out; unfold maxLen; omega
      · have := HL.out; omega
      · simp
      intro va w2 ho hF2 _
      rw [Nat.zero_add, List.nil_append] at ho
      have hFa : Fr none_ w1 w2 := fr_app _ rfl hF2
      obtain ⟨Aa, ca, rfl, sva⟩ := own_sv ho
      have HFA := Lib.hid hFa
      have HSA := Lib.hid sva
      clear ho hF2 hFa sva
      dsimp only [Act.put]
      repeat' (first | go_skip | go_guarded | ((fail_if_success (first | at_builtin | at_make)); go_step) | go_upon)
      refine (sof_calls l n Aa ca w2.heap.size w2 hn3 hn256 (by have := HL.out; omega) HSL.out HSA.out.rds (Nat.le_refl _)).mono ?_
      rintro e w3 ⟨p1, g1, rfl, hp1, hg1, hs1, hF3⟩
      have HF3 := Lib.hid ((HF1.out.then HFA.out).then hF3)
      have HV3 := Lib.hid (HV2.out.fr (HFA.out.then hF3) (fun _ _ e => e))
      have HK1 := Lib.hid hs1
      clear hp1 hg1 hs1 hF3 HFA HSA HF1 HV1 HV2
      dsimp only
      repeat' (first | go_skip | go_guarded | ((fail_if_success (first | at_builtin | at_make)); go_step) | go_upon)
      refine L_append _ _ _ 38 _ _ _ w3.heap.size 43 _ 2 32 Try.underlying38 infoEn rfl (by omega) (.slice (some ⟨w3.heap.size, 0, none⟩) 0 0) 0 [] rfl (World.ownsRow_made w3 #[] 0 (Nat.le_refl _) (by unfold maxLen; omega) rfl) A2 m.length c2 B (flatE m) rfl (HV3.out.fr ((Fr.refl (S := none_) w3).alloc _) (fun _ _ e => e)) (flatE_one m) ?_ ?_ ?_ ?_
      · have := HM.out; unfold maxLen; omega
      · have := HM.out; omega
      · simp
      intro va w4 ho hF2 _
      rw [Nat.zero_add, List.nil_append] at ho
      have hFa : Fr none_ w3 w4 := fr_app _ rfl hF2
      obtain ⟨Aa, ca, rfl, sva⟩ := own_sv ho
      have HFA := Lib.hid hFa
      have HSA := Lib.hid sva
      clear ho hF2 hFa sva
      dsimp only [Act.put]
      repeat' (first | go_skip | go_guarded | ((fail_if_success (first | at_builtin | at_make)); go_step) | go_upon)
      refine (sof_calls m n Aa ca w4.heap.size w4 hn3 hn256 (by have := HM.out; omega) HSM.out HSA.out.rds (Nat.le_refl _)).mono ?_
      rintro e w5 ⟨p2, g2, rfl, hp2, hg2, hs2, hF5⟩
      have HF5 := Lib.hid ((HF3.out.then HFA.out).then hF5)
      have HK1' := Lib.hid ((HK1.out.fr HFA.out).fr hF5)
      have HK2 := Lib.hid hs2
      clear hp2 hg2 hs2 hF5 HFA HSA HF3 HV3 HK1
      dsimp only
      repeat' (first | go_skip | go_guarded | ((fail_if_success (first | at_builtin | at_make)); go_step) | go_upon)
      refine (new_yes n w5 hn3 hn256).mono ?_
      rintro e w6 ⟨pd, gd, rfl, hpd, hgd, hsd, hF6⟩
      have HF6 := Lib.hid (HF5.out.then hF6)
      have HK1 := Lib.hid (HK1'.out.fr hF6)
      have HK2' := Lib.hid (HK2.out.fr hF6)
      have HKD := Lib.hid hsd
      have hgd' : w.heap.size ≤ gd := by have := HF5.out.size; omega
      have HGD := Lib.hid hgd'
      clear hpd hgd hsd hF6 HF5 HK1' HK2 hgd'
      dsimp only
      repeat' (first | go_skip | go_guarded | ((fail_if_success (first | at_builtin | at_make)); go_step) | go_upon)
      refine (minus_calls p1 g1 p2 g2 _ _ w6 HK1.out HK2'.out (by rw [adds_length, adds_length]) (by rw [adds_length, List.length_replicate]; exact hn3) (by rw [adds_length, List.length_replicate]; exact hn256)).mono ?_
      rintro e w7 ⟨pu, gu, rfl, hpu, hgu, hsu, hF7⟩
      have HF7 := Lib.hid (HF6.out.then hF7)
      have HKU := Lib.hid hsu
      have hsd := HKD.out.fr hF7
      have hgu' : gu ≠ gd := by have := hsd; have := HKD.out.glt; omega
      have HGU := Lib.hid hgu'
      have hpu' : pu ≠ gd := by have := HKD.out.glt; omega
      have HPU := Lib.hid hpu'
      have hXm := H2.out.fr HF7.out (fun _ _ e => e)
      have hXl := H1.out.fr HF7.out (fun _ _ e => e)
      have HVX := Lib.hid hXm
      have HVY := Lib.hid hXl
      have HXl := HL
      have HXm := HM
      have S0 : DRel w7 pd gd (List.replicate n zeroSC) l m (.int .i64 ((m.length : Int) - 1)) w7 := ⟨m.length, Nat.le_refl _, rfl, by rw [List.drop_length]; exact hsd, Fr.refl _⟩
      have HS0 := Lib.hid S0
      clear hpu hgu hsu hF7 HF6 HK1 HK2' HKD hsd S0 hgu' hpu' hXm hXl
      dsimp only
      repeat' (first | go_skip | go_guarded | ((fail_if_success (first | at_builtin | at_make)); go_step) | go_upon)
      go_loopw [15] (fun s15 wr => DRel w7 pd gd (List.replicate n zeroSC) l m s15 wr) (fun s15 _ => (intOf s15 + 1).toNat)
      case atStart => exact HS0.out
      case round =>
        obtain ⟨k, hk, rfl, hsk, hFr⟩ := hrel
        cases k with
        | zero =>
          rw [show (((0 : Nat) : Int) - 1) = -1 from rfl]
          rw [List.drop_zero] at hsk
          obtain ⟨w8, hw8⟩ : ∃ w8, w8 = wr := ⟨_, rfl⟩
          subst hw8
          obtain ⟨ZD, hZD⟩ : ∃ ZD, ap (List.replicate n zeroSC) (neg itemE (sur l m)) = ZD := ⟨_, rfl⟩
          rw [hZD] at hsk
          have hzl : ZD.length = n := by rw [← hZD, ap_length, List.length_replicate]
          have law2 : subL (adds itemE (List.replicate n zeroSC) l) (adds itemE (List.replicate n zeroSC) m) = ap ZD (pos itemE (sur m l)) := by rw [LAW.out, hZD]
          have hnb : ∀ j, j < B → ¬ (j = gd) := fun j hj e => by have := HB.out; have := HGD.out; omega
          have HWX := Lib.hid (HVY.out.fr hFr hnb)
          have HWY := Lib.hid (HVX.out.fr hFr hnb)
          have HF8 := Lib.hid (HF7.out.trans (S'' := none_) hFr (fun _ _ e => e) (fun j hj e => by have := HGD.out; omega))
          have HKU8 := Lib.hid (HKU.out.frS hFr (show ¬ (pu = gd) from HPU.out) (show ¬ (gu = gd) from HGU.out))
          have S1 : ARel w8 pd gd ZD l m (.int .i64 ((l.length : Int) - 1)) w8 := ⟨l.length, Nat.le_refl _, rfl, by rw [List.drop_length]; exact hsk, Fr.refl _⟩
          have HS1 := Lib.hid S1
          have HZL := Lib.hid hzl
          have LAW2 := Lib.hid law2
          clear hsk hFr S1 hZD hzl law2 hnb HVX HVY HKU HF7 HS0
          repeat' (first | go_skip | go_guarded | ((fail_if_success (first | at_builtin | at_make)); go_step) | go_upon)
          go_loopw [16] (fun s16 wr => ARel w8 pd gd ZD l m s16 wr) (fun s16 _ => (intOf s16 + 1).toNat)
          case atStart => exact HS1.out
          case round =>
            obtain ⟨k, hk, rfl, hsk, hFr⟩ := hrel
            cases k with
            | zero =>
              rw [show (((0 : Nat) : Int) - 1) = -1 from rfl]
              rw [List.drop_zero] at hsk
              have hku := HKU8.out.frS hFr (show ¬ (pu = gd) from HPU.out) (show ¬ (gu = gd) from HGU.out)
              have hF9 := HF8.out.trans (S'' := none_) hFr (fun _ _ e => e) (fun j hj e => by have := HGD.out; omega)
              obtain ⟨U, hU⟩ : ∃ U, subL (adds itemE (List.replicate n zeroSC) l) (adds itemE (List.replicate n zeroSC) m) = U := ⟨_, rfl⟩
              obtain ⟨V, hV⟩ : ∃ V, ap ZD (pos itemE (sur m l)) = V := ⟨_, rfl⟩
              have hUV : U = V := by rw [← hU, ← hV]; exact LAW2.out
              have hVl : V.length = n := by rw [← hV, ap_length, HZL.out]
              rw [hU] at hku
              rw [hV] at hsk
              have hUl : U.length = n := by rw [hUV, hVl]
              have HKU9 := Lib.hid hku
              have HSK9 := Lib.hid hsk
              have HF9 := Lib.hid hF9
              have HUL := Lib.hid hUl
              have HVL := Lib.hid hVl
              have HUV := Lib.hid hUV
              clear hku hsk hFr hF9 hU hV hUl hVl hUV HKU8 HF8 LAW2
              repeat' (first | go_skip | go_guarded | ((fail_if_success (first | at_builtin | at_make)); go_step) | go_upon)
              refine (cells_calls pu gu U wr HKU9.out (by rw [HUL.out]; exact hn256)).mono ?_
              rintro e wa ⟨Aa, ca, rfl, oa, hFa⟩
              have sva := SV.of_own oa
              have HSA := Lib.hid sva
              have HSK10 := Lib.hid (HSK9.out.fr hFa)
              have HF10 := Lib.hid (HF9.out.then hFa)
              clear oa sva hFa HSK9 HF9
              dsimp only
              repeat' (first | go_skip | go_guarded | ((fail_if_success (first | at_builtin | at_make)); go_step) | go_upon)
              refine (cells_calls pd gd V wa HSK10.out (by rw [HVL.out]; exact hn256)).mono ?_
              rintro e wb ⟨Ab, cb, rfl, ob, hFb⟩
              have svb := SV.of_own ob
              have sva := HSA.out.fr hFb (fun _ _ e => e)
              have HF11 := Lib.hid (HF10.out.then hFb)
              have hra := sva.rds.more (B' := wb.heap.size) hFb.size
              have hrb := svb.rds
              have sc := sameCells_calls U V Aa Ab ca cb wb.heap.size wb (by rw [HUL.out]; omega) (by rw [HVL.out]; omega) hra hrb
              rw [show sameB U V = true by unfold sameB; rw [HUV.out]; simp] at sc
              have SCC := Lib.hid sc
              clear ob svb sva hFb hra hrb sc HF10 HSA
              dsimp only
              repeat' (first | go_skip | go_guarded | ((fail_if_success (first | at_builtin | at_make)); go_step) | go_upon)
              refine (SCC.out).mono ?_
              rintro e wc ⟨rfl, nq, hnq⟩
              have HF12 := Lib.hid (HF11.out.drewN nq)
              subst hnq
              dsimp only
              repeat' (first | go_skip | go_guarded | ((fail_if_success (first | at_builtin | at_make)); go_step) | go_upon)
              go_ret
              exact ⟨rfl, HF12.out⟩
            | succ k =>
              have hk1 : (((k + 1 : Nat) : Int) - 1) = (k : Int) := by omega
              rw [hk1]
              have hkl : k < l.length := hk
              have hnb : ∀ j, j < B → ¬ (j = gd) := fun j hj e => by have := HB.out; have := HGD.out; omega
              obtain ⟨b, off, hA, _, x0c, x1c⟩ := (HWX.out.rds.fr hFr hnb).en hkl
              have hrx := HWX.out.rds.fr hFr hnb
              have hry := HWY.out.rds.fr hFr hnb
              subst hA
              have hle := HWX.out.le
              have hcap := HWX.out.cap
              have hwr : B ≤ wr.heap.size := by have := HB.out; have := HF8.out.size; have := hFr.size; omega
              have hshort := HSL.out l[k] (List.getElem_mem hkl)
              have hsur := sur_drop m l k hkl
              have hdl : (l.drop k).length = l.length - k := List.length_drop ..
              have t1 : ∀ p : Ext, Calls Try.prog 17 #[.slice (some ⟨b, off + k * 2, none⟩) (l.length - k) (c1 - k), .agg #[.string l[k].1, .string l[k].2]] (ext wr p) fun e w' => e = .returned (.int .i64 ((l.drop k).count l[k])) ∧ Fr none_ (ext wr p) w' := fun p => by
                have hr := (hrx.drop (k * 2)).fr (fr_ext wr p) (fun _ _ e => e)
                rw [flatE_drop] at hr
                have := times_calls (l.drop k) l[k] (some ⟨b, off + k * 2, none⟩) (c1 - k) B (ext wr p) (by have := HXl.out; omega) hr (Nat.le_trans hwr (fr_ext wr p).size)
                rw [hdl] at this
                exact this
              have t2 : ∀ p : Ext, Calls Try.prog 17 #[.slice A2 m.length c2, .agg #[.string l[k].1, .string l[k].2]] (ext wr p) fun e w' => e = .returned (.int .i64 (m.count l[k])) ∧ Fr none_ (ext wr p) w' := fun p =>
                times_calls m l[k] _ _ B (ext wr p) (by have := HXm.out; omega) (hry.fr (fr_ext wr p) (fun _ _ e => e)) (Nat.le_trans hwr (fr_ext wr p).size)
              have hcd : (l.drop k).count l[k] ≤ 1048576 := Nat.le_trans List.count_le_length (by rw [hdl]; have := HXl.out; omega)
              have hcy : m.count l[k] ≤ 1048576 := Nat.le_trans List.count_le_length HXm.out
              obtain ⟨e, he⟩ : ∃ e, l[k] = e := ⟨_, rfl⟩
              rw [he] at x0c x1c hshort hsur hcd hcy
              simp only [he] at t1 t2
              obtain ⟨e0, e1⟩ := e
              simp only at x0c x1c hshort t1 t2
              obtain ⟨a1, ha1⟩ : ∃ a, (l.drop k).count ⟨e0, e1⟩ = a := ⟨_, rfl⟩
              obtain ⟨a2, ha2⟩ : ∃ a, m.count ⟨e0, e1⟩ = a := ⟨_, rfl⟩
              rw [ha1] at hsur hcd
              rw [ha2] at hsur hcy
              simp only [ha1] at t1
              simp only [ha2] at t2
              have ic := fun w => item_calls e0 e1 w (by omega) (by omega) (by omega)
              obtain ⟨it, hit⟩ : ∃ it, itemC e0 e1 = it := ⟨_, rfl⟩
              simp only [hit] at ic
              have hitE : itemE ⟨e0, e1⟩ = it := hit
              have X0 := fun p => ext_cell x0c p
              have X1 := fun p => ext_cell x1c p
              have hkc : k < c1 := by omega
              have HT1 := Lib.hid t1
              have HT2 := Lib.hid t2
              have HIC := Lib.hid ic
              have HSUR := Lib.hid hsur
              have HIT := Lib.hid hitE
              have HSK := Lib.hid hsk
              have HFR := Lib.hid hFr
              have HCAP := Lib.hid hcap
              have XC0 := Lib.hid x0c
              have XC1 := Lib.hid x1c
              have hkc1 : ((k : Int) < (c1 : Int)) := by omega
              clear t1 t2 ic hsur hitE hsk hFr hrx hry hdl he ha1 ha2 hit hcap hnb hshort x0c x1c hwr hk1
              repeat' (first | go_skip | go_guarded | ((fail_if_success (first | at_builtin | at_make)); go_step) | go_upon)
              refine wp_region_ext mo' (by as_aux_lemma => kernel_rfl) ?_
              repeat (first | go_big_quiet_skip | (go_big_quiet_want; go_big_quiet_op; first | go_big_quiet_on | (with_reducible (refine ⟨_, fun p => call_ext (HT1.out p), ?_⟩); go_big_quiet_on) | (with_reducible (refine ⟨_, fun p => call_ext (HT2.out p), ?_⟩); go_big_quiet_on)))
              refine wpQuiet_nil ?_
              intro wq hwq
              have hFq : Fr none_ wr wq := by obtain ⟨p, hp⟩ := hwq; rw [hp]; exact fr_ext _ p
              clear hwq
              have x0c := hFq.cell XC0.out (fun e => e)
              have x1c := hFq.cell XC1.out (fun e => e)
              have HSKQ := Lib.hid (HSK.out.fr hFq)
              have HFRQ := Lib.hid (HFR.out.then (S := fun j => j = gd) (hFq.mono (fun _ _ e => e.elim)))
              clear X0 X1 hFq HSK HFR XC0 XC1
              by_cases hcmp : a2 < a1
              · have hb : decide ((a2 : Int) < (a1 : Int)) = true := by simpa using hcmp
                have hb' : decide (a2 < a1) = true := by simpa using hcmp
                have hz : ap (ZD) (pos itemE (sur m (l.drop k))) = layL (ap (ZD) (pos itemE (sur m (l.drop (k + 1))))) it 1 := by
                  rw [HSUR.out, if_pos hcmp]
                  show layL _ (itemE ⟨e0, e1⟩) 1 = _
                  rw [HIT.out]
                  rfl
                have HZ := Lib.hid hz
                clear hz
                repeat' (first | go_skip | go_guarded | ((fail_if_success (first | at_builtin | at_make)); go_step) | go_upon)
                refine (HIC.out _).mono ?_
                rintro e wi ⟨rfl, hFi⟩
                have HSKI := Lib.hid (HSKQ.out.fr hFi)
                have HFRI := Lib.hid (HFRQ.out.then (S := fun j => j = gd) (hFi.mono (fun _ _ e => e.elim)))
                clear x0c x1c hFi HSKQ HFRQ
                dsimp only
                repeat' (first | go_skip | go_guarded | ((fail_if_success (first | at_builtin | at_make)); go_step) | go_upon)
                refine (add_calls it pd gd _ _ HSKI.out (by rw [ap_length, HZL.out]; exact hn3) (by rw [ap_length, HZL.out]; exact hn256)).mono ?_
                rintro e wj ⟨rfl, hsj, hFj⟩
                have HSKJ := Lib.hid hsj
                have HFRJ := Lib.hid (HFRI.out.then (S := fun j => j = gd) hFj)
                clear hsj hFj HSKI HFRI
                dsimp only
                repeat' (first | go_skip | go_guarded | ((fail_if_success (first | at_builtin | at_make)); go_step) | go_upon)
                go_roundw
                case rel => exact ⟨k, by omega, by go_num, by rw [HZ.out]; exact HSKJ.out, HFRJ.out⟩
                case measure => first | (simp [intOf]; done) | (simp [intOf]; omega)
              · have hb : decide ((a2 : Int) < (a1 : Int)) = false := by simpa using hcmp
                have hb' : decide (a2 < a1) = false := by simpa using hcmp
                have hz : ap (ZD) (pos itemE (sur m (l.drop k))) = ap (ZD) (pos itemE (sur m (l.drop (k + 1)))) := by rw [HSUR.out, if_neg hcmp]
                have HZ := Lib.hid hz
                clear hz
                repeat' (first | go_skip | go_guarded | ((fail_if_success (first | at_builtin | at_make)); go_step) | go_upon)
                go_roundw
                case rel => exact ⟨k, by omega, by go_num, by rw [HZ.out]; exact HSKQ.out, HFRQ.out⟩
                case measure => first | (simp [intOf]; done) | (simp [intOf]; omega)
        | succ k =>
          have hk1 : (((k + 1 : Nat) : Int) - 1) = (k : Int) := by omega
          rw [hk1]
          have hkl : k < m.length := hk
          have hnb : ∀ j, j < B → ¬ (j = gd) := fun j hj e => by have := HB.out; have := HGD.out; omega
          obtain ⟨b, off, hA, _, x0c, x1c⟩ := (HVX.out.rds.fr hFr hnb).en hkl
          have hrx := HVX.out.rds.fr hFr hnb
          have hry := HVY.out.rds.fr hFr hnb
          subst hA
          have hle := HVX.out.le
          have hcap := HVX.out.cap
          have hwr : B ≤ wr.heap.size := by have := HB.out; have := HF7.out.size; have := hFr.size; omega
          have hshort := HSM.out m[k] (List.getElem_mem hkl)
          have hsur := sur_drop l m k hkl
          have hdl : (m.drop k).length = m.length - k := List.length_drop ..
          have t1 : ∀ p : Ext, Calls Try.prog 17 #[.slice (some ⟨b, off + k * 2, none⟩) (m.length - k) (c2 - k), .agg #[.string m[k].1, .string m[k].2]] (ext wr p) fun e w' => e = .returned (.int .i64 ((m.drop k).count m[k])) ∧ Fr none_ (ext wr p) w' := fun p => by
            have hr := (hrx.drop (k * 2)).fr (fr_ext wr p) (fun _ _ e => e)
            rw [flatE_drop] at hr
            have := times_calls (m.drop k) m[k] (some ⟨b, off + k * 2, none⟩) (c2 - k) B (ext wr p) (by have := HXm.out; omega) hr (Nat.le_trans hwr (fr_ext wr p).size)
            rw [hdl] at this
            exact this
          have t2 : ∀ p : Ext, Calls Try.prog 17 #[.slice A1 l.length c1, .agg #[.string m[k].1, .string m[k].2]] (ext wr p) fun e w' => e = .returned (.int .i64 (l.count m[k])) ∧ Fr none_ (ext wr p) w' := fun p =>
            times_calls l m[k] _ _ B (ext wr p) (by have := HXl.out; omega) (hry.fr (fr_ext wr p) (fun _ _ e => e)) (Nat.le_trans hwr (fr_ext wr p).size)
          have hcd : (m.drop k).count m[k] ≤ 1048576 := Nat.le_trans List.count_le_length (by rw [hdl]; have := HXm.out; omega)
          have hcy : l.count m[k] ≤ 1048576 := Nat.le_trans List.count_le_length HXl.out
          obtain ⟨e, he⟩ : ∃ e, m[k] = e := ⟨_, rfl⟩
          rw [he] at x0c x1c hshort hsur hcd hcy
          simp only [he] at t1 t2
          obtain ⟨e0, e1⟩ := e
          simp only at x0c x1c hshort t1 t2
          obtain ⟨a1, ha1⟩ : ∃ a, (m.drop k).count ⟨e0, e1⟩ = a := ⟨_, rfl⟩
          obtain ⟨a2, ha2⟩ : ∃ a, l.count ⟨e0, e1⟩ = a := ⟨_, rfl⟩
          rw [ha1] at hsur hcd
          rw [ha2] at hsur hcy
          simp only [ha1] at t1
          simp only [ha2] at t2
          have ic := fun w => item_calls e0 e1 w (by omega) (by omega) (by omega)
          obtain ⟨it, hit⟩ : ∃ it, itemC e0 e1 = it := ⟨_, rfl⟩
          simp only [hit] at ic
          have hitE : itemE ⟨e0, e1⟩ = it := hit
          have X0 := fun p => ext_cell x0c p
          have X1 := fun p => ext_cell x1c p
          have hkc : k < c2 := by omega
          have HT1 := Lib.hid t1
          have HT2 := Lib.hid t2
          have HIC := Lib.hid ic
          have HSUR := Lib.hid hsur
          have HIT := Lib.hid hitE
          have HSK := Lib.hid hsk
          have HFR := Lib.hid hFr
          have HCAP := Lib.hid hcap
          have XC0 := Lib.hid x0c
          have XC1 := Lib.hid x1c
          have hkc2 : ((k : Int) < (c2 : Int)) := by omega
          clear t1 t2 ic hsur hitE hsk hFr hrx hry hdl he ha1 ha2 hit hcap hnb hshort x0c x1c hwr hk1
          repeat' (first | go_skip | go_guarded | ((fail_if_success (first | at_builtin | at_make)); go_step) | go_upon)
          refine wp_region_ext mo' (by as_aux_lemma => kernel_rfl) ?_
          repeat (first | go_big_quiet_skip | (go_big_quiet_want; go_big_quiet_op; first | go_big_quiet_on | (with_reducible (refine ⟨_, fun p => call_ext (HT1.out p), ?_⟩); go_big_quiet_on) | (with_reducible (refine ⟨_, fun p => call_ext (HT2.out p), ?_⟩); go_big_quiet_on)))
          refine wpQuiet_nil ?_
          intro wq hwq
          have hFq : Fr none_ wr wq := by obtain ⟨p, hp⟩ := hwq; rw [hp]; exact fr_ext _ p
          clear hwq
          have x0c := hFq.cell XC0.out (fun e => e)
          have x1c := hFq.cell XC1.out (fun e => e)
          have HSKQ := Lib.hid (HSK.out.fr hFq)
          have HFRQ := Lib.hid (HFR.out.then (S := fun j => j = gd) (hFq.mono (fun _ _ e => e.elim)))
          clear X0 X1 hFq HSK HFR XC0 XC1
          by_cases hcmp : a2 < a1
          · have hb : decide ((a2 : Int) < (a1 : Int)) = true := by simpa using hcmp
            have hb' : decide (a2 < a1) = true := by simpa using hcmp
            have hz : ap (List.replicate n zeroSC) (neg itemE (sur l (m.drop k))) = layL (ap (List.replicate n zeroSC) (neg itemE (sur l (m.drop (k + 1))))) it (-1) := by
              rw [HSUR.out, if_pos hcmp]
              show layL _ (itemE ⟨e0, e1⟩) (-1) = _
              rw [HIT.out]
              rfl
            have HZ := Lib.hid hz
            clear hz
            repeat' (first | go_skip | go_guarded | ((fail_if_success (first | at_builtin | at_make)); go_step) | go_upon)
            refine (HIC.out _).mono ?_
            rintro e wi ⟨rfl, hFi⟩
            have HSKI := Lib.hid (HSKQ.out.fr hFi)
            have HFRI := Lib.hid (HFRQ.out.then (S := fun j => j = gd) (hFi.mono (fun _ _ e => e.elim)))
            clear x0c x1c hFi HSKQ HFRQ
            dsimp only
            repeat' (first | go_skip | go_guarded | ((fail_if_success (first | at_builtin | at_make)); go_step) | go_upon)
            refine (take_calls it pd gd _ _ HSKI.out (by rw [ap_length, List.length_replicate]; exact hn3) (by rw [ap_length, List.length_replicate]; exact hn256)).mono ?_
            rintro e wj ⟨rfl, hsj, hFj⟩
            have HSKJ := Lib.hid hsj
            have HFRJ := Lib.hid (HFRI.out.then (S := fun j => j = gd) hFj)
            clear hsj hFj HSKI HFRI
            dsimp only
            repeat' (first | go_skip | go_guarded | ((fail_if_success (first | at_builtin | at_make)); go_step) | go_upon)
            go_roundw
            case rel => exact ⟨k, by omega, by go_num, by rw [HZ.out]; exact HSKJ.out, HFRJ.out⟩
            case measure => first | (simp [intOf]; done) | (simp [intOf]; omega)
          · have hb : decide ((a2 : Int) < (a1 : Int)) = false := by simpa using hcmp
            have hb' : decide (a2 < a1) = false := by simpa using hcmp
            have hz : ap (List.replicate n zeroSC) (neg itemE (sur l (m.drop k))) = ap (List.replicate n zeroSC) (neg itemE (sur l (m.drop (k + 1)))) := by rw [HSUR.out, if_neg hcmp]
            have HZ := Lib.hid hz
            clear hz
            repeat' (first | go_skip | go_guarded | ((fail_if_success (first | at_builtin | at_make)); go_step) | go_upon)
            go_roundw
            case rel => exact ⟨k, by omega, by go_num, by rw [HZ.out]; exact HSKQ.out, HFRQ.out⟩
            case measure => first | (simp [intOf]; done) | (simp [intOf]; omega)
end Go.Proofs.Yteibfhhbdpjpoaa
