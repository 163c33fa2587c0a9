import Derived.Test.YteibfhhbdpjpoaaSm1
/- sketch: Of. -/
set_option linter.unusedVariables false
set_option linter.unusedSimpArgs false
namespace Go.Proofs.Yteibfhhbdpjpoaa
open Go.RowKit
set_option maxHeartbeats 4000000
noncomputable def itemE (e : En) : Int := itemC e.1 e.2
theorem adds_take (n : List SC) (l : List En) (k : Nat) (h : k < l.length) : adds itemE n (l.take (k + 1)) = layL (adds itemE n (l.take k)) (itemE l[k]) 1 := by
  rw [List.take_succ_eq_append_getElem h]
  unfold adds
  rw [List.foldl_append]
  rfl
theorem adds_length (n : List SC) (l : List En) : (adds itemE n l).length = n.length := by
  unfold adds
  induction l generalizing n with
  | nil => rfl
  | cons e l ih => rw [List.foldl_cons, ih, layL_length]
/-- entries whose items can be told: not too long -/
def Short (l : List En) : Prop := ∀ e ∈ l, e.1.size + e.2.size < 1099511000000
theorem SkAt.fr {w w' : World} {p g : Nat} {l : List SC} (h : SkAt w p g l) (hf : Fr none_ w w') : SkAt w' p g l := by
  obtain ⟨c, h1, h2, hc, hd⟩ := h
  exact ⟨c, h1, h2, hf.cell hc (fun e => e), hf.keeps hd (fun e => e)⟩
def OfRel (w : World) (n p g : Nat) (l : List En) (s20 : Value) (wr : World) : Prop :=
  ∃ k : Nat, k ≤ l.length ∧ s20 = .int .i64 k ∧ SkAt wr p g (adds itemE (List.replicate n zeroSC) (l.take k)) ∧ Fr none_ w wr
set_option maxRecDepth 100000 in
theorem sof_calls (l : List En) (n : Nat) (A : Option Addr) (c B : Nat) (w : World) (h3 : 3 ≤ n) (h256 : n ≤ 256) (hm : l.length ≤ 140737488355328) (hsh : Short l) (hr : Rds w B A (flatE l)) (hB : B ≤ w.heap.size) :
    Calls Try.prog 15 #[.slice A l.length c, .int .i64 n] w (Made w (adds itemE (List.replicate n zeroSC) l)) := by
  have HSH := Lib.hid hsh
  have HR := Lib.hid hr
  clear hsh hr
  go_enter Try.func15, Try.ntmps15
  repeat' (first | go_skip | go_guarded | ((fail_if_success (first | at_builtin | at_make)); go_step) | go_upon)
  refine (new_yes n w h3 h256).mono ?_
  rintro e w1 ⟨p, g, rfl, hp, hg, hs, hF⟩
  have S0 : OfRel w n p g l (.int .i64 0) w1 := ⟨0, Nat.zero_le _, rfl, hs, hF⟩
  have HS0 := Lib.hid S0
  have HG := Lib.hid hg
  have HP := Lib.hid hp
  clear hs hF S0 hB hp hg
  dsimp only
  repeat' (first | go_skip | go_guarded | ((fail_if_success (first | at_builtin | at_make)); go_step) | go_upon)
  go_loopw [20] (fun s20 wr => OfRel w n p g l s20 wr) (fun s20 _ => l.length - (intOf s20).toNat)
  case atStart => exact HS0.out
  case round =>
    obtain ⟨k, hk, rfl, hs, hFr⟩ := hrel
    by_cases hlt : k < l.length
    · obtain ⟨b, off, rfl, _, c0, c1⟩ := (HR.out.fr hFr (fun _ _ e => e)).en hlt
      have hat := adds_take (List.replicate n zeroSC) l k hlt
      have hsx := HSH.out l[k] (List.getElem_mem hlt)
      have hlen : (adds itemE (List.replicate n zeroSC) (l.take k)).length = n := by rw [adds_length, List.length_replicate]
      obtain ⟨x, hx⟩ : ∃ x, l[k] = x := ⟨_, rfl⟩
      obtain ⟨lk, hlk⟩ : ∃ lk, adds itemE (List.replicate n zeroSC) (l.take k) = lk := ⟨_, rfl⟩
      rw [hx] at c0 c1 hat hsx
      rw [hlk] at hat hs hlen
      obtain ⟨x0, x1⟩ := x
      simp only at c0 c1 hsx
      have ic := fun w => item_calls x0 x1 w (by omega) (by omega) (by omega)
      obtain ⟨it, hit⟩ : ∃ it, itemC x0 x1 = it := ⟨_, rfl⟩
      rw [show itemE ⟨x0, x1⟩ = it from hit] at hat
      rw [hit] at ic
      have HIC := Lib.hid ic
      have HAT := Lib.hid hat
      have HL := Lib.hid hlen
      have HSK := Lib.hid hs
      have HFR := Lib.hid hFr
      clear hat hsx hlen hx hlk ic hit hs hFr
      repeat' (first | go_skip | go_guarded | ((fail_if_success (first | at_builtin | at_make)); go_step) | go_upon)
      generalize hWb : wr.alloc (.cells _ _) = Wb
      have hFb : Fr none_ wr Wb := by rw [← hWb]; exact (Fr.refl _).alloc _
      obtain ⟨b9, hb9⟩ : ∃ b9, b9 = wr.heap.size := ⟨_, rfl⟩
      have hd9 : Hd Wb b9 43 [.string x0, .string x1] := by rw [← hWb, hb9]; exact Hd.new wr _ _
      have HSK2 := Lib.hid (HSK.out.fr hFb)
      have HFR2 := Lib.hid (HFR.out.then hFb)
      clear c0 c1 hWb hFb hd9 hb9 HSK HFR
      refine (HIC.out _).mono ?_
      rintro e w2 ⟨rfl, hF2⟩
      have HSK3 := Lib.hid (HSK2.out.fr hF2)
      have HFR3 := Lib.hid (HFR2.out.then hF2)
      clear hF2 HSK2 HFR2
      dsimp only
      repeat' (first | go_skip | go_guarded | ((fail_if_success (first | at_builtin | at_make)); go_step) | go_upon)
      refine (add_calls it p g lk _ HSK3.out (by rw [HL.out]; exact h3) (by rw [HL.out]; exact h256)).mono ?_
      rintro e w3 ⟨rfl, hs3, hF3⟩
      have HSK4 := Lib.hid hs3
      have HFR4 := Lib.hid (HFR3.out.trans (S'' := none_) hF3 (fun _ _ e => e) (fun k hk e => by have := HG.out; omega))
      clear hs3 hF3 HSK3 HFR3
      dsimp only
      repeat' (first | go_skip | go_guarded | ((fail_if_success (first | at_builtin | at_make)); go_step) | go_upon)
      go_roundw
      case rel => exact ⟨k + 1, by omega, by go_num, by rw [HAT.out]; exact HSK4.out, HFR4.out⟩
      case measure => simp [intOf]; omega
    · obtain rfl : k = l.length := by omega
      rw [List.take_length] at hs
      have HSK := Lib.hid hs
      have HFR := Lib.hid hFr
      clear hs hFr
      repeat' (first | go_skip | go_guarded | ((fail_if_success (first | at_builtin | at_make)); go_step) | go_upon)
      go_ret2
      exact ⟨p, g, rfl, HP.out, HG.out, HSK.out, HFR.out⟩
end Go.Proofs.Yteibfhhbdpjpoaa
