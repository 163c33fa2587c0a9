import Derived.Test.YteibfhhbdpjpoaaPl2
import Derived.Test.YteibfhhbdpjpoaaSumPure
/- works: what its sketch and its item come to, in plain lists. -/
set_option linter.unusedVariables false
set_option linter.unusedSimpArgs false
namespace Go.Proofs.Yteibfhhbdpjpoaa
open Go.RowKit
def Z3 : List SC := List.replicate 3 zeroSC
noncomputable def S9 : List SC := [⟨1, 9, checkF 9⟩, ⟨1, 9, checkF 9⟩, ⟨1, 9, checkF 9⟩]
theorem checkF_lo (x : Int) : 0 ≤ checkF x := by unfold checkF; omega
theorem checkF_hi (x : Int) : checkF x < 4294967296 := by unfold checkF; omega
theorem placeN3 (x : Int) (j : Nat) (hj : j < 3) : placeN 3 x j = j := by
  have h1 := placeN_lo 3 x j
  have h2 := placeN_hi 3 x j (by omega)
  omega
theorem hit3 (x : Int) (j : Nat) (hj : j < 3) : hit 3 x j := by
  unfold hit
  rw [placeN3 x 0 (by omega), placeN3 x 1 (by omega), placeN3 x 2 (by omega)]
  omega
theorem xor32_zl (a : Int) (h0 : 0 ≤ a) (h1 : a < 4294967296) : Go.bits .xor .u32 0 a = a := by
  rw [xor32_def, show BitVec.ofInt 32 0 = 0#32 from rfl, BitVec.zero_xor, toNat32 a h0 h1]
theorem xor64_zl (a : Int) (h0 : 0 ≤ a) (h1 : a < 18446744073709551616) : Go.bits .xor .u64 0 a = a := by
  rw [xor64_def, show BitVec.ofInt 64 0 = 0#64 from rfl, BitVec.zero_xor, toNat64 a h0 h1]
theorem layC9 : layC 9 1 zeroSC = ⟨1, 9, checkF 9⟩ := by
  unfold layC zeroSC
  rw [xor64_zl _ (by omega) (by omega), xor32_zl _ (checkF_lo _) (checkF_hi _), wrap16]
  rfl
theorem wfZ3 : WfL Z3 := wf_zero 3 (by omega)
theorem s9_eq : layL Z3 9 1 = S9 := by
  refine List.ext_getElem? fun j => ?_
  rw [layL_get _ _ _ (by rw [Z3, List.length_replicate]; omega)]
  match j with
  | 0 => simp [Z3, S9, hit3 9 0 (by omega), layC9]
  | 1 => simp [Z3, S9, hit3 9 1 (by omega), layC9]
  | 2 => simp [Z3, S9, hit3 9 2 (by omega), layC9]
  | j + 3 => simp [Z3, S9]
theorem worked_sketch : layL (layL (layL Z3 7 1) 9 1) 7 (-1) = S9 := by
  rw [layL_comm Z3 7 1 9 1 (by rw [Z3, List.length_replicate]; omega), layL_back _ 7 1 (layL_wf _ _ _ wfZ3), s9_eq]
theorem s9_back : layL S9 9 (-1) = Z3 := by rw [← s9_eq, layL_back _ _ _ wfZ3]
theorem pure9 : pureB S9 0 = true := by
  unfold pureB
  rw [show S9.length = 3 from rfl, show S9.getD 0 default = ⟨1, 9, checkF 9⟩ from rfl]
  simp [placeN3 9 0 (by omega)]
theorem pureZ (i : Nat) (hi : i < 3) : pureB Z3 i = false := by
  have h : Z3.getD i default = zeroSC := by
    match i, hi with
    | 0, _ => rfl
    | 1, _ => rfl
    | 2, _ => rfl
  unfold pureB
  rw [h]
  simp [zeroSC]
theorem fp9 : fp S9 = 0 := by
  show fpN S9 0 3 = 0
  unfold fpN
  rw [if_pos pure9]
theorem fpZ : fp Z3 = 3 := by
  show fpN Z3 0 3 = 3
  unfold fpN
  rw [if_neg (by rw [pureZ 0 (by omega)]; exact Bool.false_ne_true)]
  unfold fpN
  rw [if_neg (by rw [pureZ 1 (by omega)]; exact Bool.false_ne_true)]
  unfold fpN
  rw [if_neg (by rw [pureZ 2 (by omega)]; exact Bool.false_ne_true)]
  rfl
theorem peel9 : peelRun S9.length S9 [] [] = (Z3, [9], []) := by
  show peelRun 3 S9 [] [] = _
  unfold peelRun
  rw [fp9, if_neg (by decide), show S9.getD 0 default = ⟨1, 9, checkF 9⟩ from rfl, if_pos rfl]
  simp only [s9_back]
  unfold peelRun
  rw [fpZ, if_pos (by rw [Z3, List.length_replicate])]
  rfl
theorem allZ3 : allZ Z3 = true := by
  unfold allZ Z3
  simp
/- the digest, computed -/
def wroteE (st rest : List Int) (held : Nat) (p : List Int) := wrote (stepC rotC cubesC) p.length st rest held p
def sumE (p : List Int) : List Int := outFrom (wroteE (wroteE startC zeroB64 0 p).1 (wroteE startC zeroB64 0 p).2.1 (wroteE startC zeroB64 0 p).2.2 (fillC p.length)).1 8
theorem sumE_eq (p : List Int) : sumC p = sumE p := by
  unfold sumC sumE wroteF wroteE
  rw [show stepF = stepC rotC cubesC by unfold stepF; rw [rotF_eq, cubesF_eq]]
theorem itemAX : itemC ⟨#[97]⟩ ⟨#[120]⟩ / 281474976710656 = 2005 := by
  unfold itemC
  rw [sumE_eq, sumE_eq]
  kernel_rfl
end Go.Proofs.Yteibfhhbdpjpoaa
