import Derived.Test.YteibfhhbdpjpoaaLib
/- The numbers of a sketch, as plain functions. -/
set_option linter.unusedVariables false
set_option linter.unusedSimpArgs false
namespace Go.Proofs.Yteibfhhbdpjpoaa
open Go.RowKit
def mixC (x j : Int) : Int :=
  let x := IntKind.u64.wrap (x + IntKind.u64.wrap ((j + 1) * 11400714819323198485))
  let x := Go.bits .xor .u64 x (x / 1073741824)
  let x := IntKind.u64.wrap (x * 13787848793156543929)
  let x := Go.bits .xor .u64 x (x / 134217728)
  let x := IntKind.u64.wrap (x * 10723151780598845931)
  Go.bits .xor .u64 x (x / 2147483648)
/- sealed: the kernel is not to open it beside a sum -/
theorem mixF_ex : ∃ f : Int → Int → Int, f = mixC := ⟨_, rfl⟩
noncomputable def mixF : Int → Int → Int := Classical.choose mixF_ex
theorem mixF_eq (x j : Int) : mixF x j = mixC x j := congrFun (congrFun (Classical.choose_spec mixF_ex) x) j
theorem mixF_lo (x j : Int) : 0 ≤ mixF x j := by rw [mixF_eq]; unfold mixC; exact bits_lo_u64 _ _ _
theorem mixF_hi (x j : Int) : mixF x j ≤ 18446744073709551615 := by rw [mixF_eq]; unfold mixC; exact bits_hi_u64 _ _ _
noncomputable def checkF (x : Int) : Int := mixF x 3 % 4294967296
/-- the j-th place of an item among n cells -/
noncomputable def placeN (n : Nat) (x : Int) (j : Nat) : Nat := j * (n / 3) + (mixF x j).toNat % (n / 3)
theorem placeN_lo (n : Nat) (x : Int) (j : Nat) : j * (n / 3) ≤ placeN n x j := by unfold placeN; omega
theorem placeN_hi (n : Nat) (x : Int) (j : Nat) (h : 3 ≤ n) : placeN n x j < j * (n / 3) + n / 3 := by
  unfold placeN
  have := Nat.mod_lt (mixF x j).toNat (show 0 < n / 3 by omega)
  omega
theorem placeN_lt (n : Nat) (x : Int) (j : Nat) (h : 3 ≤ n) (hj : j < 3) : placeN n x j < n := by
  have h1 := placeN_hi n x j h
  have : j * (n / 3) ≤ 2 * (n / 3) := Nat.mul_le_mul_right _ (by omega)
  omega
theorem placeN_01 (n : Nat) (x : Int) (h : 3 ≤ n) : placeN n x 0 < placeN n x 1 := by
  have h1 := placeN_hi n x 0 h
  have h2 := placeN_lo n x 1
  omega
theorem placeN_12 (n : Nat) (x : Int) (h : 3 ≤ n) : placeN n x 1 < placeN n x 2 := by
  have h1 := placeN_hi n x 1 h
  have h2 := placeN_lo n x 2
  omega
/-- a cell of a sketch -/
structure SC where
  c : Int
  i : Int
  k : Int
  deriving DecidableEq
instance : Inhabited SC := ⟨⟨0, 0, 0⟩⟩
def SC.vs (s : SC) : List Value := [.int .i16 s.c, .int .u64 s.i, .int .u32 s.k]
def flatC (l : List SC) : List Value := l.flatMap SC.vs
theorem flatC_length (l : List SC) : (flatC l).length = l.length * 3 := by
  induction l with
  | nil => rfl
  | cons a l ih => simp only [flatC, List.flatMap_cons, List.length_append, SC.vs, List.length_cons, List.length_nil] at *; omega
theorem flatC_at0 (l : List SC) (i : Nat) (h : i < l.length) : (flatC l)[i * 3]? = some (.int .i16 (l.getD i default).c) := by
  induction l generalizing i with
  | nil => simp at h
  | cons a l ih =>
    cases i with
    | zero => simp [flatC, SC.vs]
    | succ i =>
      have := ih i (by simpa using h)
      simp only [flatC, List.flatMap_cons, SC.vs] at *
      rw [List.getElem?_append_right (by simp; omega)]
      simpa [show (i + 1) * 3 - 3 = i * 3 by omega] using this
theorem flatC_at1 (l : List SC) (i : Nat) (h : i < l.length) : (flatC l)[i * 3 + 1]? = some (.int .u64 (l.getD i default).i) := by
  induction l generalizing i with
  | nil => simp at h
  | cons a l ih =>
    cases i with
    | zero => simp [flatC, SC.vs]
    | succ i =>
      have := ih i (by simpa using h)
      simp only [flatC, List.flatMap_cons, SC.vs] at *
      rw [List.getElem?_append_right (by simp; omega)]
      simpa [show (i + 1) * 3 + 1 - 3 = i * 3 + 1 by omega] using this
theorem flatC_at2 (l : List SC) (i : Nat) (h : i < l.length) : (flatC l)[i * 3 + 2]? = some (.int .u32 (l.getD i default).k) := by
  induction l generalizing i with
  | nil => simp at h
  | cons a l ih =>
    cases i with
    | zero => simp [flatC, SC.vs]
    | succ i =>
      have := ih i (by simpa using h)
      simp only [flatC, List.flatMap_cons, SC.vs] at *
      rw [List.getElem?_append_right (by simp; omega)]
      simpa [show (i + 1) * 3 + 2 - 3 = i * 3 + 2 by omega] using this
theorem flatC_set (l : List SC) (i : Nat) (a b c : Int) (h : i < l.length) :
    (((flatC l).set (i * 3) (.int .i16 a)).set (i * 3 + 1) (.int .u64 b)).set (i * 3 + 2) (.int .u32 c) = flatC (l.set i ⟨a, b, c⟩) := by
  induction l generalizing i with
  | nil => simp at h
  | cons s l ih =>
    cases i with
    | zero => simp [flatC, SC.vs]
    | succ i =>
      have := ih i (by simpa using h)
      simp only [flatC, List.flatMap_cons, SC.vs, List.set_cons_succ] at *
      rw [← this, show (i + 1) * 3 = i * 3 + 3 by omega]
      simp [List.set_cons_succ]
theorem Rds.sc {w : World} {L : Nat} {A : Option Addr} {l : List SC} (h : Rds w L A (flatC l)) {k : Nat} (hk : k < l.length) :
    ∃ b off, A = some ⟨b, off, none⟩ ∧ b < L ∧ w.cell? ⟨b, off + k * 3, none⟩ = some (.int .i16 (l.getD k default).c) ∧ w.cell? ⟨b, off + k * 3 + 1, none⟩ = some (.int .u64 (l.getD k default).i) ∧ w.cell? ⟨b, off + k * 3 + 2, none⟩ = some (.int .u32 (l.getD k default).k) := by
  obtain ⟨b, off, rfl, hb, hc⟩ := h.at_ (by rw [flatC_length]; omega)
  exact ⟨b, off, rfl, hb, hc _ _ (flatC_at0 l k hk), hc _ _ (flatC_at1 l k hk), hc _ _ (flatC_at2 l k hk)⟩
def eqSCb (x y : SC) : Bool := decide (x = y)
theorem eqSCb_eq (x y : SC) : (x.c == y.c && (x.i == y.i && (x.k == y.k && true))) = eqSCb x y := by
  cases x; cases y
  unfold eqSCb
  rw [Bool.eq_iff_iff]
  simp
end Go.Proofs.Yteibfhhbdpjpoaa
