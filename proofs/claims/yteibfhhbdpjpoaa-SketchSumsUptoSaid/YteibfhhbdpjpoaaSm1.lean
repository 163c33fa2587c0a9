import Derived.Test.YteibfhhbdpjpoaaPl2
import Derived.Test.YteibfhhbdpjpoaaExt
import Derived.Test.YteibfhhbdpjpoaaSumPure
/- sketch: Of, Minus; concordlaw16: times. -/
set_option linter.unusedVariables false
set_option linter.unusedSimpArgs false
namespace Go.Proofs.Yteibfhhbdpjpoaa
open Go.RowKit
set_option maxHeartbeats 4000000
/-- an entry: key, sum -/
structure En where
  k : ByteArray
  s : ByteArray
  deriving DecidableEq
theorem str_eq (x y : ByteArray) : (x.toList == y.toList) = decide (x = y) := by
  rw [Bool.eq_iff_iff, beq_iff_eq, decide_eq_true_eq, Lib.toList_data, Lib.toList_data]
  refine ⟨fun h => ?_, fun h => by rw [h]⟩
  cases x
  cases y
  congr
  exact Array.ext' h
def enV (e : En) : List Value := [.string e.1, .string e.2]
def flatE (l : List En) : List Value := l.flatMap enV
theorem flatE_length (l : List En) : (flatE l).length = l.length * 2 := by
  induction l with
  | nil => rfl
  | cons a l ih => simp only [flatE, List.flatMap_cons, List.length_append, enV, List.length_cons, List.length_nil] at *; omega
theorem flatE_at0 (l : List En) (i : Nat) (h : i < l.length) : (flatE l)[i * 2]? = some (.string (l[i]).1) := by
  induction l generalizing i with
  | nil => simp at h
  | cons a l ih =>
    cases i with
    | zero => simp [flatE, enV]
    | succ i =>
      have := ih i (by simpa using h)
      simp only [flatE, List.flatMap_cons, enV] at *
      rw [List.getElem?_append_right (by simp; omega)]
      simpa [show (i + 1) * 2 - 2 = i * 2 by omega] using this
theorem flatE_at1 (l : List En) (i : Nat) (h : i < l.length) : (flatE l)[i * 2 + 1]? = some (.string (l[i]).2) := by
  induction l generalizing i with
  | nil => simp at h
  | cons a l ih =>
    cases i with
    | zero => simp [flatE, enV]
    | succ i =>
      have := ih i (by simpa using h)
      simp only [flatE, List.flatMap_cons, enV] at *
      rw [List.getElem?_append_right (by simp; omega)]
      simpa [show (i + 1) * 2 + 1 - 2 = i * 2 + 1 by omega] using this
theorem flatE_one (l : List En) : ∀ u ∈ flatE l, u.oneCell' = true := by
  intro u hu
  simp only [flatE, List.mem_flatMap, enV] at hu
  obtain ⟨s, _, hs⟩ := hu
  simp at hs
  rcases hs with rfl | rfl <;> rfl
theorem flatE_drop (l : List En) (k : Nat) : (flatE l).drop (k * 2) = flatE (l.drop k) := by
  induction l generalizing k with
  | nil => simp [flatE]
  | cons a l ih =>
    cases k with
    | zero => simp
    | succ k =>
      have := ih k
      rw [List.drop_succ_cons, ← this]
      simp only [flatE, List.flatMap_cons, enV]
      rw [show (k + 1) * 2 = 2 + k * 2 by omega, ← List.drop_drop]
      rfl
theorem Rds.en {w : World} {L : Nat} {A : Option Addr} {l : List En} (h : Rds w L A (flatE l)) {k : Nat} (hk : k < l.length) :
    ∃ b off, A = some ⟨b, off, none⟩ ∧ b < L ∧ w.cell? ⟨b, off + k * 2, none⟩ = some (.string (l[k]).1) ∧ w.cell? ⟨b, off + k * 2 + 1, none⟩ = some (.string (l[k]).2) := by
  obtain ⟨b, off, rfl, hb, hc⟩ := h.at_ (by rw [flatE_length]; omega)
  exact ⟨b, off, rfl, hb, hc _ _ (flatE_at0 l k hk), hc _ _ (flatE_at1 l k hk)⟩
theorem eqEn (d : Nat) (w : World) (x0 y0 x1 y1 : ByteArray) :
    (Op.equalIn (d + 2) 43 (.agg #[.string x0, .string x1]) (.agg #[.string y0, .string y1])).run Try.prog w = .ok (decide (x0 = y0) && (decide (x1 = y1) && true)) w := by
  refine eqs_of Try.underlying43 (by kernel_rfl) ?_
  refine eqf_cons (by rfl) (by go_simp; rfl) (by go_simp; rfl) (by go_simp; exact str_eq _ _) ?_
  refine eqf_cons (by rfl) (by go_simp; rfl) (by go_simp; rfl) (by go_simp; exact str_eq _ _) ?_
  exact eqf_nil
theorem eqlEn (w : World) (x y : En) : (binOp .eql 43 (.agg #[.string x.1, .string x.2]) (.agg #[.string y.1, .string y.2])).run Try.prog w = .ok (.bool (decide (x = y))) w := by
  rw [run_eql_struct, eqEn 9998]
  simp only [Result.andThen_ok]
  congr 2
  cases x
  cases y
  rw [Bool.eq_iff_iff]
  simp
theorem count_take (l : List En) (e : En) (k : Nat) (h : k < l.length) : (l.take (k + 1)).count e = (l.take k).count e + if l[k] = e then 1 else 0 := by
  rw [List.take_succ_eq_append_getElem h, List.count_append]
  by_cases he : l[k] = e
  · rw [he, if_pos rfl]
    simp
  · rw [if_neg he, List.count_singleton]
    simp [he]
set_option maxRecDepth 100000 in
theorem times_calls (l : List En) (e : En) (A : Option Addr) (c B : Nat) (w : World) (hm : l.length ≤ 140737488355328) (hr : Rds w B A (flatE l)) (hB : B ≤ w.heap.size) :
    Calls Try.prog 17 #[.slice A l.length c, .agg #[.string e.1, .string e.2]] w fun r w' => r = .returned (.int .i64 (l.count e)) ∧ Fr none_ w w' := by
  go_enter Try.func17, Try.ntmps17
  go_upto_region 1 with (fail)
  generalize hW0 : w.alloc (.cells _ _) = W0
  obtain ⟨g, hg⟩ : ∃ g, g = w.heap.size := ⟨_, rfl⟩
  have hb0 : Hd W0 g 43 [.string e.1, .string e.2] := by rw [← hW0, hg]; exact Hd.new w _ _
  have hF0 : Fr none_ w W0 := by rw [← hW0]; exact (Fr.refl _).alloc _
  rw [← hg]
  have hr0 := hr.fr hF0 (fun _ _ e => e)
  have HR := Lib.hid hr0
  have HB := Lib.hid hb0
  have HF := Lib.hid hF0
  clear hW0 hg hr hr0 hb0 hF0 hB
  repeat' (first | go_skip | go_guarded | ((fail_if_success (first | at_builtin | at_make)); go_step) | go_upon)
  go_loopw [5, 6] (fun s5 s6 wr => ∃ k : Nat, k ≤ l.length ∧ s6 = .int .i64 k ∧ s5 = .int .i64 ((l.take k).count e : Nat) ∧ Fr none_ W0 wr) (fun _ s6 _ => l.length - (intOf s6).toNat)
  case atStart => exact ⟨0, by omega, rfl, rfl, Fr.refl _⟩
  case round =>
    obtain ⟨k, hk, rfl, rfl, hFr⟩ := hrel
    by_cases hlt : k < l.length
    · obtain ⟨b, off, rfl, _, c0, c1⟩ := (HR.out.fr hFr (fun _ _ e => e)).en hlt
      have hb := hFr.keeps HB.out (fun e => e)
      have b0 := hb.cell (j := 0) rfl
      have b1 := hb.cell (j := 1) rfl
      have hct := count_take l e k hlt
      have hle : (l.take k).count e ≤ l.length := Nat.le_trans List.count_le_length (by simp; omega)
      obtain ⟨n, hn⟩ : ∃ n, (l.take k).count e = n := ⟨_, rfl⟩
      rw [hn] at hct hle
      rw [hn]
      have q := fun w => eqlEn w l[k] e
      obtain ⟨x, hx⟩ : ∃ x, l[k] = x := ⟨_, rfl⟩
      rw [hx] at c0 c1 hct
      simp only [hx] at q
      have HCT := Lib.hid hct
      have HFR := Lib.hid hFr
      obtain ⟨x0, hx0⟩ : ∃ y, x.1 = y := ⟨_, rfl⟩
      obtain ⟨x1, hx1⟩ : ∃ y, x.2 = y := ⟨_, rfl⟩
      obtain ⟨e0, he0⟩ : ∃ y, e.1 = y := ⟨_, rfl⟩
      obtain ⟨e1, he1⟩ : ∃ y, e.2 = y := ⟨_, rfl⟩
      rw [hx0] at c0
      rw [hx1] at c1
      rw [he0] at b0
      rw [he1] at b1
      simp only [hx0, hx1, he0, he1] at q
      clear hb hct hFr hn hx hx0 hx1 he0 he1
      by_cases he : x = e
      · have q1 : ∀ w, (binOp .eql 43 (.agg #[.string x0, .string x1]) (.agg #[.string e0, .string e1])).run Try.prog w = .ok (.bool true) w := fun w => by rw [q w]; simp [he]
        have HE := Lib.hid he
        clear q he
        repeat' (first | go_skip | go_guarded | ((fail_if_success (first | at_builtin | at_make)); go_step) | go_upon)
        refine wp_quiet_all mo' (by as_aux_lemma => kernel_rfl) ?_
        repeat (first | go_big_quiet_skip | (go_big_quiet_want; go_big_quiet_op; go_big_quiet_on))
        refine wpQuiet_nil ?_
        repeat' (first | go_skip | go_guarded | ((fail_if_success (first | at_builtin | at_make)); go_step) | go_upon)
        go_roundw
        case rel => exact ⟨k + 1, by omega, by go_num, by rw [HCT.out, if_pos HE.out]; go_num, HFR.out.drew⟩
        case measure => simp [intOf]; omega
      · have q1 : ∀ w, (binOp .eql 43 (.agg #[.string x0, .string x1]) (.agg #[.string e0, .string e1])).run Try.prog w = .ok (.bool false) w := fun w => by rw [q w]; simp [he]
        have HE := Lib.hid he
        clear q he
        repeat' (first | go_skip | go_guarded | ((fail_if_success (first | at_builtin | at_make)); go_step) | go_upon)
        refine wp_quiet_all mo' (by as_aux_lemma => kernel_rfl) ?_
        repeat (first | go_big_quiet_skip | (go_big_quiet_want; go_big_quiet_op; go_big_quiet_on))
        refine wpQuiet_nil ?_
        repeat' (first | go_skip | go_guarded | ((fail_if_success (first | at_builtin | at_make)); go_step) | go_upon)
        go_roundw
        case rel => exact ⟨k + 1, by omega, by go_num, by rw [HCT.out, if_neg HE.out]; rfl, HFR.out.drew⟩
        case measure => simp [intOf]; omega
    · obtain rfl : k = l.length := by omega
      have hz : (l.take l.length).count e = l.count e := by rw [List.take_length]
      rw [hz]
      clear hz
      have HFR := Lib.hid hFr
      clear hFr
      repeat' (first | go_skip | go_guarded | ((fail_if_success (first | at_builtin | at_make)); go_step) | go_upon)
      go_ret
      exact ⟨rfl, HF.out.then HFR.out⟩
end Go.Proofs.Yteibfhhbdpjpoaa
