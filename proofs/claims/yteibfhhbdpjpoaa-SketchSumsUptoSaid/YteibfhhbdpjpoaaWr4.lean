import Derived.Test.YteibfhhbdpjpoaaWr3
import Derived.Lib.BufferRead
/- wire: Told. -/
set_option linter.unusedVariables false
set_option linter.unusedSimpArgs false
namespace Go.Proofs.Yteibfhhbdpjpoaa
open Go.RowKit
set_option maxHeartbeats 4000000
theorem toldRun (w : World) (h : Nat) (s : ByteArray) (v : Value) (ho : w.ownsRow (h + 1) 5 1 v (sbytes s).length (ints .u8 (sbytes s))) :
    (convert 80 9 v).run Try.prog w = .ok (.string s) w := by
  obtain ⟨A, c, rfl⟩ := own_form ho
  have hlen : (sbytes s).length = s.data.toList.length := by unfold sbytes; rw [List.length_map]
  cases A with
  | none =>
    have h0 : (sbytes s).length = 0 ∧ c = 0 := by
      rcases ho.2 with ⟨hv, hn⟩ | ⟨g, cap, cur, hv, hb, _⟩
      · injection hv with e1 e2 e3
        exact ⟨hn, e3⟩
      · cases hv
    have hs : s = ⟨#[]⟩ := by
      have h1 : s.data.toList = [] := List.eq_nil_of_length_eq_zero (by omega)
      cases s with
      | mk d =>
        congr
        exact Array.toList_eq_nil_iff.1 h1
    rw [h0.1, Lib.run_convert_nil_bytes w 80 9 5 c Try.underlying80 Try.underlying5 Try.underlying9, hs]
  | some a =>
    obtain ⟨g, rfl⟩ : ∃ g, a = ⟨g, 0, none⟩ := by
      rcases ho.2 with ⟨hv, hn⟩ | ⟨g, cap, cur, hv, hb, _⟩
      · cases hv
      · injection hv with e1 e2 e3
        injection e1 with e1
        exact ⟨g, e1⟩
    have hd := (own_hd ho).2
    rw [hlen]
    refine run_convert_bytes_back w 80 9 5 ⟨g, 0, none⟩ c s.data.toList Try.underlying80 Try.underlying5 Try.underlying9 fun j hj => ?_
    rw [add_at, Nat.zero_add]
    refine hd.cell ?_
    have hj' : j < s.data.size := hj
    simp [ints, sbytes]
    exact ⟨s.data[j], Array.getElem?_eq_getElem hj', rfl⟩
theorem told_calls (h : Nat) (s : ByteArray) (w : World) (hw : WrAt w h (sbytes s)) :
    Calls Try.prog 35 #[.pointer (some ⟨h, 0, none⟩)] w fun e w' => e = .returned (.string s) ∧ w' = w := by
  obtain ⟨v, hd, ho⟩ := hw
  have c0 := hd.cell (j := 0) rfl
  have q := toldRun w h s v ho
  clear hd ho
  go_enter Try.func35, Try.ntmps35
  go_wp2_with fail
  go_ret
  exact ⟨rfl, rfl⟩
end Go.Proofs.Yteibfhhbdpjpoaa
