import Derived.Test.YteibfhhbdpjpoaaWr2
/- wire: Text. -/
set_option linter.unusedVariables false
set_option linter.unusedSimpArgs false
namespace Go.Proofs.Yteibfhhbdpjpoaa
open Go.RowKit
set_option maxHeartbeats 4000000
set_option maxRecDepth 100000 in
theorem wtext_calls (h : Nat) (l : List Int) (s : ByteArray) (w : World) (hl : l.length + s.size + 64 < 1099511627776) (hw : WrAt w h l) :
    Calls Try.prog 34 #[.pointer (some ⟨h, 0, none⟩), .string s] w fun e w' => e = .returned (.tuple #[]) ∧ WrAt w' h (l ++ uvC 9 (s.size : Int) ++ sbytes s) ∧ Fr (fun k => h ≤ k) w w' := by
  have hu := uvC_length 9 (s.size : Int)
  have uc := uint_calls h l (s.size : Int) w (by omega) (by omega) (by omega) hw
  have rc := fun w1 hw1 => raw_calls h (l ++ uvC 9 (s.size : Int)) s w1 (by rw [List.length_append]; omega) hw1
  have UC := Lib.hid uc
  have RC := Lib.hid rc
  have hs : (s.size : Int) < 1099511627776 := by omega
  clear uc rc hl hu
  go_enter Try.func34, Try.ntmps34
  go_wp2_with fail
  refine UC.out.mono ?_
  rintro e w1 ⟨rfl, hw1, hF1⟩
  go_wp2_with fail
  refine (RC.out w1 hw1).mono ?_
  rintro e w2 ⟨rfl, hw2, hF2⟩
  go_wp2_with fail
  go_end0
  exact ⟨rfl, hw2, hF1.trans hF2 (fun _ _ e => e) (fun _ _ e => e)⟩
end Go.Proofs.Yteibfhhbdpjpoaa
