import Derived.Test.YteibfhhbdpjpoaaDgPure
/- The digest's plain functions, more. -/
set_option linter.unusedVariables false
set_option linter.unusedSimpArgs false
namespace Go.Proofs.Yteibfhhbdpjpoaa
open Go.RowKit
def sbytes (s : ByteArray) : List Int := s.data.toList.map fun b => (b.toNat : Int)
theorem sbytes_length (s : ByteArray) : (sbytes s).length = s.size := by unfold sbytes; rw [List.length_map]; rfl
/-- the digest's bytes out of its words -/
def outFrom (st : List Int) : Nat → List Int
  | 0 => List.replicate 32 0
  | i + 1 => ((((outFrom st i).set (4 * i) (st.getD i default / 16777216 % 256)).set (4 * i + 1) (st.getD i default / 65536 % 256)).set (4 * i + 2) (st.getD i default / 256 % 256)).set (4 * i + 3) (st.getD i default % 256)
theorem outFrom_length (st : List Int) (i : Nat) : (outFrom st i).length = 32 := by
  induction i with
  | zero => rfl
  | succ i ih => unfold outFrom; simp only [List.length_set]; exact ih
/-- the digest of bytes -/
def digC (step : List Int → List Int → List Int) (z : List Int) (p : List Int) : List Int :=
  let h := wrote step p.length startC z 0 p
  outFrom (wrote step (fillC p.length).length h.1 h.2.1 h.2.2 (fillC p.length)).1 8
theorem wrote_lengths (step : List Int → List Int → List Int) (hs : ∀ S B, S.length = 8 → (step S B).length = 8) : ∀ (f : Nat) (st rest : List Int) (held : Nat) (p : List Int), st.length = 8 → rest.length = 64 → held < 64 →
    (wrote step f st rest held p).1.length = 8 ∧ (wrote step f st rest held p).2.1.length = 64 ∧ (wrote step f st rest held p).2.2 < 64
  | 0, st, rest, held, p, h1, h2, h3 => ⟨h1, h2, h3⟩
  | f + 1, st, rest, held, p, h1, h2, h3 => by
    unfold wrote
    by_cases h0 : p.length = 0
    · rw [if_pos h0]; exact ⟨h1, h2, h3⟩
    · rw [if_neg h0]
      by_cases ha : held = 0 ∧ 64 ≤ p.length
      · rw [if_pos ha]; exact wrote_lengths step hs f _ _ _ _ (hs _ _ h1) h2 (by omega)
      · rw [if_neg ha]
        have hl : (rest.take held ++ p.take (min (64 - held) p.length) ++ rest.drop (held + min (64 - held) p.length)).length = 64 := by
          simp only [List.length_append, List.length_take, List.length_drop]
          omega
        by_cases hb : held + min (64 - held) p.length = 64
        · rw [if_pos hb]; exact wrote_lengths step hs f _ _ _ _ (hs _ _ h1) hl (by omega)
        · rw [if_neg hb]; exact wrote_lengths step hs f _ _ _ _ h1 hl (by omega)
end Go.Proofs.Yteibfhhbdpjpoaa
