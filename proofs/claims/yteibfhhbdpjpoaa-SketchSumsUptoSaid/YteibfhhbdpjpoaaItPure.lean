import Derived.Test.YteibfhhbdpjpoaaWr4
/- sketch.Item: the plain functions. -/
set_option linter.unusedVariables false
set_option linter.unusedSimpArgs false
namespace Go.Proofs.Yteibfhhbdpjpoaa
open Go.RowKit
def bytesOf (l : List Int) : ByteArray := ⟨(l.map fun x => UInt8.ofNat x.toNat).toArray⟩
def Bytey (l : List Int) : Prop := ∀ x ∈ l, 0 ≤ x ∧ x < 256
theorem bytesOf_back (l : List Int) (h : Bytey l) : sbytes (bytesOf l) = l := by
  induction l with
  | nil => rfl
  | cons x r ih =>
    have h1 := h x (List.mem_cons_self ..)
    have h2 := ih fun y hy => h y (List.mem_cons_of_mem _ hy)
    unfold sbytes bytesOf at h2 ⊢
    simp only [List.map_cons, List.map_map] at h2 ⊢
    rw [h2]
    congr 1
    simp only [UInt8.toNat_ofNat']
    omega
theorem Bytey.sbytes (s : ByteArray) : Bytey (sbytes s) := by
  intro x hx
  unfold Go.Proofs.Yteibfhhbdpjpoaa.sbytes at hx
  obtain ⟨b, _, rfl⟩ := List.mem_map.1 hx
  have := b.toNat_lt
  omega
theorem Bytey.append {l m : List Int} (h1 : Bytey l) (h2 : Bytey m) : Bytey (l ++ m) := fun x hx => (List.mem_append.1 hx).elim (h1 x) (h2 x)
theorem wrapByte (z : Int) : 0 ≤ IntKind.u8.wrap z ∧ IntKind.u8.wrap z < 256 := by
  have h : IntKind.u8.wrap z = z % 256 := by unfold IntKind.wrap; rfl
  omega
theorem orByte (a : Int) : 0 ≤ Go.bits .or .u8 a 128 ∧ Go.bits .or .u8 a 128 < 256 := wrapByte _
theorem uvC_bytey (f : Nat) (y : Int) (h0 : 0 ≤ y) (h1 : y < 128 ^ (f + 1)) : Bytey (uvC f y) := by
  induction f generalizing y with
  | zero =>
    intro x hx
    rw [uvC, List.mem_singleton] at hx
    subst hx
    omega
  | succ f ih =>
    unfold uvC
    split
    · intro x hx
      rw [List.mem_singleton] at hx
      subst hx
      omega
    · intro x hx
      rcases List.mem_cons.1 hx with rfl | hx
      · exact orByte _
      · refine ih (y / 128) (by omega) ?_ x hx
        rw [Int.pow_succ] at h1
        omega
/-- what Item hands to its second digest -/
def itemText (k s : ByteArray) : List Int := [73] ++ (uvC 9 (k.size : Int) ++ sbytes k) ++ (uvC 9 (s.size : Int) ++ sbytes s)
theorem itemText_bytey (k s : ByteArray) (h1 : k.size < 1099511627776) (h2 : s.size < 1099511627776) : Bytey (itemText k s) := by
  unfold itemText
  refine ((show Bytey [73] from fun x hx => by rw [List.mem_singleton] at hx; omega).append ((uvC_bytey _ _ (by omega) (by omega)).append (Bytey.sbytes k))).append ((uvC_bytey _ _ (by omega) (by omega)).append (Bytey.sbytes s))
/-- an entry's item out of the two digests -/
def itemFrom (K D : List Int) : Nat → Int
  | 0 => Go.bits .or .u64 (K.getD 0 default * 16 % 18446744073709551616) (K.getD 1 default / 16)
  | j + 1 => Go.bits .or .u64 (itemFrom K D j * 256 % 18446744073709551616) (D.getD j default)
noncomputable def itemC (k s : ByteArray) : Int := itemFrom (sumC (sbytes (⟨#[75]⟩ ++ k))) (sumC (itemText k s)) 6
end Go.Proofs.Yteibfhhbdpjpoaa
