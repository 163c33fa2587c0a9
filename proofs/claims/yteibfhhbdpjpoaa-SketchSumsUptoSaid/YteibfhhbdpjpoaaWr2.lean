import Derived.Test.YteibfhhbdpjpoaaWr1
/- wire: Uint. -/
set_option linter.unusedVariables false
set_option linter.unusedSimpArgs false
namespace Go.Proofs.Yteibfhhbdpjpoaa
open Go.RowKit
set_option maxHeartbeats 4000000
/-- a number to the base 128 -/
def uvC : Nat → Int → List Int
  | 0, y => [y]
  | f + 1, y => if y < 128 then [y] else Go.bits .or .u8 (y % 256) 128 :: uvC f (y / 128)
theorem uvC_small (f : Nat) (y : Int) (h : y < 128) : uvC f y = [y] := by
  cases f with
  | zero => rfl
  | succ f => unfold uvC; rw [if_pos h]
theorem uvC_more (f : Nat) (y : Int) (h : 128 ≤ y) : uvC (f + 1) y = Go.bits .or .u8 (y % 256) 128 :: uvC f (y / 128) := by
  rw [uvC, if_neg (by omega)]
theorem uvC_length (f : Nat) (y : Int) : (uvC f y).length ≤ f + 1 := by
  induction f generalizing y with
  | zero => simp [uvC]
  | succ f ih =>
    unfold uvC
    split
    · simp
    · simp only [List.length_cons]
      have := ih (y / 128)
      omega
set_option maxRecDepth 100000 in
theorem uint_calls (h : Nat) (l : List Int) (x : Int) (w : World) (hx0 : 0 ≤ x) (hx1 : x < 18446744073709551616) (hl : l.length + 32 < 1099511627776) (hw : WrAt w h l) :
    Calls Try.prog 53 #[.pointer (some ⟨h, 0, none⟩), .int .u64 x] w fun e w' => e = .returned (.tuple #[]) ∧ WrAt w' h (l ++ uvC 9 x) ∧ Fr (fun k => h ≤ k) w w' := by
  have HX := Lib.hid (show x < 128 ^ (9 + 1) by omega)
  have HL := Lib.hid hl
  clear hl hx1
  go_enter Try.func53, Try.ntmps53
  go_wp2_with fail
  go_loopw [1] (fun s wr => ∃ (f : Nat) (y : Int) (l' : List Int), 0 ≤ y ∧ y < 128 ^ (f + 1) ∧ s = .int .u64 y ∧ WrAt wr h l' ∧ Fr (fun k => h ≤ k) w wr ∧ l' ++ uvC f y = l ++ uvC 9 x ∧ l'.length + f = l.length + 9) (fun s _ => (intOf s).toNat)
  case atStart => exact ⟨9, x, l, hx0, HX.out, rfl, hw, Fr.refl _, rfl, rfl⟩
  case round =>
    obtain ⟨f, y, l', hy, hy1, rfl, ⟨v, hd, ho⟩, hF, hq, hn⟩ := hrel
    have hlt := hd.lt
    have c0 := hd.cell (j := 0) rfl
    have HY := Lib.hid hy1
    have HQ := Lib.hid hq
    have HN := Lib.hid hn
    clear hw hx0 HX hy1 hq
    by_cases h8 : y < 128
    · clear hn
      have hn := HN.out
      go_wp2_with (at_builtin; refine wpList_append_sv rfl (.tmp 26) (.tmp 29) 80 rfl (h + 1) 5 _ 1 1 Try.underlying80 infoU8' rfl (by omega) v l'.length (ints .u8 l') rfl ?own (some ⟨wr.heap.size, 0, none⟩) 1 1 (wr.heap.size + 1) (ints .u8 [y]) rfl ?hs (ints_one .u8 _) ?h63 ?hby ?hba ?_)
      case own => exact own_fr ho ((Fr.refl (S := none_) wr).alloc _) (fun _ _ e => e)
      case hs => exact ⟨rfl, Nat.le_refl _, by unfold maxLen; omega, (fun h => by cases h), Rds.of_hd (Hd.new wr 5 #[Value.int .u8 (y)]) (Nat.lt_succ_self _)⟩
      case h63 => have := HL.out; unfold maxLen; omega
      case hby => have := HL.out; omega
      case hba => first | omega | (simp; omega)
      intro v' w1 hown hgr _
      obtain ⟨A', c', rfl⟩ := own_form hown
      have hne : ¬ (fun k => some k = v.ownBlock) h := fun e => own_above ho e.symm
      have hF1 := fr_grown hgr
      have hd1 := hF1.keeps (hd.alloc (.cells #[Value.int .u8 (y)] 5)) hne
      have c1 := hd1.cell (j := 0) rfl
      have f1 := hd1.free 0
      have hFs : Fr (fun k => h ≤ k) w w1 := (hF.alloc _).trans hF1 (fun _ _ e => e) (fun k hk e => Nat.le_of_succ_le (Nat.le_of_not_lt fun hh => own_above' ho e.symm hh))
      clear hne hgr hF1 hd ho hF c0
      go_wp2_with fail
      go_end0
      refine ⟨rfl, ⟨_, hd1.setCell (by simp) _, ?_⟩, hFs.setCell (.inr (Nat.le_refl _)) _⟩
      rw [← HQ.out, uvC_small f y h8, List.length_append, ints_append]
      exact own_fr hown ((Fr.refl (S := fun k => k = h) w1).setCell (.inr rfl) _) (fun k hk e => own_above hown (by rw [hk, e]))
    · have h8' : 128 ≤ y := by omega
      go_wp2_with (at_builtin; refine wpList_append_sv rfl (.tmp 12) (.tmp 16) 80 rfl (h + 1) 5 _ 1 1 Try.underlying80 infoU8' rfl (by omega) v l'.length (ints .u8 l') rfl ?own (some ⟨wr.heap.size, 0, none⟩) 1 1 (wr.heap.size + 1) (ints .u8 [Go.bits .or .u8 (y % 256) 128]) rfl ?hs (ints_one .u8 _) ?h63 ?hby ?hba ?_)
      case own => exact own_fr ho ((Fr.refl (S := none_) wr).alloc _) (fun _ _ e => e)
      case hs => exact ⟨rfl, Nat.le_refl _, by unfold maxLen; omega, (fun h => by cases h), Rds.of_hd (Hd.new wr 5 #[Value.int .u8 (Go.bits .or .u8 (y % 256) 128)]) (Nat.lt_succ_self _)⟩
      case h63 => have := HL.out; unfold maxLen; omega
      case hby => have := HL.out; omega
      case hba => first | omega | (simp; omega)
      intro v' w1 hown hgr _
      obtain ⟨A', c', rfl⟩ := own_form hown
      have hne : ¬ (fun k => some k = v.ownBlock) h := fun e => own_above ho e.symm
      have hF1 := fr_grown hgr
      have hd1 := hF1.keeps (hd.alloc (.cells #[Value.int .u8 (Go.bits .or .u8 (y % 256) 128)] 5)) hne
      have c1 := hd1.cell (j := 0) rfl
      have f1 := hd1.free 0
      have hFs : Fr (fun k => h ≤ k) w w1 := (hF.alloc _).trans hF1 (fun _ _ e => e) (fun k hk e => Nat.le_of_succ_le (Nat.le_of_not_lt fun hh => own_above' ho e.symm hh))
      clear hne hgr hF1 hd ho hF c0
      go_wp2_with fail
      go_roundw
      case rel =>
        obtain ⟨f', rfl⟩ : ∃ f', f = f' + 1 := ⟨f - 1, by cases f with | zero => exact absurd HY.out (by omega) | succ f => rfl⟩
        refine ⟨f', y / 128, l' ++ [Go.bits .or .u8 (y % 256) 128], by omega, ?_, rfl, ⟨_, hd1.setCell (by simp) _, ?_⟩, hFs.setCell (.inr (Nat.le_refl _)) _, ?_, ?_⟩
        · have := HY.out
          rw [Int.pow_succ] at this
          omega
        · rw [List.length_append, ints_append]
          exact own_fr hown ((Fr.refl (S := fun k => k = h) w1).setCell (.inr rfl) _) (fun k hk e => own_above hown (by rw [hk, e]))
        · rw [← HQ.out, uvC_more f' y h8', List.append_assoc]
          rfl
        · rw [List.length_append]
          have := HN.out
          simp only [List.length_singleton]
          omega
      case measure =>
        show (y / 128).toNat < y.toNat
        omega
end Go.Proofs.Yteibfhhbdpjpoaa
