import Derived.Test.YteibfhhbdpjpoaaDg7
import Derived.Test.YteibfhhbdpjpoaaSkNew
/- wire: NewWriter, Byte, Raw. -/
set_option linter.unusedVariables false
set_option linter.unusedSimpArgs false
namespace Go.Proofs.Yteibfhhbdpjpoaa
open Go.RowKit
set_option maxHeartbeats 4000000
/-- a writer that holds some bytes, in memory of its own behind h -/
def WrAt (w : World) (h : Nat) (l : List Int) : Prop :=
  ∃ v, Hd w h 101 [v] ∧ w.ownsRow (h + 1) 5 1 v l.length (ints .u8 l)
theorem WrAt.lt {w : World} {h : Nat} {l : List Int} (hw : WrAt w h l) : h < w.heap.size := by
  obtain ⟨v, hd, _⟩ := hw
  exact hd.lt
theorem WrAt.fr {S : Nat → Prop} {w w' : World} {h : Nat} {l : List Int} (hw : WrAt w h l) (hf : Fr S w w') (hs : ∀ k, h ≤ k → ¬ S k) : WrAt w' h l := by
  obtain ⟨v, hd, ho⟩ := hw
  refine ⟨v, hf.keeps hd (hs h (Nat.le_refl _)), own_fr ho hf fun k hk => hs k ?_⟩
  obtain ⟨A, c, rfl⟩ := own_form ho
  cases A with
  | none => cases hk
  | some a =>
    rcases ho.2 with ⟨hv, _⟩ | ⟨g, cap, cur, hv, hb, _⟩
    · cases hv
    · rw [hv] at hk
      cases hk
      show h ≤ g
      exact Nat.le_of_succ_le hb
theorem own_above' {w : World} {h n k : Nat} {e : TypeId} {v : Value} {vs : List Value} (ho : w.ownsRow (h + 1) e 1 v n vs) (hk : v.ownBlock = some k) : ¬ (k < h + 1) := by
  obtain ⟨A, c, rfl⟩ := own_form ho
  rcases ho.2 with ⟨hv, _⟩ | ⟨g, cap, cur, hv, hb, _⟩
  · rw [hv] at hk
    cases hk
  · rw [hv] at hk
    cases hk
    exact Nat.not_lt_of_le hb
theorem own_above {w : World} {h n : Nat} {e : TypeId} {v : Value} {vs : List Value} (ho : w.ownsRow (h + 1) e 1 v n vs) (hk : v.ownBlock = some h) : False := own_above' ho hk (Nat.lt_succ_self h)
theorem infoU8' : (Try.prog.info? 5).map (fun i => (i.zero, i.size, i.bytes)) = some (some (.int .u8 0), 1, 1) := by kernel_rfl
theorem newWriter_calls (w : World) : Calls Try.prog 32 #[] w fun e w' => e = .returned (.pointer (some ⟨w.heap.size, 0, none⟩)) ∧ WrAt w' w.heap.size [] ∧ Fr none_ w w' := by
  go_enter Try.func32, Try.ntmps32
  go_wp2_with fail
  go_ret
  refine ⟨rfl, ⟨.slice none 0 0, Hd.new w _ _, ?_⟩, (Fr.refl _).alloc _⟩
  exact own_nil_ _ _ _ _
/-- the writer's bytes, one more -/
theorem byte_calls (h : Nat) (l : List Int) (x : Int) (w : World) (hx0 : 0 ≤ x) (hx1 : x < 256) (hl : l.length < 1099511627776) (hw : WrAt w h l) :
    Calls Try.prog 33 #[.pointer (some ⟨h, 0, none⟩), .int .u8 x] w fun e w' => e = .returned (.tuple #[]) ∧ WrAt w' h (l ++ [x]) ∧ Fr (fun k => h ≤ k) w w' := by
  obtain ⟨v, hd, ho⟩ := hw
  have hlt := hd.lt
  have c0 := hd.cell (j := 0) rfl
  have HL := Lib.hid hl
  clear hl
  go_enter Try.func33, Try.ntmps33
  go_wp2_with (at_builtin; refine wpList_append_sv rfl (.tmp 10) (.tmp 12) 80 rfl (h + 1) 5 _ 1 1 Try.underlying80 infoU8' rfl (by omega) v l.length (ints .u8 l) rfl ?own (some ⟨w.heap.size, 0, none⟩) 1 1 (w.heap.size + 1) (ints .u8 [x]) rfl ?hs (ints_one .u8 _) ?h63 ?hby ?hba ?_)
  case own => exact own_fr ho ((Fr.refl (S := none_) w).alloc _) (fun _ _ e => e)
  case hs => exact ⟨rfl, Nat.le_refl _, by unfold maxLen; omega, (fun h => by cases h), Rds.of_hd (Hd.new w 5 #[Value.int .u8 x]) (Nat.lt_succ_self _)⟩
  case h63 => have := HL.out; unfold maxLen; omega
  case hby => have := HL.out; omega
  case hba => simp; omega
  intro v' w1 hown hgr _
  obtain ⟨A', c', rfl⟩ := own_form hown
  have hne : ¬ (fun k => some k = v.ownBlock) h := fun e => own_above ho e.symm
  have hF1 := fr_grown hgr
  have hd1 := hF1.keeps (hd.alloc (.cells #[.int .u8 x] 5)) hne
  have c1 := hd1.cell (j := 0) rfl
  have f1 := hd1.free 0
  have hFs : Fr (fun k => h ≤ k) w w1 := ((Fr.refl (S := none_) w).alloc _).trans hF1 (fun _ _ e => e.elim) (fun k hk e => Nat.le_of_succ_le (Nat.le_of_not_lt fun hh => own_above' ho e.symm hh))
  clear hne hgr hF1
  go_wp2_with fail
  go_end0
  refine ⟨rfl, ⟨_, hd1.setCell (by simp) _, ?_⟩, hFs.setCell (.inr (Nat.le_refl _)) _⟩
  rw [List.length_append, ints_append]
  exact own_fr hown ((Fr.refl (S := fun k => k = h) w1).setCell (.inr rfl) _) (fun k hk e => own_above hown (by rw [hk, e]))
theorem strCells_ints (s : ByteArray) : Lib.strCells s = ints .u8 (sbytes s) := by
  unfold Lib.strCells ints sbytes
  rw [List.map_map]
  rfl
theorem infoU8p : ∃ i, Try.prog.info? 5 = some i ∧ i.zero = some (.int .u8 0) ∧ i.size = 1 ∧ i.bytes = 1 := by
  obtain ⟨i, hi, hz0, hz1, hz2⟩ := info_parts infoU8'
  exact ⟨i, hi, hz0, hz1, hz2⟩
/-- the writer's bytes, a text's more -/
theorem raw_calls (h : Nat) (l : List Int) (s : ByteArray) (w : World) (hl : l.length + s.size < 1099511627776) (hw : WrAt w h l) :
    Calls Try.prog 54 #[.pointer (some ⟨h, 0, none⟩), .string s] w fun e w' => e = .returned (.tuple #[]) ∧ WrAt w' h (l ++ sbytes s) ∧ Fr (fun k => h ≤ k) w w' := by
  obtain ⟨v, hd, ho⟩ := hw
  obtain ⟨i, hi, hz0, hz1, hz2⟩ := infoU8p
  have hlt := hd.lt
  have c0 := hd.cell (j := 0) rfl
  have HL := Lib.hid hl
  clear hl
  go_enter Try.func54, Try.ntmps54
  go_wp2_with (at_builtin; refine Lib.wpList_append_own_string _ rfl (.tmp 10) (.tmp 11) 80 9 rfl (h + 1) 5 i Try.underlying80 Try.underlying9 hi hz0 hz1 hz2 v l.length (ints .u8 l) rfl ho s rfl ?h63 ?hby (by omega) ?_)
  case h63 => have := HL.out; unfold maxLen; omega
  case hby => have := HL.out; omega
  intro v' w1 hown hgr _
  obtain ⟨A', c', rfl⟩ := own_form hown
  have hne : ¬ (fun k => some k = v.ownBlock) h := fun e => own_above ho e.symm
  have hF1 := fr_grown hgr
  have hd1 := hF1.keeps hd hne
  have c1 := hd1.cell (j := 0) rfl
  have f1 := hd1.free 0
  have hFs : Fr (fun k => h ≤ k) w w1 := (Fr.refl (S := none_) w).trans hF1 (fun _ _ e => e.elim) (fun k hk e => Nat.le_of_succ_le (Nat.le_of_not_lt fun hh => own_above' ho e.symm hh))
  clear hne hgr hF1
  go_wp2_with fail
  go_end0
  refine ⟨rfl, ⟨_, hd1.setCell (by simp) _, ?_⟩, hFs.setCell (.inr (Nat.le_refl _)) _⟩
  rw [List.length_append, ints_append, sbytes_length, ← strCells_ints]
  exact own_fr hown ((Fr.refl (S := fun k => k = h) w1).setCell (.inr rfl) _) (fun k hk e => own_above hown (by rw [hk, e]))
end Go.Proofs.Yteibfhhbdpjpoaa
