import Derived.Test.YteibfhhbdpjpoaaSk2
import Derived.Test.YteibfhhbdpjpoaaMem
import Derived.WalkSpells
/- The walks of New, Clone, From, Cells. -/
set_option linter.unusedVariables false
set_option linter.unusedSimpArgs false
namespace Go.Proofs.Yteibfhhbdpjpoaa
open Go.RowKit
set_option maxHeartbeats 2000000
theorem infoSC : (Try.prog.info? 63).map (fun i => (i.zero, i.size, i.bytes)) = some (some (.agg #[.int .i16 0, .int .u64 0, .int .u32 0]), 3, 24) := by kernel_rfl
theorem sizeSC : (Try.prog.info? 63).map (·.size) = some 3 := by kernel_rfl
theorem flatC_one (l : List SC) : ∀ u ∈ flatC l, u.oneCell' = true := by
  intro u hu
  simp only [flatC, List.mem_flatMap, SC.vs] at hu
  obtain ⟨s, _, hs⟩ := hu
  simp at hs
  rcases hs with rfl | rfl | rfl <;> rfl
theorem own_nil_ (W : World) (base : Nat) (e : TypeId) (size : Nat) : W.ownsRow base e size (.slice none 0 0) 0 [] := ⟨by simp, .inl ⟨rfl, rfl⟩⟩
/-- What a copy of a slice comes to: a row of the call's own that reads the same. -/
def Cloned (w : World) (T sz n : Nat) (vs : List Value) (e : Ending) (w' : World) : Prop :=
  ∃ A c, e = .returned (.slice A n c) ∧ w'.ownsRow w.heap.size T sz (.slice A n c) n vs ∧ Fr none_ w w'
theorem clone_calls (A : Option Addr) (n c B : Nat) (l : List SC) (w : World) (hsv : SV w B 3 A n c (flatC l)) (hb : n * 24 ≤ 140737488355328) :
    Calls Try.prog 27 #[.slice A n c] w (Cloned w 63 3 n (flatC l)) := by
  have hlt := hsv.lt
  cases A with
  | none =>
    have hc := hsv.nil rfl
    have hn : n = 0 := by have := hsv.le; omega
    subst hc
    subst hn
    have hl : flatC l = [] := List.eq_nil_of_length_eq_zero (by simpa using hsv.len)
    rw [hl]
    clear hl hsv
    have q := fun (W : World) => Lib.run_eql_slice_nil (P := Try.prog) W 22 63 none 0 0 0 0 Try.underlying22
    go_enter Try.func27, Try.ntmps27
    go_wp2_with fail
    go_ret
    exact ⟨none, 0, rfl, own_nil_ _ _ _ _, Fr.refl _⟩
  | some ad =>
    have q := fun (W : World) => Lib.run_eql_slice_nil (P := Try.prog) W 22 63 (some ad) n c 0 0 Try.underlying22
    go_enter Try.func27, Try.ntmps27
    go_wp2_with (at_builtin; refine wpList_append_sv rfl (.tmp 5) (.tmp 6) 22 rfl w.heap.size 63 _ 3 24 Try.underlying22 infoSC rfl (by omega) _ 0 [] rfl (World.ownsRow_made w #[] 0 (Nat.le_refl _) (by unfold maxLen; omega) rfl) (some ad) n c B (flatC l) rfl ?hs (flatC_one l) ?h63 ?hby ?hba ?_)
    case hs => exact hsv.fr ((Fr.refl (S := none_) w).alloc _) (fun _ _ e => e)
    case h63 => unfold maxLen; omega
    case hby => omega
    case hba => simp
    intro v' w' hown hgr _
    go_wp2_with fail
    go_ret
    obtain ⟨A', c', hv⟩ := own_form hown
    refine ⟨A', c', by rw [hv]; rfl, by rw [← hv]; exact hown, ((Fr.refl (S := none_) w).alloc _).trans (fr_grown hgr) (fun _ _ e => e) (fun k hk e => ?_)⟩
    have : w.heap.size = k := by simpa [Value.ownBlock] using e.symm
    omega
/-- What New comes to: a sketch of n zeros. -/
def SkAt (w : World) (p g : Nat) (l : List SC) : Prop :=
  ∃ c, l.length ≤ c ∧ c ≤ maxLen ∧ w.cell? ⟨p, 0, none⟩ = some (.slice (some ⟨g, 0, none⟩) l.length c) ∧ Hd w g 63 (flatC l)
def Made (w : World) (l : List SC) (e : Ending) (w' : World) : Prop :=
  ∃ p g, e = .returned (.tuple #[.pointer (some ⟨p, 0, none⟩), .int .i64 0]) ∧ w.heap.size ≤ p ∧ w.heap.size ≤ g ∧ SkAt w' p g l ∧ Fr none_ w w'
def zeroSC : SC := ⟨0, 0, 0⟩
theorem madeSC (n : Nat) : (madeCells (Value.cells (.agg #[.int .i16 0, .int .u64 0, .int .u32 0])) (n * 3)).toList = flatC (List.replicate n zeroSC) := by
  refine List.ext_getElem? fun i => ?_
  by_cases h : i < n * 3
  · obtain ⟨q, r, hr, rfl⟩ : ∃ q r, r < 3 ∧ i = q * 3 + r := ⟨i / 3, i % 3, by omega, by omega⟩
    have hq : q < n := by omega
    have hl : q < (List.replicate n zeroSC).length := by simpa using hq
    have hz : (List.replicate n zeroSC).getD q default = zeroSC := by simp [hq]
    have hd : (madeCells (Value.cells (.agg #[.int .i16 0, .int .u64 0, .int .u32 0])) (n * 3)).toList[q * 3 + r]? = some ((#[Value.int .i16 0, .int .u64 0, .int .u32 0])[(q * 3 + r) % 3]!) := by
      simp [madeCells, h, Value.cells]
    rw [hd, show (q * 3 + r) % 3 = r by omega]
    match r, hr with
    | 0, _ => rw [Nat.add_zero, flatC_at0 _ _ hl, hz]; rfl
    | 1, _ => rw [flatC_at1 _ _ hl, hz]; rfl
    | 2, _ => rw [flatC_at2 _ _ hl, hz]; rfl
  · rw [List.getElem?_eq_none (by simp [size_madeCells]; omega), List.getElem?_eq_none (by rw [flatC_length]; simp; omega)]
theorem new_no (n : Int) (w : World) (h : n < 3 ∨ 256 < n) :
    Calls Try.prog 9 #[.int .i64 n] w fun e w' => e = .returned (.tuple #[.pointer none, .int .i64 1]) ∧ w = w' := by
  go_enter Try.func9, Try.ntmps9
  rcases h with h | h
  · have h1 : decide (n < 3) = true := by simpa using h
    go_wp2
    go_ret2
    exact ⟨rfl, rfl⟩
  · have h1 : ¬ n < 3 := by omega
    go_wp2
    go_ret2
    exact ⟨rfl, rfl⟩
theorem new_yes (n : Nat) (w : World) (h3 : 3 ≤ n) (h : n ≤ 256) :
    Calls Try.prog 9 #[.int .i64 (n : Int)] w (Made w (List.replicate n zeroSC)) := by
  have h1 : ¬ (n : Int) < 3 := by omega
  have h2 : ¬ 256 < (n : Int) := by omega
  go_enter Try.func9, Try.ntmps9
  obtain ⟨i, hi, hz0, hz1, hz2⟩ := info_parts infoSC
  go_wp2_with (at_make; refine wpList_make_full _ rfl _ _ 22 rfl w.heap.size 63 i _ 3 Try.underlying22 hi hz0 hz1 _ _ _ _ n rfl rfl rfl rfl ?hby ?h63 ?hba ?_)
  case hby => omega
  case h63 => unfold maxLen; omega
  intro w1 hown hgr
  go_wp2_with fail
  go_ret2
  have hd := (own_hd hown).2
  rw [show (madeCells #[.int .i16 0, .int .u64 0, .int .u32 0] (n * 3)).toList = flatC (List.replicate n zeroSC) from madeSC n] at hd
  have hF : Fr none_ w w1 := (fr_grown hgr).mono (fun _ _ e => by cases e)
  refine ⟨w1.heap.size, w.heap.size, rfl, hF.size, Nat.le_refl _, ⟨n, by simp, by unfold maxLen; omega, ?_, hd.alloc _⟩, hF.alloc _⟩
  simp
theorem from_no (A : Option Addr) (n c : Nat) (w : World) (h : n < 3 ∨ 256 < n) (hn : n ≤ 9223372036854775807) :
    Calls Try.prog 7 #[.slice A n c] w fun e w' => e = .returned (.tuple #[.pointer none, .int .i64 1]) ∧ w = w' := by
  go_enter Try.func7, Try.ntmps7
  go_wp2_with (go_at_call 9; refine (new_no _ _ (by omega)).mono ?_; rintro e w' ⟨rfl, rfl⟩)
  go_ret2
  exact ⟨rfl, rfl⟩
theorem from_yes (A : Option Addr) (c B : Nat) (l : List SC) (w : World) (h3 : 3 ≤ l.length) (h : l.length ≤ 256) (hsv : SV w B 3 A l.length c (flatC l)) (hB : B ≤ w.heap.size) :
    Calls Try.prog 7 #[.slice A l.length c] w (Made w l) := by
  have hlt := hsv.lt
  go_enter Try.func7, Try.ntmps7
  go_wp2_with fail
  refine (new_yes l.length w h3 h).mono ?_
  rintro e w1 ⟨p, g, rfl, hp, hg, ⟨c1, hc1, hc2, hc, hd⟩, hF⟩
  simp only [List.length_replicate] at hc hc1
  have hpg : p ≠ g := by
    rintro rfl
    have := hd.cell (flatC_at0 _ 0 (by simp; omega))
    rw [Nat.zero_mul, hc] at this
    cases this
  have hsv1 := hsv.fr hF (fun _ _ e => e)
  go_wp2_with (with_reducible refine wpList_copy_sv rfl (.tmp 18) (.tmp 19) 22 22 rfl 63 Try.underlying22 3 sizeSC g l.length c1 A l.length c B (flatC l) rfl rfl hsv1 63 _ hd rfl ?hv (flatC_one l) ?_)
  case hv => rw [flatC_length]; simp
  intro w2 hd2 hF2
  have hc' := hF2.cell hc hpg
  go_wp2_with fail
  go_ret2
  exact ⟨p, g, rfl, hp, hg, ⟨c1, hc1, hc2, hc', hd2⟩, hF.trans hF2 (fun _ _ e => e) (fun k hk e => by omega)⟩
theorem cells_calls (p g : Nat) (l : List SC) (w : World) (hs : SkAt w p g l) (hl : l.length ≤ 256) :
    Calls Try.prog 12 #[.pointer (some ⟨p, 0, none⟩)] w (Cloned w 63 3 l.length (flatC l)) := by
  obtain ⟨c, h1, h2, hc, hd⟩ := hs
  have hsv : SV w w.heap.size 3 (some ⟨g, 0, none⟩) l.length c (flatC l) := ⟨flatC_length l, h1, h2, (fun h => by cases h), .of_hd hd hd.lt⟩
  go_enter Try.func12, Try.ntmps12
  go_wp2_with fail
  refine (clone_calls _ _ _ _ l w hsv (by omega)).mono ?_
  rintro e w1 ⟨A, c', rfl, hown, hF⟩
  go_wp2_with fail
  go_ret
  exact ⟨A, c', rfl, hown, hF⟩
theorem add_calls (x : Int) (p g : Nat) (l : List SC) (w : World) (hs : SkAt w p g l) (h3 : 3 ≤ l.length) (hl : l.length ≤ 256) :
    Calls Try.prog 13 #[.pointer (some ⟨p, 0, none⟩), .int .u64 x] w fun e w' => e = .returned (.tuple #[]) ∧ SkAt w' p g (layL l x 1) ∧ Fr (· = g) w w' := by
  obtain ⟨c, h1, h2, hc, hd⟩ := hs
  have hpg : p ≠ g := by
    rintro rfl
    have := hd.cell (flatC_at0 _ 0 (by omega))
    rw [Nat.zero_mul, hc] at this
    cases this
  go_enter Try.func13, Try.ntmps13
  go_wp2_with fail
  refine (lay_calls x 1 p g l c w h3 hl hc hd).mono ?_
  rintro e w1 ⟨rfl, hd1, hF⟩
  have hc' := hF.cell hc hpg
  rw [← layL_length l x 1] at hc' h1
  go_wp2_with fail
  go_end0
  exact ⟨rfl, ⟨c, h1, h2, hc', hd1⟩, hF⟩
theorem take_calls (x : Int) (p g : Nat) (l : List SC) (w : World) (hs : SkAt w p g l) (h3 : 3 ≤ l.length) (hl : l.length ≤ 256) :
    Calls Try.prog 14 #[.pointer (some ⟨p, 0, none⟩), .int .u64 x] w fun e w' => e = .returned (.tuple #[]) ∧ SkAt w' p g (layL l x (-1)) ∧ Fr (· = g) w w' := by
  obtain ⟨c, h1, h2, hc, hd⟩ := hs
  have hpg : p ≠ g := by
    rintro rfl
    have := hd.cell (flatC_at0 _ 0 (by omega))
    rw [Nat.zero_mul, hc] at this
    cases this
  go_enter Try.func14, Try.ntmps14
  go_wp2_with fail
  refine (lay_calls x (-1) p g l c w h3 hl hc hd).mono ?_
  rintro e w1 ⟨rfl, hd1, hF⟩
  have hc' := hF.cell hc hpg
  rw [← layL_length l x (-1)] at hc' h1
  go_wp2_with fail
  go_end0
  exact ⟨rfl, ⟨c, h1, h2, hc', hd1⟩, hF⟩
end Go.Proofs.Yteibfhhbdpjpoaa
