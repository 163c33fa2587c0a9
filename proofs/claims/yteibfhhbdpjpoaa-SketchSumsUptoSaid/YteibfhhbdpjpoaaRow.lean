/- SketchSums: what is proved: for every two lists of entries and every number of cells, together of bulk at most 1048576, concordlaw16.SketchSums returns true, and its arguments read as they did. -/
import Derived.Test.YteibfhhbdpjpoaaRows
import Derived.Test.YteibfhhbdpjpoaaChecked
import Derived.Test.YteibfhhbdpjpoaaSums
import Derived.ProofKit
import Derived.OpenShut
import Derived.JoinedCond
import Derived.Deep.Slices
import Derived.Deep.Fields
import Derived.Carry
/- SketchSums: the row. -/
set_option linter.unusedVariables false
set_option linter.unusedSimpArgs false
namespace Go.Proofs.Yteibfhhbdpjpoaa
open Go.ChangeShapes Go.WideShapes Go.ChangeAt Go.RowKit Go.Deep
theorem own : ownKnob Try.prog.godebug = none := by kernel_rfl
theorem laidOut : laidOutB Try.prog = true := by kernel_rfl
def enD {H : Type} (e : En) : DataW H := .agg [.lit (.string e.k.data.toList), .lit (.string e.s.data.toList)]
theorem cells43 : Try.prog.cellsOf 43 = 2 := by kernel_rfl
theorem str_len (s : ByteArray) : s.data.toList.length = s.size := by rw [Array.length_toList]; rfl
theorem bulk_all {H : Type} {d : DataW H} {l : List (DataW H)} (h : d ∈ l) : Rows.uptoBulk d ≤ Rows.uptoBulkAll l := by
  induction l with
  | nil => cases h
  | cons x r ih =>
    simp only [Rows.uptoBulkAll]
    cases List.mem_cons.1 h with
    | inl e => subst e; omega
    | inr e => have := ih e; omega
theorem bulk_pos {H : Type} (d : DataW H) : 1 ≤ Rows.uptoBulk d := by
  cases d with
  | lit l => cases l <;> simp [Rows.uptoBulk]
  | nil => simp [Rows.uptoBulk]
  | ptr d => simp [Rows.uptoBulk]
  | slice elems spare => simp [Rows.uptoBulk]
  | agg parts => simp [Rows.uptoBulk]
  | iface t d => simp [Rows.uptoBulk]
  | map entries => simp [Rows.uptoBulk]
  | held h => simp [Rows.uptoBulk]
theorem bulk_len {H : Type} (l : List (DataW H)) : l.length ≤ Rows.uptoBulkAll l := by
  induction l with
  | nil => simp [Rows.uptoBulkAll]
  | cons x r ih => have := bulk_pos x; simp only [Rows.uptoBulkAll, List.length_cons]; omega
section
variable {H : Type} {enc : TypeId × Value → H} {w : World} {spare : Nat → Bool} {held : Bool}
set_option maxRecDepth 100000 in
/-- one entry in memory -/
theorem open_one {n : Nat} {cs : List Value} {x : DataW H × List MemPlace} (h : DataW.trod enc Try.prog w 0 spare held n 43 cs = some x) :
    ∃ e : En, x.1 = enD e ∧ cs[0]? = some (.string e.k) ∧ cs[1]? = some (.string e.s) := by
  obtain ⟨f0, f1, hu, o0, t0, o1, t1⟩ : ∃ f0 f1 : Field, Try.prog.underlying 43 = some (.struct #[f0, f1]) ∧ f0.offset = 0 ∧ f0.type = 9 ∧ f1.offset = 1 ∧ f1.type = 9 := ⟨_, _, Try.underlying43, rfl, rfl, rfl, rfl⟩
  obtain ⟨xs, n', _, hx, hcl, hlen, hg⟩ := DataW.trod_struct hu h
  have g0 := hg 0 f0 rfl
  have g1 := hg 1 f1 rfl
  have k9 : Try.prog.cellsOf 9 = 1 := by kernel_rfl
  rw [o0, t0, k9] at g0
  rw [o1, t1, k9] at g1
  rw [cells43] at hcl
  match xs, hlen with
  | [y0, y1], _ =>
    obtain ⟨s0, e0, q0, _⟩ := DataW.trod_string Try.underlying9 g0
    obtain ⟨s1, e1, q1, _⟩ := DataW.trod_string Try.underlying9 g1
    match cs, hcl with
    | [c0, c1], _ =>
      have e0' : c0 = .string s0 := by injection e0
      have e1' : c1 = .string s1 := by injection e1
      subst e0'
      subst e1'
      refine ⟨⟨s0, s1⟩, ?_, rfl, rfl⟩
      rw [hx]
      simp only [List.map_cons, List.map_nil, q0, q1]
      rfl
/-- a slice of entries in memory -/
theorem open_en {fuel : Nat} {cs : List Value} {x : DataW H × List MemPlace} (h : DataW.trod enc Try.prog w 0 spare held fuel 38 cs = some x) :
    ∃ (A : Option Addr) (c : Nat) (l : List En), cs = [.slice A l.length c] ∧ SV w w.heap.size 2 A l.length c (flatE l) ∧ l.length ≤ Rows.uptoBulk x.1 ∧ ∀ e ∈ l, e.k.size + e.s.size ≤ Rows.uptoBulk x.1 := by
  rcases open_slice Try.underlying38 h with ⟨rfl, rfl⟩ | ⟨a, len, cap, m, n, D, Pl, rfl, hb, hl, hm, hmm, rfl, hi⟩
  · exact ⟨none, 0, [], rfl, SV.nil_, Nat.zero_le _, fun e he => by cases he⟩
  · have hlm : len ≤ m := by rw [hmm]; split <;> omega
    have H1 : ∀ i, ∃ e : En, i < len → D i = enD e ∧ w.cell? (a.add (i * 2)) = some (.string e.k) ∧ w.cell? ((a.add (i * 2)).add 1) = some (.string e.s) := by
      intro i
      by_cases hil : i < len
      · obtain ⟨cs', hc, ht⟩ := hi i (by omega)
        rw [cells43] at hc
        obtain ⟨_, hcl, hat⟩ := World.cells?_some hc
        obtain ⟨e, he, h0, h1⟩ := open_one ht
        refine ⟨e, fun _ => ⟨he, ?_, ?_⟩⟩
        · have := hat 0 (by omega)
          rw [h0] at this
          exact this
        · have := hat 1 (by omega)
          rw [h1] at this
          exact this
      · exact ⟨⟨.empty, .empty⟩, fun h => absurd h hil⟩
    obtain ⟨f, hf⟩ : ∃ f : Nat → En, ∀ i, i < len → D i = enD (f i) ∧ w.cell? (a.add (i * 2)) = some (.string (f i).k) ∧ w.cell? ((a.add (i * 2)).add 1) = some (.string (f i).s) := ⟨fun i => Classical.choose (H1 i), fun i => Classical.choose_spec (H1 i)⟩
    have hlen : ((List.range len).map f).length = len := by simp
    have hget : ∀ i (hi : i < ((List.range len).map f).length), ((List.range len).map f)[i] = f i := fun i hi => by simp
    have hD : (List.range len).map D = ((List.range len).map f).map enD := by
      rw [List.map_map]
      refine List.map_congr_left fun i hi => ?_
      exact (hf i (List.mem_range.1 hi)).1
    refine ⟨some a, cap, (List.range len).map f, by rw [hlen], ⟨?_, ?_, hm, (fun h => by cases h), ?_⟩, ?_, ?_⟩
    · rw [flatE_length]
    · rw [hlen]; exact hl
    · by_cases h0 : len = 0
      · subst h0
        exact .inl rfl
      · have hsp : a.spot = none := by
          have hc := (hf 0 (by omega)).2.1
          rw [Nat.zero_mul, show a.add 0 = a from rfl] at hc
          cases hs : a.spot with
          | none => rfl
          | some s =>
            exfalso
            unfold World.cell? at hc
            split at hc
            · rw [hs] at hc; simp at hc
            · cases hc
        obtain ⟨b, off, sp⟩ := a
        simp only at hsp
        subst hsp
        have hblt : b < w.heap.size := World.block_lt_of_cell? w ((⟨b, off, none⟩ : Addr).add 0) (hf 0 (by omega)).2.1
        refine .inr ⟨b, off, rfl, hblt, fun j u hu => ?_⟩
        have hj : j < len * 2 := by
          have := (List.getElem?_eq_some_iff.1 hu).1
          rw [flatE_length, hlen] at this
          exact this
        obtain ⟨q, r, hr, rfl⟩ : ∃ q r, r < 2 ∧ j = q * 2 + r := ⟨j / 2, j % 2, by omega, by omega⟩
        have hq : q < len := by omega
        have hq' : q < ((List.range len).map f).length := by rw [hlen]; exact hq
        obtain ⟨_, g0, g1⟩ := hf q hq
        rw [add_at] at g0 g1
        rw [add_at] at g1
        match r, hr with
        | 0, _ =>
          rw [Nat.add_zero, flatE_at0 _ q hq', hget] at hu
          rw [Nat.add_zero, g0, hu]
        | 1, _ =>
          rw [flatE_at1 _ q hq', hget] at hu
          rw [← Nat.add_assoc, g1, hu]
    · simp only [Rows.uptoBulk]
      have := bulk_len (List.map D (List.range len))
      simp only [List.length_map] at this ⊢
      omega
    · intro e he
      have hmem : (enD e : DataW H) ∈ (List.range len).map D := by
        rw [hD]
        exact List.mem_map.2 ⟨e, he, rfl⟩
      have h1 := bulk_all hmem
      have h2 : Rows.uptoBulk (enD e : DataW H) = e.k.size + e.s.size + 3 := by
        simp only [enD, Rows.uptoBulk, Rows.uptoBulkAll, str_len]
        omega
      simp only [Rows.uptoBulk]
      omega
end
set_option maxRecDepth 100000 in
theorem contract (H : Type) (enc : TypeId × Value → H) (W : World) (base : Nat) (args : Array Value) (ds gs : List (DataW H)) (before : List MemPlace)
    (hval : ∀ (j : Nat) t v, Try.f4.params[j]? = some t → args[j]? = some v → Value.okWide Try.prog W .any base t v)
    (hW : DataW.Whole enc Try.prog Try.f4.params.toList Rows.sketchSumsSpec.vars false W args.toList ds gs before) (hk : Rows.uptoSmall H (ds ++ gs) = true) :
    Calls Try.prog 4 args W fun e W' => ∃ v, e = .returned v ∧ Rows.sketchSumsSpec.post enc Try.prog Try.f4 false true false false W args v W' := by
  have hW' := hW
  obtain ⟨p, q, hA0, hV, rfl, hfz, hnd⟩ := hW
  have hA : DataW.TrodAll enc Try.prog W 0 (fun _ => true) true Try.f4.params.toList args.toList ds p := hA0
  rw [Try.params4] at hA hval
  obtain ⟨v0, vs0, d0, ds0, p0, q0, hargs, rfl, rfl, h0, r0⟩ := trodAll_cons hA
  obtain ⟨v1, vs1, d1, ds1, p1, q1, rfl, rfl, rfl, h1, r1⟩ := trodAll_cons r0
  obtain ⟨v2, vs2, d2, ds2, p2, q2, rfl, rfl, rfl, h2, r2⟩ := trodAll_cons r1
  obtain ⟨rfl, rfl, rfl⟩ := trodAll_nil r2
  obtain rfl : args = #[v0, v1, v2] := by cases args; simp_all
  obtain ⟨rfl, rfl⟩ := trodVars_none hV
  obtain ⟨cells, rfl, rfl, rfl, w2⟩ := open_int Try.underlying3 (hval 2 3 v2 rfl rfl) h2
  obtain ⟨a0, len0, cap0, rfl⟩ := okWide_slice Try.underlying38 (hval 0 38 v0 rfl rfl)
  obtain ⟨a1, len1, cap1, rfl⟩ := okWide_slice Try.underlying38 (hval 1 38 v1 rfl rfl)
  have h0k := h0
  have h1k := h1
  obtain ⟨fu0, hf0⟩ := h0
  obtain ⟨fu1, hf1⟩ := h1
  obtain ⟨A1, c1, l, e1, sv1, b1, s1⟩ := open_en hf0
  obtain ⟨A2, c2, m, e2, sv2, b2, s2⟩ := open_en hf1
  simp [Value.cells] at e1 e2
  obtain ⟨rfl, rfl, rfl⟩ := e1
  obtain ⟨rfl, rfl, rfl⟩ := e2
  clear hA0
  simp only [List.append_nil] at hW' hk
  have hlt : ∀ x ∈ p0 ++ (p1 ++ []), x.block < W.heap.size := fun x hx => by simpa using hW'.lt x (by simpa using hx)
  have hb : Rows.uptoBulkAll [d0, d1, DataW.lit (H := H) (.int .i64 cells)] ≤ 1048576 := of_decide_eq_true hk
  simp only [Rows.uptoBulkAll] at hb
  have hsl : Short l := fun e he => by have := s1 e he; simp only at this; omega
  have hsm : Short m := fun e he => by have := s2 e he; simp only at this; omega
  simp only at b1 b2
  have walk := sums_calls l m cells (if cells < 3 ∨ 256 < cells then 30 else cells).toNat (by split <;> omega) _ _ _ _ W.heap.size W (by omega) (by omega) hsl hsm sv1 sv2 (Nat.le_refl _)
  refine walk.mono fun e W' ⟨he, hF⟩ => ?_
  subst he
  have hbel := hF.below
  refine ⟨_, rfl, _, _, _, [], p0 ++ (p1 ++ []), [], hW', ?_, ?_, rfl, hbel.frame _, fun h => by cases h⟩
  · exact trodAll_mk1 (shut_bool Try.underlying4 true)
  · exact trodAll_mk3 (Below.trod laidOut (by kernel_rfl) (of_decide_eq_true (by kernel_rfl)) h0k hbel (fun x hx => hlt x (List.mem_append.2 (.inl hx))))
      (Below.trod laidOut (by kernel_rfl) (of_decide_eq_true (by kernel_rfl)) h1k hbel (fun x hx => hlt x (List.mem_append.2 (.inr (List.mem_append.2 (.inl hx)))))) (shut_int Try.underlying3 w2)
set_option maxRecDepth 100000 in
theorem lifted (os : Os) (started : os.Started) (H : Type) (enc : TypeId × Value → H) (F : Stop.Interp) :
    ReturnsInHanded {} Try.checked os 4 .any ((Rows.OpenSpec.upto Rows.sketchSumsSpec).pre6 enc Try.prog Try.f4 Rows.sketchSumsUptoRow.domain false) (((Rows.OpenSpec.upto Rows.sketchSumsSpec).at F).post enc Try.prog Try.f4 false true false false) := by
  refine returnsInHanded_of_cond (C := Try.checked) (s := Rows.OpenSpec.upto Rows.sketchSumsSpec) (k := Rows.uptoSmall) rfl own started (by kernel_rfl) Try.func4
    (OpenSpec.witness (enc := enc) (C := Try.checked) (s := Rows.OpenSpec.upto Rows.sketchSumsSpec) (k := Rows.uptoSmall) rfl false ⟨#[], #[.slice none 0 0, .slice none 0 0, .int .i64 0], []⟩ 8 (by kernel_rfl) (by kernel_rfl) (by kernel_rfl)
      (x := ([.nil, .nil, .lit (.int .i64 0)], [], [])) (by kernel_rfl) rfl (by kernel_rfl)) ?_
  intro W base args ds gs before hval hW _ hk _
  exact contract H enc W base args ds gs before hval hW hk
theorem sketchSums_upto_holds : Rows.SketchSumsUptoSaid :=
  OpenClaim.holds_of_cond 4 Try.f4 rfl rfl rfl rfl rfl rfl rfl ⟨rfl, rfl, rfl, rfl, rfl⟩ rfl rfl rfl rfl rfl (by kernel_rfl) Try.func4 (by kernel_rfl)
    (of_decide_eq_true (by kernel_rfl)) (by unfold Func.isWrapper; first | (rw [if_pos (by decide +kernel)]; kernel_rfl) | (rw [if_neg (by decide +kernel)]; exact ⟨rfl, rfl⟩))
    (fun os started H enc _ F => lifted os started H enc F)
#print axioms sketchSums_upto_holds
end Go.Proofs.Yteibfhhbdpjpoaa
