import Derived.Test.YteibfhhbdpjpoaaMem
import Derived.Maps.AppendAt
/- Laws at one operation that is spelt out (another operation fails at once), with exact footprints. -/
set_option linter.unusedVariables false
set_option linter.unusedSimpArgs false
namespace Go.Proofs.Yteibfhhbdpjpoaa
open Go.RowKit
section
variable {P : Program} {w : World} {ops : Array Oper} {rest : List Oper} {a : Act} {Q : Exit → Act → World → Prop}
/-- 'append(v, src...)': v the call's own (or nil), src a slice that is read (nil let in). -/
theorem L_append {w : World} (d : Option Tmp) (s x : Operand) (t tt : TypeId) (ps : String) (af : Array Edge)
    (base : Nat) (e : TypeId) (z : Value) (size bytes : Nat) (ht : P.underlying t = some (.slice e)) (hI : (P.info? e).map (fun i => (i.zero, i.size, i.bytes)) = some (some z, size, bytes))
    (hzs : z.cells.size = size) (hsz : 0 < size)
    (v : Value) (n : Nat) (xs : List Value) (hs : a.eval s = v) (hown : w.ownsRow base e size v n xs)
    (A : Option Addr) (m c B : Nat) (news : List Value) (hx : a.eval x = .slice A m c) (hsv : SV w B size A m c news) (h1 : ∀ u ∈ news, u.oneCell' = true)
    (h63 : n + m ≤ maxLen) (hbytes : (n + m) * bytes ≤ 140737488355328) (hbase : base ≤ w.heap.size)
    (h : ∀ v' w', w'.ownsRow base e size v' (n + m) (xs ++ news) → Fr (fun k => v.ownBlock = some k) w w' → (v'.ownBlock = v.ownBlock ∨ v'.ownBlock = some w.heap.size) → wpList P ops Q rest (a.put d v') w') :
    wpList P ops Q (⟨d, .call { callee := .builtin .append, args := #[s, x], argTypes := #[t, t] }, tt, ps, af, none⟩ :: rest) a w := by
  obtain ⟨i, hi, hz0, hz1, hz2⟩ := info_parts hI
  cases A with
  | none =>
    have hc := hsv.nil rfl
    have hm : m = 0 := by have := hsv.le; omega
    subst hc
    subst hm
    have hn : news = [] := List.eq_nil_of_length_eq_zero (by simpa using hsv.len)
    subst hn
    exact wpList_append_own_none rfl s x t rfl base e i size ht hi v n xs hs hown hx (h v w (by simpa using hown) (Fr.refl _) (.inl rfl))
  | some ad =>
    refine wpList_append_own_at w rfl s x t rfl base e i z size bytes ht hi hz0 hz1 hz2 hzs hsz v n xs hs hown ad m c news hx hsv.len ?_ h1 h63 hbytes hbase fun v' w' g1 g2 _ g4 => h v' w' g1 ((fr_grown g2).mono fun k _ e => e.symm) g4
    intro j u hu
    obtain ⟨b, off, he, _, hc⟩ := hsv.rds.at_ (by have := (List.getElem?_eq_some_iff.1 hu).1; omega)
    injection he with he
    subst he
    rw [add_at]
    exact hc j u hu
/-- 'copy(dst, src)', dst at the head of a block of the call's own, as long as src. -/
theorem L_copy {w : World} (dd : Option Tmp) (d s : Operand) (dT sT tt : TypeId) (ps : String) (af : Array Edge)
    (e : TypeId) (hu : P.underlying dT = some (.slice e)) (sz : Nat) (hsz : (P.info? e).map (·.size) = some sz)
    (g dLen dCap : Nat) (A : Option Addr) (m c B : Nat) (news : List Value) (hd : a.eval d = .slice (some ⟨g, 0, none⟩) dLen dCap) (hx : a.eval s = .slice A m c) (hsv : SV w B sz A m c news)
    (T : TypeId) (vs : List Value) (hg : Hd w g T vs) (hl : m = dLen) (hv : vs.length = dLen * sz) (h1 : ∀ u ∈ news, u.oneCell' = true)
    (h : ∀ w', Hd w' g T news → Fr (· = g) w w' → wpList P ops Q rest (a.put dd (goInt m)) w') : wpList P ops Q (⟨dd, .call { callee := .builtin .copy, args := #[d, s], argTypes := #[dT, sT] }, tt, ps, af, none⟩ :: rest) a w :=
  wpList_copy_sv rfl d s dT sT rfl e hu sz hsz g dLen dCap A m c B news hd hx hsv T vs hg hl hv h1 h
end
/-- the one cell of a new block, as a slice -/
theorem SV.one (w : World) (T : TypeId) (u : Value) : SV (w.alloc (.cells #[u] T)) (w.heap.size + 1) 1 (some ⟨w.heap.size, 0, none⟩) 1 1 [u] :=
  ⟨rfl, Nat.le_refl _, by unfold maxLen; omega, (fun h => by cases h), Rds.of_hd (Hd.new w T #[u]) (Nat.lt_succ_self _)⟩
theorem SV.one' (w : World) (T : TypeId) (u : Value) {g : Nat} (hg : g = w.heap.size) : SV (w.alloc (.cells #[u] T)) (g + 1) 1 (some ⟨g, 0, none⟩) 1 1 [u] := by subst hg; exact SV.one w T u
theorem own_ge {w : World} {base e sz n : Nat} {v : Value} {vs : List Value} (h : w.ownsRow base e sz v n vs) {k : Nat} (hk : v.ownBlock = some k) : base ≤ k := by
  rcases h.2 with ⟨hv, _⟩ | ⟨g, cap, cur, hv, hb, _⟩
  · rw [hv] at hk; cases hk
  · rw [hv] at hk; cases hk; exact hb
theorem own_lt {w : World} {base e sz n : Nat} {v : Value} {vs : List Value} (h : w.ownsRow base e sz v n vs) {k : Nat} (hk : v.ownBlock = some k) : k < w.heap.size := by
  rcases h.2 with ⟨hv, _⟩ | ⟨g, cap, cur, hv, hb, hg, _⟩
  · rw [hv] at hk; cases hk
  · rw [hv] at hk; cases hk; exact (Array.getElem?_eq_some_iff.1 hg).1
theorem own_nil' (w : World) (base e sz : Nat) : w.ownsRow base e sz (.slice none 0 0) 0 [] := ⟨by simp, .inl ⟨rfl, rfl⟩⟩
theorem own_sv {w : World} {base e sz n : Nat} {v : Value} {vs : List Value} (h : w.ownsRow base e sz v n vs) : ∃ A c, v = .slice A n c ∧ SV w w.heap.size sz A n c vs := by
  obtain ⟨A, c, rfl⟩ := own_form h
  exact ⟨A, c, rfl, SV.of_own h⟩
theorem own_base {w : World} {base base' e sz n : Nat} {v : Value} {vs : List Value} (h : w.ownsRow base e sz v n vs) (hb : base' ≤ base) : w.ownsRow base' e sz v n vs := by
  refine ⟨h.1, ?_⟩
  rcases h.2 with hn | ⟨g, cap, cur, hv, hg, r⟩
  · exact .inl hn
  · exact .inr ⟨g, cap, cur, hv, Nat.le_trans hb hg, r⟩
end Go.Proofs.Yteibfhhbdpjpoaa
