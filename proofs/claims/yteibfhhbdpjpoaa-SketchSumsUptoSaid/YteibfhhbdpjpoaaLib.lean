import Derived.Deep.Draws
import Derived.Deep.AppendLies
import Derived.Maps.AppendAt
import Derived.OwnWalk
import Derived.Laws.BytesArg
import Derived.Laws.MakeOwn
import Derived.Laws.OwnMore
import Derived.Deep.OwnRows
import Derived.Tactics
import Derived.Lib.ConvBytes
import Derived.Laws.Slices
import Derived.WalkKit
import Derived.Deep.LoopGhost
import Derived.Deep.QuietTactic
import Derived.BigQuiet
import Derived.StillTailTactics
import Derived.WideLaws
import Derived.Deep.DeepCutAuto
import Derived.Deep.CutBlock
import Derived.Deep.RegionHeld3
import Derived.Laws.Rows
import Derived.Lib.AppendStr
import Derived.ArgAppend
import Derived.Laws.IdiomCopy
import Derived.WalkLawsBesides
import Derived.WalkSpells
import Derived.KernelRfl
import Derived.Laws.StructEq
import Derived.Lib.Hide
import Derived.LoopN
import Derived.Deep.RegionWith
import Derived.RowKit3
import Derived.Below
/- General words over worlds: a block that holds a list of cells at its head. -/
set_option linter.unusedVariables false
set_option linter.unusedSimpArgs false
namespace Go.Proofs.Yteibfhhbdpjpoaa
open Go.RowKit
/-- Block g is a row of cells of type T, not frozen, whose first cells are vs. -/
def Hd (w : World) (g : Nat) (T : TypeId) (vs : List Value) : Prop := ∃ rest : List Value, w.heap[g]? = some (.cells (vs ++ rest).toArray T (0, 0))
theorem Hd.lt {w : World} {g : Nat} {T : TypeId} {vs : List Value} (h : Hd w g T vs) : g < w.heap.size := by
  obtain ⟨r, h⟩ := h
  exact (Array.getElem?_eq_some_iff.1 h).1
theorem Hd.cell {w : World} {g : Nat} {T : TypeId} {vs : List Value} (h : Hd w g T vs) {j : Nat} {v : Value} (hj : vs[j]? = some v) : w.cell? ⟨g, j, none⟩ = some v := by
  obtain ⟨r, h⟩ := h
  have hl : j < vs.length := (List.getElem?_eq_some_iff.1 hj).1
  simp [World.cell?, h, List.getElem?_append_left hl, hj]
theorem Hd.free {w : World} {g : Nat} {T : TypeId} {vs : List Value} (h : Hd w g T vs) (j : Nat) : w.frozen? ⟨g, j, none⟩ = false := by
  obtain ⟨r, h⟩ := h
  simp [World.frozen?, h]
theorem Hd.setCell {w : World} {g : Nat} {T : TypeId} {vs : List Value} (h : Hd w g T vs) {j : Nat} (hj : j < vs.length) (v : Value) : Hd (w.setCell ⟨g, j, none⟩ v) g T (vs.set j v) := by
  obtain ⟨r, h⟩ := h
  refine ⟨r, ?_⟩
  simp only [World.setCell, Array.getElem?_modify, if_true, h, Option.map_some]
  congr 2
  simp only [Option.isSome_none, Bool.false_eq_true, if_false]
  rw [← List.set_append_left _ _ hj]
  simp
theorem Hd.of_block {w w' : World} {g : Nat} {T : TypeId} {vs : List Value} (h : Hd w g T vs) (hb : w'.heap[g]? = w.heap[g]?) : Hd w' g T vs := by
  obtain ⟨r, h⟩ := h
  exact ⟨r, hb.trans h⟩
theorem Hd.setCell_other {w : World} {g : Nat} {T : TypeId} {vs : List Value} (h : Hd w g T vs) {a : Addr} (ha : g ≠ a.block) (v : Value) : Hd (w.setCell a v) g T vs :=
  h.of_block (Below.heap_setCell w a v g ha)
theorem Hd.alloc {w : World} {g : Nat} {T : TypeId} {vs : List Value} (h : Hd w g T vs) (o : Obj) : Hd (w.alloc o) g T vs :=
  h.of_block (Below.heap_alloc w o g h.lt)
theorem Hd.drew {w : World} {g : Nat} {T : TypeId} {vs : List Value} (h : Hd w g T vs) : Hd w.drew g T vs := h
theorem Hd.drewN {w : World} {g : Nat} {T : TypeId} {vs : List Value} (h : Hd w g T vs) (n : Nat) : Hd (w.drewN n) g T vs := h
theorem Hd.new (w : World) (T : TypeId) (c : Array Value) : Hd (w.alloc (.cells c T)) w.heap.size T c.toList :=
  ⟨[], by rw [List.append_nil]; exact heap_alloc_new w _⟩
theorem Hd.new' (w : World) (T : TypeId) (c : Array Value) {g : Nat} (hg : g = w.heap.size) : Hd (w.alloc (.cells c T)) g T c.toList := by subst hg; exact Hd.new w T c
theorem Hd.mono {w : World} {g : Nat} {T : TypeId} {vs us : List Value} (h : Hd w g T (vs ++ us)) : Hd w g T vs := by
  obtain ⟨r, h⟩ := h
  exact ⟨us ++ r, by rw [h, List.append_assoc]⟩

/-- The world w' is w but for new blocks and for blocks of S. -/
structure Fr (S : Nat → Prop) (w w' : World) : Prop where
  os : w'.os = w.os
  tape : w'.tape = w.tape
  output : w'.output = w.output
  size : w.heap.size ≤ w'.heap.size
  block : ∀ k, k < w.heap.size → ¬ S k → w'.heap[k]? = w.heap[k]?
def none_ : Nat → Prop := fun _ => False
theorem Fr.refl {S : Nat → Prop} (w : World) : Fr S w w := ⟨rfl, rfl, rfl, Nat.le_refl _, fun _ _ _ => rfl⟩
theorem Fr.trans {S S' S'' : Nat → Prop} {a b c : World} (h : Fr S a b) (k : Fr S' b c) (hs : ∀ k, k < a.heap.size → S k → S'' k) (hs' : ∀ k, k < a.heap.size → S' k → S'' k) : Fr S'' a c :=
  ⟨k.os.trans h.os, k.tape.trans h.tape, k.output.trans h.output, Nat.le_trans h.size k.size, fun i hi hn =>
    (k.block i (Nat.lt_of_lt_of_le hi h.size) (fun e => hn (hs' i hi e))).trans (h.block i hi (fun e => hn (hs i hi e)))⟩
theorem Fr.mono {S S' : Nat → Prop} {w w' : World} (h : Fr S w w') (hs : ∀ k, k < w.heap.size → S k → S' k) : Fr S' w w' :=
  ⟨h.os, h.tape, h.output, h.size, fun k hk hn => h.block k hk fun e => hn (hs k hk e)⟩
theorem Fr.then {S : Nat → Prop} {a b c : World} (h : Fr S a b) (k : Fr S b c) : Fr S a c := h.trans k (fun _ _ e => e) (fun _ _ e => e)
theorem Fr.drewN {S : Nat → Prop} {a w : World} (h : Fr S a w) (n : Nat) : Fr S a (w.drewN n) := ⟨h.os, h.tape, h.output, h.size, h.block⟩
theorem Fr.drew {S : Nat → Prop} {a w : World} (h : Fr S a w) : Fr S a w.drew := ⟨h.os, h.tape, h.output, h.size, h.block⟩
theorem Fr.alloc {S : Nat → Prop} {a w : World} (h : Fr S a w) (o : Obj) : Fr S a (w.alloc o) :=
  h.then ⟨rfl, rfl, rfl, by simp, fun k hk _ => Below.heap_alloc _ _ _ hk⟩
theorem Fr.setCell {S : Nat → Prop} {a w : World} (h : Fr S a w) {p : Addr} (hp : a.heap.size ≤ p.block ∨ S p.block) (u : Value) : Fr S a (w.setCell p u) :=
  h.trans (S' := fun k => k = p.block) ⟨rfl, rfl, rfl, by simp [World.setCell], fun k _ hn => Below.heap_setCell _ _ _ _ hn⟩ (fun _ _ e => e)
    (fun k hk e => by rcases hp with hp | hp; · omega
                      · rw [e]; exact hp)
theorem Fr.below {w w' : World} (h : Fr none_ w w') : Below w.heap.size w w' := ⟨h.os, h.tape, h.output, h.size, fun k hk => h.block k hk fun e => e⟩
theorem Fr.of_below {w w' : World} (h : Below w.heap.size w w') : Fr none_ w w' := ⟨h.os, h.tape, h.output, h.size, fun k hk _ => h.block k hk⟩
theorem Fr.keeps {S : Nat → Prop} {w w' : World} (h : Fr S w w') {g : Nat} {T : TypeId} {vs : List Value} (hg : Hd w g T vs) (hs : ¬ S g) : Hd w' g T vs :=
  hg.of_block (h.block g hg.lt hs)
theorem Fr.cell {S : Nat → Prop} {w w' : World} (h : Fr S w w') {p : Addr} {v : Value} (hc : w.cell? p = some v) (hs : ¬ S p.block) : w'.cell? p = some v := by
  rw [← hc]; exact World.cell?_of_block (w := w) (h.block _ (World.block_lt_of_cell? w _ hc) hs)
/-- The cells vs lie behind the address of a slice (below block B), or there are none. -/
def Rds (w : World) (B : Nat) (A : Option Addr) (vs : List Value) : Prop :=
  vs = [] ∨ ∃ b off, A = some ⟨b, off, none⟩ ∧ b < B ∧ ∀ j u, vs[j]? = some u → w.cell? ⟨b, off + j, none⟩ = some u
theorem Rds.nil {w : World} {B : Nat} {A : Option Addr} : Rds w B A [] := .inl rfl
theorem Rds.at_ {w : World} {B : Nat} {A : Option Addr} {vs : List Value} (h : Rds w B A vs) (hv : 0 < vs.length) :
    ∃ b off, A = some ⟨b, off, none⟩ ∧ b < B ∧ ∀ j u, vs[j]? = some u → w.cell? ⟨b, off + j, none⟩ = some u := by
  rcases h with rfl | h
  · simp at hv
  · exact h
theorem Rds.fr {S : Nat → Prop} {w w' : World} {B : Nat} {A : Option Addr} {vs : List Value} (h : Rds w B A vs) (hf : Fr S w w') (hs : ∀ k, k < B → ¬ S k) : Rds w' B A vs := by
  rcases h with rfl | ⟨b, off, rfl, hb, hc⟩
  · exact .inl rfl
  · exact .inr ⟨b, off, rfl, hb, fun j u hu => hf.cell (hc j u hu) (hs b hb)⟩
theorem Rds.drew {w : World} {B : Nat} {A : Option Addr} {vs : List Value} (h : Rds w B A vs) : Rds w.drew B A vs := h
theorem Rds.drewN {w : World} {B : Nat} {A : Option Addr} {vs : List Value} (h : Rds w B A vs) (n : Nat) : Rds (w.drewN n) B A vs := h
theorem Rds.more {w : World} {B B' : Nat} {A : Option Addr} {vs : List Value} (h : Rds w B A vs) (hB : B ≤ B') : Rds w B' A vs := by
  rcases h with rfl | ⟨b, off, rfl, hb, hc⟩
  · exact .inl rfl
  · exact .inr ⟨b, off, rfl, by omega, hc⟩
theorem Rds.of_hd {w : World} {g : Nat} {T : TypeId} {vs : List Value} (h : Hd w g T vs) {B : Nat} (hB : g < B) : Rds w B (some ⟨g, 0, none⟩) vs :=
  .inr ⟨g, 0, rfl, hB, fun j u hu => by rw [Nat.zero_add]; exact h.cell hu⟩
theorem Rds.drop {w : World} {B : Nat} {b off : Nat} {vs : List Value} (h : Rds w B (some ⟨b, off, none⟩) vs) (k : Nat) : Rds w B (some ⟨b, off + k, none⟩) (vs.drop k) := by
  rcases h with rfl | ⟨b, off, he, hb, hc⟩
  · exact .inl (by simp)
  · injection he with he; injection he with h1 h2; subst h1; subst h2
    refine .inr ⟨_, _, rfl, hb, fun j u hu => ?_⟩
    rw [Nat.add_assoc]
    exact hc _ u (by rw [← hu, List.getElem?_drop])
theorem Rds.take {w : World} {B : Nat} {A : Option Addr} {vs : List Value} (h : Rds w B A vs) (k : Nat) : Rds w B A (vs.take k) := by
  rcases h with rfl | ⟨b, off, rfl, hb, hc⟩
  · exact .inl (by simp)
  · refine .inr ⟨b, off, rfl, hb, fun j u hu => hc j u ?_⟩
    rw [List.getElem?_take] at hu
    split at hu
    · exact hu
    · cases hu
def ints (k : IntKind) (l : List Int) : List Value := l.map (Value.int k)
theorem ints_length (k : IntKind) (l : List Int) : (ints k l).length = l.length := by simp [ints]
theorem ints_at (k : IntKind) (l : List Int) {j : Nat} (h : j < l.length) : (ints k l)[j]? = some (.int k (l.getD j default)) := by
  simp [ints, h]
theorem ints_append (k : IntKind) (l m : List Int) : ints k (l ++ m) = ints k l ++ ints k m := by simp [ints]
theorem Rds.int {w : World} {B : Nat} {A : Option Addr} {kd : IntKind} {l : List Int} (h : Rds w B A (ints kd l)) {k : Nat} (hk : k < l.length) :
    ∃ b off, A = some ⟨b, off, none⟩ ∧ b < B ∧ w.cell? ⟨b, off + k, none⟩ = some (.int kd (l.getD k default)) := by
  obtain ⟨b, off, rfl, hb, hc⟩ := h.at_ (by rw [ints_length]; omega)
  exact ⟨b, off, rfl, hb, hc _ _ (ints_at kd l hk)⟩
/-! '==' of structs, field by field -/
section
variable {P : Program} {d : Nat} {xs ys : Array Value} {f : Field} {fs : List Field} {a b : Value} {r s : Bool} {w : World}
theorem eqf_nil : (Op.eqFields d xs ys []).run P w = .ok true w := by simp [Op.eqFields]
theorem eqf_cons (hn : (f.name == "_") = false) (ha : (part f.type xs f.offset).run P w = .ok a w) (hb : (part f.type ys f.offset).run P w = .ok b w) (he : (Op.equalIn d f.type a b).run P w = .ok r w) (hr : (Op.eqFields d xs ys fs).run P w = .ok s w) : (Op.eqFields d xs ys (f :: fs)).run P w = .ok (r && s) w := by
  have hn' : f.name ≠ "_" := by simpa using hn
  rw [Op.eqFields]
  simp only [if_pos hn', Sem.run_bind, ha, hb, he, Result.andThen_ok]
  cases r
  · simp
  · simpa using hr
theorem eqs_of {t : TypeId} {fs : Array Field} (hu : P.underlying t = some (.struct fs)) (hp : P.stoodInHeld t = false) (h : (Op.eqFields d xs ys fs.toList).run P w = .ok r w) : (Op.equalIn (d + 1) t (.agg xs) (.agg ys)).run P w = .ok r w := by
  have hf : P.fieldsOf t = fs := by simp [Program.fieldsOf, hu]
  rw [run_equalIn_struct (P := P) w d t xs ys (by rw [hf]; exact hu) hp, hf]
  exact h
end
/-- A region that draws: reads and quiet calls (n operations), then writes in a chain. -/
theorem wp_still_tail {P : Program} {id : Nat} {Q : Exit → Act → World → Prop} {a : Act} {w : World} {l : List Oper} (n : Nat) (hm : P.follows .mixedOrders = true) (hB : Region.lexTailB .any l.toArray n = true)
    (h : wpStill P l.toArray w.drew (fun a' => wpList P l.toArray Q (l.drop n) a' w.drew) (l.take n) a) : (Code.region id l.toArray true).wp P Q a w :=
  wp_region_still_tail n hm hB h
theorem still_of_quietOp {P : Program} {o : Oper} {a : Act} {W : World} {K K' : Act → Prop} (hK : ∀ a, K a → K' a) (h : o.quiet P a (fun w' => w' = W) K) : o.still P a W K' := by
  obtain ⟨v, hv, hk⟩ := h
  have h1 := hv W rfl
  unfold Oper.quietAt at h1
  unfold Oper.still
  cases hr : (execOp a.eval o).run P W with
  | halt h w' => rw [hr] at h1; exact h1.elim
  | ok x w' =>
    rw [hr] at h1
    cases x with
    | value u => obtain ⟨e1, e2⟩ := h1; subst e2; exact ⟨e1, hK _ hk⟩
    | skip => obtain ⟨e1, e2⟩ := h1; subst e2; exact ⟨e1, hK _ hk⟩
    | enter f args => obtain ⟨e1, e2⟩ := h1; exact ⟨e1, v, e2, hK _ hk⟩
    | _ => exact h1.elim
theorem still_of_quiet {P : Program} {ops : Array Oper} {W : World} {Q : Act → Prop} : ∀ (l : List Oper) (a : Act), wpQuiet P ops (fun w' => w' = W) Q l a → wpStill P ops W Q l a
  | [], a, h => h
  | o :: rest, a, h => by
    unfold wpQuiet at h
    unfold wpStill
    by_cases hw : Region.wanted o (yielded ops a.tmps) = true
    · rw [if_pos hw] at h ⊢
      exact still_of_quietOp (still_of_quiet rest) h
    · rw [if_neg hw] at h ⊢
      exact still_of_quiet rest _ h
/-- A region that draws: operations that only read and quiet calls (n of them), walked by the quiet walk's cheap step, then writes in a chain. -/
theorem wp_quiet_tail {P : Program} {id : Nat} {Q : Exit → Act → World → Prop} {a : Act} {w : World} {l : List Oper} (n : Nat) (hm : P.follows .mixedOrders = true) (hB : Region.lexTailB .any l.toArray n = true)
    (h : wpQuiet P l.toArray (fun w' => w' = w.drew) (fun a' => wpList P l.toArray Q (l.drop n) a' w.drew) (l.take n) a) : (Code.region id l.toArray true).wp P Q a w :=
  wp_still_tail n hm hB (still_of_quiet _ _ h)
/-- A region that draws and only reads (quiet calls let in): the world behind it has drawn once. -/
theorem wp_quiet_all {P : Program} {id : Nat} {Q : Exit → Act → World → Prop} {a : Act} {w : World} {l : List Oper} (hm : P.follows .mixedOrders = true) (hB : Region.lexB .any l.toArray = true)
    (h : wpQuiet P l.toArray (fun w' => w' = w.drew) (fun a' => Q .normal a' w.drew) l a) : (Code.region id l.toArray true).wp P Q a w :=
  wp_region_still_lit hm hB (still_of_quiet _ _ h)
end Go.Proofs.Yteibfhhbdpjpoaa
