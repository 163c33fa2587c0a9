import Derived.Test.YteibfhhbdpjpoaaLib
import Derived.Laws.AppendOwnNone
import Derived.Laws.CopyOwn
/- Laws for copy, append and make over slices whose elements have any number of cells. -/
set_option linter.unusedVariables false
set_option linter.unusedSimpArgs false
namespace Go.Proofs.Yteibfhhbdpjpoaa
open Go.RowKit
/-- A slice value '.slice A n c' whose elements (sz cells each) are vs. -/
structure SV (w : World) (B sz : Nat) (A : Option Addr) (n c : Nat) (vs : List Value) : Prop where
  len : vs.length = n * sz
  le : n ≤ c
  cap : c ≤ maxLen
  nil : A = none → c = 0
  rds : Rds w B A vs
theorem SV.fr {S : Nat → Prop} {w w' : World} {B sz n c : Nat} {A : Option Addr} {vs : List Value} (h : SV w B sz A n c vs) (hf : Fr S w w') (hs : ∀ k, k < B → ¬ S k) : SV w' B sz A n c vs :=
  ⟨h.len, h.le, h.cap, h.nil, h.rds.fr hf hs⟩
theorem SV.more {w : World} {B B' sz n c : Nat} {A : Option Addr} {vs : List Value} (h : SV w B sz A n c vs) (hB : B ≤ B') : SV w B' sz A n c vs :=
  ⟨h.len, h.le, h.cap, h.nil, h.rds.more hB⟩
theorem SV.lt {w : World} {B sz n c : Nat} {A : Option Addr} {vs : List Value} (h : SV w B sz A n c vs) : n ≤ 9223372036854775807 := by
  have h1 := h.le
  have h2 := h.cap
  unfold maxLen at h2
  omega
theorem SV.nil_ {w : World} {B sz : Nat} : SV w B sz none 0 0 [] := ⟨by simp, Nat.le_refl _, by unfold maxLen; omega, fun _ => rfl, .nil⟩
theorem SV.of_own {w : World} {base sz n c : Nat} {e : TypeId} {A : Option Addr} {vs : List Value} (h : w.ownsRow base e sz (.slice A n c) n vs) : SV w w.heap.size sz A n c vs := by
  refine ⟨h.1, ?_, ?_, ?_, ?_⟩
  all_goals rcases h.2 with ⟨hv, hn⟩ | ⟨g, cap, cur, hv, hb, hg, h1, h2, h3, h4⟩
  all_goals (injection hv with e1 e2 e3; subst e1; subst e3)
  · omega
  · exact h1
  · unfold maxLen; omega
  · exact h2
  · exact fun _ => rfl
  · exact fun h => by cases h
  · subst hn
    have : vs = [] := List.eq_nil_of_length_eq_zero (by simpa using h.1)
    subst this
    exact .nil
  · refine .inr ⟨g, 0, rfl, (Array.getElem?_eq_some_iff.1 hg).1, fun j u hu => ?_⟩
    rw [Nat.zero_add, cell_of_row w g j cur e (0, 0) hg]
    rw [← h4, List.getElem?_take] at hu
    split at hu
    · simpa using hu
    · cases hu
theorem own_hd {w : World} {base sz n c g : Nat} {e : TypeId} {vs : List Value} (h : w.ownsRow base e sz (.slice (some ⟨g, 0, none⟩) n c) n vs) : base ≤ g ∧ Hd w g e vs := by
  rcases h.2 with ⟨hv, hn⟩ | ⟨g', cap, cur, hv, hb, hg, h1, h2, h3, h4⟩
  · cases hv
  · injection hv with e1 e2 e3
    injection e1 with e1
    injection e1 with e1
    subst e1
    exact ⟨hb, cur.toList.drop (n * sz), by rw [hg, ← h4, List.take_append_drop]⟩
theorem own_form {w : World} {base sz n : Nat} {e : TypeId} {v : Value} {vs : List Value} (h : w.ownsRow base e sz v n vs) : ∃ A c, v = .slice A n c := by
  rcases h.2 with ⟨hv, hn⟩ | ⟨g, cap, cur, hv, _⟩
  · exact ⟨none, 0, by rw [hv, hn]⟩
  · exact ⟨_, _, hv⟩
theorem fr_grown {w w' : World} {row : Option Nat} (h : w.grownBy w' row) : Fr (fun k => some k = row) w w' := ⟨h.os, h.tape, h.output, h.size, fun k hk hn => h.block k hk hn⟩
theorem grown_fr {w w' : World} {row : Option Nat} (h : Fr (fun k => some k = row) w w') : w.grownBy w' row := ⟨h.os, h.tape, h.output, h.size, fun k hk hn => h.block k hk hn⟩
theorem own_fr {S : Nat → Prop} {w w' : World} {base sz n : Nat} {e : TypeId} {v : Value} {vs : List Value} (h : w.ownsRow base e sz v n vs) (hf : Fr S w w') (hs : ∀ k, v.ownBlock = some k → ¬ S k) : w'.ownsRow base e sz v n vs := by
  refine ⟨h.1, ?_⟩
  rcases h.2 with hn | ⟨g, cap, cur, hv, hb, hg, rest⟩
  · exact .inl hn
  · refine .inr ⟨g, cap, cur, hv, hb, ?_, rest⟩
    rw [hf.block g (Array.getElem?_eq_some_iff.1 hg).1 (hs g (by rw [hv]; rfl))]
    exact hg
theorem add_at (b off j : Nat) : (⟨b, off, none⟩ : Addr).add j = ⟨b, off + j, none⟩ := by unfold Addr.add; split <;> simp_all
section
variable {P : Program} {w : World} {ops : Array Oper} {rest : List Oper} {o : Oper} {a : Act} {Q : Exit → Act → World → Prop}
/-- 'append(v, src...)': v is the call's own (or nil), src a slice that is read, nil let in. -/
theorem wpList_append_sv (hgd : o.guard = none) (s x : Operand) (t : TypeId)
    (ho : o.op = .call { callee := .builtin .append, args := #[s, x], argTypes := #[t, t] })
    (base : Nat) (e : TypeId) (z : Value) (size bytes : Nat) (ht : P.underlying t = some (.slice e)) (hI : (P.info? e).map (fun i => (i.zero, i.size, i.bytes)) = some (some z, size, bytes))
    (hzs : z.cells.size = size) (hsz : 0 < size)
    (v : Value) (n : Nat) (xs : List Value) (hs : a.eval s = v) (hown : w.ownsRow base e size v n xs)
    (A : Option Addr) (m c B : Nat) (news : List Value) (hx : a.eval x = .slice A m c) (hsv : SV w B size A m c news) (h1 : ∀ u ∈ news, u.oneCell' = true)
    (h63 : n + m ≤ maxLen) (hbytes : (n + m) * bytes ≤ 140737488355328) (hbase : base ≤ w.heap.size)
    (h : ∀ v' w', w'.ownsRow base e size v' (n + m) (xs ++ news) → w.grownBy w' v.ownBlock → (v' = .slice none 0 0 ↔ v = .slice none 0 0 ∧ m = 0) → wpList P ops Q rest (a.put o.dst v') w') : wpList P ops Q (o :: rest) a w := by
  obtain ⟨i, hi, hz0, hz1, hz2⟩ := info_parts hI
  cases A with
  | none =>
    have hc := hsv.nil rfl
    have hm : m = 0 := by have := hsv.le; omega
    subst hc
    subst hm
    have hn : news = [] := List.eq_nil_of_length_eq_zero (by simpa using hsv.len)
    subst hn
    refine wpList_append_own_none hgd s x t ho base e i size ht hi v n xs hs hown hx (h v w (by simpa using hown) (World.grownBy.refl w _) (by simp))
  | some ad =>
    refine wpList_append_own w hgd s x t ho base e i z size bytes ht hi hz0 hz1 hz2 hzs hsz v n xs hs hown ad m c news hx hsv.len ?_ h1 h63 hbytes hbase h
    intro j u hu
    obtain ⟨b, off, he, _, hc⟩ := hsv.rds.at_ (by have := (List.getElem?_eq_some_iff.1 hu).1; omega)
    injection he with he
    subst he
    rw [add_at]
    exact hc j u hu
/-- 'copy(dst, src)', dst at the head of a block of the call's own, src a slice that is read. -/
theorem wpList_copy_sv (hgd : o.guard = none) (d s : Operand) (dT sT : TypeId)
    (ho : o.op = .call { callee := .builtin .copy, args := #[d, s], argTypes := #[dT, sT] }) (e : TypeId) (hu : P.underlying dT = some (.slice e)) (sz : Nat) (hsz : (P.info? e).map (·.size) = some sz)
    (g dLen dCap : Nat) (A : Option Addr) (m c B : Nat) (news : List Value) (hd : a.eval d = .slice (some ⟨g, 0, none⟩) dLen dCap) (hx : a.eval s = .slice A m c) (hsv : SV w B sz A m c news)
    (T : TypeId) (vs : List Value) (hg : Hd w g T vs) (hl : m = dLen) (hv : vs.length = dLen * sz) (h1 : ∀ u ∈ news, u.oneCell' = true)
    (h : ∀ w', Hd w' g T news → Fr (· = g) w w' → wpList P ops Q rest (a.put o.dst (goInt m)) w') : wpList P ops Q (o :: rest) a w := by
  refine wpList_plain hgd fun K hK => ?_
  obtain ⟨i, hi, hz⟩ := Option.map_eq_some_iff.1 hsz
  obtain ⟨r, hr⟩ := hg
  have hlen := hsv.len
  have hf : (Builtin.firstCells sz m (.slice A m c)).run P w = .ok news.toArray w := by
    cases A with
    | none =>
      have hc := hsv.nil rfl
      have hm : m = 0 := by have := hsv.le; omega
      have hn : news = [] := List.eq_nil_of_length_eq_zero (by rw [hlen, hm, Nat.zero_mul])
      rw [run_firstCells_none, hn]
    | some ad =>
      refine run_firstCells_some (P := P) w sz m ad m c news hlen fun j u hju => ?_
      obtain ⟨b, off, he, _, hc⟩ := hsv.rds.at_ (by have := (List.getElem?_eq_some_iff.1 hju).1; omega)
      injection he with he
      subst he
      rw [add_at]
      exact hc j u hju
  have hst := run_storeCells_at P g 0 T news 0 (vs ++ r).toArray w hr (by simp; subst hl; omega) h1
  have hrun : (Builtin.copy_ #[dT, sT] o.type #[.slice (some ⟨g, 0, none⟩) dLen dCap, .slice A m c]).run P w = .ok (goInt m) (w.setRow g (news ++ r).toArray) := by
    subst hl
    have e1 : (vs ++ r).drop (news.length) = r := by rw [hlen, ← hv]; exact List.drop_left
    simp [Builtin.copy_, run_underlying hu, sizeOf, typeInfo, hi, hz, Builtin.lenOf, hf, Nat.min_self] at hst ⊢
    simp [hst, e1]
  unfold Oper.wp
  simp [execOp, ho, resolve, invoke, builtin, hd, hx, hrun, Result.andThen]
  exact hK _ _ (h _ ⟨r, setRow_heap w g _ _ T _ hr⟩ ⟨rfl, rfl, rfl, by simp [World.setRow], fun k _ hk => setRow_other w g k _ hk⟩)
/-! arrays and structs loaded from, and stored into, the middle of a block -/
theorem run_loadVar_at (w : World) (g off : Nat) (ty : TypeId) (cs : Array Value) (d : TypeDesc) (hg : ∀ j v, cs.toList[j]? = some v → w.cell? ⟨g, off + j, none⟩ = some v)
    (hu : P.underlying ty = some d) (hd : (match d with | .struct _ | .array _ _ => true | _ => false) = true) (hi : (P.info? ty).map (·.size) = some cs.size) :
    (loadVar ty ⟨g, off, none⟩).run P w = .ok (.agg cs) w := by
  have hl : (loadCells ⟨g, off, none⟩ cs.toList.length).run P w = .ok cs.toList.toArray w :=
    run_loadCells_list (P := P) w ⟨g, off, none⟩ cs.toList (fun j v hv => by rw [add_at]; exact hg j v hv)
  cases hq : P.info? ty with
  | none => simp [hq] at hi
  | some i =>
    have hs : i.size = cs.size := by simpa [hq] using hi
    have hagg : (isAgg ty).run P w = .ok true w := by
      unfold isAgg
      rw [Sem.run_bind, run_underlying hu w]
      cases d <;> simp_all
    simp only [Array.length_toList, Array.toArray_toList] at hl
    simp [loadVar, Sem.run_bind, hagg, sizeOf, typeInfo, hq, hs, hl]
theorem wp_load_at {K : Act → World → Prop} (ty : TypeId) (x : Operand) (ho : o.op = .load ty x)
    (g off : Nat) (hx : a.eval x = .pointer (some ⟨g, off, none⟩)) (cs : Array Value) (d : TypeDesc) (hg : ∀ j v, cs.toList[j]? = some v → w.cell? ⟨g, off + j, none⟩ = some v)
    (hu : P.underlying ty = some d) (hd : (match d with | .struct _ | .array _ _ => true | _ => false) = true) (hi : (P.info? ty).map (·.size) = some cs.size)
    (h : K (a.put o.dst (.agg cs)) w) : o.wp P a w K Q := by
  unfold Oper.wp execOp
  simp only [ho, hx, Instr.loadAt, Instr.sureAddr, Sem.run_bind, Sem.run_pure, Result.andThen_ok, run_loadVar_at w g off ty cs d hg hu hd hi]
  exact h
theorem wpList_load_at (hgd : o.guard = none) (ty : TypeId) (x : Operand) (ho : o.op = .load ty x)
    (g off : Nat) (hx : a.eval x = .pointer (some ⟨g, off, none⟩)) (cs : Array Value) (d : TypeDesc) (hg : ∀ j v, cs.toList[j]? = some v → w.cell? ⟨g, off + j, none⟩ = some v)
    (hu : P.underlying ty = some d) (hd : (match d with | .struct _ | .array _ _ => true | _ => false) = true) (hi : (P.info? ty).map (·.size) = some cs.size)
    (h : wpList P ops Q rest (a.put o.dst (.agg cs)) w) : wpList P ops Q (o :: rest) a w :=
  wpList_plain hgd fun _ hK => wp_load_at ty x ho g off hx cs d hg hu hd hi (hK _ _ h)
/-- the value of a load of an array, as an equation for the walk -/
theorem run_load_at (w : World) (g off : Nat) (ty : TypeId) (cs : Array Value) (d : TypeDesc) (hg : ∀ j v, cs.toList[j]? = some v → w.cell? ⟨g, off + j, none⟩ = some v)
    (hu : P.underlying ty = some d) (hd : (match d with | .struct _ | .array _ _ => true | _ => false) = true) (hi : (P.info? ty).map (·.size) = some cs.size) :
    (Instr.loadAt ty (.pointer (some ⟨g, off, none⟩))).run P w = .ok (.agg cs) w := by
  simp only [Instr.loadAt, Instr.sureAddr, Sem.run_bind, Sem.run_pure, Result.andThen_ok, run_loadVar_at w g off ty cs d hg hu hd hi]
theorem results_at {fn : Func} {p : Tmp} {ty : TypeId} (h : fn.results = #[.cell p ty]) (tmps : Array Value) (w : World) (g off : Nat) (cs : Array Value) (d : TypeDesc)
    (hp : tmps.getD p undef = .pointer (some ⟨g, off, none⟩)) (hg : ∀ j v, cs.toList[j]? = some v → w.cell? ⟨g, off + j, none⟩ = some v)
    (hu : P.underlying ty = some d) (hd : (match d with | .struct _ | .array _ _ => true | _ => false) = true) (hi : (P.info? ty).map (·.size) = some cs.size) :
    (results fn tmps).run P w = .ok (.agg cs) w := by
  have hp' : tmps[p]?.getD undef = .pointer (some ⟨g, off, none⟩) := by simpa using hp
  simp [results, h, hp', asAddr, run_loadVar_at w g off ty cs d hg hu hd hi]
theorem Hd.cellsAt {w : World} {g off : Nat} {T : TypeId} {pre vs post : List Value} (h : Hd w g T (pre ++ vs ++ post)) (ho : off = pre.length) : ∀ j v, vs[j]? = some v → w.cell? ⟨g, off + j, none⟩ = some v := by
  intro j v hv
  subst ho
  refine h.cell ?_
  have hl := (List.getElem?_eq_some_iff.1 hv).1
  rw [List.append_assoc, List.getElem?_append_right (by omega), Nat.add_sub_cancel_left, List.getElem?_append_left hl]
  exact hv
theorem Hd.cells0 {w : World} {g : Nat} {T : TypeId} {vs : List Value} (h : Hd w g T vs) : ∀ j v, vs[j]? = some v → w.cell? ⟨g, 0 + j, none⟩ = some v := by
  intro j v hv
  rw [Nat.zero_add]
  exact h.cell hv
/-- a whole array stored into the middle of a block -/
theorem wpList_store_at (hgd : o.guard = none) (ty : TypeId) (x y : Operand) (ho : o.op = .store ty x y)
    (g off : Nat) (hx : a.eval x = .pointer (some ⟨g, off, none⟩)) (cs : List Value) (hy : a.eval y = .agg cs.toArray) (T : TypeId) (pre old post : List Value) (hg : Hd w g T (pre ++ old ++ post)) (hoff : off = pre.length) (hlen : old.length = cs.length)
    (hi : (P.info? ty).map (·.size) = some cs.length) (h1 : ∀ u ∈ cs, u.oneCell' = true)
    (h : ∀ w', Hd w' g T (pre ++ cs ++ post) → Fr (· = g) w w' → wpList P ops Q rest (a.put o.dst undef) w') : wpList P ops Q (o :: rest) a w := by
  refine wpList_plain hgd fun K hK => ?_
  obtain ⟨r, hr⟩ := hg
  obtain ⟨i, hi0, hz⟩ := Option.map_eq_some_iff.1 hi
  have hst := run_storeCells_at P g off T cs 0 ((pre ++ old ++ post) ++ r).toArray w hr (by simp; omega) h1
  have e1 : ((pre ++ old ++ post) ++ r).take off = pre := by subst hoff; simp
  have e2 : ((pre ++ old ++ post) ++ r).drop (off + cs.length) = post ++ r := by
    subst hoff
    rw [← hlen, List.append_assoc, ← List.length_append]
    exact List.drop_left
  simp only [Nat.add_zero] at hst
  rw [e1, e2] at hst
  unfold Oper.wp execOp
  simp [ho, hx, hy, Instr.storeAt, Instr.sureAddr, storeVar, Value.cells, sizeOf, typeInfo, hi0, hz, hst, Result.andThen]
  exact hK _ _ (h _ ⟨r, by rw [setRow_heap w g _ _ T _ hr]; simp⟩ ⟨rfl, rfl, rfl, by simp [World.setRow], fun k _ hk => setRow_other w g k _ hk⟩)
theorem wpList_build_as (hgd : o.guard = none) (t : TypeId) (parts : Array (Nat × Operand)) (ho : o.op = .build t parts) (cs : Array Value)
    (hb : P.built t (parts.map fun (i, x) => (i, a.eval x)).toList = some cs) (h : wpList P ops Q rest (a.put o.dst (.agg cs)) w) : wpList P ops Q (o :: rest) a w :=
  wpList_build hgd t parts ho (by rw [hb]; rfl) (by rw [hb]; exact h)
/-- 'copy(dst, src)' of one-cell elements into the middle of a block. -/
theorem wpList_copy_mid (hgd : o.guard = none) (d s : Operand) (dT sT : TypeId)
    (ho : o.op = .call { callee := .builtin .copy, args := #[d, s], argTypes := #[dT, sT] }) (e : TypeId) (hu : P.underlying dT = some (.slice e)) (hsz : (P.info? e).map (·.size) = some 1)
    (g off dLen dCap : Nat) (A : Option Addr) (m c : Nat) (cs : List Value) (hd : a.eval d = .slice (some ⟨g, off, none⟩) dLen dCap) (hx : a.eval s = .slice A m c) (hn : cs.length = Nat.min m dLen)
    (hsrc : 0 < cs.length → ∃ g' off', A = some ⟨g', off', none⟩ ∧ ∀ j v, cs[j]? = some v → w.cell? ⟨g', off' + j, none⟩ = some v)
    (T : TypeId) (pre old post : List Value) (hg : Hd w g T (pre ++ old ++ post)) (hoff : off = pre.length) (hlen : old.length = cs.length) (h1 : ∀ u ∈ cs, u.oneCell' = true)
    (h : ∀ w', Hd w' g T (pre ++ cs ++ post) → Fr (· = g) w w' → wpList P ops Q rest (a.put o.dst (goInt cs.length)) w') : wpList P ops Q (o :: rest) a w := by
  refine wpList_plain hgd fun K hK => ?_
  obtain ⟨i, hi, hz⟩ := Option.map_eq_some_iff.1 hsz
  obtain ⟨r, hr⟩ := hg
  have hf : (Builtin.firstCells 1 cs.length (.slice A m c)).run P w = .ok cs.toArray w := by
    by_cases h0 : cs.length = 0
    · have : cs = [] := List.eq_nil_of_length_eq_zero h0
      subst this
      cases A <;> simp [Builtin.firstCells, loadCells, loadCellsFrom]
    · obtain ⟨g', off', rfl, hc⟩ := hsrc (by omega)
      exact run_firstCells_some (P := P) w 1 cs.length _ m c cs (by omega) fun j u hju => by rw [add_at]; exact hc j u hju
  have hst := run_storeCells_at P g off T cs 0 ((pre ++ old ++ post) ++ r).toArray w hr (by simp; omega) h1
  have e1 : ((pre ++ old ++ post) ++ r).take off = pre := by subst hoff; simp
  have e2 : ((pre ++ old ++ post) ++ r).drop (off + cs.length) = post ++ r := by
    subst hoff
    rw [← hlen, List.append_assoc, ← List.length_append]
    exact List.drop_left
  simp only [Nat.add_zero] at hst
  rw [e1, e2] at hst
  have hrun : (Builtin.copy_ #[dT, sT] o.type #[.slice (some ⟨g, off, none⟩) dLen dCap, .slice A m c]).run P w = .ok (goInt cs.length) (w.setRow g (pre ++ cs ++ (post ++ r)).toArray) := by
    simp [Builtin.copy_, run_underlying hu, sizeOf, typeInfo, hi, hz, Builtin.lenOf, ← hn, hf] at hst ⊢
    simp [hst]
  unfold Oper.wp
  simp [execOp, ho, resolve, invoke, builtin, hd, hx, hrun, Result.andThen]
  exact hK _ _ (h _ ⟨r, by rw [setRow_heap w g _ _ T _ hr]; simp⟩ ⟨rfl, rfl, rfl, by simp [World.setRow], fun k _ hk => setRow_other w g k _ hk⟩)
/-- 'make([]T, n)': a new row of n zeros. -/
theorem wpList_make_sv (hgd : o.guard = none) (l c : Operand) (t : TypeId) (ho : o.op = .makeSlice t l c)
    (e : TypeId) (z : Value) (size bytes : Nat) (ht : P.underlying t = some (.slice e)) (hI : (P.info? e).map (fun i => (i.zero, i.size, i.bytes)) = some (some z, size, bytes))
    (kl kc : IntKind) (n : Nat) (hl : a.eval l = .int kl (n : Int)) (hc : a.eval c = .int kc (n : Int)) (hb : bytes * n ≤ 281474976710656) (hm : n ≤ 9223372036854775807)
    (h : ∀ w', w'.ownsRow w.heap.size e size (.slice (some ⟨w.heap.size, 0, none⟩) n n) n (madeCells z.cells (n * size)).toList → Hd w' w.heap.size e (madeCells z.cells (n * size)).toList → Fr none_ w w' → wpList P ops Q rest (a.put o.dst (.slice (some ⟨w.heap.size, 0, none⟩) n n)) w') : wpList P ops Q (o :: rest) a w := by
  obtain ⟨i, hi, hz0, hz1, hz2⟩ := info_parts hI
  refine wpList_make_full w hgd l c t ho w.heap.size e i z size ht hi hz0 hz1 kl kc _ _ n hl hc rfl rfl (by rw [hz2]; exact hb) (by unfold maxLen; omega) (Nat.le_refl _) fun w' hown hgr => ?_
  exact h w' hown (own_hd hown).2 ((fr_grown hgr).mono (fun _ _ e => by cases e))
end
end Go.Proofs.Yteibfhhbdpjpoaa
