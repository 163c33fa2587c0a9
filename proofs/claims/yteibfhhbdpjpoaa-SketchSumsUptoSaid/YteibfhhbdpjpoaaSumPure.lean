import Derived.Test.YteibfhhbdpjpoaaSk2
/- The sums of sketches, as plain lists: adding commutes, taking away undoes it; the difference of two sums hangs on what each has more often. -/
set_option linter.unusedVariables false
set_option linter.unusedSimpArgs false
namespace Go.Proofs.Yteibfhhbdpjpoaa
open Go.RowKit
theorem wrap16 (n : Int) : IntKind.i16.wrap n = (n + 32768) % 65536 - 32768 := by
  simp [IntKind.wrap, IntKind.bits, IntKind.signed]
  split <;> omega
theorem xor64_def (a b : Int) : Go.bits .xor .u64 a b = ((BitVec.ofInt 64 a ^^^ BitVec.ofInt 64 b).toNat : Int) := by
  show IntKind.u64.wrap ((BitVec.ofInt 64 a ^^^ BitVec.ofInt 64 b).toNat : Int) = _
  have := (BitVec.ofInt 64 a ^^^ BitVec.ofInt 64 b).isLt
  rw [IntKind.wrap_u64]
  omega
theorem xor32_def (a b : Int) : Go.bits .xor .u32 a b = ((BitVec.ofInt 32 a ^^^ BitVec.ofInt 32 b).toNat : Int) := by
  show IntKind.u32.wrap ((BitVec.ofInt 32 a ^^^ BitVec.ofInt 32 b).toNat : Int) = _
  have := (BitVec.ofInt 32 a ^^^ BitVec.ofInt 32 b).isLt
  rw [IntKind.wrap_u32]
  omega
theorem ofNat64 (v : BitVec 64) : BitVec.ofInt 64 (v.toNat : Int) = v := by rw [BitVec.ofInt_natCast]; simp
theorem ofNat32 (v : BitVec 32) : BitVec.ofInt 32 (v.toNat : Int) = v := by rw [BitVec.ofInt_natCast]; simp
theorem toNat64 (a : Int) (h0 : 0 ≤ a) (h1 : a < 18446744073709551616) : ((BitVec.ofInt 64 a).toNat : Int) = a := by
  obtain ⟨n, rfl⟩ := Int.eq_ofNat_of_zero_le h0
  rw [BitVec.ofInt_natCast, BitVec.toNat_ofNat, Nat.mod_eq_of_lt (by omega)]
theorem toNat32 (a : Int) (h0 : 0 ≤ a) (h1 : a < 4294967296) : ((BitVec.ofInt 32 a).toNat : Int) = a := by
  obtain ⟨n, rfl⟩ := Int.eq_ofNat_of_zero_le h0
  rw [BitVec.ofInt_natCast, BitVec.toNat_ofNat, Nat.mod_eq_of_lt (by omega)]
theorem xor64_comm (a x y : Int) : Go.bits .xor .u64 (Go.bits .xor .u64 a x) y = Go.bits .xor .u64 (Go.bits .xor .u64 a y) x := by
  simp only [xor64_def, ofNat64]
  congr 2
  rw [BitVec.xor_assoc, BitVec.xor_assoc, BitVec.xor_comm (BitVec.ofInt 64 x)]
theorem xor32_comm (a x y : Int) : Go.bits .xor .u32 (Go.bits .xor .u32 a x) y = Go.bits .xor .u32 (Go.bits .xor .u32 a y) x := by
  simp only [xor32_def, ofNat32]
  congr 2
  rw [BitVec.xor_assoc, BitVec.xor_assoc, BitVec.xor_comm (BitVec.ofInt 32 x)]
theorem xor64_back (a x : Int) (h0 : 0 ≤ a) (h1 : a < 18446744073709551616) : Go.bits .xor .u64 (Go.bits .xor .u64 a x) x = a := by
  simp only [xor64_def, ofNat64]
  rw [BitVec.xor_assoc, BitVec.xor_self, BitVec.xor_zero, toNat64 a h0 h1]
theorem xor32_back (a x : Int) (h0 : 0 ≤ a) (h1 : a < 4294967296) : Go.bits .xor .u32 (Go.bits .xor .u32 a x) x = a := by
  simp only [xor32_def, ofNat32]
  rw [BitVec.xor_assoc, BitVec.xor_self, BitVec.xor_zero, toNat32 a h0 h1]
theorem xor64_right (a b x : Int) : Go.bits .xor .u64 a (Go.bits .xor .u64 b x) = Go.bits .xor .u64 (Go.bits .xor .u64 a b) x := by
  simp only [xor64_def, ofNat64]
  rw [BitVec.xor_assoc]
theorem xor32_right (a b x : Int) : Go.bits .xor .u32 a (Go.bits .xor .u32 b x) = Go.bits .xor .u32 (Go.bits .xor .u32 a b) x := by
  simp only [xor32_def, ofNat32]
  rw [BitVec.xor_assoc]
theorem xor64_zero (a : Int) (h0 : 0 ≤ a) (h1 : a < 18446744073709551616) : Go.bits .xor .u64 a 0 = a := by
  rw [xor64_def, show BitVec.ofInt 64 0 = 0#64 from rfl, BitVec.xor_zero, toNat64 a h0 h1]
theorem xor32_zero (a : Int) (h0 : 0 ≤ a) (h1 : a < 4294967296) : Go.bits .xor .u32 a 0 = a := by
  rw [xor32_def, show BitVec.ofInt 32 0 = 0#32 from rfl, BitVec.xor_zero, toNat32 a h0 h1]
/-- a cell's numbers are of their kinds -/
def WfC (s : SC) : Prop := (-32768 ≤ s.c ∧ s.c ≤ 32767) ∧ (0 ≤ s.i ∧ s.i < 18446744073709551616) ∧ (0 ≤ s.k ∧ s.k < 4294967296)
theorem layC_wf (x b : Int) (s : SC) : WfC (layC x b s) := by
  unfold WfC layC
  have h1 := bits_lo_u64 .xor s.i x
  have h2 := bits_hi_u64 .xor s.i x
  have h3 := bits_lo_u32 .xor s.k (checkF x)
  have h4 := bits_hi_u32 .xor s.k (checkF x)
  have h5 := wrap16 (s.c + b)
  refine ⟨⟨?_, ?_⟩, ⟨?_, ?_⟩, ?_, ?_⟩ <;> simp only [] <;> omega
theorem layC_comm (x b y c : Int) (s : SC) : layC x b (layC y c s) = layC y c (layC x b s) := by
  unfold layC
  simp only [SC.mk.injEq]
  refine ⟨?_, xor64_comm .., xor32_comm ..⟩
  rw [wrap16, wrap16, wrap16, wrap16]
  omega
theorem layC_back (x b : Int) (s : SC) (h : WfC s) : layC x (-b) (layC x b s) = s := by
  obtain ⟨⟨h1, h2⟩, ⟨h3, h4⟩, h5, h6⟩ := h
  cases s with
  | mk c i k =>
    unfold layC
    simp only [SC.mk.injEq]
    refine ⟨?_, xor64_back _ _ h3 h4, xor32_back _ _ h5 h6⟩
    simp only [] at h1 h2
    rw [wrap16, wrap16]
    omega
theorem layAt_get (x b : Int) (l : List SC) (i j : Nat) : (layAt x b l i)[j]? = (l[j]?).map fun s => if j = i then layC x b s else s := by
  unfold layAt
  rw [List.getElem?_set]
  by_cases h : i = j
  · subst h
    simp only [if_true]
    by_cases hl : i < l.length
    · rw [if_pos hl, List.getElem?_eq_getElem hl]
      simp [hl]
    · rw [if_neg hl, List.getElem?_eq_none (by omega)]
      rfl
  · rw [if_neg h]
    cases l[j]? with
    | none => rfl
    | some s => simp [show ¬ j = i from fun e => h e.symm]
def hit (n : Nat) (x : Int) (j : Nat) : Prop := j = placeN n x 0 ∨ j = placeN n x 1 ∨ j = placeN n x 2
noncomputable instance (n : Nat) (x : Int) (j : Nat) : Decidable (hit n x j) := Classical.propDecidable _
theorem layL_get (l : List SC) (x b : Int) (h3 : 3 ≤ l.length) (j : Nat) : (layL l x b)[j]? = (l[j]?).map fun s => if hit l.length x j then layC x b s else s := by
  have h01 := placeN_01 l.length x h3
  have h12 := placeN_12 l.length x h3
  unfold layL
  simp only [layAt_get]
  cases l[j]? with
  | none => rfl
  | some s =>
    simp only [Option.map_some, Option.some.injEq]
    by_cases a : j = placeN l.length x 0
    · rw [if_pos a, if_neg (show ¬ j = placeN l.length x 1 by omega), if_neg (show ¬ j = placeN l.length x 2 by omega), if_pos (show hit l.length x j from .inl a)]
    · rw [if_neg a]
      by_cases b' : j = placeN l.length x 1
      · rw [if_pos b', if_neg (show ¬ j = placeN l.length x 2 by omega), if_pos (show hit l.length x j from .inr (.inl b'))]
      · rw [if_neg b']
        by_cases c : j = placeN l.length x 2
        · rw [if_pos c, if_pos (show hit l.length x j from .inr (.inr c))]
        · rw [if_neg c, if_neg (show ¬ hit l.length x j by rintro (h | h | h) <;> contradiction)]
def WfL (l : List SC) : Prop := 3 ≤ l.length ∧ ∀ s ∈ l, WfC s
theorem WfL.at_ {l : List SC} (h : WfL l) {j : Nat} {s : SC} (hj : l[j]? = some s) : WfC s := h.2 s (List.mem_of_getElem? hj)
theorem layL_wf (l : List SC) (x b : Int) (h : WfL l) : WfL (layL l x b) := by
  refine ⟨by rw [layL_length]; exact h.1, fun s hs => ?_⟩
  obtain ⟨j, hj⟩ := List.mem_iff_getElem?.1 hs
  rw [layL_get l x b h.1] at hj
  obtain ⟨t, ht, rfl⟩ := Option.map_eq_some_iff.1 hj
  split
  · exact layC_wf ..
  · exact h.at_ ht
theorem layL_comm (l : List SC) (x b y c : Int) (h3 : 3 ≤ l.length) : layL (layL l x b) y c = layL (layL l y c) x b := by
  refine List.ext_getElem? fun j => ?_
  rw [layL_get (layL l x b) y c (by rw [layL_length]; exact h3), layL_get (layL l y c) x b (by rw [layL_length]; exact h3), layL_get l x b h3, layL_get l y c h3, layL_length, layL_length]
  cases l[j]? with
  | none => rfl
  | some s =>
    simp only [Option.map_some, Option.some.injEq]
    by_cases p : hit l.length x j <;> by_cases q : hit l.length y j <;> simp only [p, q, if_true, if_false]
    exact layC_comm ..
theorem layL_back (l : List SC) (x b : Int) (h : WfL l) : layL (layL l x b) x (-b) = l := by
  refine List.ext_getElem? fun j => ?_
  rw [layL_get _ x (-b) (by rw [layL_length]; exact h.1), layL_get l x b h.1, layL_length]
  cases hj : l[j]? with
  | none => rfl
  | some s =>
    simp only [Option.map_some, Option.some.injEq]
    by_cases p : hit l.length x j <;> simp only [p, if_true, if_false]
    exact layC_back _ _ _ (h.at_ hj)
/-- the difference of two cells, of two sketches -/
def subC (s t : SC) : SC := ⟨IntKind.i16.wrap (s.c - t.c), Go.bits .xor .u64 s.i t.i, Go.bits .xor .u32 s.k t.k⟩
def subL (l m : List SC) : List SC := List.zipWith subC l m
theorem subL_length (l m : List SC) (h : l.length = m.length) : (subL l m).length = l.length := by unfold subL; rw [List.length_zipWith]; omega
theorem subL_get (l m : List SC) (j : Nat) : (subL l m)[j]? = (match l[j]?, m[j]? with | some s, some t => some (subC s t) | _, _ => none) := by
  unfold subL
  rw [List.getElem?_zipWith]
  cases l[j]? <;> cases m[j]? <;> rfl
theorem subC_lay (s t : SC) (x : Int) : subC s (layC x 1 t) = layC x (-1) (subC s t) := by
  unfold subC layC
  simp only [SC.mk.injEq]
  refine ⟨?_, xor64_right .., xor32_right ..⟩
  rw [wrap16, wrap16, wrap16, wrap16]
  omega
theorem subL_lay (l m : List SC) (x : Int) (h : l.length = m.length) (h3 : 3 ≤ l.length) : subL l (layL m x 1) = layL (subL l m) x (-1) := by
  refine List.ext_getElem? fun j => ?_
  rw [subL_get, layL_get _ _ _ (by omega), layL_get _ _ _ (by rw [subL_length _ _ h]; exact h3), subL_get, subL_length _ _ h, ← h]
  cases l[j]? with
  | none => rfl
  | some s =>
    cases m[j]? with
    | none => rfl
    | some t =>
      simp only [Option.map_some, Option.some.injEq]
      by_cases p : hit l.length x j <;> simp only [p, if_true, if_false]
      exact subC_lay ..
theorem subL_zero (l : List SC) (h : WfL l) : subL l (List.replicate l.length ⟨0, 0, 0⟩) = l := by
  refine List.ext_getElem? fun j => ?_
  rw [subL_get]
  cases hj : l[j]? with
  | none => rfl
  | some s =>
    have hl := (List.getElem?_eq_some_iff.1 hj).1
    rw [List.getElem?_replicate, if_pos hl]
    simp only [Option.some.injEq]
    obtain ⟨⟨h1, h2⟩, ⟨h3, h4⟩, h5, h6⟩ := h.at_ hj
    unfold subC
    cases s with
    | mk c i k =>
      simp only [SC.mk.injEq]
      refine ⟨?_, xor64_zero _ h3 h4, xor32_zero _ h5 h6⟩
      simp only [] at h1 h2
      rw [wrap16]
      omega
/-! many items: signed, in any order -/
noncomputable def ap (l : List SC) (ops : List (Int × Int)) : List SC := ops.foldr (fun o l => layL l o.1 o.2) l
theorem ap_append (l : List SC) (a b : List (Int × Int)) : ap l (a ++ b) = ap (ap l b) a := by unfold ap; rw [List.foldr_append]
theorem ap_length (l : List SC) (a : List (Int × Int)) : (ap l a).length = l.length := by
  induction a with
  | nil => rfl
  | cons o a ih => show (layL (ap l a) o.1 o.2).length = _; rw [layL_length, ih]
theorem ap_wf (l : List SC) (a : List (Int × Int)) (h : WfL l) : WfL (ap l a) := by
  induction a with
  | nil => exact h
  | cons o a ih => exact layL_wf _ _ _ ih
theorem ap_perm {a b : List (Int × Int)} (hp : a.Perm b) : ∀ (l : List SC), 3 ≤ l.length → ap l a = ap l b := by
  induction hp with
  | nil => intro l _; rfl
  | cons x _ ih => intro l h; show layL (ap l _) _ _ = layL (ap l _) _ _; rw [ih l h]
  | swap x y r => intro l h; exact layL_comm (ap l r) _ _ _ _ (by rw [ap_length]; exact h)
  | trans _ _ ih1 ih2 => intro l h; rw [ih1 l h, ih2 l h]
section
variable {α : Type} (item : α → Int)
def pos (l : List α) : List (Int × Int) := l.map fun e => (item e, 1)
def neg (l : List α) : List (Int × Int) := l.map fun e => (item e, -1)
theorem pos_append (l m : List α) : pos item (l ++ m) = pos item l ++ pos item m := by simp [pos]
theorem ap_back (l : List SC) (m : List α) (h : WfL l) : ap (ap l (pos item m)) (neg item m) = l := by
  induction m generalizing l with
  | nil => rfl
  | cons e m ih =>
    have h1 : ap (layL (ap l (pos item m)) (item e) 1) (neg item m) = layL (ap (ap l (pos item m)) (neg item m)) (item e) 1 := by
      have hp : ((neg item m) ++ [(item e, 1)]).Perm ((item e, 1) :: neg item m) := List.perm_append_singleton ..
      have := ap_perm hp (ap l (pos item m)) (by rw [ap_length]; exact h.1)
      rw [ap_append] at this
      exact this
    show layL (ap (layL (ap l (pos item m)) (item e) 1) (neg item m)) (item e) (-1) = l
    rw [h1, ih l h, layL_back _ _ _ h]
theorem ap_inj (l m : List SC) (a : List α) (h1 : WfL l) (h2 : WfL m) (h : ap l (pos item a) = ap m (pos item a)) : l = m := by
  rw [← ap_back item l a h1, h, ap_back item m a h2]
/-- a sketch to which items are added one by one -/
noncomputable def adds (l : List SC) (es : List α) : List SC := es.foldl (fun l e => layL l (item e) 1) l
theorem adds_ap (l : List SC) (es : List α) (h : 3 ≤ l.length) : adds item l es = ap l (pos item es) := by
  have h1 : adds item l es = ap l (pos item es).reverse := by
    unfold adds ap pos
    rw [List.foldr_reverse, List.foldl_map]
  rw [h1]
  exact ap_perm (List.reverse_perm _) l h
theorem sub_adds (s : List SC) (m : List α) (hs : WfL s) : subL s (ap (List.replicate s.length ⟨0, 0, 0⟩) (pos item m)) = ap s (neg item m) := by
  induction m with
  | nil => exact subL_zero s hs
  | cons e m ih =>
    show subL s (layL (ap _ (pos item m)) (item e) 1) = layL (ap s (neg item m)) (item e) (-1)
    rw [subL_lay _ _ _ (by rw [ap_length, List.length_replicate]) hs.1, ih]
variable [DecidableEq α]
/-- the elements of m that stand there more often, from there on, than in l -/
def sur (l : List α) : List α → List α
  | [] => []
  | x :: r => if l.count x < (x :: r).count x then x :: sur l r else sur l r
theorem sur_count (l m : List α) (y : α) : (sur l m).count y = m.count y - l.count y := by
  induction m with
  | nil => simp [sur]
  | cons x r ih =>
    unfold sur
    by_cases h : l.count x < (x :: r).count x
    · rw [if_pos h]
      by_cases e : x = y
      · subst e
        rw [List.count_cons_self] at h ⊢
        rw [List.count_cons_self, ih]
        omega
      · rw [List.count_cons_of_ne e, List.count_cons_of_ne e, ih]
    · rw [if_neg h, ih]
      by_cases e : x = y
      · subst e
        rw [List.count_cons_self] at h ⊢
        omega
      · rw [List.count_cons_of_ne e]
theorem sur_perm (l m : List α) : (m ++ sur m l).Perm (l ++ sur l m) := by
  rw [List.perm_iff_count]
  intro y
  rw [List.count_append, List.count_append, sur_count, sur_count]
  omega
theorem wf_zero (n : Nat) (h : 3 ≤ n) : WfL (List.replicate n ⟨0, 0, 0⟩) := by
  refine ⟨by rw [List.length_replicate]; exact h, fun s hs => ?_⟩
  rw [(List.mem_replicate.1 hs).2]
  unfold WfC
  refine ⟨⟨?_, ?_⟩, ⟨?_, ?_⟩, ?_, ?_⟩ <;> simp only [] <;> omega
/-- the difference of two sums is the sum of what each has more often -/
theorem sums_law (n : Nat) (h : 3 ≤ n) (l m : List α) :
    subL (adds item (List.replicate n ⟨0, 0, 0⟩) l) (adds item (List.replicate n ⟨0, 0, 0⟩) m) = ap (ap (List.replicate n ⟨0, 0, 0⟩) (neg item (sur l m))) (pos item (sur m l)) := by
  have hz := wf_zero n h
  rw [adds_ap _ _ _ hz.1, adds_ap _ _ _ hz.1]
  have hs := ap_wf _ (pos item l) hz
  have hlen : (ap (List.replicate n ⟨0, 0, 0⟩) (pos item l)).length = n := by rw [ap_length, List.length_replicate]
  have h1 := sub_adds item _ m hs
  rw [hlen] at h1
  rw [h1]
  have key : ∀ (a b : List (Int × Int)), ap (ap (List.replicate n ⟨0, 0, 0⟩) a) b = ap (List.replicate n ⟨0, 0, 0⟩) (b ++ a) := fun a b => (ap_append _ _ _).symm
  refine ap_inj item _ _ (m ++ sur l m) (ap_wf _ _ hs) (ap_wf _ _ (ap_wf _ _ hz)) ?_
  have e1 : ap (ap (ap (List.replicate n ⟨0, 0, 0⟩) (pos item l)) (neg item m)) (pos item (m ++ sur l m)) = ap (List.replicate n ⟨0, 0, 0⟩) (pos item (l ++ sur l m)) := by
    have p1 : (pos item (m ++ sur l m) ++ (neg item m ++ pos item l)).Perm (neg item m ++ (pos item m ++ pos item (l ++ sur l m))) := by
      rw [pos_append, pos_append]
      generalize pos item m = A
      generalize pos item (sur l m) = B
      generalize neg item m = C
      generalize pos item l = D
      rw [List.perm_iff_count]
      intro y
      simp only [List.count_append]
      omega
    rw [key, key, ap_perm p1 _ hz.1, ← key, ← key, ap_back item _ _ (ap_wf _ _ hz)]
  have e2 : ap (ap (ap (List.replicate n ⟨0, 0, 0⟩) (neg item (sur l m))) (pos item (sur m l))) (pos item (m ++ sur l m)) = ap (List.replicate n ⟨0, 0, 0⟩) (pos item (m ++ sur m l)) := by
    have p1 : (pos item (m ++ sur l m) ++ (pos item (sur m l) ++ neg item (sur l m))).Perm (neg item (sur l m) ++ (pos item (sur l m) ++ pos item (m ++ sur m l))) := by
      rw [pos_append, pos_append]
      generalize pos item m = A
      generalize pos item (sur l m) = B
      generalize neg item (sur l m) = C
      generalize pos item (sur m l) = D
      rw [List.perm_iff_count]
      intro y
      simp only [List.count_append]
      omega
    rw [key, key, ap_perm p1 _ hz.1, ← key, ← key, ap_back item _ _ (ap_wf _ _ hz)]
  rw [e1, e2]
  refine ap_perm ?_ _ hz.1
  exact (List.Perm.map _ (sur_perm l m)).symm
end
end Go.Proofs.Yteibfhhbdpjpoaa
