import Derived.Test.YteibfhhbdpjpoaaPl1
import Derived.Test.YteibfhhbdpjpoaaOwn
/- sketch: Peel, under a contract of slices.Sort at so many items. -/
set_option linter.unusedVariables false
set_option linter.unusedSimpArgs false
namespace Go.Proofs.Yteibfhhbdpjpoaa
open Go.RowKit
set_option maxHeartbeats 4000000
/-- the first pure cell from i on (f: how many are left); else where the list ends -/
noncomputable def fpN (l : List SC) : Nat → Nat → Nat
  | i, 0 => i
  | i, f + 1 => if pureB l i = true then i else fpN l (i + 1) f
noncomputable def fp (l : List SC) : Nat := fpN l 0 l.length
/-- what peeling comes to: the cells, what was more, what was less -/
noncomputable def peelRun : Nat → List SC → List Int → List Int → List SC × List Int × List Int
  | 0, l, m, s => (l, m, s)
  | n + 1, l, m, s =>
    if fp l = l.length then (l, m, s)
    else if (l.getD (fp l) default).c = 1 then peelRun n (layL l (l.getD (fp l) default).i (-1)) (m ++ [(l.getD (fp l) default).i]) s
    else peelRun n (layL l (l.getD (fp l) default).i 1) m (s ++ [(l.getD (fp l) default).i])
theorem fpN_le (l : List SC) (i f : Nat) : fpN l i f ≤ i + f := by
  induction f generalizing i with
  | zero => exact Nat.le_refl _
  | succ f ih =>
    unfold fpN
    split
    · omega
    · have := ih (i + 1); omega
theorem fpN_pure (l : List SC) (i f : Nat) (h : fpN l i f < i + f) : pureB l (fpN l i f) = true := by
  induction f generalizing i with
  | zero => exact absurd h (by unfold fpN; omega)
  | succ f ih =>
    unfold fpN at h ⊢
    by_cases hp : pureB l i = true
    · rw [if_pos hp]; exact hp
    · rw [if_neg hp] at h ⊢
      exact ih (i + 1) (by omega)
theorem pureB_one {l : List SC} {i : Nat} (h : pureB l i = true) : (l.getD i default).c = 1 ∨ (l.getD i default).c = -1 := by
  unfold pureB at h
  exact (of_decide_eq_true h).1
theorem peelRun_length (n : Nat) : ∀ (l : List SC) (m s : List Int), (peelRun n l m s).1.length = l.length := by
  induction n with
  | zero => intro l m s; rfl
  | succ n ih =>
    intro l m s
    unfold peelRun
    split
    · rfl
    · split
      · rw [ih, layL_length]
      · rw [ih, layL_length]
theorem peelRun_count (n : Nat) : ∀ (l : List SC) (m s : List Int), (peelRun n l m s).2.1.length + (peelRun n l m s).2.2.length ≤ m.length + s.length + n := by
  induction n with
  | zero => intro l m s; exact Nat.le_refl _
  | succ n ih =>
    intro l m s
    unfold peelRun
    split
    · simp only []; omega
    · split
      · have := ih (layL l (l.getD (fp l) default).i (-1)) (m ++ [(l.getD (fp l) default).i]) s
        rw [List.length_append, List.length_cons, List.length_nil] at this
        omega
      · have := ih (layL l (l.getD (fp l) default).i 1) m (s ++ [(l.getD (fp l) default).i])
        rw [List.length_append, List.length_cons, List.length_nil] at this
        omega
def sortL (l : List Int) : List Int := l.mergeSort fun x y => decide (x ≤ y)
theorem sortL_length (l : List Int) : (sortL l).length = l.length := List.length_mergeSort ..
/-- slices.Sort is proved at lists of at most m items -/
def SortOK (m : Nat) : Prop :=
  ∀ (v : Value) (xs : List Int) (base : Nat) (w : World), xs.length ≤ m → w.ownsRow base 36 1 v xs.length (ints .u64 xs) →
    Calls Try.prog 30 #[v] w fun e w' => e = .returned (.tuple #[]) ∧ w'.ownsRow base 36 1 v xs.length (ints .u64 (sortL xs)) ∧ Fr (fun k => v.ownBlock = some k) w w'
def allZ (l : List SC) : Bool := decide (∀ s ∈ l, s = zeroSC)
/-- what Peel comes to -/
def Peeled (w : World) (l : List SC) (e : Ending) (w' : World) : Prop :=
  ∃ v2 v3, e = .returned (.tuple #[v2, v3, .bool (allZ (peelRun l.length l [] []).1)]) ∧
    w'.ownsRow w.heap.size 36 1 v2 (peelRun l.length l [] []).2.1.length (ints .u64 (sortL (peelRun l.length l [] []).2.1)) ∧
    w'.ownsRow w.heap.size 36 1 v3 (peelRun l.length l [] []).2.2.length (ints .u64 (sortL (peelRun l.length l [] []).2.2)) ∧ Fr none_ w w'
theorem infoU64 : (Try.prog.info? 36).map (fun i => (i.zero, i.size, i.bytes)) = some (some (.int .u64 0), 1, 8) := by kernel_rfl
/-- what is there while Peel runs: the sketch that is peeled (at p, its cells at g), the two lists -/
structure PeelEnv (w : World) (p g c : Nat) (l : List SC) (m s : List Int) (v2 v3 : Value) (wr : World) : Prop where
  hp : w.heap.size ≤ p
  hg : w.heap.size ≤ g
  hpg : p ≠ g
  hcl : l.length ≤ c
  hcm : c ≤ maxLen
  hc : wr.cell? ⟨p, 0, none⟩ = some (.slice (some ⟨g, 0, none⟩) l.length c)
  hd : Hd wr g 63 (flatC l)
  o2 : wr.ownsRow w.heap.size 36 1 v2 m.length (ints .u64 m)
  o3 : wr.ownsRow w.heap.size 36 1 v3 s.length (ints .u64 s)
  n2 : ∀ k, v2.ownBlock = some k → k ≠ p ∧ k ≠ g
  n3 : ∀ k, v3.ownBlock = some k → k ≠ p ∧ k ≠ g
  n23 : ∀ k, v2.ownBlock = some k → v3.ownBlock ≠ some k
  fr : Fr none_ w wr
theorem PeelEnv.step {w wr wx : World} {p g c : Nat} {l : List SC} {m s : List Int} {v2 v3 : Value} (h : PeelEnv w p g c l m s v2 v3 wr) (hf : Fr none_ wr wx) : PeelEnv w p g c l m s v2 v3 wx :=
  ⟨h.hp, h.hg, h.hpg, h.hcl, h.hcm, hf.cell h.hc (fun e => e), hf.keeps h.hd (fun e => e), own_fr h.o2 hf (fun _ _ e => e), own_fr h.o3 hf (fun _ _ e => e), h.n2, h.n3, h.n23, h.fr.then hf⟩
theorem PeelEnv.plt {w wr : World} {p g c : Nat} {l : List SC} {m s : List Int} {v2 v3 : Value} (h : PeelEnv w p g c l m s v2 v3 wr) : p < wr.heap.size := World.block_lt_of_cell? _ _ h.hc
/-- the list of what is more has grown -/
theorem PeelEnv.more {w wr wx : World} {p g c : Nat} {l : List SC} {m m' s : List Int} {v2 v2' v3 : Value} (h : PeelEnv w p g c l m s v2 v3 wr) (ho : wx.ownsRow w.heap.size 36 1 v2' m'.length (ints .u64 m'))
    (hf : Fr (fun k => v2.ownBlock = some k) wr wx) (hn : v2'.ownBlock = v2.ownBlock ∨ ∃ k, wr.heap.size ≤ k ∧ v2'.ownBlock = some k) : PeelEnv w p g c l m' s v2' v3 wx := by
  have hp := h.plt
  have hg := h.hd.lt
  refine ⟨h.hp, h.hg, h.hpg, h.hcl, h.hcm, hf.cell h.hc (fun e => (h.n2 _ e).1 rfl), hf.keeps h.hd (fun e => (h.n2 _ e).2 rfl), ho, own_fr h.o3 hf (fun k hk e => h.n23 k e hk), fun k hk => ?_, h.n3, fun k hk e => ?_, h.fr.trans hf (fun _ _ e => e) (fun k hk e => by have := own_ge h.o2 e; omega)⟩
  · rcases hn with hn | ⟨j, hj, hn⟩
    · rw [hn] at hk; exact h.n2 k hk
    · rw [hn] at hk; cases hk; omega
  · rcases hn with hn | ⟨j, hj, hn⟩
    · rw [hn] at hk; exact h.n23 k hk e
    · rw [hn] at hk; cases hk
      have := own_lt h.o3 e
      omega
theorem PeelEnv.less {w wr wx : World} {p g c : Nat} {l : List SC} {m s s' : List Int} {v2 v3 v3' : Value} (h : PeelEnv w p g c l m s v2 v3 wr) (ho : wx.ownsRow w.heap.size 36 1 v3' s'.length (ints .u64 s'))
    (hf : Fr (fun k => v3.ownBlock = some k) wr wx) (hn : v3'.ownBlock = v3.ownBlock ∨ ∃ k, wr.heap.size ≤ k ∧ v3'.ownBlock = some k) : PeelEnv w p g c l m s' v2 v3' wx := by
  have hp := h.plt
  have hg := h.hd.lt
  refine ⟨h.hp, h.hg, h.hpg, h.hcl, h.hcm, hf.cell h.hc (fun e => (h.n3 _ e).1 rfl), hf.keeps h.hd (fun e => (h.n3 _ e).2 rfl), own_fr h.o2 hf (fun k hk e => h.n23 k hk e), ho, h.n2, fun k hk => ?_, fun k hk e => ?_, h.fr.trans hf (fun _ _ e => e) (fun k hk e => by have := own_ge h.o3 e; omega)⟩
  · rcases hn with hn | ⟨j, hj, hn⟩
    · rw [hn] at hk; exact h.n3 k hk
    · rw [hn] at hk; cases hk; omega
  · rcases hn with hn | ⟨j, hj, hn⟩
    · rw [hn] at e; exact h.n23 k hk e
    · rw [hn] at e; cases e
      have := own_lt h.o2 hk
      omega
/-- the sketch has turned -/
theorem PeelEnv.lay {w wr wx : World} {p g c : Nat} {l l' : List SC} {m s : List Int} {v2 v3 : Value} (h : PeelEnv w p g c l m s v2 v3 wr) (hd : Hd wx g 63 (flatC l')) (hf : Fr (· = g) wr wx) (hl : l'.length = l.length) : PeelEnv w p g c l' m s v2 v3 wx :=
  ⟨h.hp, h.hg, h.hpg, by rw [hl]; exact h.hcl, h.hcm, by rw [hl]; exact hf.cell h.hc h.hpg, hd, own_fr h.o2 hf (fun k hk e => (h.n2 k hk).2 e), own_fr h.o3 hf (fun k hk e => (h.n3 k hk).2 e), h.n2, h.n3, h.n23, h.fr.trans hf (fun _ _ e => e) (fun k hk e => by have := h.hg; omega)⟩
theorem PeelEnv.sk {w wr : World} {p g c : Nat} {l : List SC} {m s : List Int} {v2 v3 : Value} (h : PeelEnv w p g c l m s v2 v3 wr) : SkAt wr p g l := ⟨c, h.hcl, h.hcm, h.hc, h.hd⟩
/-- what holds at the head of each round -/
def PeelRel (w : World) (p g c n : Nat) (R : List SC × List Int × List Int) (s2 s3 s24 : Value) (wr : World) : Prop :=
  ∃ (k : Nat) (lk : List SC) (m s : List Int), k ≤ n ∧ s24 = .int .i64 k ∧ lk.length = n ∧ m.length + s.length ≤ k ∧ peelRun (n - k) lk m s = R ∧ PeelEnv w p g c lk m s s2 s3 wr
def PureRel (w : World) (p g c n F : Nat) (lk : List SC) (m s : List Int) (v2 v3 s6 : Value) (wr : World) : Prop :=
  ∃ i : Nat, i ≤ n ∧ s6 = .int .i64 i ∧ fpN lk i (n - i) = F ∧ PeelEnv w p g c lk m s v2 v3 wr
def ZeroRel (w : World) (p g c n : Nat) (l : List SC) (m s : List Int) (v2 v3 s4 s85 : Value) (wr : World) : Prop :=
  ∃ k : Nat, k ≤ n ∧ s85 = .int .i64 k ∧ s4 = .bool (allZ (l.take k)) ∧ PeelEnv w p g c l m s v2 v3 wr
theorem allZ_take (l : List SC) (k : Nat) (h : k < l.length) : allZ (l.take (k + 1)) = (allZ (l.take k) && decide (l.getD k default = zeroSC)) := by
  rw [List.take_succ_eq_append_getElem h]
  unfold allZ
  rw [List.getD_eq_getElem?_getD, List.getElem?_eq_getElem h]
  rw [Bool.eq_iff_iff]
  simp only [decide_eq_true_eq, Bool.and_eq_true, List.mem_append, List.mem_singleton, Option.getD_some]
  exact ⟨fun h => ⟨fun s hs => h s (.inl hs), h _ (.inr rfl)⟩, fun h s hs => hs.elim (h.1 s) (fun e => e ▸ h.2)⟩
theorem eqlZ (w : World) (x : SC) : (binOp .eql 63 (.agg #[.int .i16 x.c, .int .u64 x.i, .int .u32 x.k]) (.agg #[.int .i16 0, .int .u64 0, .int .u32 0])).run Try.prog w = .ok (.bool (decide (x = zeroSC))) w := eqlSC w x zeroSC
set_option maxRecDepth 100000 in
theorem peel_calls (p0 g0 : Nat) (l : List SC) (w : World) (hs : SkAt w p0 g0 l) (h3 : 3 ≤ l.length) (hl : l.length ≤ 256) (mm : Nat) (hsort : SortOK mm) (hm2 : (peelRun l.length l [] []).2.1.length ≤ mm) (hm3 : (peelRun l.length l [] []).2.2.length ≤ mm) :
    Calls Try.prog 8 #[.pointer (some ⟨p0, 0, none⟩)] w (Peeled w l) := by
  obtain ⟨c0, h1, h2, hc, hd⟩ := hs
  have hsv : SV w w.heap.size 3 (some ⟨g0, 0, none⟩) l.length c0 (flatC l) := ⟨flatC_length l, h1, h2, (fun h => by cases h), .of_hd hd hd.lt⟩
  have cl := clone_calls _ _ _ _ l w hsv (by omega)
  have CL := Lib.hid cl
  have SO := Lib.hid hsort
  have HC := Lib.hid hc
  have HM2 := Lib.hid hm2
  have HM3 := Lib.hid hm3
  clear h1 h2 hd hsv cl hsort hm2 hm3
  go_enter Try.func8, Try.ntmps8
  repeat' (first | go_skip | go_guarded | ((fail_if_success (first | at_builtin | at_make)); go_step) | go_upon)
  refine (CL.out).mono ?_
  rintro e w1 ⟨A, c, rfl, hown, hF⟩
  clear hc
  have hAc : ∃ g, A = some ⟨g, 0, none⟩ := by
    rcases hown.2 with ⟨hv, hn⟩ | ⟨g, cap, cur, hv, _⟩
    · omega
    · injection hv with e1 e2 e3
      exact ⟨g, e1⟩
  obtain ⟨g, rfl⟩ := hAc
  obtain ⟨hg0, hd1⟩ := own_hd hown
  have hsv1 := SV.of_own hown
  dsimp only
  go_upto_region 4 with (fail)
  generalize hW2 : w1.alloc (.cells _ _) = W2
  obtain ⟨p, hp⟩ : ∃ p, p = w1.heap.size := ⟨_, rfl⟩
  have hpc : Hd W2 p 67 [.slice (some ⟨g, 0, none⟩) l.length c] := by rw [← hW2, hp]; exact Hd.new w1 _ _
  have hF2 : Fr none_ w1 W2 := by rw [← hW2]; exact (Fr.refl _).alloc _
  have hE : PeelEnv w p g c l [] [] (.slice none 0 0) (.slice none 0 0) W2 := by
    have := hF.size
    have := hd1.lt
    refine ⟨by omega, hg0, by omega, hsv1.le, hsv1.cap, hpc.cell (j := 0) rfl, hF2.keeps hd1 (fun e => e), own_nil' _ _ _ _, own_nil' _ _ _ _, ?_, ?_, ?_, hF.then hF2⟩
    · intro k hk; cases hk
    · intro k hk; cases hk
    · intro k hk; cases hk
  have hc2 : W2.cell? ⟨p0, 0, none⟩ = _ := (hF.then hF2).cell HC.out (fun e => e)
  rw [← hp]
  have HE := Lib.hid hE
  obtain ⟨R, hR⟩ : ∃ R, peelRun l.length l [] [] = R := ⟨_, rfl⟩
  obtain ⟨n, hn⟩ : ∃ n, l.length = n := ⟨_, rfl⟩
  have HR := Lib.hid hR
  have HN := Lib.hid hn
  rw [hn] at h3 hl hc2
  have S0 : PeelRel w p g c n R (.slice none 0 0) (.slice none 0 0) (.int .i64 0) W2 := ⟨0, l, [], [], Nat.zero_le _, rfl, hn, Nat.le_refl _, by rw [Nat.sub_zero, ← hn]; exact hR, hE⟩
  have HS0 := Lib.hid S0
  rw [hn]
  clear hW2 hpc hF2 hE hown hF hd1 hg0 hp hR hsv1 S0 HE hn
  go_upto_block 0 with (fail)
  go_cut [2, 3] (fun s2 s3 wx => PeelEnv w p g c R.1 R.2.1 R.2.2 s2 s3 wx)
  case first =>
    repeat' (first | go_skip | go_guarded | ((fail_if_success (first | at_builtin | at_make)); go_step) | go_upon)
    go_loopw [2, 3, 24] (fun s2 s3 s24 wr => PeelRel w p g c n R s2 s3 s24 wr) (fun _ _ s24 _ => n - (intOf s24).toNat)
    case atStart => exact HS0.out
    case round =>
      obtain ⟨k, lk, m, s, hk, rfl, hlk, hms, hrun, henv⟩ := hrel
      by_cases hkn : k < n
      · obtain ⟨F, hF⟩ : ∃ F, fp lk = F := ⟨_, rfl⟩
        have hFl : F ≤ n := by rw [← hF, ← hlk]; exact Nat.le_trans (fpN_le _ _ _) (by omega)
        have S1 : PureRel w p g c n F lk m s u2 u3 (.int .i64 0) wr := ⟨0, Nat.zero_le _, rfl, by rw [Nat.sub_zero, ← hlk]; exact hF, henv⟩
        have HS1 := Lib.hid S1
        have HRUN := Lib.hid hrun
        have HLK := Lib.hid hlk
        have HF := Lib.hid hF
        clear hrun henv hlk S1 hF
        repeat' (first | go_skip | go_guarded | ((fail_if_success (first | at_builtin | at_make)); go_step) | go_upon)
        obtain ⟨wo, rfl⟩ : ∃ wo : World, wo = wr := ⟨_, rfl⟩
        go_loopw [6] (fun s6 wi => PureRel w p g c n F lk m s u2 u3 s6 wi) (fun s6 _ => n - (intOf s6).toNat)
        case atStart => exact HS1.out
        case round =>
          obtain ⟨i, hi, rfl, hfp, henv⟩ := hrel
          by_cases hin : i < n
          · have c1 := henv.hc
            rw [HLK.out] at c1
            have hlk := HLK.out
            have pc := pure_calls p g i lk _ henv.sk (by omega) (by omega) (by omega)
            clear hlk
            cases hpb : pureB lk i with
            | false =>
              rw [hpb] at pc
              have hfp' : fpN lk (i + 1) (n - (i + 1)) = F := by
                rw [show n - i = (n - (i + 1)) + 1 by omega] at hfp
                unfold fpN at hfp
                rw [if_neg (by rw [hpb]; exact Bool.false_ne_true)] at hfp
                exact hfp
              have PC := Lib.hid pc
              have HFP := Lib.hid hfp'
              have HENV := Lib.hid henv
              clear pc hfp hfp' henv hpb
              repeat' (first | go_skip | go_guarded | ((fail_if_success (first | at_builtin | at_make)); go_step) | go_upon)
              refine (PC.out).mono ?_
              rintro e wj ⟨rfl, hFj⟩
              have HENV2 := Lib.hid (HENV.out.step hFj)
              clear hFj HENV c1
              dsimp only
              repeat' (first | go_skip | go_guarded | ((fail_if_success (first | at_builtin | at_make)); go_step) | go_upon)
              go_roundw
              case rel => exact ⟨i + 1, by omega, by go_num, HFP.out, HENV2.out⟩
              case measure => simp [intOf]; omega
            | true =>
              rw [hpb] at pc
              have hFi : F = i := by
                rw [← hfp, show n - i = (n - (i + 1)) + 1 by omega]
                unfold fpN
                rw [if_pos hpb]
              subst hFi
              have hone := pureB_one hpb
              have PC := Lib.hid pc
              have HENV := Lib.hid henv
              clear pc hfp henv hpb
              repeat' (first | go_skip | go_guarded | ((fail_if_success (first | at_builtin | at_make)); go_step) | go_upon)
              refine (PC.out).mono ?_
              rintro e wj ⟨rfl, hFj⟩
              have henv := HENV.out.step hFj
              clear hFj HENV c1
              have hlk := HLK.out
              have c1 := henv.hc
              rw [hlk] at c1
              have a0 := henv.hd.cell (flatC_at0 lk F (by omega))
              have a1 := henv.hd.cell (flatC_at1 lk F (by omega))
              have a2 := henv.hd.cell (flatC_at2 lk F (by omega))
              obtain ⟨sc, hsc⟩ : ∃ x, lk.getD F default = x := ⟨_, rfl⟩
              rw [hsc] at a0 a1 a2 hone
              have hrun := HRUN.out
              rw [show n - k = (n - (k + 1)) + 1 by omega] at hrun
              unfold peelRun at hrun
              rw [HF.out, if_neg (by omega), hsc] at hrun
              have hne : ((F : Int) == (n : Int)) = false := by simp; omega
              have HENV := Lib.hid henv
              rcases hone with hone | hone
              · rw [if_pos hone] at hrun
                rw [hone] at a0
                obtain ⟨si, hsi⟩ : ∃ x, sc.i = x := ⟨_, rfl⟩
                obtain ⟨sk, hsk⟩ : ∃ x, sc.k = x := ⟨_, rfl⟩
                rw [hsi] at a1 hrun
                rw [hsk] at a2
                have HRN := Lib.hid hrun
                clear hrun henv hlk hsc hone HRUN hsi hsk
                dsimp only
                repeat' (first | go_skip | go_guarded | ((fail_if_success (first | at_builtin | at_make)); go_step) | go_upon)
                obtain ⟨b7, hb7⟩ : ∃ b7, b7 = wj.heap.size := ⟨_, rfl⟩
                generalize hWb : wj.alloc (.cells _ _) = Wb
                have hd7 : Hd Wb b7 63 [.int .i16 (1), .int .u64 si, .int .u32 sk] := by rw [← hWb, hb7]; exact Hd.new wj _ _
                have hFb : Fr none_ wj Wb := by rw [← hWb]; exact (Fr.refl _).alloc _
                have henvb := HENV.out.step hFb
                have hsz7 : b7 < Wb.heap.size := hd7.lt
                have hszb : b7 + 1 = Wb.heap.size := by rw [← hWb, hb7]; simp
                rw [← hb7]
                refine L_append _ _ _ 28 _ _ _ w.heap.size 36 _ 1 8 Try.underlying28 infoU64 rfl (by omega) u2 m.length (ints .u64 m) rfl (own_fr henvb.o2 ((Fr.refl (S := none_) Wb).alloc _) (fun _ _ e => e)) (some ⟨b7 + 1, 0, none⟩) 1 1 (b7 + 1 + 1) [.int .u64 si] rfl (SV.one' Wb 36 (.int .u64 si) hszb) (ints_one .u64 [si]) ?_ ?_ ?_ ?_
                · unfold maxLen; omega
                · omega
                · have := henvb.fr.size; simp; omega
                intro v' wx ho hFx hnb
                have hFx' : Fr (fun k => Value.ownBlock u2 = some k) Wb wx := ((Fr.refl (S := none_) Wb).alloc _).trans hFx (fun _ _ e => e.elim) (fun _ _ e => e)
                have hnb' : v'.ownBlock = Value.ownBlock u2 ∨ ∃ k, Wb.heap.size ≤ k ∧ v'.ownBlock = some k := hnb.imp id fun e => ⟨_, by simp, e⟩
                have ho' : wx.ownsRow w.heap.size 36 1 v' (m ++ [si]).length (ints .u64 (m ++ [si])) := by rw [ints_append, List.length_append]; exact ho
                have henv2 := henvb.more ho' hFx' hnb'
                have hd7x := hFx'.keeps hd7 (fun e => by have := own_lt HENV.out.o2 e; omega)
                have b0 := hd7x.cell (j := 0) rfl
                have b1 := hd7x.cell (j := 1) rfl
                have lc := lay_calls si (-1) p g lk c wx (by rw [HLK.out]; exact h3) (by rw [HLK.out]; exact hl) henv2.hc henv2.hd
                have LC := Lib.hid lc
                have HENV2 := Lib.hid henv2
                clear henv2 henvb hFx hFx' hnb hnb' ho ho' hd7x hd7 hFb hWb hsz7 hszb hb7 a0 a1 a2 c1 HENV lc
                dsimp only [Act.put]
                repeat' (first | go_skip | go_guarded | ((fail_if_success (first | at_builtin | at_make)); go_step) | go_upon)
                refine (LC.out).mono ?_
                rintro e wy ⟨rfl, hdl, hFl⟩
                have HENV3 := Lib.hid (HENV2.out.lay hdl hFl (layL_length _ _ _))
                clear hdl hFl HENV2 b0 b1 LC
                dsimp only
                repeat' (first | go_skip | go_guarded | ((fail_if_success (first | at_builtin | at_make)); go_step) | go_upon)
                go_roundw
                case rel => exact ⟨k + 1, layL lk si (-1), m ++ [si], s, by omega, by go_num, by rw [layL_length]; exact HLK.out, by simp only [List.length_append, List.length_cons, List.length_nil]; omega, HRN.out, HENV3.out⟩
                case measure => simp [intOf]; omega
              · rw [if_neg (by omega)] at hrun
                rw [hone] at a0
                obtain ⟨si, hsi⟩ : ∃ x, sc.i = x := ⟨_, rfl⟩
                obtain ⟨sk, hsk⟩ : ∃ x, sc.k = x := ⟨_, rfl⟩
                rw [hsi] at a1 hrun
                rw [hsk] at a2
                have HRN := Lib.hid hrun
                clear hrun henv hlk hsc hone HRUN hsi hsk
                dsimp only
                repeat' (first | go_skip | go_guarded | ((fail_if_success (first | at_builtin | at_make)); go_step) | go_upon)
                obtain ⟨b7, hb7⟩ : ∃ b7, b7 = wj.heap.size := ⟨_, rfl⟩
                generalize hWb : wj.alloc (.cells _ _) = Wb
                have hd7 : Hd Wb b7 63 [.int .i16 (-1), .int .u64 si, .int .u32 sk] := by rw [← hWb, hb7]; exact Hd.new wj _ _
                have hFb : Fr none_ wj Wb := by rw [← hWb]; exact (Fr.refl _).alloc _
                have henvb := HENV.out.step hFb
                have hsz7 : b7 < Wb.heap.size := hd7.lt
                have hszb : b7 + 1 = Wb.heap.size := by rw [← hWb, hb7]; simp
                rw [← hb7]
                refine L_append _ _ _ 28 _ _ _ w.heap.size 36 _ 1 8 Try.underlying28 infoU64 rfl (by omega) u3 s.length (ints .u64 s) rfl (own_fr henvb.o3 ((Fr.refl (S := none_) Wb).alloc _) (fun _ _ e => e)) (some ⟨b7 + 1, 0, none⟩) 1 1 (b7 + 1 + 1) [.int .u64 si] rfl (SV.one' Wb 36 (.int .u64 si) hszb) (ints_one .u64 [si]) ?_ ?_ ?_ ?_
                · unfold maxLen; omega
                · omega
                · have := henvb.fr.size; simp; omega
                intro v' wx ho hFx hnb
                have hFx' : Fr (fun k => Value.ownBlock u3 = some k) Wb wx := ((Fr.refl (S := none_) Wb).alloc _).trans hFx (fun _ _ e => e.elim) (fun _ _ e => e)
                have hnb' : v'.ownBlock = Value.ownBlock u3 ∨ ∃ k, Wb.heap.size ≤ k ∧ v'.ownBlock = some k := hnb.imp id fun e => ⟨_, by simp, e⟩
                have ho' : wx.ownsRow w.heap.size 36 1 v' (s ++ [si]).length (ints .u64 (s ++ [si])) := by rw [ints_append, List.length_append]; exact ho
                have henv2 := henvb.less ho' hFx' hnb'
                have hd7x := hFx'.keeps hd7 (fun e => by have := own_lt HENV.out.o3 e; omega)
                have b0 := hd7x.cell (j := 0) rfl
                have b1 := hd7x.cell (j := 1) rfl
                have lc := lay_calls si 1 p g lk c wx (by rw [HLK.out]; exact h3) (by rw [HLK.out]; exact hl) henv2.hc henv2.hd
                have LC := Lib.hid lc
                have HENV2 := Lib.hid henv2
                clear henv2 henvb hFx hFx' hnb hnb' ho ho' hd7x hd7 hFb hWb hsz7 hszb hb7 a0 a1 a2 c1 HENV lc
                dsimp only [Act.put]
                repeat' (first | go_skip | go_guarded | ((fail_if_success (first | at_builtin | at_make)); go_step) | go_upon)
                refine (LC.out).mono ?_
                rintro e wy ⟨rfl, hdl, hFl⟩
                have HENV3 := Lib.hid (HENV2.out.lay hdl hFl (layL_length _ _ _))
                clear hdl hFl HENV2 b0 b1 LC
                dsimp only
                repeat' (first | go_skip | go_guarded | ((fail_if_success (first | at_builtin | at_make)); go_step) | go_upon)
                go_roundw
                case rel => exact ⟨k + 1, layL lk si 1, m, s ++ [si], by omega, by go_num, by rw [layL_length]; exact HLK.out, by simp only [List.length_append, List.length_cons, List.length_nil]; omega, HRN.out, HENV3.out⟩
                case measure => simp [intOf]; omega
          · obtain rfl : i = n := by omega
            have hFi : F = i := by
              rw [← hfp, Nat.sub_self]
              rfl
            subst hFi
            have hrun := HRUN.out
            rw [show F - k = (F - (k + 1)) + 1 by omega] at hrun
            unfold peelRun at hrun
            rw [HF.out, if_pos HLK.out.symm] at hrun
            have c1 := henv.hc
            rw [HLK.out] at c1
            have HENV := Lib.hid henv
            have HRN := Lib.hid hrun
            clear henv hrun hfp
            repeat' (first | go_skip | go_guarded | ((fail_if_success (first | at_builtin | at_make)); go_step) | go_upon)
            go_meet
            case rel =>
              rw [← HRN.out]
              exact HENV.out
      · obtain rfl : k = n := by omega
        rw [Nat.sub_self] at hrun
        unfold peelRun at hrun
        have HENV := Lib.hid henv
        have HRN := Lib.hid hrun
        clear henv hrun
        repeat' (first | go_skip | go_guarded | ((fail_if_success (first | at_builtin | at_make)); go_step) | go_upon)
        go_meet
        case rel =>
          rw [← HRN.out]
          exact HENV.out
  case rest =>
    have hRl : R.1.length = n := by rw [← HR.out, ← HN.out]; exact peelRun_length _ _ _ _
    have hRm : R.2.1.length + R.2.2.length ≤ n := by
      have := peelRun_count l.length l [] []
      rw [HR.out] at this
      simp only [List.length_nil] at this
      rw [← HN.out]
      omega
    have HCUT := Lib.hid hcut
    have HRL := Lib.hid hRl
    have HRM := Lib.hid hRm
    clear hcut hRl hRm hc2 HS0
    repeat' (first | go_skip | go_guarded | ((fail_if_success (first | at_builtin | at_make)); go_step) | go_upon)
    refine (SO.out u2 R.2.1 w.heap.size wc (by have := HM2.out; rw [HR.out] at this; exact this) HCUT.out.o2).mono ?_
    rintro e w3 ⟨rfl, ho2, hF3⟩
    have HE3 := Lib.hid (HCUT.out.more (m' := sortL R.2.1) (v2' := u2) (by rw [sortL_length]; exact ho2) hF3 (.inl rfl))
    clear ho2 hF3 HCUT
    dsimp only
    repeat' (first | go_skip | go_guarded | ((fail_if_success (first | at_builtin | at_make)); go_step) | go_upon)
    refine (SO.out u3 R.2.2 w.heap.size w3 (by have := HM3.out; rw [HR.out] at this; exact this) HE3.out.o3).mono ?_
    rintro e w4 ⟨rfl, ho3, hF4⟩
    have hE4 := HE3.out.less (s' := sortL R.2.2) (v3' := u3) (by rw [sortL_length]; exact ho3) hF4 (.inl rfl)
    have c1 := hE4.hc
    rw [HRL.out] at c1
    have HE4 := Lib.hid hE4
    clear ho3 hF4 HE3 hE4
    dsimp only
    repeat' (first | go_skip | go_guarded | ((fail_if_success (first | at_builtin | at_make)); go_step) | go_upon)
    have S2 : ZeroRel w p g c n R.1 (sortL R.2.1) (sortL R.2.2) u2 u3 (.bool true) (.int .i64 0) w4 := ⟨0, Nat.zero_le _, rfl, by rw [List.take_zero]; rfl, HE4.out⟩
    have HS2 := Lib.hid S2
    clear S2 HE4
    go_loopw [4, 85] (fun s4 s85 wr => ZeroRel w p g c n R.1 (sortL R.2.1) (sortL R.2.2) u2 u3 s4 s85 wr) (fun _ s85 _ => n - (intOf s85).toNat)
    case atStart => exact HS2.out
    case round =>
      obtain ⟨k, hk, rfl, rfl, henv⟩ := hrel
      by_cases hkn : k < n
      · have hRl := HRL.out
        have a0 := henv.hd.cell (flatC_at0 R.1 k (by omega))
        have a1 := henv.hd.cell (flatC_at1 R.1 k (by omega))
        have a2 := henv.hd.cell (flatC_at2 R.1 k (by omega))
        have htk : allZ (R.1.take (k + 1)) = (allZ (R.1.take k) && decide (R.1.getD k default = zeroSC)) := allZ_take R.1 k (by omega)
        obtain ⟨sc, hsc⟩ : ∃ x, R.1.getD k default = x := ⟨_, rfl⟩
        rw [hsc] at a0 a1 a2 htk
        have HENV := Lib.hid henv
        have HTK := Lib.hid htk
        clear henv htk hRl hsc c1
        cases haz : allZ (R.1.take k) with
        | false =>
          rw [haz] at HTK
          have hf : allZ (R.1.take (k + 1)) = false := HTK.out
          have HFZ := Lib.hid hf
          clear haz hf HTK
          repeat' (first | go_skip | go_guarded | ((fail_if_success (first | at_builtin | at_make)); go_step) | go_upon)
          generalize hWb : wr.alloc (.cells _ _) = Wb
          have hFb : Fr none_ wr Wb := by rw [← hWb]; exact (Fr.refl _).alloc _
          have HENV2 := Lib.hid (HENV.out.step hFb)
          clear hWb hFb HENV
          go_roundw
          case rel => exact ⟨k + 1, by omega, by go_num, by rw [HFZ.out], HENV2.out⟩
          case measure => simp [intOf]; omega
        | true =>
          rw [haz] at HTK
          have hf : allZ (R.1.take (k + 1)) = decide (sc = zeroSC) := HTK.out
          have q := fun w => eqlZ w sc
          have HFZ := Lib.hid hf
          obtain ⟨b, hb⟩ : ∃ b, decide (sc = zeroSC) = b := ⟨_, rfl⟩
          have HB := Lib.hid hb
          simp only [hb] at q
          obtain ⟨xc, hxc⟩ : ∃ x, sc.c = x := ⟨_, rfl⟩
          obtain ⟨xi, hxi⟩ : ∃ x, sc.i = x := ⟨_, rfl⟩
          obtain ⟨xk, hxk⟩ : ∃ x, sc.k = x := ⟨_, rfl⟩
          rw [hxc] at a0
          rw [hxi] at a1
          rw [hxk] at a2
          simp only [hxc, hxi, hxk] at q
          clear haz hf HTK hb hxc hxi hxk
          repeat' (first | go_skip | go_guarded | ((fail_if_success (first | at_builtin | at_make)); go_step) | go_upon)
          generalize hWb : wr.alloc (.cells _ _) = Wb
          have hFb : Fr none_ wr Wb := by rw [← hWb]; exact (Fr.refl _).alloc _
          have HENV2 := Lib.hid (HENV.out.step hFb)
          clear hWb hFb HENV
          go_roundw
          case rel => exact ⟨k + 1, by omega, by go_num, by rw [HFZ.out, HB.out], HENV2.out⟩
          case measure => simp [intOf]; omega
      · obtain rfl : k = n := by omega
        have HENV := Lib.hid henv
        have hz : allZ (R.1.take k) = allZ R.1 := by rw [List.take_of_length_le (by rw [HRL.out]; omega)]
        rw [hz]
        clear henv hz
        repeat' (first | go_skip | go_guarded | ((fail_if_success (first | at_builtin | at_make)); go_step) | go_upon)
        go_ret3
        unfold Peeled
        rw [HR.out]
        have henv := HENV.out
        have o2 := henv.o2
        have o3 := henv.o3
        rw [sortL_length] at o2 o3
        exact ⟨u2, u3, rfl, o2, o3, henv.fr⟩
end Go.Proofs.Yteibfhhbdpjpoaa
