import Derived.Test.YteibfhhbdpjpoaaDg2
/- digest: Write. -/
set_option linter.unusedVariables false
set_option linter.unusedSimpArgs false
namespace Go.Proofs.Yteibfhhbdpjpoaa
open Go.RowKit
set_option maxHeartbeats 4000000
noncomputable def stepF (S B : List Int) : List Int := stepC rotF cubesF S B
theorem stepF_length (S B : List Int) (h : S.length = 8) : (stepF S B).length = 8 := stepC_length rotF cubesF S B h
theorem hc_held {w : World} {h : Nat} {st rest : List Int} {held : Nat} {n : Int} (hd : Hd w h 121 (hcells st rest held n)) (h1 : st.length = 8) (h2 : rest.length = 64) : w.cell? ⟨h, 72, none⟩ = some (.int .i64 held) := by
  refine hd.cell ?_
  unfold hcells
  rw [List.getElem?_append_right (by simp [ints_length]; omega)]
  simp [ints_length, h1, h2]
theorem hc_n {w : World} {h : Nat} {st rest : List Int} {held : Nat} {n : Int} (hd : Hd w h 121 (hcells st rest held n)) (h1 : st.length = 8) (h2 : rest.length = 64) : w.cell? ⟨h, 73, none⟩ = some (.int .u64 n) := by
  refine hd.cell ?_
  unfold hcells
  rw [List.getElem?_append_right (by simp [ints_length]; omega)]
  simp [ints_length, h1, h2]
theorem hc_setN {w : World} {h : Nat} {st rest : List Int} {held : Nat} {n : Int} (hd : Hd w h 121 (hcells st rest held n)) (h1 : st.length = 8) (h2 : rest.length = 64) (m : Int) : Hd (w.setCell ⟨h, 73, none⟩ (.int .u64 m)) h 121 (hcells st rest held m) := by
  have := hd.setCell (j := 73) (by simp [hcells, ints_length]; omega) (.int .u64 m)
  have e : (hcells st rest held n).set 73 (.int .u64 m) = hcells st rest held m := by
    unfold hcells
    rw [List.set_append_right _ _ (by simp [ints_length]; omega)]
    simp [ints_length, h1, h2]
  rwa [e] at this
theorem hc_setHeld {w : World} {h : Nat} {st rest : List Int} {held : Nat} {n : Int} (hd : Hd w h 121 (hcells st rest held n)) (h1 : st.length = 8) (h2 : rest.length = 64) (m : Nat) : Hd (w.setCell ⟨h, 72, none⟩ (.int .i64 m)) h 121 (hcells st rest m n) := by
  have := hd.setCell (j := 72) (by simp [hcells, ints_length]; omega) (.int .i64 m)
  have e : (hcells st rest held n).set 72 (.int .i64 m) = hcells st rest m n := by
    unfold hcells
    rw [List.set_append_right _ _ (by simp [ints_length]; omega)]
    simp [ints_length, h1, h2]
  rwa [e] at this
theorem hc_state {w : World} {h : Nat} {st rest : List Int} {held : Nat} {n : Int} : Hd w h 121 (hcells st rest held n) ↔ Hd w h 121 ([] ++ ints .u32 st ++ (ints .u8 rest ++ [.int .i64 held, .int .u64 n])) := by
  unfold hcells
  rw [List.nil_append, List.append_assoc]
/-- the bytes that are still to be written -/
def Todo (w : World) (b off n c : Nat) (p : List Int) : Prop := p.length = n ∧ n ≤ c ∧ c ≤ 9223372036854775807 ∧ ∀ j, j < p.length → w.cell? ⟨b, off + j, none⟩ = some (.int .u8 (p.getD j default))
theorem Todo.fr {S : Nat → Prop} {w w' : World} {b off n c : Nat} {p : List Int} (h : Todo w b off n c p) (hf : Fr S w w') (hs : ¬ S b) : Todo w' b off n c p := ⟨h.1, h.2.1, h.2.2.1, fun j hj => hf.cell (h.2.2.2 j hj) hs⟩
theorem arrLen64 : Try.prog.arrayLen 119 = 64 := by kernel_rfl
theorem arrElem64 : Try.prog.elem 119 = 5 := by kernel_rfl
theorem sliceArr_run (h held : Nat) (hh : held < 64) (w : World) : (Instr.sliceAt 119 (.pointer (some ⟨h, 8, none⟩)) (some (.int .i64 (held:Int))) none none).run Try.prog w = .ok (.slice (some ⟨h, 8 + held, none⟩) (64 - held) (64 - held)) w := by
  have h1 : ¬ 64 = held := by omega
  rw [run_sliceAt_array_l w 119 ⟨h, 8, none⟩ (by rw [arrLen64, arrElem64]; exact Try.underlying119) .i64 held (by omega) (by rw [arrLen64]; omega)]
  rw [arrLen64, arrElem64]
  have hs : (sizeOf 5).run Try.prog w = .ok 1 w := by simp [go_sem]
  simp [hs, slicedAt, h1, add_at]
/-- 'p[k:]' of bytes: at the capacity's end the old address stays. -/
def cutOff (off c k : Nat) : Nat := if c = k then off else off + k
theorem cutOff_run (b off n c k : Nat) (hk : k ≤ n) (hn : n ≤ c) (w : World) : (Instr.sliceAt 80 (.slice (some ⟨b, off, none⟩) n c) (some (.int .i64 (k:Int))) none none).run Try.prog w = .ok (.slice (some ⟨b, cutOff off c k, none⟩) (n - k) (c - k)) w := by
  have h1 : (k : Int) ≤ (n : Int) := by omega
  have h2 : (n : Int) ≤ (c : Int) := by omega
  have hs : (sizeOf 5).run Try.prog w = .ok 1 w := by simp [go_sem]
  by_cases hc : c = k
  · subst hc
    simp [go_sem, hs, cutOff, sliced, h1]
  · simp [go_sem, hs, cutOff, sliced, h1, hc, add_at]
theorem arrayAt_run (b off c : Nat) (W : World) : (Instr.arrayAt 119 (.slice (some ⟨b, off, none⟩) 64 c)).run Try.prog W = .ok (.pointer (some ⟨b, off, none⟩)) W := by
  simp [Instr.arrayAt, go_sem]
theorem Todo.take {w : World} {b off n c : Nat} {p : List Int} (h : Todo w b off n c p) (k : Nat) : ∀ j v, (ints .u8 (p.take k))[j]? = some v → w.cell? ⟨b, off + j, none⟩ = some v := by
  intro j v hv
  have hj : j < (ints .u8 (p.take k)).length := (List.getElem?_eq_some_iff.1 hv).1
  rw [ints_length, List.length_take] at hj
  rw [h.2.2.2 j (by omega)]
  rw [← hv, ints_at .u8 (p.take k) (by rw [List.length_take]; omega)]
  simp [List.getD_eq_getElem?_getD, List.getElem?_take, show j < k by omega]
theorem Todo.drop {w : World} {b off n c : Nat} {p : List Int} (h : Todo w b off n c p) (k : Nat) (hk : k ≤ n) : Todo w b (off + k) (p.drop k).length (c - k) (p.drop k) := by
  have h1 := h.1
  have h2 := h.2.1
  have h3 := h.2.2.1
  refine ⟨rfl, by rw [List.length_drop]; omega, by omega, fun j hj => ?_⟩
  rw [List.length_drop] at hj
  rw [Nat.add_assoc, h.2.2.2 (k + j) (by omega)]
  simp [List.getD_eq_getElem?_getD]
theorem Todo.cut {w : World} {b off n c : Nat} {p : List Int} (h : Todo w b off n c p) (k : Nat) (hk : k ≤ n) : Todo w b (cutOff off c k) (p.drop k).length (c - k) (p.drop k) := by
  unfold cutOff
  by_cases hc : c = k
  · rw [if_pos hc]
    have h1 := h.1
    have h2 := h.2.1
    have h3 := h.2.2.1
    exact ⟨rfl, by rw [List.length_drop]; omega, by omega, fun j hj => by rw [List.length_drop] at hj; omega⟩
  · rw [if_neg hc]
    exact h.drop k hk
theorem hc_split (st rest : List Int) (held k : Nat) (n : Int) : hcells st rest held n = (ints .u32 st ++ ints .u8 (rest.take held)) ++ ints .u8 ((rest.drop held).take k) ++ (ints .u8 (rest.drop (held + k)) ++ [.int .i64 held, .int .u64 n]) := by
  have e : rest = rest.take held ++ ((rest.drop held).take k ++ rest.drop (held + k)) := by
    rw [← List.drop_drop, List.take_append_drop, List.take_append_drop]
  unfold hcells
  conv => lhs; rw [e]
  simp [ints_append]
theorem hc_join (st rest q : List Int) (held k : Nat) (n : Int) : (ints .u32 st ++ ints .u8 (rest.take held)) ++ ints .u8 q ++ (ints .u8 (rest.drop (held + k)) ++ [.int .i64 held, .int .u64 n]) = hcells st (rest.take held ++ q ++ rest.drop (held + k)) held n := by
  unfold hcells
  simp [ints_append]
theorem sizeU8 : (Try.prog.info? 5).map (·.size) = some 1 := by kernel_rfl
theorem Todo.none_ {w : World} {b off c : Nat} {p : List Int} (h : p.length = 0) (hc : c ≤ 9223372036854775807) : Todo w b off p.length c p := ⟨rfl, by omega, hc, fun j hj => by omega⟩
theorem arrInfo : (Try.prog.info? 119).map (·.size) = some 64 := by kernel_rfl
def zeroB64 : List Int := List.replicate 64 0
set_option maxRecDepth 100000 in
theorem write_calls (h b off c : Nat) (st rest p : List Int) (held : Nat) (n : Int) (w : World) (h1 : st.length = 8) (h2 : rest.length = 64) (hh : held < 64) (hn0 : 0 ≤ n) (hn1 : n + p.length ≤ 4611686018427387904)
    (hd : Hd w h 121 (hcells st rest held n)) (hp : Todo w b off p.length c p) (hbh : b ≠ h) :
    Calls Try.prog 75 #[.pointer (some ⟨h, 0, none⟩), .slice (some ⟨b, off, none⟩) p.length c] w fun e w' => e = .returned (.tuple #[]) ∧ Hd w' h 121 (hcells (wrote stepF p.length st rest held p).1 (wrote stepF p.length st rest held p).2.1 (wrote stepF p.length st rest held p).2.2 (n + p.length)) ∧ Fr (· = h) w w' := by
  obtain ⟨RES, hRES⟩ : ∃ R, wrote stepF p.length st rest held p = R := ⟨_, rfl⟩
  rw [hRES]
  have HRES := Lib.hid hRES
  clear hRES
  have hN := hc_n hd h1 h2
  have fz := hd.free 73
  have hsetN := Lib.hid (hc_setN hd h1 h2 (n + p.length))
  have hlt := hd.lt
  have hpl : p.length ≤ 9223372036854775807 := by have := hp.2.1; have := hp.2.2.1; omega
  have HP := Lib.hid hp
  clear hd hp
  go_enter Try.func75, Try.ntmps75
  go_wp2_with fail
  go_loopw [1] (fun s wr => ∃ (off' c' f : Nat) (st' rest' p' : List Int) (held' : Nat), s = .slice (some ⟨b, off', none⟩) p'.length c' ∧ st'.length = 8 ∧ rest'.length = 64 ∧ held' < 64 ∧ p'.length ≤ f ∧ p'.length ≤ p.length ∧ Todo wr b off' p'.length c' p' ∧ Hd wr h 121 (hcells st' rest' held' (n + p.length)) ∧ Fr (· = h) w wr ∧ Hid (wrote stepF f st' rest' held' p' = RES)) (fun s _ => sliceLen s)
  case atStart => exact ⟨off, c, p.length, st, rest, p, held, rfl, h1, h2, hh, Nat.le_refl _, Nat.le_refl _, HP.out.fr ((Fr.refl (S := (· = h)) w).setCell (.inr rfl) _) hbh, hsetN.out, (Fr.refl (S := (· = h)) w).setCell (.inr rfl) _, HRES⟩
  case round =>
    obtain ⟨off', c', f, st', rest', p', held', rfl, h1', h2', hh', hf, hpp, hT, hd', hF, hR⟩ := hrel
    clear hN fz hlt HP hsetN HRES
    by_cases hp0 : 0 < p'.length
    · have hc := hc_held hd' h1' h2'
      have hc0 := hT.2.1
      have hc1 := hT.2.2.1
      have hlt := hd'.lt
      by_cases hA : held' = 0 ∧ 64 ≤ p'.length
      · obtain ⟨rfl, h64⟩ := hA
        have hwr : Hid (wrote stepF (f - 1) (stepF st' (p'.take 64)) rest' 0 (p'.drop 64) = RES) := by
          have := hR.out
          obtain ⟨g, rfl⟩ : ∃ g, f = g + 1 := ⟨f - 1, by omega⟩
          rw [wrote, if_neg (by omega), if_pos ⟨rfl, h64⟩] at this
          exact this
        have hlen : (ints .u8 (p'.take 64)).length = 64 := by rw [ints_length, List.length_take]; omega
        have hi1 : (Try.prog.info? 119).map (·.size) = some (ints .u8 (p'.take 64)).length := by rw [hlen]; exact arrInfo
        have hz : Hd (wr.alloc (.cells (ints .u8 zeroB64).toArray 119)) wr.heap.size 119 ([] ++ ints .u8 zeroB64 ++ []) := Hd.new wr _ _
        have hl1 : (ints .u8 zeroB64).length = (ints .u8 (p'.take 64)).length := by rw [hlen]; rfl
        have hT64 := hT.take 64
        have HL := Lib.hid hlen
        clear hR hlen
        have qa := arrayAt_run b off' c'
        go_upto_region 5 with (first | (refine wpList_load_at rfl 119 (.tmp 33) rfl b off' rfl (ints .u8 (p'.take 64)).toArray _ hT64 Try.underlying119 rfl hi1 ?_) | (refine wpList_store_at rfl 119 (.tmp 4) (.tmp 34) rfl wr.heap.size 0 rfl (ints .u8 (p'.take 64)) rfl 119 [] (ints .u8 zeroB64) [] hz rfl hl1 hi1 (ints_one .u8 _) ?_; intro w5 hd5 hF5; clear hz))
        dsimp only [Act.put]
        rw [List.append_nil, List.nil_append] at hd5
        have hbl : b < wr.heap.size := by have := World.block_lt_of_cell? wr _ (hT.2.2.2 0 (by omega)); simpa using this
        have hdA := hF5.keeps (hd'.alloc (.cells (ints .u8 zeroB64).toArray 119)) (show h ≠ wr.heap.size by omega)
        have hTA := (hT.fr ((Fr.refl (S := none_) wr).alloc (.cells (ints .u8 zeroB64).toArray 119)) (fun e => e)).fr hF5 (show b ≠ wr.heap.size by omega)
        have hFA : Fr (· = h) w w5 := (hF.alloc (.cells (ints .u8 zeroB64).toArray 119)).trans hF5 (fun _ _ e => e) (fun k hk e => by have := hF.size; omega)
        obtain ⟨g5, hg5⟩ : ∃ g, g = wr.heap.size := ⟨_, rfl⟩
        rw [← hg5] at hd5 hF5
        rw [← hg5]
        have hg5h : g5 ≠ h := by omega
        have hg5b : g5 ≠ b := by omega
        have hi2 : (Try.prog.info? 117).map (·.size) = some (ints .u32 st').length := by rw [ints_length, h1']; exact stateInfo
        have hstA := (hc_state.1 hdA).cellsAt rfl
        have HDA := Lib.hid hdA
        have HTA := Lib.hid hTA
        have HFA := Lib.hid hFA
        clear hT64 hd' hc hlt hT hF hF5 hbl hi1 hl1 hg5 hdA hTA hFA
        go_wp2_with (first | (refine wpList_load_at rfl 117 (.tmp 38) rfl h 0 rfl (ints .u32 st').toArray _ hstA Try.underlying117 rfl hi2 ?_))
        refine (step_calls st' (p'.take 64) g5 0 w5.heap.size w5 h1' (by have := HL.out; rwa [ints_length] at this) (.of_hd hd5 hd5.lt) (Nat.le_refl _)).mono ?_
        rintro e w6 ⟨rfl, hF6⟩
        have hd6 := hF6.keeps HDA.out (fun e => e)
        have hT6 := HTA.out.fr hF6 (fun e => e)
        have hF6' : Fr (· = h) w w6 := HFA.out.trans hF6 (fun _ _ e => e) (fun _ _ e => e.elim)
        obtain ⟨st2, hst2⟩ : ∃ s, stepF st' (p'.take 64) = s := ⟨_, rfl⟩
        rw [show stepC rotF cubesF st' (p'.take 64) = st2 from hst2]
        have hl2 : st2.length = 8 := by rw [← hst2]; exact stepF_length _ _ h1'
        rw [hst2] at hwr
        have hi3 : (Try.prog.info? 117).map (·.size) = some (ints .u32 st2).length := by rw [ints_length, hl2]; exact stateInfo
        have hl3 : (ints .u32 st').length = (ints .u32 st2).length := by rw [ints_length, ints_length, h1', hl2]
        clear hst2 hstA hi2 hd5 HDA HTA HFA hF6
        go_upto_region 6 with (refine wpList_store_at rfl 117 (.tmp 42) (.tmp 40) rfl h 0 rfl (ints .u32 st2) rfl 121 [] (ints .u32 st') (ints .u8 rest' ++ [.int .i64 (0 : Nat), .int .u64 (n + p.length)]) (hc_state.1 hd6) rfl hl3 hi3 (ints_one .u32 _) ?_; intro w7 hd7 hF7)
        dsimp only [Act.put]
        have hd7' : Hd w7 h 121 (hcells st2 rest' 0 (n + p.length)) := hc_state.2 hd7
        have hT7 := hT6.fr hF7 hbh
        have hF7' : Fr (· = h) w w7 := hF6'.then hF7
        clear hd6 hT6 hF6' hl3 hi3 hd7 hF7
        have qc : ∀ W : World, (Instr.sliceAt 80 (.slice (some ⟨b, off', none⟩) p'.length c') (some (.int .i64 64)) none none).run Try.prog W = .ok (.slice (some ⟨b, cutOff off' c' 64, none⟩) (p'.length - 64) (c' - 64)) W := cutOff_run b off' p'.length c' 64 h64 hc0
        have HT := Lib.hid (hT7.cut 64 h64)
        have hdl : (p'.drop 64).length = p'.length - 64 := List.length_drop ..
        clear hT7
        obtain ⟨o2, ho2⟩ : ∃ o, cutOff off' c' 64 = o := ⟨_, rfl⟩
        rw [ho2] at qc HT
        clear ho2
        go_wp2_with fail
        go_roundw
        case rel => exact ⟨o2, c' - 64, f - 1, st2, rest', p'.drop 64, 0, by rw [hdl], hl2, h2', hh', by rw [hdl]; omega, by rw [hdl]; omega, HT.out, hd7', hF7', hwr⟩
        case measure => simp [sliceLen]; omega
      · obtain ⟨k, hk⟩ : ∃ k, min (64 - held') p'.length = k := ⟨_, rfl⟩
        have hk1 : k ≤ 64 - held' := by omega
        have hk2 : k ≤ p'.length := by omega
        have hk3 : 1 ≤ k := by omega
        obtain ⟨rest2, hr2⟩ : ∃ r, rest'.take held' ++ p'.take k ++ rest'.drop (held' + k) = r := ⟨_, rfl⟩
        have hrl : rest2.length = 64 := by rw [← hr2]; simp; omega
        have hwr : Hid ((if held' + k = 64 then wrote stepF (f - 1) (stepF st' rest2) rest2 0 (p'.drop k) else wrote stepF (f - 1) st' rest2 (held' + k) (p'.drop k)) = RES) := by
          have := hR.out
          obtain ⟨g, rfl⟩ : ∃ g, f = g + 1 := ⟨f - 1, by omega⟩
          rw [wrote, if_neg (by omega), if_neg hA, hk, hr2] at this
          exact this
        have hsp := hd'
        rw [hc_split st' rest' held' k] at hsp
        have hjn := hc_join st' rest' (p'.take k) held' k (n + p.length)
        rw [hr2] at hjn
        have hcs : (ints .u8 (p'.take k)).length = k := by rw [ints_length, List.length_take]; omega
        have hmin : (ints .u8 (p'.take k)).length = Nat.min p'.length (64 - held') := by rw [hcs, ← hk]; exact Nat.min_comm _ _
        have hpre : 8 + held' = (ints .u32 st' ++ ints .u8 (rest'.take held')).length := by simp [ints_length]; omega
        have hold : (ints .u8 ((rest'.drop held').take k)).length = (ints .u8 (p'.take k)).length := by rw [hcs, ints_length]; simp; omega
        have hTk := hT.take k
        have HJN := Lib.hid hjn
        have HCS := Lib.hid hcs
        have HMIN := Lib.hid hmin
        have HPRE := Lib.hid hpre
        have HOLD := Lib.hid hold
        have HTK := Lib.hid hTk
        have HSP := Lib.hid hsp
        have HT := Lib.hid hT
        have HF := Lib.hid hF
        have HRL := Lib.hid hrl
        have hg : Hid (¬ (held' = 0 ∧ 64 ≤ p'.length)) := Lib.hid hA
        clear hR hk hr2 hjn hcs hmin hpre hold hTk hsp hd' hT hF hrl hA
        have qs := sliceArr_run h held' hh'
        obtain ⟨s0, s1, s2, s3, s4, s5, s6, s7, rfl⟩ := list8 h1'
        have hb : (((held' : Int) == 0) = true ∧ p'.length < 64) ∨ ((held' : Int) == 0) = false := by
          by_cases h0 : held' = 0
          · exact .inl ⟨by simp [h0], by have := hg.out; omega⟩
          · exact .inr (by simp [h0])
        go_upto_region 3 with (fail)
        go_cut [30] (fun s30 wx => s30 = .bool false ∧ wx = wr)
        case first =>
          rcases hb with ⟨ht0, hl64⟩ | ht0
          all_goals
            go_wp2_with fail
            go_meet
            case rel => first | exact ⟨rfl, rfl⟩ | exact ⟨by rw [decide_eq_false (by omega)], rfl⟩
        case rest =>
          obtain ⟨rfl, rfl⟩ := hcut
          clear hb
          have qc := cutOff_run b off' p'.length c' k hk2 hc0
          obtain ⟨o2, ho2⟩ : ∃ o, cutOff off' c' k = o := ⟨_, rfl⟩
          have HTC := Lib.hid ((HT.out).cut k hk2)
          rw [ho2] at qc HTC
          have hsrcAll := Lib.hid (fun (w' : World) (hf : Fr (· = h) wc w') => ((HT.out).fr hf hbh).cut k hk2)
          simp only [ho2] at hsrcAll
          clear ho2
          have hdl : (p'.drop k).length = p'.length - k := List.length_drop ..
          go_upto_region 7 with (fail)
          refine wp_quiet_tail 9 mo' (by as_aux_lemma => kernel_rfl) ?_
          simp only [List.take_succ_cons, List.take_zero, List.drop_succ_cons, List.drop_zero]
          repeat (first | go_big_quiet_skip | (go_big_quiet_want; go_big_quiet_op; go_big_quiet_on))
          refine wpQuiet_nil ?_
          refine wpList_copy_mid rfl (.tmp 52) (.tmp 53) 80 80 rfl 5 Try.underlying80 sizeU8 h (8 + held') (64 - held') (64 - held') (some ⟨b, off', none⟩) p'.length c' (ints .u8 (p'.take k)) rfl rfl HMIN.out (fun _ => ⟨b, off', rfl, HTK.out⟩) 121 _ _ _ HSP.out HPRE.out HOLD.out (ints_one .u8 _) ?_
          intro w8 hd8 hF8
          rw [HCS.out]
          rw [HJN.out] at hd8
          have hc8 := hc_held hd8 h1' HRL.out
          have fz8 := hd8.free 72
          have HD8 := Lib.hid hd8
          have HF8 := Lib.hid hF8
          clear hd8 hF8
          go_upto_region 9 with (fail)
          have hd9 := hc_setHeld HD8.out h1' HRL.out (held' + k)
          rw [Int.natCast_add] at hd9
          have hF9w : Fr (· = h) wc (w8.setCell ⟨h, 72, none⟩ (.int .i64 ((held' : Int) + (k : Int)))) := (Fr.trans (b := wc.drew) ((Fr.refl (S := (· = h)) wc).drew) HF8.out (fun _ _ e => e) (fun _ _ e => e)).setCell (.inr rfl) _
          have hF9 := HF.out.then hF9w
          have hT9 := hsrcAll.out _ hF9w
          have hlt9 := hd9.lt
          have c0 := (hc_state.1 hd9).cell (j := 0) rfl
          have c1 := (hc_state.1 hd9).cell (j := 1) rfl
          have c2 := (hc_state.1 hd9).cell (j := 2) rfl
          have c3 := (hc_state.1 hd9).cell (j := 3) rfl
          have c4 := (hc_state.1 hd9).cell (j := 4) rfl
          have c5 := (hc_state.1 hd9).cell (j := 5) rfl
          have c6 := (hc_state.1 hd9).cell (j := 6) rfl
          have c7 := (hc_state.1 hd9).cell (j := 7) rfl
          have ch : (w8.setCell ⟨h, 72, none⟩ (.int .i64 ((held' : Int) + (k : Int)))).cell? ⟨h, 72, none⟩ = some (.int .i64 ((held' : Int) + (k : Int))) := hc_held hd9 h1' HRL.out
          have HF9 := Lib.hid hF9
          have HT9 := Lib.hid hT9
          have HD9 := Lib.hid hd9
          obtain ⟨w9, hw9⟩ : ∃ x, x = w8.setCell ⟨h, 72, none⟩ (.int .i64 ((held' : Int) + (k : Int))) := ⟨_, rfl⟩
          rw [← hw9] at HF9 HT9 hlt9 c0 c1 c2 c3 c4 c5 c6 c7 ch HD9
          rw [← hw9]
          clear hd9 hF9 hF9w hT9 fz8 hc8 HD8 HF8 hsrcAll HT HF HSP HJN HCS HMIN HPRE HOLD HTK HTC qs hc hw9
          by_cases h64 : held' + k = 64
          · have hb64 : (((held' : Int) + (k : Int)) == 64) = true := by rw [beq_iff_eq]; omega
            have hw1 : wrote stepF (f - 1) (stepF [s0, s1, s2, s3, s4, s5, s6, s7] rest2) rest2 0 (p'.drop k) = RES := by
              have := hwr.out
              rwa [if_pos h64] at this
            have H64 := Lib.hid h64
            have HW1 := Lib.hid hw1
            clear h64 hw1
            go_upto_region 11 with (fail)
            obtain ⟨t0, t1, t2, t3, t4, t5, t6, t7, ht⟩ := list8 (stepF_length [s0, s1, s2, s3, s4, s5, s6, s7] rest2 rfl)
            have HT2 := Lib.hid ht
            have hrds : Rds w9.drew w9.heap.size (some ⟨h, 8, none⟩) (ints .u8 rest2) := .inr ⟨h, 8, rfl, hlt9, Hd.cellsAt (pre := ints .u32 [s0, s1, s2, s3, s4, s5, s6, s7]) HD9.out rfl⟩
            have HRDS := Lib.hid hrds
            clear ht hrds
            go_cut [] (fun wx => Hd wx h 121 (hcells [t0, t1, t2, t3, t4, t5, t6, t7] rest2 (held' + k) (n + p.length)) ∧ Fr (· = h) w9 wx)
            case first =>
              clear ch
              go_region_with ((go_at_call 86; refine (step_calls [s0, s1, s2, s3, s4, s5, s6, s7] rest2 h 8 w9.heap.size _ rfl HRL.out HRDS.out (Nat.le_refl _)).mono ?_; rintro e w10 ⟨rfl, hF10⟩; rw [show stepC rotF cubesF [s0, s1, s2, s3, s4, s5, s6, s7] rest2 = [t0, t1, t2, t3, t4, t5, t6, t7] from HT2.out]; simp only [ints, List.map_cons, List.map_nil]; have hd10 := hc_state.1 (Fr.keeps (w := w9.drew) hF10 HD9.out (fun e => e)); have d0 := hd10.cell (j := 0) rfl; have d1 := hd10.cell (j := 1) rfl; have d2 := hd10.cell (j := 2) rfl; have d3 := hd10.cell (j := 3) rfl; have d4 := hd10.cell (j := 4) rfl; have d5 := hd10.cell (j := 5) rfl; have d6 := hd10.cell (j := 6) rfl; have d7 := hd10.cell (j := 7) rfl; have hfz := hd10.free; have HD10 := Lib.hid hd10; have HF10 := Lib.hid hF10; clear c0 c1 c2 c3 c4 c5 c6 c7 hd10 hF10))
              go_wp2_with fail
              go_meet
              case rel => exact ⟨hc_state.2 ((((((((HD10.out.setCell (j := 0) (by simp [ints]) (.int .u32 t0)).setCell (j := 1) (by simp [ints]) (.int .u32 t1)).setCell (j := 2) (by simp [ints]) (.int .u32 t2)).setCell (j := 3) (by simp [ints]) (.int .u32 t3)).setCell (j := 4) (by simp [ints]) (.int .u32 t4)).setCell (j := 5) (by simp [ints]) (.int .u32 t5)).setCell (j := 6) (by simp [ints]) (.int .u32 t6)).setCell (j := 7) (by simp [ints]) (.int .u32 t7)), (((((((((Fr.trans (b := w9.drew) ((Fr.refl (S := (· = h)) w9).drew) HF10.out (fun _ _ e => e) (fun _ _ e => e.elim)).setCell (p := ⟨h, 0, none⟩) (.inr rfl) (.int .u32 t0)).setCell (p := ⟨h, 1, none⟩) (.inr rfl) (.int .u32 t1)).setCell (p := ⟨h, 2, none⟩) (.inr rfl) (.int .u32 t2)).setCell (p := ⟨h, 3, none⟩) (.inr rfl) (.int .u32 t3)).setCell (p := ⟨h, 4, none⟩) (.inr rfl) (.int .u32 t4)).setCell (p := ⟨h, 5, none⟩) (.inr rfl) (.int .u32 t5)).setCell (p := ⟨h, 6, none⟩) (.inr rfl) (.int .u32 t6)).setCell (p := ⟨h, 7, none⟩) (.inr rfl) (.int .u32 t7))⟩
            case rest =>
              obtain ⟨hd11, hF11⟩ := hcut
              have hT11 := HT9.out.fr hF11 hbh
              have hd12 := hc_setHeld hd11 rfl HRL.out 0
              have hT12 := hT11.fr ((Fr.refl (S := (· = h)) _).setCell (p := ⟨h, 72, none⟩) (.inr rfl) (.int .i64 0)) hbh
              have hF12 := (HF9.out.then hF11).setCell (p := ⟨h, 72, none⟩) (.inr rfl) (.int .i64 0)
              have fz12 := hd11.free 72
              have c12 := hc_held hd11 rfl HRL.out
              have hlt11 := hd11.lt
              have HD12 := Lib.hid hd12
              have HT12 := Lib.hid hT12
              have HF12 := Lib.hid hF12
              clear c0 c1 c2 c3 c4 c5 c6 c7 ch hd11 hF11 hT11 hd12 hT12 hF12 HD9 HT9 HF9 HRDS
              have HW2 : Hid (wrote stepF (f - 1) [t0, t1, t2, t3, t4, t5, t6, t7] rest2 0 (p'.drop k) = RES) := Lib.hid (by have := HW1.out; rwa [HT2.out] at this)
              go_wp2_with fail
              go_roundw
              case rel => exact ⟨o2, c' - k, f - 1, [t0, t1, t2, t3, t4, t5, t6, t7], rest2, p'.drop k, 0, by rw [hdl], rfl, HRL.out, by omega, by rw [hdl]; omega, by rw [hdl]; omega, HT12.out, HD12.out, HF12.out, HW2⟩
              case measure => simp [sliceLen]; omega
          · have hb64 : (((held' : Int) + (k : Int)) == 64) = false := by rw [beq_eq_false_iff_ne]; omega
            have hw1 : wrote stepF (f - 1) [s0, s1, s2, s3, s4, s5, s6, s7] rest2 (held' + k) (p'.drop k) = RES := by
              have := hwr.out
              rwa [if_neg h64] at this
            have H64 := Lib.hid h64
            have HW1 := Lib.hid hw1
            clear h64 hw1
            go_wp2_with fail
            go_roundw
            case rel =>
              have h64 := H64.out
              exact ⟨o2, c' - k, f - 1, [s0, s1, s2, s3, s4, s5, s6, s7], rest2, p'.drop k, held' + k, by rw [hdl], rfl, HRL.out, by omega, by rw [hdl]; omega, by rw [hdl]; omega, HT9.out, HD9.out, HF9.out, HW1⟩
            case measure => simp [sliceLen]; omega
    · have hl0 : p'.length = 0 := by omega
      have hfin : RES = (st', rest', held') := by
        have := hR.out
        cases f with
        | zero => exact this.symm
        | succ f => rw [wrote, if_pos hl0] at this; exact this.symm
      have HF := Lib.hid hfin
      clear hfin hl0
      go_wp2_with fail
      go_end0
      exact ⟨rfl, by rw [HF.out]; exact hd', hF⟩
end Go.Proofs.Yteibfhhbdpjpoaa
