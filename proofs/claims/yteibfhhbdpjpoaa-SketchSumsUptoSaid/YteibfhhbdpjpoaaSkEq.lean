import Derived.Test.YteibfhhbdpjpoaaSk1
/- sameCells, sameItems, rises: loops that only read. -/
set_option linter.unusedVariables false
set_option linter.unusedSimpArgs false
namespace Go.Proofs.Yteibfhhbdpjpoaa
open Go.RowKit
set_option maxHeartbeats 2000000
theorem eqSC (d : Nat) (w : World) (x0 y0 x1 y1 x2 y2 : Int) :
    (Op.equalIn (d + 2) 63 (.agg #[.int .i16 x0, .int .u64 x1, .int .u32 x2]) (.agg #[.int .i16 y0, .int .u64 y1, .int .u32 y2])).run Try.prog w = .ok (x0 == y0 && (x1 == y1 && (x2 == y2 && true))) w := by
  refine eqs_of Try.underlying63 (by kernel_rfl) ?_
  refine eqf_cons (by rfl) (by go_simp; rfl) (by go_simp; rfl) (by go_simp) ?_
  refine eqf_cons (by rfl) (by go_simp; rfl) (by go_simp; rfl) (by go_simp) ?_
  refine eqf_cons (by rfl) (by go_simp; rfl) (by go_simp; rfl) (by go_simp) ?_
  exact eqf_nil
theorem neqSC (w : World) (x y : SC) : (binOp .neq 63 (.agg #[.int .i16 x.c, .int .u64 x.i, .int .u32 x.k]) (.agg #[.int .i16 y.c, .int .u64 y.i, .int .u32 y.k])).run Try.prog w = .ok (.bool (!eqSCb x y)) w := by
  rw [run_neq_struct, eqSC 9998]
  simp only [Result.andThen_ok, eqSCb_eq]
theorem eqlSC (w : World) (x y : SC) : (binOp .eql 63 (.agg #[.int .i16 x.c, .int .u64 x.i, .int .u32 x.k]) (.agg #[.int .i16 y.c, .int .u64 y.i, .int .u32 y.k])).run Try.prog w = .ok (.bool (eqSCb x y)) w := by
  rw [run_eql_struct, eqSC 9998]
  simp only [Result.andThen_ok, eqSCb_eq]
theorem neqSC_yes (w : World) {x y : SC} (h : x = y) : (binOp .neq 63 (.agg #[.int .i16 x.c, .int .u64 x.i, .int .u32 x.k]) (.agg #[.int .i16 y.c, .int .u64 y.i, .int .u32 y.k])).run Try.prog w = .ok (.bool false) w := by
  rw [neqSC]; simp [eqSCb, h]
theorem neqSC_no (w : World) {x y : SC} (h : x ≠ y) : (binOp .neq 63 (.agg #[.int .i16 x.c, .int .u64 x.i, .int .u32 x.k]) (.agg #[.int .i16 y.c, .int .u64 y.i, .int .u32 y.k])).run Try.prog w = .ok (.bool true) w := by
  rw [neqSC]; simp [eqSCb, h]
def sameB (a b : List SC) : Bool := decide (a = b)
theorem ret_bool {a b : Bool} (h : a = b) : Ending.returned (.bool a) = .returned (.bool b) := by rw [h]
theorem getD_ext {α : Type} [Inhabited α] {a b : List α} (hl : a.length = b.length) (h : ∀ j, j < a.length → a.getD j default = b.getD j default) : a = b := by
  refine List.ext_getElem hl fun i h1 h2 => ?_
  have := h i h1
  simpa [List.getD_eq_getElem?_getD, h1, h2] using this
theorem sameCells_calls (a b : List SC) (A B : Option Addr) (c c' L : Nat) (w : World) (hm : a.length ≤ 9223372036854775807) (hm' : b.length ≤ 9223372036854775807) (ha : Rds w L A (flatC a)) (hb : Rds w L B (flatC b)) :
    Calls Try.prog 11 #[.slice A a.length c, .slice B b.length c'] w fun e w' => e = .returned (.bool (sameB a b)) ∧ ∃ n, w' = w.drewN n := by
  by_cases hl : a.length = b.length
  · have HL := Lib.hid hl
    have hb0 : ((a.length : Int) != (b.length : Int)) = false := by simp [hl]
    clear hl
    go_enter Try.func11, Try.ntmps11
    go_wp2_with fail
    go_loopw [5] (fun i wr => ∃ k : Nat, k ≤ a.length ∧ i = .int .i64 k ∧ (∀ j, j < k → a.getD j default = b.getD j default) ∧ ∃ n, wr = w.drewN n) (fun i _ => a.length - (intOf i).toNat)
    case atStart => exact ⟨0, by omega, rfl, fun j hj => by omega, 0, rfl⟩
    case round =>
      obtain ⟨k, hk, rfl, hall, n, rfl⟩ := hrel
      have HA := Lib.hid hall
      clear hall
      by_cases hlt : k < a.length
      · have hk' : k < b.length := by rw [← HL.out]; exact hlt
        obtain ⟨ba, oa, rfl, _, a0, a1, a2⟩ := ha.sc hlt
        obtain ⟨bb, ob, rfl, _, b0, b1, b2⟩ := hb.sc hk'
        obtain ⟨x, hx⟩ : ∃ x, a.getD k default = x := ⟨_, rfl⟩
        obtain ⟨y, hy⟩ : ∃ y, b.getD k default = y := ⟨_, rfl⟩
        rw [hx] at a0 a1 a2
        rw [hy] at b0 b1 b2
        have HX := Lib.hid hx
        have HY := Lib.hid hy
        clear hx hy ha hb
        by_cases e : x = y
        · have q := fun w => neqSC_yes w e
          have HE := Lib.hid e
          clear e
          go_wp2_with fail
          go_quiet (fail)
          go_wp2_with fail
          go_roundw
          case rel =>
            refine ⟨k + 1, by omega, by go_num, fun j hj => ?_, n + nq, rfl⟩
            by_cases hjk : j < k
            · exact HA.out j hjk
            · obtain rfl : j = k := by omega
              rw [HX.out, HY.out, HE.out]
          case measure => simp [intOf]; omega
        · have q := fun w => neqSC_no w e
          have HE := Lib.hid e
          clear e
          go_wp2_with fail
          go_quiet (fail)
          go_wp2_with fail
          go_ret
          refine ⟨ret_bool ?_, n + nq, World.drewN_drewN ..⟩
          have : a ≠ b := by
            intro hab
            apply HE.out
            rw [← HX.out, ← HY.out, hab]
          simp [sameB, this]
      · obtain rfl : k = a.length := by omega
        go_wp2_with fail
        go_ret
        refine ⟨ret_bool ?_, n, rfl⟩
        simp [sameB, getD_ext HL.out HA.out]
  · have hb0 : ((a.length : Int) != (b.length : Int)) = true := by rw [bne_iff_ne]; omega
    go_enter Try.func11, Try.ntmps11
    go_wp2_with fail
    go_ret
    have : a ≠ b := fun h => hl (by rw [h])
    exact ⟨ret_bool (by simp [sameB, this]), 0, rfl⟩
theorem sameItems_calls (a b : List Int) (A B : Option Addr) (c c' L : Nat) (w : World) (hm : a.length ≤ 9223372036854775807) (hm' : b.length ≤ 9223372036854775807) (ha : Rds w L A (ints .u64 a)) (hb : Rds w L B (ints .u64 b)) :
    Calls Try.prog 25 #[.slice A a.length c, .slice B b.length c'] w fun e w' => e = .returned (.bool (decide (a = b))) ∧ ∃ n, w' = w.drewN n := by
  by_cases hl : a.length = b.length
  · have HL := Lib.hid hl
    have hb0 : ((a.length : Int) != (b.length : Int)) = false := by simp [hl]
    clear hl
    go_enter Try.func25, Try.ntmps25
    go_wp2_with fail
    go_loopw [5] (fun i wr => ∃ k : Nat, k ≤ a.length ∧ i = .int .i64 k ∧ (∀ j, j < k → a.getD j default = b.getD j default) ∧ ∃ n, wr = w.drewN n) (fun i _ => a.length - (intOf i).toNat)
    case atStart => exact ⟨0, by omega, rfl, fun j hj => by omega, 0, rfl⟩
    case round =>
      obtain ⟨k, hk, rfl, hall, n, rfl⟩ := hrel
      have HA := Lib.hid hall
      clear hall
      by_cases hlt : k < a.length
      · have hk' : k < b.length := by rw [← HL.out]; exact hlt
        obtain ⟨ba, oa, rfl, _, a0⟩ := ha.int hlt
        obtain ⟨bb, ob, rfl, _, b0⟩ := hb.int hk'
        obtain ⟨x, hx⟩ : ∃ x, a.getD k default = x := ⟨_, rfl⟩
        obtain ⟨y, hy⟩ : ∃ y, b.getD k default = y := ⟨_, rfl⟩
        rw [hx] at a0
        rw [hy] at b0
        have HX := Lib.hid hx
        have HY := Lib.hid hy
        clear hx hy ha hb
        by_cases e : x = y
        · have q : (x != y) = false := by simp [e]
          have HE := Lib.hid e
          clear e
          go_wp2_with fail
          go_quiet (fail)
          go_wp2_with fail
          go_roundw
          case rel =>
            refine ⟨k + 1, by omega, by go_num, fun j hj => ?_, n + nq, rfl⟩
            by_cases hjk : j < k
            · exact HA.out j hjk
            · obtain rfl : j = k := by omega
              rw [HX.out, HY.out, HE.out]
          case measure => simp [intOf]; omega
        · have q : (x != y) = true := by simp [e]
          have HE := Lib.hid e
          clear e
          go_wp2_with fail
          go_quiet (fail)
          go_wp2_with fail
          go_ret
          refine ⟨ret_bool ?_, n + nq, World.drewN_drewN ..⟩
          have : a ≠ b := by
            intro hab
            apply HE.out
            rw [← HX.out, ← HY.out, hab]
          simp [this]
      · obtain rfl : k = a.length := by omega
        go_wp2_with fail
        go_ret
        refine ⟨ret_bool ?_, n, rfl⟩
        simp [getD_ext HL.out HA.out]
  · have hb0 : ((a.length : Int) != (b.length : Int)) = true := by rw [bne_iff_ne]; omega
    go_enter Try.func25, Try.ntmps25
    go_wp2_with fail
    go_ret
    have : a ≠ b := fun h => hl (by rw [h])
    exact ⟨ret_bool (by simp [this]), 0, rfl⟩
def risesB (l : List Int) : Bool := (List.range (l.length - 1)).all fun j => decide (l.getD j 0 ≤ l.getD (j + 1) 0)
theorem risesB_iff (l : List Int) : risesB l = true ↔ ∀ j, j + 1 < l.length → l.getD j 0 ≤ l.getD (j + 1) 0 := by
  simp only [risesB, List.all_eq_true, List.mem_range, decide_eq_true_eq]
  exact ⟨fun h j hj => h j (by omega), fun h j hj => h j (by omega)⟩
theorem rises_calls (a : List Int) (A : Option Addr) (c L : Nat) (w : World) (hm : a.length ≤ 9223372036854775806) (ha : Rds w L A (ints .u64 a)) :
    Calls Try.prog 10 #[.slice A a.length c] w fun e w' => e = .returned (.bool (risesB a)) ∧ ∃ n, w' = w.drewN n := by
  go_enter Try.func10, Try.ntmps10
  go_wp2_with fail
  go_loopw [3] (fun i wr => ∃ k : Nat, k ≤ a.length ∧ i = .int .i64 ((k : Int) + 1) ∧ (∀ j, j < k → j + 1 < a.length → a.getD j 0 ≤ a.getD (j + 1) 0) ∧ ∃ n, wr = w.drewN n) (fun i _ => a.length + 1 - (intOf i).toNat)
  case atStart => exact ⟨0, by omega, rfl, fun j hj => by omega, 0, rfl⟩
  case round =>
    obtain ⟨k, hk, rfl, hall, n, rfl⟩ := hrel
    have HA := Lib.hid hall
    clear hall
    by_cases hlt : k + 1 < a.length
    · obtain ⟨ba, oa, rfl, _, a0⟩ := ha.int (k := k) (by omega)
      obtain ⟨ba', oa', he, _, b0⟩ := ha.int hlt
      injection he with he
      injection he with he1 he2
      subst he1
      subst he2
      obtain ⟨x, hx⟩ : ∃ x, a.getD k default = x := ⟨_, rfl⟩
      obtain ⟨y, hy⟩ : ∃ y, a.getD (k + 1) default = y := ⟨_, rfl⟩
      rw [hx] at a0
      rw [hy] at b0
      have HX := Lib.hid hx
      have HY := Lib.hid hy
      clear hx hy ha
      by_cases e : y < x
      · go_wp2_with fail
        go_quiet (fail)
        go_wp2_with fail
        go_ret
        refine ⟨ret_bool ?_, n + nq, World.drewN_drewN ..⟩
        have : ¬ ∀ j, j + 1 < a.length → a.getD j 0 ≤ a.getD (j + 1) 0 := by
          intro h
          have := h k hlt
          rw [show a.getD k 0 = x from HX.out, show a.getD (k + 1) 0 = y from HY.out] at this
          omega
        cases hr : risesB a with
        | false => rfl
        | true => exact absurd ((risesB_iff a).1 hr) this
      · go_wp2_with fail
        go_quiet (fail)
        go_wp2_with fail
        go_roundw
        case rel =>
          refine ⟨k + 1, by omega, by go_num, fun j hj hj' => ?_, n + nq, rfl⟩
          by_cases hjk : j < k
          · exact HA.out j hjk hj'
          · obtain rfl : j = k := by omega
            rw [show a.getD j 0 = x from HX.out, show a.getD (j + 1) 0 = y from HY.out]
            omega
        case measure => simp [intOf]; omega
    · go_wp2_with fail
      go_ret
      refine ⟨ret_bool ?_, n, rfl⟩
      have : ∀ j, j + 1 < a.length → a.getD j 0 ≤ a.getD (j + 1) 0 := fun j hj => HA.out j (by omega) hj
      exact ((risesB_iff a).2 this).symm
end Go.Proofs.Yteibfhhbdpjpoaa
