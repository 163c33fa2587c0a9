import Derived.Test.YteibfhhbdpjpoaaLib
/- The digest, as plain functions over lists of numbers. -/
set_option linter.unusedVariables false
set_option linter.unusedSimpArgs false
namespace Go.Proofs.Yteibfhhbdpjpoaa
open Go.RowKit
def rotC (x : Int) (r : Nat) : Int := Go.bits .or .u32 (x * 2 ^ r % 4294967296) (x / 2 ^ (32 - r))
theorem rotF_ex : ∃ f : Int → Nat → Int, f = rotC := ⟨_, rfl⟩
noncomputable def rotF : Int → Nat → Int := Classical.choose rotF_ex
theorem rotF_eq : rotF = rotC := Classical.choose_spec rotF_ex
def wordC (x0 x1 x2 x3 : Int) : Int := Go.bits .or .u32 (Go.bits .or .u32 (Go.bits .or .u32 (x0 % 4294967296 * 16777216 % 4294967296) (x1 % 4294967296 * 65536 % 4294967296)) (x2 % 4294967296 * 256 % 4294967296)) (x3 % 4294967296)
def loadW (B : List Int) : Nat → List Int
  | 0 => List.replicate 16 0
  | k + 1 => (loadW B k).set k (wordC (B.getD (4 * k) default) (B.getD (4 * k + 1) default) (B.getD (4 * k + 2) default) (B.getD (4 * k + 3) default))
theorem loadW_length (B : List Int) (k : Nat) : (loadW B k).length = 16 := by
  induction k with
  | zero => rfl
  | succ k ih => simp [loadW, ih]
def u32 (x : Int) : Int := IntKind.u32.wrap x
section
variable (rot : Int → Nat → Int)
def sig (x : Int) (a b : Nat) (d : Int) : Int := Go.bits .xor .u32 (Go.bits .xor .u32 (rot x a) (rot x b)) (x / d)
def sig3 (x : Int) (a b c : Nat) : Int := Go.bits .xor .u32 (Go.bits .xor .u32 (rot x a) (rot x b)) (rot x c)
/-- the schedule's word of the k-th turn, from the 16th on -/
def nextW (W : List Int) (k : Nat) : List Int :=
  W.set (k % 16) ((W.getD (k % 16) default + sig rot (W.getD ((k + 1) % 16) default) 25 14 8 + (W.getD ((k + 9) % 16) default + sig rot (W.getD ((k + 14) % 16) default) 15 13 1024)) % 4294967296)
def turnT (c w : Int) (s4 s5 s6 s7 : Int) : Int :=
  ((s7 + c + w + Go.bits .or .u32 (Go.bits .and .u32 s4 s5) (Go.bits .andNot .u32 s6 s4)) % 4294967296 + sig3 rot s4 26 21 7) % 4294967296
def turnU (s0 s1 s2 : Int) : Int :=
  (Go.bits .or .u32 (Go.bits .or .u32 (Go.bits .and .u32 s0 s1) (Go.bits .and .u32 s0 s2)) (Go.bits .and .u32 s1 s2) + sig3 rot s0 30 19 10) % 4294967296
def turnS (c w : Int) : List Int → List Int
  | [s0, s1, s2, s3, s4, s5, s6, s7] =>
    [(turnT rot c w s4 s5 s6 s7 + turnU rot s0 s1 s2) % 4294967296, s0, s1, s2, (s3 + turnT rot c w s4 s5 s6 s7) % 4294967296, s4, s5, s6]
  | l => l
def turnW (k : Nat) (W : List Int) : List Int := if 16 ≤ k then nextW rot W k else W
def turns (K W S : List Int) : Nat → List Int × List Int
  | 0 => (W, S)
  | k + 1 => (turnW rot k (turns K W S k).1, turnS rot (K.getD k default) ((turnW rot k (turns K W S k).1).getD (k % 16) default) (turns K W S k).2)
def addS (S s : List Int) : Nat → List Int
  | 0 => s
  | k + 1 => (addS S s k).set k (((addS S s k).getD k default + S.getD k default) % 4294967296)
/-- the state behind a block -/
def stepC (K S B : List Int) : List Int := addS S (turns rot K (loadW B 16) S 64).2 8
theorem turnW_length (k : Nat) (W : List Int) : (turnW rot k W).length = W.length := by
  unfold turnW
  by_cases h : 16 ≤ k
  · rw [if_pos h]; unfold nextW; exact List.length_set ..
  · rw [if_neg h]
theorem turns_w_length (K W S : List Int) (hW : W.length = 16) (k : Nat) : (turns rot K W S k).1.length = 16 := by
  induction k with
  | zero => exact hW
  | succ k ih => simp only [turns]; rw [turnW_length, ih]
theorem turnS_length (c w : Int) (s : List Int) (h : s.length = 8) : (turnS rot c w s).length = 8 := by
  match s, h with
  | [s0, s1, s2, s3, s4, s5, s6, s7], _ => rfl
theorem turns_s_length (K W S : List Int) (hS : S.length = 8) (k : Nat) : (turns rot K W S k).2.length = 8 := by
  induction k with
  | zero => exact hS
  | succ k ih => exact turnS_length rot _ _ _ ih
theorem addS_length (S s : List Int) (k : Nat) : (addS S s k).length = s.length := by
  induction k with
  | zero => rfl
  | succ k ih => simp [addS, ih]
theorem stepC_length (K S B : List Int) (hS : S.length = 8) : (stepC rot K S B).length = 8 := by
  rw [stepC, addS_length, turns_s_length rot K _ S hS]
end
/-- what a Hash holds behind writing p: state, rest, how many are held (f: rounds, at least as many as p has bytes) -/
def wrote (step : List Int → List Int → List Int) : Nat → List Int → List Int → Nat → List Int → List Int × List Int × Nat
  | 0, st, rest, held, _ => (st, rest, held)
  | f + 1, st, rest, held, p =>
    if p.length = 0 then (st, rest, held)
    else if held = 0 ∧ 64 ≤ p.length then wrote step f (step st (p.take 64)) rest 0 (p.drop 64)
    else
      if held + min (64 - held) p.length = 64 then wrote step f (step st (rest.take held ++ p.take (min (64 - held) p.length) ++ rest.drop (held + min (64 - held) p.length))) (rest.take held ++ p.take (min (64 - held) p.length) ++ rest.drop (held + min (64 - held) p.length)) 0 (p.drop (min (64 - held) p.length))
      else wrote step f st (rest.take held ++ p.take (min (64 - held) p.length) ++ rest.drop (held + min (64 - held) p.length)) (held + min (64 - held) p.length) (p.drop (min (64 - held) p.length))
def hcells (st rest : List Int) (held : Nat) (n : Int) : List Value := ints .u32 st ++ ints .u8 rest ++ [.int .i64 held, .int .u64 n]
def sliceLen : Value → Nat | .slice _ n _ => n | _ => 0
def startC : List Int := [1779033703, 3144134277, 1013904242, 2773480762, 1359893119, 2600822924, 528734635, 1541459225]
def longN (n : Nat) : Nat := 72 - (n + 8) % 64
def fillFrom (n : Nat) (l : List Int) : Nat → List Int
  | 0 => l
  | i + 1 => (fillFrom n l i).set (longN n - 1 - i) (8 * (n : Int) / 2 ^ (8 * i) % 256)
def fillC (n : Nat) : List Int := fillFrom n ((List.replicate (longN n) 0).set 0 128) 8
theorem fillFrom_length (n : Nat) (l : List Int) (i : Nat) : (fillFrom n l i).length = l.length := by
  induction i with
  | zero => rfl
  | succ i ih => simp [fillFrom, ih]
theorem fillC_length (n : Nat) : (fillC n).length = longN n := by
  rw [fillC, fillFrom_length, List.length_set, List.length_replicate]
def cubesC : List Int := [1116352408, 1899447441, 3049323471, 3921009573, 961987163, 1508970993, 2453635748, 2870763221, 3624381080, 310598401, 607225278, 1426881987, 1925078388, 2162078206, 2614888103, 3248222580, 3835390401, 4022224774, 264347078, 604807628, 770255983, 1249150122, 1555081692, 1996064986, 2554220882, 2821834349, 2952996808, 3210313671, 3336571891, 3584528711, 113926993, 338241895, 666307205, 773529912, 1294757372, 1396182291, 1695183700, 1986661051, 2177026350, 2456956037, 2730485921, 2820302411, 3259730800, 3345764771, 3516065817, 3600352804, 4094571909, 275423344, 430227734, 506948616, 659060556, 883997877, 958139571, 1322822218, 1537002063, 1747873779, 1955562222, 2024104815, 2227730452, 2361852424, 2428436474, 2756734187, 3204031479, 3329325298]
theorem cubesF_ex : ∃ f : List Int, f = cubesC := ⟨_, rfl⟩
noncomputable def cubesF : List Int := Classical.choose cubesF_ex
theorem cubesF_eq : cubesF = cubesC := Classical.choose_spec cubesF_ex
theorem cubesF_length : cubesF.length = 64 := by rw [cubesF_eq]; rfl
end Go.Proofs.Yteibfhhbdpjpoaa
