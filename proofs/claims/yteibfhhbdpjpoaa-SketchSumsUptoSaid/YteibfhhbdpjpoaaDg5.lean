import Derived.Test.YteibfhhbdpjpoaaDg4
import Derived.Test.YteibfhhbdpjpoaaDgPure2
import Derived.Lib.ConvBytes
/- digest: Text, Sum, Of. -/
set_option linter.unusedVariables false
set_option linter.unusedSimpArgs false
namespace Go.Proofs.Yteibfhhbdpjpoaa
open Go.RowKit
set_option maxHeartbeats 4000000
theorem convBytes_run (w : World) (s : ByteArray) : (convert 9 80 (.string s)).run Try.prog w = .ok (.slice (some ⟨w.heap.size, 0, none⟩) s.size (grownCap w s.size 0 5)) (Lib.bytesWorld w 5 s) :=
  Lib.run_convert_string_bytes w 9 80 5 s Try.underlying9 Try.underlying80 Try.underlying5
theorem bytesWorld_fr (w : World) (s : ByteArray) (e : TypeId) : Fr none_ w (Lib.bytesWorld w e s) :=
  ⟨by simp [Lib.bytesWorld, World.freeze, World.alloc, World.drew, -World.alloc_eq, -World.drew_eq], by simp [Lib.bytesWorld, World.freeze, World.alloc, World.drew, -World.alloc_eq, -World.drew_eq], by simp [Lib.bytesWorld, World.freeze, World.alloc, World.drew, -World.alloc_eq, -World.drew_eq], by rw [Lib.bytesWorld_size]; omega, fun k hk _ => Lib.bytesWorld_at_old w e s k hk⟩
theorem bytesWorld_todo (w : World) (s : ByteArray) (hs : s.size ≤ maxLen) : Todo (Lib.bytesWorld w 5 s) w.heap.size 0 (sbytes s).length (grownCap w s.size 0 5) (sbytes s) := by
  refine ⟨rfl, by rw [sbytes_length]; exact grownCap_ge w s.size 0 _, ?_, fun j hj => ?_⟩
  · have := grownCap_le_maxLen w s.size 0 5 hs
    unfold maxLen at this
    omega
  · rw [sbytes_length] at hj
    rw [Nat.zero_add, Lib.bytesWorld_cell w 5 s j hj]
    have hj' : j < s.data.toList.length := hj
    simp [sbytes, List.getD_eq_getElem?_getD, List.getElem?_eq_getElem hj']
/-- what a Hash holds behind more bytes -/
noncomputable def wroteF (st rest : List Int) (held : Nat) (p : List Int) : List Int × List Int × Nat := wrote stepF p.length st rest held p
theorem write_any (h b off c m : Nat) (st rest p : List Int) (held : Nat) (n : Int) (w : World) (hm : p.length = m) (h1 : st.length = 8) (h2 : rest.length = 64) (hh : held < 64) (hn0 : 0 ≤ n) (hn1 : n + m ≤ 4611686018427387904)
    (hd : Hd w h 121 (hcells st rest held n)) (hp : Todo w b off p.length c p) (hbh : b ≠ h) :
    Calls Try.prog 75 #[.pointer (some ⟨h, 0, none⟩), .slice (some ⟨b, off, none⟩) m c] w fun e w' => e = .returned (.tuple #[]) ∧ Hd w' h 121 (hcells (wroteF st rest held p).1 (wroteF st rest held p).2.1 (wroteF st rest held p).2.2 (n + m)) ∧ Fr (· = h) w w' := by
  subst hm
  exact write_calls h b off c st rest p held n w h1 h2 hh hn0 hn1 hd hp hbh
set_option maxRecDepth 100000 in
theorem text_calls (h : Nat) (st rest : List Int) (held : Nat) (n : Int) (s : ByteArray) (w : World) (h1 : st.length = 8) (h2 : rest.length = 64) (hh : held < 64) (hn0 : 0 ≤ n) (hn1 : n + s.size ≤ 4611686018427387904)
    (hd : Hd w h 121 (hcells st rest held n)) :
    Calls Try.prog 51 #[.pointer (some ⟨h, 0, none⟩), .string s] w fun e w' => e = .returned (.tuple #[]) ∧ Hd w' h 121 (hcells (wroteF st rest held (sbytes s)).1 (wroteF st rest held (sbytes s)).2.1 (wroteF st rest held (sbytes s)).2.2 (n + s.size)) ∧ Fr (· = h) w w' := by
  have hlt := hd.lt
  have hm : s.size ≤ maxLen := by unfold maxLen; omega
  have qc := convBytes_run w s
  have hT := bytesWorld_todo w s hm
  have hF := bytesWorld_fr w s 5
  have hd1 := hF.keeps hd (fun e => e)
  have hl : (sbytes s).length = s.size := sbytes_length s
  go_enter Try.func51, Try.ntmps51
  go_wp2_with fail
  refine (write_any h w.heap.size 0 _ s.size st rest (sbytes s) held n _ hl h1 h2 hh hn0 hn1 hd1 hT (by omega)).mono ?_
  rintro e w1 ⟨rfl, hd2, hF2⟩
  go_wp2_with fail
  go_end0
  exact ⟨rfl, hd2, hF.trans hF2 (fun _ _ e => e.elim) (fun _ _ e => e)⟩
end Go.Proofs.Yteibfhhbdpjpoaa
