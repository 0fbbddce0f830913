/-
  The plain law of streams: a stream undoes itself; the stream of a beginning.
-/
import Derived.Test.YtccojcjgknlhdaaS4
namespace Go.Proofs.Ytccojcjgknlhdaa
open Go.RowKit

theorem stream_get (k : List UInt8) (n : BitVec 64) (l : List UInt8) (i : Nat) (h : i < l.length) : (stream k n l)[i]? = some (streamAt k n l i) := by
  unfold stream; rw [List.getElem?_map, List.getElem?_range h]; rfl
theorem stream_stream (k : List UInt8) (n : BitVec 64) (l : List UInt8) : stream k n (stream k n l) = l := by
  apply List.ext_getElem?
  intro i
  by_cases h : i < l.length
  · rw [stream_get _ _ _ _ (by simpa using h), List.getElem?_eq_getElem h]
    unfold streamAt
    rw [List.getD_eq_getElem?_getD, stream_get _ _ _ _ h, Option.getD_some]
    unfold streamAt
    rw [List.getD_eq_getElem?_getD, List.getElem?_eq_getElem h, Option.getD_some, UInt8.xor_assoc, UInt8.xor_self, UInt8.xor_zero]
  · rw [List.getElem?_eq_none (by simp; omega), List.getElem?_eq_none (by omega)]
theorem stream_take (k : List UInt8) (n : BitVec 64) (l : List UInt8) (q : Nat) (hq : q ≤ l.length) : stream k n (l.take q) = (stream k n l).take q := by
  apply List.ext_getElem?
  intro i
  by_cases h : i < q
  · rw [stream_get _ _ _ _ (by simp; omega), List.getElem?_take, if_pos h, stream_get _ _ _ _ (by omega)]
    unfold streamAt
    simp only [List.getD_eq_getElem?_getD, List.getElem?_take, if_pos h]
  · rw [List.getElem?_eq_none (by simp; omega), List.getElem?_eq_none (by simp; omega)]

/-- Stream with what it returns by name. -/
theorem stream_sl (k : List UInt8) (hk : k.length = 16) (n : BitVec 64) (l X : List UInt8) (hX : stream k n l = X) (L : Nat) (hL : L = l.length) (hm : l.length ≤ 16384) (A : Option Addr) (m c : Nat) (w : World) (hs : Sl w A m c (kl l)) :
    Calls Try.prog 31 #[kv k, wv n, .slice A m c] w fun e w' => ∃ A' c', e = .returned (.tuple #[.slice A' L c', .int .i64 0]) ∧ Sl w' A' L c' (kl X) ∧ Below w.heap.size w w' := by
  refine (stream_any k hk n l A m c w hs hm).mono ?_
  rintro e w' ⟨v, rfl, ho, hb⟩
  obtain ⟨A', c', rfl, hs'⟩ := own_sl ho
  rw [stream_length, ← hL, hX] at hs'
  rw [stream_length, ← hL]
  exact ⟨A', c', rfl, hs', hb⟩
theorem Sl.take {w : World} {A : Option Addr} {n c : Nat} {l : List UInt8} (h : Sl w A n c (kl l)) (q : Nat) (hq : q ≤ n) : Sl w A q c (kl (l.take q)) := by
  obtain ⟨h1, h2, h3, h4, h5⟩ := h
  rw [kl_length] at h1
  refine ⟨by rw [kl_length, List.length_take]; omega, by omega, h3, h4, fun b off hA j v hv => h5 b off hA j v ?_⟩
  rw [kl, List.getElem?_map, List.getElem?_take] at hv
  rw [kl, List.getElem?_map]
  by_cases hj : j < q
  · rw [if_pos hj] at hv; exact hv
  · rw [if_neg hj] at hv; simp at hv
/-- The beginning of a slice. -/
theorem run_slice_to {w : World} {A : Option Addr} {n c : Nat} {cs : List Value} (h : Sl w A n c cs) (q : Nat) (hq : q ≤ n) (w' : World) : (Instr.slice 37 (.slice A n c) none (some (.int .i64 (q : Int))) none).run Try.prog w' = .ok (.slice A q c) w' := by
  obtain ⟨_, h2, _, h4, _⟩ := h
  obtain ⟨i0, hi0, hz0, hz1, hz2⟩ := info_parts info5
  by_cases h0 : c = 0
  · subst h0
    have hq0 : q = 0 := by omega
    subst hq0
    simp [Instr.slice, Instr.sliceBounds, Instr.sliceBound, run_underlying Try.underlying37, sizeOf, typeInfo, hi0, asIntOf]
  · obtain ⟨b, off, rfl⟩ := h4 (by omega)
    simp [Instr.slice, Instr.sliceBounds, Instr.sliceBound, run_underlying Try.underlying37, sizeOf, typeInfo, hi0, asIntOf, Addr.add]
    omega
end Go.Proofs.Ytccojcjgknlhdaa
