/-
  Bytes that the call owns, written one by one.
-/
import Derived.Test.YtccojcjgknlhdaaGr4
import Derived.Laws.Strings
namespace Go.Proofs.Ytccojcjgknlhdaa
open Go.RowKit

/-- The bytes l lie in block g, which has room for cap. -/
def OwnB (w : World) (g cap : Nat) (l : List UInt8) : Prop :=
  l.length ≤ cap ∧ cap ≤ maxLen ∧ ∃ cur : Array Value, w.heap[g]? = some (.cells cur 5 (0, 0)) ∧ cur.size = cap ∧ ∀ (j : Nat) (x : UInt8), l[j]? = some x → cur[j]? = some (bv x)
theorem OwnB.lives {w w' : World} {g cap : Nat} {l : List UInt8} (h : OwnB w g cap l) (hb : Below w.heap.size w w') : OwnB w' g cap l := by
  obtain ⟨h1, h2, cur, h3, h4⟩ := h
  exact ⟨h1, h2, cur, blk_lives h3 hb, h4⟩
theorem OwnB.drew {w : World} {g cap : Nat} {l : List UInt8} (h : OwnB w g cap l) : OwnB w.drew g cap l := h
theorem OwnB.cell {w : World} {g cap : Nat} {l : List UInt8} (h : OwnB w g cap l) {j : Nat} {x : UInt8} (hj : l[j]? = some x) : w.cell? ⟨g, j, none⟩ = some (bv x) := by
  obtain ⟨_, _, cur, h3, _, h5⟩ := h
  exact cell_blk h3 (h5 j x hj)
theorem OwnB.free {w : World} {g cap : Nat} {l : List UInt8} (h : OwnB w g cap l) (j : Nat) : w.frozen? ⟨g, j, none⟩ = false := by
  obtain ⟨_, _, cur, h3, _⟩ := h
  exact free_blk h3
theorem OwnB.set {w : World} {g cap : Nat} {l : List UInt8} (h : OwnB w g cap l) (i : Nat) (x : UInt8) : OwnB (w.setCell ⟨g, i, none⟩ (bv x)) g cap (l.set i x) := by
  obtain ⟨h1, h2, cur, h3, h4, h5⟩ := h
  refine ⟨by rw [List.length_set]; exact h1, h2, cur.setIfInBounds i (bv x), blk_set h3, by simpa using h4, fun j y hj => ?_⟩
  have hjl := (List.getElem?_eq_some_iff.1 hj).1
  rw [List.length_set] at hjl
  by_cases hij : i = j
  · subst hij
    rw [List.getElem?_set_self hjl] at hj
    rw [Array.getElem?_setIfInBounds_self_of_lt (by omega), Option.some.inj hj]
  · rw [List.getElem?_set_ne hij] at hj
    rw [Array.getElem?_setIfInBounds_ne hij]
    exact h5 j y hj
theorem OwnB.sl {w : World} {g cap : Nat} {l : List UInt8} (h : OwnB w g cap l) (n : Nat) (hn : n = l.length) : Sl w (some ⟨g, 0, none⟩) n cap (kl l) := by
  obtain ⟨h1, h2, cur, h3, h4, h5⟩ := h
  refine ⟨by rw [kl_length, hn], by omega, h2, fun _ => ⟨g, 0, rfl⟩, fun b off hA j v hv => ?_⟩
  simp only [Option.some.injEq, Addr.mk.injEq, and_true] at hA
  obtain ⟨rfl, rfl⟩ := hA
  rw [kl, List.getElem?_map] at hv
  cases hl : l[j]? with
  | none => rw [hl] at hv; cases hv
  | some x =>
    rw [hl] at hv
    simp only [Option.map_some, Option.some.injEq] at hv
    rw [← hv, Nat.zero_add]
    exact cell_blk h3 (h5 j x hl)
theorem ownB_of {w : World} {base : Nat} {v : Value} {l : List UInt8} (h : Ob w base v l) (hl : l ≠ []) : ∃ g cap, v = .slice (some ⟨g, 0, none⟩) l.length cap ∧ base ≤ g ∧ OwnB w g cap l := by
  obtain ⟨g, cap, cur, h1, h2, h3, h4, h5, h6, h7⟩ := own_block h hl
  exact ⟨g, cap, h1, h2, h4, h5, cur, h3, h6, h7⟩
theorem sv_eq (a b : List UInt8) : binOp .eql 9 (sv a) (sv b) = pure (.bool (decide (a = b))) := by
  have : binOp .eql 9 (sv a) (sv b) = pure (.bool ((⟨a.toArray⟩ : ByteArray).toList == (⟨b.toArray⟩ : ByteArray).toList)) := rfl
  rw [this, ByteArray.toList_eq, ByteArray.toList_eq]
  congr 2
  rw [Bool.eq_iff_iff, beq_iff_eq, decide_eq_true_eq]
end Go.Proofs.Ytccojcjgknlhdaa
