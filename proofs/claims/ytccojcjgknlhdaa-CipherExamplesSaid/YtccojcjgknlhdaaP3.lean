/-
  The plain law: the text of a key, parsed, is the key; the text of what was parsed is the string.
-/
import Derived.Test.YtccojcjgknlhdaaT1
namespace Go.Proofs.Ytccojcjgknlhdaa

theorem dig_val (c : UInt8) (h : val c < 16) : dig (val c) = c := by
  have hl : digits.length = 16 := rfl
  have h1 := List.getElem_idxOf (xs := digits) (x := c) (by rw [hl]; exact h)
  rw [dig, List.getD_eq_getElem?_getD, val, List.getElem?_eq_getElem (by rw [hl]; exact h)]
  exact h1
theorem textOf_length (k : List UInt8) : (textOf k).length = 2 * k.length := by
  induction k with
  | nil => rfl
  | cons c k ih =>
    have : textOf (c :: k) = dig (c.toNat / 16) :: dig (c.toNat % 16) :: textOf k := rfl
    rw [this]; simp only [List.length_cons, ih]; omega
theorem textOf_get (k : List UInt8) (i : Nat) (c : UInt8) (h : k[i]? = some c) : (textOf k)[2 * i]? = some (dig (c.toNat / 16)) ∧ (textOf k)[2 * i + 1]? = some (dig (c.toNat % 16)) := by
  induction k generalizing i with
  | nil => simp at h
  | cons d k ih =>
    have e : textOf (d :: k) = dig (d.toNat / 16) :: dig (d.toNat % 16) :: textOf k := rfl
    rw [e]
    cases i with
    | zero => simp at h; subst h; exact ⟨rfl, rfl⟩
    | succ i =>
      have := ih i (by simpa using h)
      have e1 : 2 * (i + 1) = 2 * i + 1 + 1 := by omega
      have e2 : 2 * (i + 1) + 1 = 2 * i + 1 + 1 + 1 := by omega
      rw [e1]
      simpa using this
theorem isText_textOf (k : List UInt8) (hk : k.length = 16) : isText (textOf k) = true := by
  refine isText_good (by rw [textOf_length, hk]) fun j c hj hc => ?_
  have hi : j / 2 < k.length := by omega
  have h1 := textOf_get k (j / 2) _ (List.getElem?_eq_getElem hi)
  have h2 := (k[j / 2]).toNat_lt
  rcases Nat.mod_two_eq_zero_or_one j with h | h
  · have e : 2 * (j / 2) = j := by omega
    rw [e, hc] at h1
    rw [Option.some.inj h1.1, val_dig _ (by omega)]; omega
  · have e : 2 * (j / 2) + 1 = j := by omega
    rw [e, hc] at h1
    rw [Option.some.inj h1.2, val_dig _ (by omega)]; omega
theorem parse_text (k : List UInt8) (hk : k.length = 16) : parseR (textOf k) = k ∧ parseE (textOf k) = .int .i64 0 := by
  refine ⟨?_, by rw [parseE, if_pos (isText_textOf k hk)]⟩
  rw [parseR, if_pos (isText_textOf k hk)]
  apply List.ext_getElem?
  intro i
  by_cases hi : i < 16
  · have h1 := textOf_get k i _ (List.getElem?_eq_getElem (by omega))
    have h2 := (k[i]'(by omega)).toNat_lt
    rw [List.getElem?_eq_getElem (l := k) (by omega)]
    unfold parseOf
    rw [List.getElem?_map, List.getElem?_range hi]
    simp only [Option.map_some, parseAt, List.getD_eq_getElem?_getD, h1.1, h1.2, Option.getD_some]
    rw [val_dig _ (by omega), val_dig _ (by omega)]
    congr 1
    apply UInt8.toNat_inj.1
    rw [UInt8.toNat_ofNat']
    omega
  · rw [List.getElem?_eq_none (by simp; omega), List.getElem?_eq_none (by omega)]
theorem text_parse (s : List UInt8) (h : isText s = true) : textOf (parseOf s) = s := by
  have hl : s.length = 32 := by
    simp only [isText, Bool.and_eq_true, beq_iff_eq] at h; exact h.1
  have hv : ∀ j (hj : j < 32), val (s[j]'(by omega)) < 16 := fun j hj => by
    simp only [isText, Bool.and_eq_true, List.all_eq_true, decide_eq_true_eq] at h
    exact h.2 _ (List.getElem_mem _)
  apply List.ext_getElem?
  intro j
  by_cases hj : j < 32
  · have hi : j / 2 < 16 := by omega
    have e : (parseOf s)[j / 2]? = some (parseAt s (j / 2)) := by
      unfold parseOf; rw [List.getElem?_map, List.getElem?_range hi]; rfl
    have h1 := textOf_get _ _ _ e
    have a1 := hv (2 * (j / 2)) (by omega)
    have a2 := hv (2 * (j / 2) + 1) (by omega)
    have e2 : (parseAt s (j / 2)).toNat = 16 * val (s[2 * (j / 2)]'(by omega)) + val (s[2 * (j / 2) + 1]'(by omega)) := by
      unfold parseAt
      rw [UInt8.toNat_ofNat', List.getD_eq_getElem?_getD, List.getD_eq_getElem?_getD, List.getElem?_eq_getElem (by omega), List.getElem?_eq_getElem (by omega)]
      simp only [Option.getD_some]
      omega
    rw [e2] at h1
    rcases Nat.mod_two_eq_zero_or_one j with hm | hm
    · have e3 : 2 * (j / 2) = j := by omega
      have e4 : (16 * val (s[2 * (j / 2)]'(by omega)) + val (s[2 * (j / 2) + 1]'(by omega))) / 16 = val (s[2 * (j / 2)]'(by omega)) := by omega
      rw [e4, dig_val _ a1] at h1
      have h2 := h1.1
      rw [← List.getElem?_eq_getElem (by omega)] at h2
      rw [e3] at h2; exact h2
    · have e3 : 2 * (j / 2) + 1 = j := by omega
      have e4 : (16 * val (s[2 * (j / 2)]'(by omega)) + val (s[2 * (j / 2) + 1]'(by omega))) % 16 = val (s[2 * (j / 2) + 1]'(by omega)) := by omega
      rw [e4, dig_val _ a2] at h1
      have h2 := h1.2
      rw [← List.getElem?_eq_getElem (by omega)] at h2
      rw [e3] at h2; exact h2
  · rw [List.getElem?_eq_none (by rw [textOf_length, parseOf_length]; omega), List.getElem?_eq_none (by omega)]
theorem parse_cases (s : List UInt8) : (parseE s = .int .i64 0 ∧ textOf (parseR s) = s) ∨ (parseE s = .int .i64 12 ∧ parseR s = zeros) := by
  by_cases h : isText s = true
  · exact .inl ⟨by rw [parseE, if_pos h], by rw [parseR, if_pos h]; exact text_parse s h⟩
  · exact .inr ⟨by rw [parseE, if_neg h], by rw [parseR, if_neg h]⟩
end Go.Proofs.Ytccojcjgknlhdaa
