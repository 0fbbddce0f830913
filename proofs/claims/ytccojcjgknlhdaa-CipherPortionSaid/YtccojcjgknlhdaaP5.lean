/-
  The plain law of MACs: a MAC tells texts apart that differ within one portion.
-/
import Derived.Test.YtccojcjgknlhdaaP2
import Derived.Test.YtccojcjgknlhdaaS1
import Derived.Test.YtccojcjgknlhdaaM2
namespace Go.Proofs.Ytccojcjgknlhdaa

theorem byte_back (a b : UInt8) : (a ^^^ b) ^^^ b = a := by rw [UInt8.xor_assoc, UInt8.xor_self, UInt8.xor_zero]
theorem byte_back2 (a b : UInt8) : a ^^^ (a ^^^ b) = b := by rw [← UInt8.xor_assoc, UInt8.xor_self, UInt8.zero_xor]
theorem xorl_cancel {a b p : List UInt8} (ha : a.length = 16) (hb : b.length = 16) (hp : p.length = 16) (h : xorl a p = xorl b p) : a = b := by
  apply List.ext_getElem?
  intro j
  by_cases hj : j < 16
  · have h1 := xorl_get a p (by omega) j (by omega)
    have h2 := xorl_get b p (by omega) j (by omega)
    rw [h, h2] at h1
    have h3 := congrArg (· ^^^ p[j]?.getD 0) (Option.some.inj h1)
    simp only [byte_back] at h3
    rw [List.getElem?_eq_getElem (by omega), List.getElem?_eq_getElem (by omega)] at h3 ⊢
    rw [Option.getD_some, Option.getD_some] at h3
    rw [h3]
  · rw [List.getElem?_eq_none (by omega), List.getElem?_eq_none (by omega)]
theorem xorl_cancel2 {s a b : List UInt8} (hs : s.length = 16) (ha : a.length = 16) (hb : b.length = 16) (h : xorl s a = xorl s b) : a = b := by
  apply List.ext_getElem?
  intro j
  by_cases hj : j < 16
  · have h1 := xorl_get s a (by omega) j (by omega)
    have h2 := xorl_get s b (by omega) j (by omega)
    rw [h, h2] at h1
    have h3 := congrArg (s[j]?.getD 0 ^^^ ·) (Option.some.inj h1)
    simp only [byte_back2] at h3
    rw [List.getElem?_eq_getElem (by omega), List.getElem?_eq_getElem (by omega)] at h3 ⊢
    rw [Option.getD_some, Option.getD_some] at h3
    rw [h3]
  · rw [List.getElem?_eq_none (by omega), List.getElem?_eq_none (by omega)]
/-- Two texts that differ within one portion. -/
theorem mac_part (k b c : List UInt8) (hl : b.length = c.length) (q : Nat) (hq : q < (b.length + 15) / 16) (hd : ∀ i, i ≠ q → portionAt b i = portionAt c i) (h : macOf k b = macOf k c) : portionAt b q = portionAt c q := by
  unfold macOf at h
  rw [← hl] at h
  have hs : (derive k 2 (BitVec.ofNat 64 b.length)).length = 16 := by simp
  generalize derive k 2 (BitVec.ofNat 64 b.length) = s at *
  have hlen := fun x i => foldTo_length (macNext k) (macNext_length k) s hs x i
  have up : ∀ i, i ≤ q → foldTo (macNext k) s b i = foldTo (macNext k) s c i := by
    intro i
    induction i with
    | zero => intro _; rfl
    | succ i ih => intro hi; simp only [foldTo]; rw [ih (by omega), hd i (by omega)]
  have down : ∀ n, q + 1 ≤ (b.length + 15) / 16 - n → foldTo (macNext k) s b ((b.length + 15) / 16 - n) = foldTo (macNext k) s c ((b.length + 15) / 16 - n) := by
    intro n
    induction n with
    | zero => intro _; exact h
    | succ n ih =>
      intro hn
      have h1 := ih (by omega)
      have e : (b.length + 15) / 16 - n = ((b.length + 15) / 16 - (n + 1)) + 1 := by omega
      rw [e] at h1
      simp only [foldTo] at h1
      rw [hd ((b.length + 15) / 16 - (n + 1)) (by omega)] at h1
      unfold macNext at h1
      exact xorl_cancel (hlen _ _) (hlen _ _) (by simp) (enc_inj k _ _ (xorl_length (hlen _ _) (by simp)) (xorl_length (hlen _ _) (by simp)) h1)
  have h2 := down ((b.length + 15) / 16 - (q + 1)) (by omega)
  rw [show (b.length + 15) / 16 - ((b.length + 15) / 16 - (q + 1)) = q + 1 by omega] at h2
  simp only [foldTo] at h2
  rw [up q (Nat.le_refl _)] at h2
  unfold macNext at h2
  exact xorl_cancel2 (hlen _ _) (by simp) (by simp) (enc_inj k _ _ (xorl_length (hlen _ _) (by simp)) (xorl_length (hlen _ _) (by simp)) h2)

/-- A text with a portion put in the place of another one, byte by byte. -/
def putTo (l p : List UInt8) (q : Nat) : Nat → List UInt8
  | 0 => l
  | i + 1 => (putTo l p q i).set (16 * q + i) (p[i]?.getD 0)
theorem putTo_length (l p : List UInt8) (q i : Nat) : (putTo l p q i).length = l.length := by
  induction i with
  | zero => rfl
  | succ i ih => simp [putTo, ih]
theorem putTo_far (l p : List UInt8) (q i j : Nat) (hi : i ≤ 16) (hj : j < 16 * q ∨ 16 * q + 16 ≤ j) : (putTo l p q i)[j]? = l[j]? := by
  induction i with
  | zero => rfl
  | succ i ih => simp only [putTo]; rw [List.getElem?_set_ne (by omega)]; exact ih (by omega)
theorem put_mac (k l p : List UInt8) (q i : Nat) (hi : i ≤ 16) (hq : q < (l.length + 15) / 16) : macOf k l = macOf k (putTo l p q i) ↔ l = putTo l p q i := by
  constructor
  · intro h
    have hd : ∀ j, j ≠ q → portionAt l j = portionAt (putTo l p q i) j := by
      intro j hj
      unfold portionAt
      apply List.map_congr_left
      intro t ht
      have ht := List.mem_range.1 ht
      rw [List.getD_eq_getElem?_getD, List.getD_eq_getElem?_getD, putTo_far l p q i _ hi (by omega)]
    have h1 := mac_part k l (putTo l p q i) (putTo_length l p q i).symm q hq hd h
    have h2 : ∀ j, portionAt l j = portionAt (putTo l p q i) j := fun j => by
      by_cases hj : j = q
      · rw [hj]; exact h1
      · exact hd j hj
    apply List.ext_getElem?
    intro j
    by_cases hj : j < l.length
    · have h3 := congrArg (·[j % 16]?) (h2 (j / 16))
      simp only [portionAt] at h3
      rw [List.getElem?_map, List.getElem?_map, List.getElem?_range (Nat.mod_lt _ (by decide))] at h3
      simp only [Option.map_some, Option.some.injEq] at h3
      rw [show 16 * (j / 16) + j % 16 = j by omega, List.getD_eq_getElem?_getD, List.getD_eq_getElem?_getD] at h3
      rw [List.getElem?_eq_getElem hj, List.getElem?_eq_getElem (by rw [putTo_length]; exact hj)] at h3 ⊢
      rw [Option.getD_some, Option.getD_some] at h3
      rw [h3]
    · rw [List.getElem?_eq_none (by omega), List.getElem?_eq_none (by rw [putTo_length]; omega)]
  · intro h; rw [← h]
end Go.Proofs.Ytccojcjgknlhdaa
