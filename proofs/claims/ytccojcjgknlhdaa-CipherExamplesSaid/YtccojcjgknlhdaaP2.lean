/-
  The plain law: a block comes back; different tags or numbers derive different keys.
-/
import Derived.Test.YtccojcjgknlhdaaW7
namespace Go.Proofs.Ytccojcjgknlhdaa

theorem rl_bit (x : BitVec 64) (s i : Nat) (hs : s ≤ 64) (hi : i < 64) : (rl x s).getLsbD i = if i < s then x.getLsbD (64 - s + i) else x.getLsbD (i - s) := by
  unfold rl
  rw [BitVec.getLsbD_or, BitVec.getLsbD_shiftLeft, BitVec.getLsbD_ushiftRight]
  by_cases h : i < s
  · simp [h, hi]
  · rw [if_neg h, BitVec.getLsbD_of_ge x (64 - s + i) (by omega)]
    simp [h, hi]
theorem rl_rl (x : BitVec 64) (s t : Nat) (h : s + t = 64) (hs : 0 < s) (ht : 0 < t) : rl (rl x s) t = x := by
  apply BitVec.eq_of_getLsbD_eq
  intro i hi
  rw [rl_bit _ t i (by omega) hi]
  by_cases h1 : i < t
  · rw [if_pos h1, rl_bit _ s _ (by omega) (by omega), if_neg (by omega)]
    congr 1; omega
  · rw [if_neg h1, rl_bit _ s _ (by omega) (by omega), if_pos (by omega)]
    congr 1; omega
theorem bck_rnd (p : BitVec 64 × BitVec 64) (k : BitVec 64) : bck (rnd p k) k = p := by
  unfold bck rnd
  simp only
  have h1 : (rl p.1 56 + p.2 ^^^ k) ^^^ (rl p.2 3 ^^^ (rl p.1 56 + p.2 ^^^ k)) = rl p.2 3 := by
    rw [BitVec.xor_comm (rl p.2 3), ← BitVec.xor_assoc, BitVec.xor_self, BitVec.zero_xor]
  have h2 : (rl p.1 56 + p.2 ^^^ k) ^^^ k = rl p.1 56 + p.2 := by rw [BitVec.xor_assoc, BitVec.xor_self, BitVec.xor_zero]
  rw [h1, h2, rl_rl _ 3 61 (by omega) (by omega) (by omega), BitVec.add_sub_cancel, rl_rl _ 56 8 (by omega) (by omega) (by omega)]
theorem rnd_bck (p : BitVec 64 × BitVec 64) (k : BitVec 64) : rnd (bck p k) k = p := by
  unfold bck rnd
  simp only
  have h1 : rl (rl ((p.1 ^^^ k) - rl (p.1 ^^^ p.2) 61) 8) 56 + rl (p.1 ^^^ p.2) 61 ^^^ k = p.1 := by
    rw [rl_rl _ 8 56 (by omega) (by omega) (by omega), BitVec.sub_add_cancel, BitVec.xor_assoc, BitVec.xor_self, BitVec.xor_zero]
  rw [h1, rl_rl _ 61 3 (by omega) (by omega) (by omega), BitVec.xor_comm p.1, BitVec.xor_assoc, BitVec.xor_self, BitVec.xor_zero]
theorem decTo_encTo (k : List UInt8) (p : BitVec 64 × BitVec 64) (i : Nat) (hi : i ≤ 32) : decTo k (encTo k p 32) i = encTo k p (32 - i) := by
  induction i with
  | zero => rfl
  | succ i ih =>
    rw [decTo, ih (by omega)]
    have e : 32 - i = (31 - i) + 1 := by omega
    rw [e, encTo, bck_rnd]
    congr 1; omega
theorem encTo_decTo (k : List UInt8) (p : BitVec 64 × BitVec 64) (i : Nat) (hi : i ≤ 32) : encTo k (decTo k p 32) i = decTo k p (32 - i) := by
  induction i with
  | zero => rfl
  | succ i ih =>
    rw [encTo, ih (by omega)]
    have e : 32 - i = (31 - i) + 1 := by omega
    rw [e, decTo, show 31 - (31 - i) = i by omega, rnd_bck]
    congr 1; omega

/-! bytes and words -/
theorem tailBytes_snoc (x : BitVec 64) (n : Nat) : tailBytes x (n + 1) = tailBytes (x >>> 8) n ++ [low x] := by
  induction n with
  | zero => simp [tailBytes]
  | succ n ih =>
    rw [tailBytes, ih]
    simp only [tailBytes, List.cons_append]
    congr 2
    rw [← BitVec.shiftRight_add]
    congr 1; omega
theorem be_lt : ∀ (l : List UInt8), l.length ≤ 8 → (be l).toNat < 2 ^ (8 * l.length) := by
  intro l
  induction h : l.length generalizing l with
  | zero =>
    intro _
    have : l = [] := List.eq_nil_of_length_eq_zero h
    subst this; decide
  | succ n ih =>
    intro hn
    obtain ⟨l', c, rfl⟩ : ∃ l' c, l = l' ++ [c] := ⟨l.dropLast, l.getLast (by intro e; subst e; simp at h), (List.dropLast_concat_getLast _).symm⟩
    have hl : l'.length = n := by simpa using h
    have h1 := ih l' hl (by omega)
    rw [be_snoc, ← be_step, BitVec.toNat_add, BitVec.toNat_mul]
    have h2 : (wide c).toNat < 256 := by
      unfold wide; rw [BitVec.toNat_setWidth]; have := c.toNat_lt; simp; omega
    have h3 : (BitVec.ofInt 64 256).toNat = 256 := rfl
    have h4 : 2 ^ (8 * (n + 1)) = 2 ^ (8 * n) * 256 := by rw [Nat.mul_add, Nat.pow_add]
    rw [h3, h4]
    have h5 : (256 * (be l').toNat % 2 ^ 64 + (wide c).toNat) % 2 ^ 64 ≤ 256 * (be l').toNat + (wide c).toNat := Nat.le_trans (Nat.mod_le _ _) (Nat.add_le_add_right (Nat.mod_le _ _) _)
    omega
theorem be_shift (l : List UInt8) (c : UInt8) (h : l.length ≤ 7) : be (l ++ [c]) >>> 8 = be l ∧ low (be (l ++ [c])) = c := by
  have h1 := be_lt l (by omega)
  have h2 : 2 ^ (8 * l.length) ≤ 2 ^ 56 := Nat.pow_le_pow_right (by decide) (by omega)
  rw [be_snoc]
  constructor
  · apply BitVec.eq_of_getLsbD_eq
    intro i hi
    rw [BitVec.getLsbD_ushiftRight, BitVec.getLsbD_or, BitVec.getLsbD_shiftLeft]
    have hw : (wide c).getLsbD (8 + i) = false := by
      unfold wide; rw [BitVec.getLsbD_setWidth, BitVec.getLsbD_of_ge _ _ (by omega)]; simp
    rw [hw]
    by_cases h3 : 8 + i < 64
    · simp [h3]
    · have h4 : (be l).getLsbD i = false := by
        rw [BitVec.getLsbD]
        exact Nat.testBit_lt_two_pow (Nat.lt_of_lt_of_le (Nat.lt_of_lt_of_le h1 h2) (Nat.pow_le_pow_right (by decide) (by omega)))
      simp [h3, h4]
  · unfold low
    apply UInt8.toBitVec_inj.1
    ext j hj
    simp only [BitVec.getElem_setWidth, BitVec.getLsbD_or, BitVec.getLsbD_shiftLeft, wide, BitVec.getLsbD_setWidth]
    have h3 : j < 64 := by omega
    simp [hj, h3]
theorem tailBytes_be (l : List UInt8) (h : l.length ≤ 8) : tailBytes (be l) l.length = l := by
  induction hn : l.length generalizing l with
  | zero => have : l = [] := List.eq_nil_of_length_eq_zero hn; subst this; rfl
  | succ n ih =>
    obtain ⟨l', c, rfl⟩ : ∃ l' c, l = l' ++ [c] := ⟨l.dropLast, l.getLast (by intro e; subst e; simp at hn), (List.dropLast_concat_getLast _).symm⟩
    have hl : l'.length = n := by simpa using hn
    rw [tailBytes_snoc, (be_shift l' c (by simp at h; omega)).1, (be_shift l' c (by simp at h; omega)).2]
    congr 1
    exact ih l' (by omega) hl
theorem be_tailBytes (n : Nat) (hn : n ≤ 8) : ∀ x : BitVec 64, (be (tailBytes x n)).toNat = x.toNat % 2 ^ (8 * n) := by
  induction n with
  | zero => intro x; simp [tailBytes, be]; omega
  | succ n ih =>
    intro x
    have h1 := ih (by omega) (x >>> 8)
    rw [tailBytes_snoc, be_snoc, ← be_step, BitVec.toNat_add, BitVec.toNat_mul, h1]
    have h3 : (BitVec.ofInt 64 256).toNat = 256 := rfl
    have h2 : (wide (low x)).toNat = x.toNat % 256 := by
      unfold wide low
      rw [BitVec.toNat_setWidth]
      show (x.setWidth 8).toNat % 2 ^ 64 = _
      rw [BitVec.toNat_setWidth]; omega
    rw [h2, h3, BitVec.toNat_ushiftRight, Nat.shiftRight_eq_div_pow]
    have h4 : 2 ^ (8 * (n + 1)) = 256 * 2 ^ (8 * n) := by rw [Nat.mul_add, Nat.pow_add, Nat.mul_comm]
    have h5 : x.toNat % (256 * 2 ^ (8 * n)) = x.toNat % 256 + 256 * (x.toNat / 256 % 2 ^ (8 * n)) := Nat.mod_mul
    have h6 : 2 ^ (8 * n) ≤ 2 ^ 56 := Nat.pow_le_pow_right (by decide) (by omega)
    have h7 : x.toNat / 2 ^ 8 % 2 ^ (8 * n) < 2 ^ (8 * n) := Nat.mod_lt _ (Nat.pow_pos (by decide))
    rw [h4, h5]
    show (256 * (x.toNat / 2 ^ 8 % 2 ^ (8 * n)) % 2 ^ 64 + x.toNat % 256) % 2 ^ 64 = _
    have h8 : (2 : Nat) ^ 8 = 256 := rfl
    rw [h8] at h7 ⊢
    generalize x.toNat / 256 % 2 ^ (8 * n) = q at *
    generalize 2 ^ (8 * n) = m at *
    omega
theorem be_bytes8 (x : BitVec 64) : be (bytes8 x) = x := by
  apply BitVec.eq_of_toNat_eq
  rw [← tailBytes_eight, be_tailBytes 8 (Nat.le_refl _)]
  exact Nat.mod_eq_of_lt x.isLt
theorem bytes8_be (l : List UInt8) (h : l.length = 8) : bytes8 (be l) = l := by
  rw [← tailBytes_eight]
  have := tailBytes_be l (by omega)
  rwa [h] at this
theorem wordsOf_blockOf (p : BitVec 64 × BitVec 64) : wordsOf (blockOf p) = p := by
  unfold wordsOf blockOf
  rw [List.take_append_of_le_length (by simp), List.take_of_length_le (by simp), List.drop_append_of_le_length (by simp), List.drop_of_length_le (by simp), List.nil_append, List.take_of_length_le (by simp), be_bytes8, be_bytes8]
theorem blockOf_wordsOf (k : List UInt8) (h : k.length = 16) : blockOf (wordsOf k) = k := by
  unfold wordsOf blockOf
  have e : (k.drop 8).take 8 = k.drop 8 := List.take_of_length_le (by rw [List.length_drop]; omega)
  rw [e, bytes8_be _ (by rw [List.length_take]; omega), bytes8_be _ (by rw [List.length_drop]; omega), List.take_append_drop]
theorem dec_enc (k b : List UInt8) (hb : b.length = 16) : dec k (enc k b) = b := by
  unfold dec enc
  rw [wordsOf_blockOf, decTo_encTo k _ 32 (Nat.le_refl _)]
  exact blockOf_wordsOf b hb
theorem enc_dec (k b : List UInt8) (hb : b.length = 16) : enc k (dec k b) = b := by
  unfold dec enc
  rw [wordsOf_blockOf, encTo_decTo k _ 32 (Nat.le_refl _)]
  exact blockOf_wordsOf b hb
theorem enc_inj (k a b : List UInt8) (ha : a.length = 16) (hb : b.length = 16) (h : enc k a = enc k b) : a = b := by
  rw [← dec_enc k a ha, h, dec_enc k b hb]
theorem tagBlock_inj (t t' : UInt8) (n m : BitVec 64) (h : tagBlock t 0#64 n = tagBlock t' 0#64 m) : t = t' ∧ n = m := by
  have h1 := congrArg wordsOf h
  unfold tagBlock at h1
  rw [wordsOf_blockOf, wordsOf_blockOf] at h1
  have h2 := congrArg Prod.fst h1
  have h3 := congrArg Prod.snd h1
  simp only at h2 h3
  refine ⟨?_, h3⟩
  rw [← low_shift_top t 0#64 (by decide), h2, low_shift_top t' 0#64 (by decide)]
theorem derive_inj (k : List UInt8) (t t' : UInt8) (n m : BitVec 64) : derive k t n = derive k t' m ↔ t = t' ∧ n = m := by
  constructor
  · intro h; exact tagBlock_inj t t' n m (enc_inj k _ _ (by simp) (by simp) h)
  · rintro ⟨rfl, rfl⟩; rfl
end Go.Proofs.Ytccojcjgknlhdaa
