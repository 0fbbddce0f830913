/-
  What is digested: in plain words.
-/
import Derived.Test.YtccojcjgknlhdaaM3
namespace Go.Proofs.Ytccojcjgknlhdaa
open Go.RowKit

theorem bytes8_small (L : Nat) (h : L ≤ 16384) : bytes8 (BitVec.ofNat 64 L) = [0, 0, 0, 0, 0, 0, UInt8.ofNat (L / 256), UInt8.ofNat L] := by
  have hz : ∀ s, 16 ≤ s → low (BitVec.ofNat 64 L >>> s) = 0 := by
    intro s hs
    unfold low
    apply UInt8.toBitVec_inj.1
    apply BitVec.eq_of_toNat_eq
    simp only [BitVec.toNat_setWidth, BitVec.toNat_ushiftRight, BitVec.toNat_ofNat]
    have h1 : L % 2 ^ 64 = L := Nat.mod_eq_of_lt (by omega)
    have h2 : L >>> s = 0 := by
      rw [Nat.shiftRight_eq_div_pow]
      exact Nat.div_eq_of_lt (Nat.lt_of_lt_of_le (show L < 2 ^ 16 by omega) (Nat.pow_le_pow_right (by decide) hs))
    rw [h1, h2]; rfl
  have h8 : low (BitVec.ofNat 64 L >>> 8) = UInt8.ofNat (L / 256) := by
    unfold low
    apply UInt8.toBitVec_inj.1
    apply BitVec.eq_of_toNat_eq
    simp only [BitVec.toNat_setWidth, BitVec.toNat_ushiftRight, BitVec.toNat_ofNat]
    rw [Nat.mod_eq_of_lt (show L < 2 ^ 64 by omega), Nat.shiftRight_eq_div_pow]
    show _ = (UInt8.ofNat (L / 256)).toNat
    rw [UInt8.toNat_ofNat']
  have h0 : low (BitVec.ofNat 64 L >>> 0) = UInt8.ofNat L := by
    unfold low
    apply UInt8.toBitVec_inj.1
    apply BitVec.eq_of_toNat_eq
    simp only [BitVec.toNat_setWidth, BitVec.toNat_ushiftRight, BitVec.toNat_ofNat]
    rw [Nat.mod_eq_of_lt (show L < 2 ^ 64 by omega)]
    show _ = (UInt8.ofNat L).toNat
    rw [UInt8.toNat_ofNat']; rfl
  rw [← tailBytes_eight]
  simp only [tailBytes]
  rw [hz (8 * 7) (by omega), hz (8 * 6) (by omega), hz (8 * 5) (by omega), hz (8 * 4) (by omega), hz (8 * 3) (by omega), hz (8 * 2) (by omega)]
  simp only [Nat.mul_one, Nat.mul_zero]
  rw [h8, h0]

theorem padded_length (l : List UInt8) : (padded l).length = l.length + 9 + (16 - (l.length + 9) % 16) % 16 := by
  simp [padded]; omega
theorem set_mid (a : List UInt8) (x : UInt8) (b c : List UInt8) (i : Nat) (v : UInt8) : (a ++ x :: (b ++ c)).set (a.length + (1 + (b.length + i))) v = a ++ x :: (b ++ c.set i v) := by
  rw [List.set_append_right _ _ (Nat.le_add_right _ _), Nat.add_sub_cancel_left, Nat.add_comm 1, List.set_cons_succ, List.set_append_right _ _ (Nat.le_add_right _ _), Nat.add_sub_cancel_left]
theorem padded_eq (l : List UInt8) (h : l.length ≤ 16384) (n : Nat) (hn : n = l.length + 9 + (16 - (l.length + 9) % 16) % 16) :
    (((l ++ List.replicate (n - l.length) 0).set l.length 128).set (n - 2) (UInt8.ofNat (l.length / 256))).set (n - 1) (UInt8.ofNat l.length) = padded l := by
  have hp : padded l = l ++ (128 :: (List.replicate (n - l.length - 9) 0 ++ [0, 0, 0, 0, 0, 0, UInt8.ofNat (l.length / 256), UInt8.ofNat l.length])) := by
    have e : n - l.length - 9 = (16 - (l.length + 9) % 16) % 16 := by omega
    unfold padded
    rw [bytes8_small _ h, e]
    simp
  have hr : List.replicate (n - l.length) (0 : UInt8) = 0 :: (List.replicate (n - l.length - 9) 0 ++ [0, 0, 0, 0, 0, 0, 0, 0]) := by
    have e1 : n - l.length = (n - l.length - 9) + 8 + 1 := by omega
    have e2 : ([0, 0, 0, 0, 0, 0, 0, 0] : List UInt8) = List.replicate 8 0 := rfl
    rw [e2, List.replicate_append_replicate]
    conv => lhs; rw [e1, List.replicate_succ]
  rw [hp, hr]
  have e3 : n - 2 = l.length + (1 + ((n - l.length - 9) + 6)) := by omega
  have e4 : n - 1 = l.length + (1 + ((n - l.length - 9) + 7)) := by omega
  have len1 : (List.replicate (n - l.length - 9) (0 : UInt8)).length = n - l.length - 9 := List.length_replicate
  rw [e3, e4]
  generalize n - l.length - 9 = r at *
  rw [List.set_append_right _ _ (Nat.le_refl _), Nat.sub_self, List.set_cons_zero]
  have h6 := set_mid l 128 (List.replicate r 0) [0, 0, 0, 0, 0, 0, 0, 0] 6 (UInt8.ofNat (l.length / 256))
  have h7 := set_mid l 128 (List.replicate r 0) [0, 0, 0, 0, 0, 0, UInt8.ofNat (l.length / 256), 0] 7 (UInt8.ofNat l.length)
  rw [len1] at h6 h7
  rw [h6]
  exact h7
def startTo : Nat → List UInt8
  | 0 => zeros
  | i + 1 => (startTo i).set i 90
theorem startTo_length (i : Nat) : (startTo i).length = 16 := by
  induction i with
  | zero => rfl
  | succ i ih => simp [startTo, ih]
theorem startTo_all : startTo 16 = start := rfl
theorem sl_blk {w : World} {g : Nat} {l : List UInt8} {t : TypeId} {fr : Nat × Nat} (h : w.heap[g]? = some (.cells (kl l).toArray t fr)) (hm : l.length ≤ maxLen) (n : Nat) (hn : n = l.length) : Sl w (some ⟨g, 0, none⟩) n n (kl l) := by
  subst hn
  have := Sl.of_blk h (by simp [kl]; exact hm) 0 l.length (by simp [kl])
  simpa [kl, List.take_of_length_le] using this
theorem bv_nat (n : Nat) (h : n < 256) : Value.int .u8 (n : Int) = bv (UInt8.ofNat n) := by
  rw [bv, UInt8.toNat_ofNat', Nat.mod_eq_of_lt h]
theorem bv_div (n : Nat) (h : n ≤ 16384) : Value.int .u8 ((n : Int) / 256) = bv (UInt8.ofNat (n / 256)) := by
  rw [← bv_nat (n / 256) (by omega)]; rfl
theorem bv_mod (n : Nat) : Value.int .u8 ((n : Int) % 256) = bv (UInt8.ofNat n) := by
  rw [bv, UInt8.toNat_ofNat']; rfl
end Go.Proofs.Ytccojcjgknlhdaa
