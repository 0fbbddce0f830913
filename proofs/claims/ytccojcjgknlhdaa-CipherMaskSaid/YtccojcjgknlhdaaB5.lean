/-
  The walk of the law that a stream is xor with encrypted blocks.
-/
import Derived.Test.YtccojcjgknlhdaaGr4
import Derived.Test.YtccojcjgknlhdaaP4
namespace Go.Proofs.Ytccojcjgknlhdaa
open Go.RowKit
attribute [local go_sem] fold_zeros

/-! the block, byte by byte -/
def ctrTo (m : Nat) : Nat → List UInt8
  | 0 => zeros.set 0 1
  | i + 1 => (ctrTo m i).set (7 - i) (low (BitVec.ofNat 64 m >>> (8 * i)))
def numTo (m : Nat) (n : BitVec 64) : Nat → List UInt8
  | 0 => ctrTo m 4
  | i + 1 => (numTo m n i).set (15 - i) (low (n >>> (8 * i)))
theorem ctrTo_length (m i : Nat) : (ctrTo m i).length = 16 := by
  induction i with
  | zero => rfl
  | succ i ih => simp [ctrTo, ih]
theorem numTo_length (m : Nat) (n : BitVec 64) (i : Nat) : (numTo m n i).length = 16 := by
  induction i with
  | zero => exact ctrTo_length m 4
  | succ i ih => simp [numTo, ih]
theorem low_high (m s : Nat) (hm : m < 2 ^ 32) (hs : 32 ≤ s) : low (BitVec.ofNat 64 m >>> s) = 0 := by
  have h : BitVec.ofNat 64 m >>> s = 0#64 := by
    apply BitVec.eq_of_toNat_eq
    rw [BitVec.toNat_ushiftRight, BitVec.toNat_ofNat, Nat.mod_eq_of_lt (by omega), Nat.shiftRight_eq_div_pow]
    exact Nat.div_eq_of_lt (Nat.lt_of_lt_of_le hm (Nat.pow_le_pow_right (by decide) hs))
  rw [h]; rfl
theorem numTo_all (m : Nat) (n : BitVec 64) (hm : m < 2 ^ 32) : numTo m n 8 = tagBlock 1 (BitVec.ofNat 64 m) n := by
  rw [tagBlock, blockOf, tag_bytes 1 (BitVec.ofNat 64 m) (by rw [BitVec.toNat_ofNat, Nat.mod_eq_of_lt (by omega)]; omega), ← tailBytes_eight n]
  have e : tailBytes (BitVec.ofNat 64 m) 7 = [0, 0, 0] ++ tailBytes (BitVec.ofNat 64 m) 4 := by
    simp only [tailBytes]
    rw [low_high m (8 * 6) hm (by decide), low_high m (8 * 5) hm (by decide), low_high m (8 * 4) hm (by decide)]
    rfl
  rw [e]
  rfl

theorem int_shr (q i : Nat) (hi : i < 4) : binOp .shr 3 (.int .i64 ((q : Int) / 16)) (.int .i64 (8 * (i : Int))) = pure (.int .i64 (((q / 16) >>> (8 * i) : Nat) : Int)) := by
  have : binOp .shr 3 (.int .i64 ((q : Int) / 16)) (.int .i64 (8 * (i : Int))) = Op.shift .shr .i64 ((q : Int) / 16) .i64 (8 * (i : Int)) := rfl
  rw [this, shift_shr_any _ _ _ _ (by omega)]
  have h1 : min (8 * (i : Int)).toNat IntKind.i64.bits = 8 * i := by
    have : IntKind.i64.bits = 64 := rfl
    rw [this]; omega
  rw [h1, Nat.shiftRight_eq_div_pow]
  simp
theorem conv_low (m i : Nat) (hm : m < 2 ^ 32) (w : World) : (convert 3 5 (.int .i64 ((m >>> (8 * i) : Nat) : Int))).run Try.prog w = .ok (bv (low (BitVec.ofNat 64 m >>> (8 * i)))) w := by
  rw [run_conv_byte w _ rfl rfl, BitVec.ofInt_natCast]
  congr 2
  unfold low
  congr 1
  apply BitVec.eq_of_toNat_eq
  rw [BitVec.toNat_ofNat, BitVec.toNat_setWidth, BitVec.toNat_ushiftRight, BitVec.toNat_ofNat, Nat.mod_eq_of_lt (a := m) (by omega)]

theorem mask_one (k : List UInt8) (n : BitVec 64) (a : List UInt8) (q : Nat) : streamAt k n a q ^^^ a.getD q 0 = (maskOf k n (q / 16)).getD (q % 16) 0 := by
  unfold streamAt
  rw [UInt8.xor_comm, ← UInt8.xor_assoc, UInt8.xor_self, UInt8.zero_xor]
theorem mask_two (k : List UInt8) (n : BitVec 64) (a b : List UInt8) (q : Nat) : streamAt k n a q ^^^ streamAt k n b q = a.getD q 0 ^^^ b.getD q 0 := by
  have h1 := mask_one k n a q
  have h2 := mask_one k n b q
  have h3 : streamAt k n a q = a.getD q 0 ^^^ (maskOf k n (q / 16)).getD (q % 16) 0 := rfl
  rw [h3, ← h2, UInt8.xor_assoc, UInt8.xor_comm (streamAt k n b q) (b.getD q 0), UInt8.xor_assoc (b.getD q 0), UInt8.xor_self, UInt8.xor_zero]

set_option maxHeartbeats 4000000 in
theorem mask_early (k : List UInt8) (n : BitVec 64) (A : Option Addr) (m c : Nat) (A' : Option Addr) (m' c' : Nat) (at' : Int) (w : World) (h : 16384 < m ∨ (m ≤ 16384 ∧ m' ≠ m) ∨ (m ≤ 16384 ∧ m' = m ∧ at' < 0) ∨ (m ≤ 16384 ∧ m' = m ∧ ¬ at' < 0 ∧ m ≤ at')) :
    Calls Try.prog 18 #[kv k, wv n, .slice A m c, .slice A' m' c', .int .i64 at'] w fun e w' => e = .returned (.bool true) ∧ Below w.heap.size w w' := by
  rcases h with h1 | ⟨h1, h2⟩ | ⟨h1, rfl, h2⟩ | ⟨h1, rfl, h2, h3⟩
  · have i1 : (16384 : Int) < m := by omega
    go_enter Try.func18, Try.ntmps18
    go_wp2_with (go_at_call 33; refine (alive_any _).mono ?_; rintro e w1 ⟨rfl, hb1⟩; have HB1 := Lib.hid hb1; clear hb1)
    go_ret
    exact ⟨rfl, aft (below_alloc _ _) HB1.out⟩
  · have i1 : (m : Int) ≤ 16384 := by omega
    have i2 : ¬ (m' : Int) = m := by omega
    go_enter Try.func18, Try.ntmps18
    go_wp2_with (go_at_call 33; refine (alive_any _).mono ?_; rintro e w1 ⟨rfl, hb1⟩; have HB1 := Lib.hid hb1; clear hb1)
    go_ret
    exact ⟨rfl, aft (below_alloc _ _) HB1.out⟩
  · have i1 : (m' : Int) ≤ 16384 := by omega
    go_enter Try.func18, Try.ntmps18
    go_wp2_with (go_at_call 33; refine (alive_any _).mono ?_; rintro e w1 ⟨rfl, hb1⟩; have HB1 := Lib.hid hb1; clear hb1)
    go_ret
    exact ⟨rfl, aft (below_alloc _ _) HB1.out⟩
  · have i1 : (m' : Int) ≤ 16384 := by omega
    go_enter Try.func18, Try.ntmps18
    go_wp2_with (go_at_call 33; refine (alive_any _).mono ?_; rintro e w1 ⟨rfl, hb1⟩; have HB1 := Lib.hid hb1; clear hb1)
    go_ret
    exact ⟨rfl, aft (below_alloc _ _) HB1.out⟩
end Go.Proofs.Ytccojcjgknlhdaa
