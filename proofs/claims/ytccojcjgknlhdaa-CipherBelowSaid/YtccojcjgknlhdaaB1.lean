/-
  The walk of the law that a number is below its limit.
-/
import Derived.Test.YtccojcjgknlhdaaK3
namespace Go.Proofs.Ytccojcjgknlhdaa
open Go.RowKit
attribute [local go_sem] fold_zeros

theorem number_below (k : List UInt8) (n most : BitVec 64) (h : most ≠ 0#64) : numberOf k n most = be ((derive k 3 n).take 8) % most ∧ numberOf k n most < most := by
  have hf : numberOf k n most = (wordsOf (derive k 3 n)).1 % most := by simp [numberOf, h]
  refine ⟨hf, ?_⟩
  rw [hf]
  rw [BitVec.lt_def, BitVec.toNat_umod]
  exact Nat.mod_lt _ (Nat.pos_of_ne_zero fun e => h (BitVec.eq_of_toNat_eq (by simpa using e)))

set_option maxHeartbeats 2000000 in
theorem below_any (k : List UInt8) (hk : k.length = 16) (n most : BitVec 64) (w : World) :
    Calls Try.prog 16 #[kv k, wv n, wv most] w fun e w' => e = .returned (.bool true) ∧ Below w.heap.size w w' := by
  obtain ⟨X, hX⟩ : ∃ X, X = numberOf k n most := ⟨_, rfl⟩
  obtain ⟨D, hD⟩ : ∃ D, D = derive k 3 n := ⟨_, rfl⟩
  have hDl : D.length = 16 := by rw [hD]; simp
  have hA := fun w => number_any k hk n most w
  have hB := fun w => derive_any k hk 3 n w
  rw [← hX] at hA
  rw [← hD] at hB
  have hk1 : (w.alloc (.cells (kl k).toArray 23)).heap[w.heap.size]? = some (.cells (kl k).toArray 23 (0, 0)) := blk_last _ _
  have HA := Lib.hid hA; have HK := Lib.hid hk1; have HB := Lib.hid hB
  clear hA hB hk1
  by_cases hm : most = 0#64
  · have hd : decide (most = 0#64) = true := by simp [hm]
    have hx : decide (X = 0#64) = true := by simp [hX, hm, numberOf]
    clear hX hD hm
    go_enter Try.func16, Try.ntmps16
    go_wp2_with (first
      | (go_at_call 33; refine (alive_any _).mono ?_; rintro e w1 ⟨rfl, hb1⟩; have HB1 := Lib.hid hb1; clear hb1)
      | (refine wl_load w.heap.size k hk _ rfl rfl rfl (blk_lives HK.out HB1.out) ?_)
      | (go_at_call 25; refine (HA.out _).mono ?_; rintro e w2 ⟨rfl, hb2⟩; have HB2 := Lib.hid hb2; clear hb2))
    go_ret
    exact ⟨rfl, aft (aft (below_alloc _ _) HB1.out) HB2.out⟩
  · have hd : decide (most = 0#64) = false := by simp [hm]
    have hrem : ∀ x, binOp .rem 31 (wv x) (wv most) = pure (wv (x % most)) := fun x => op_rem 31 x most hm
    have hb := number_below k n most hm
    rw [← hX, ← hD] at hb
    have hx1 : decide (X < most) = true := decide_eq_true hb.2
    have hx2 : decide (X = be (D.take 8) % most) = true := decide_eq_true hb.1
    clear hX hD hm hb
    go_enter Try.func16, Try.ntmps16
    go_wp2_with (first
      | (go_at_call 33; refine (alive_any _).mono ?_; rintro e w1 ⟨rfl, hb1⟩; have HB1 := Lib.hid hb1; clear hb1)
      | (fail_if_success (have hh := HB2.out)
         refine wl_load w.heap.size k hk _ rfl rfl rfl (blk_lives HK.out HB1.out) ?_)
      | (refine wl_load w.heap.size k hk _ rfl rfl rfl (blk_lives HK.out (aft HB1.out HB2.out)) ?_)
      | (go_at_call 25; refine (HA.out _).mono ?_; rintro e w2 ⟨rfl, hb2⟩; have HB2 := Lib.hid hb2; clear hb2)
      | (go_at_call 23; refine (HB.out _).mono ?_; rintro e w3 ⟨rfl, hb3⟩; have HB3 := Lib.hid hb3; clear hb3)
      | (refine wl_store w3.heap.size D hDl _ _ rfl rfl rfl rfl (blk_last _ _) rfl ?_))
    have h1 := new_new w3 D (kl zeros).toArray
    have h2 := aft (aft (aft (aft (below_alloc w (.cells (kl k).toArray 23)) HB1.out) HB2.out) HB3.out) (new_below w3 D (kl zeros).toArray)
    generalize (w3.alloc (.cells (kl zeros).toArray 23)).setRow w3.heap.size (kl D).toArray = W at *
    have H1 := Lib.hid h1; have H2 := Lib.hid h2
    clear h1 h2
    go_loopw [10, 11] (fun v i wr => ∃ n : Nat, n ≤ 8 ∧ i = .int .i64 n ∧ v = wv (be (D.take n)) ∧ Below W.heap.size W wr) (fun _ i _ => 8 - (intOf i).toNat)
    case atStart => exact ⟨0, by omega, rfl, rfl, Below.refl _ _⟩
    case round =>
      obtain ⟨n, hn, rfl, rfl, hw⟩ := hrel
      have HW := Lib.hid hw
      by_cases hlt : n < 8
      · have c0 := cell_kl (blk_lives H1.out hw) (i := n) (by omega)
        have hn0 : (0 : Int) ≤ n := by omega
        have hn1 : (n : Int) < 8 := by omega
        have hn2 : (n : Int) < 16 := by omega
        clear hw
        go_wp2
        go_roundw
        case rel =>
          refine ⟨n + 1, by omega, by go_num, ?_, HW.out⟩
          rw [take_snoc _ _ (by omega), be_snoc]
        case measure => simp [intOf]; omega
      · obtain rfl : n = 8 := by omega
        clear hw
        go_wp2
        go_ret
        exact ⟨rfl, aft H2.out HW.out⟩
end Go.Proofs.Ytccojcjgknlhdaa
