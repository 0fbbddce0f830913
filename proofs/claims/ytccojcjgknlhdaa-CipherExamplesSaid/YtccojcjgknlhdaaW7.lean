/-
  Walks 7, of the reference: Encrypt, Decrypt, Block, Derive, Number.
-/
import Derived.Test.YtccojcjgknlhdaaW6
namespace Go.Proofs.Ytccojcjgknlhdaa
open Go.RowKit
attribute [local go_sem] fold_zeros

theorem keysL_get (k : List UInt8) (n i : Nat) (h : i < n) : (wl (keysL k n))[i]? = some (wv (rkey k i)) := by
  simp [wl, keysL, h]

set_option maxHeartbeats 2000000 in
theorem refEncrypt_any (k b : List UInt8) (hk : k.length = 16) (hb : b.length = 16) (w : World) :
    Calls Try.prog 28 #[kv k, kv b] w fun e w' => e = .returned (kv (enc k b)) ∧ Below w.heap.size w w' := by
  go_enter Try.func28, Try.ntmps28
  have hx0 : (((w.alloc (.cells (kl k).toArray 23)).alloc (.cells (kl b).toArray 23)).alloc (.cells (kl zeros).toArray 23)).heap[w.heap.size]? = some (.cells (kl k).toArray 23 (0, 0)) := blk_keep (blk_keep (blk_last _ _) _) _
  have hx1 : (((w.alloc (.cells (kl k).toArray 23)).alloc (.cells (kl b).toArray 23)).alloc (.cells (kl zeros).toArray 23)).heap[w.heap.size + 1]? = some (.cells (kl b).toArray 23 (0, 0)) := blk_keep (blk_last1 _ _ _) _
  have hx2 : (((w.alloc (.cells (kl k).toArray 23)).alloc (.cells (kl b).toArray 23)).alloc (.cells (kl zeros).toArray 23)).heap[w.heap.size + 1 + 1]? = some (.cells (kl zeros).toArray 23 (0, 0)) := blk_last2 _ _ _ _
  have hb0 : Below w.heap.size w (((w.alloc (.cells (kl k).toArray 23)).alloc (.cells (kl b).toArray 23)).alloc (.cells (kl zeros).toArray 23)) := aft_alloc (aft_alloc (below_alloc _ _) _) _
  have HX0 := Lib.hid hx0; have HX1 := Lib.hid hx1; have HX2 := Lib.hid hx2; have HB0 := Lib.hid hb0
  clear hx0 hx1 hx2 hb0
  go_wp2_with (first
    | (refine wl_load (w.heap.size + 1) b hb _ rfl rfl rfl HX1.out ?_)
    | (refine wl_load w.heap.size k hk _ rfl rfl rfl (blk_lives HX0.out HB1.out) ?_)
    | (go_at_call 50; refine (refWords_any b hb _).mono ?_; rintro e w1 ⟨rfl, hb1⟩; have HB1 := Lib.hid hb1; clear hb1)
    | (go_at_call 51; refine (roundKeys_any k hk _).mono ?_; rintro e w2 ⟨v2, rfl, ho2, hb2⟩; obtain ⟨A2, c2, rfl, hs2⟩ := own_sl ho2; rw [keysL_length] at hs2 ⊢; have HS2 := Lib.hid hs2; have HB2 := Lib.hid hb2; clear ho2 hb2 hs2))
  have hB2 := aft HB1.out HB2.out
  have hr2 := blk_lives HX2.out hB2
  have hb2 := aft HB0.out hB2
  have HR := Lib.hid hr2; have HB := Lib.hid hb2
  clear hB2 hr2 hb2 HX0 HX1 HX2 HB0 HB1 HB2
  go_loopw [5, 6, 8] (fun x y i wr => ∃ n : Nat, n ≤ 32 ∧ i = .int .i64 n ∧ x = wv (encTo k (wordsOf b) n).1 ∧ y = wv (encTo k (wordsOf b) n).2 ∧ Below w2.heap.size w2 wr) (fun _ _ i _ => 32 - (intOf i).toNat)
  case atStart => exact ⟨0, by omega, rfl, rfl, rfl, Below.refl _ _⟩
  case round =>
    obtain ⟨n, hn, rfl, rfl, rfl, hw⟩ := hrel
    by_cases hlt : n < 32
    · have hn0 : (0 : Int) ≤ n := by omega
      have hn1 : (n : Int) < 32 := by omega
      obtain ⟨g, off, rfl, hc⟩ := (HS2.out.lives hw).at (keysL_get k 32 n hlt)
      have kc : ∀ e : Later wr, e.at.cell? ⟨g, off + n, none⟩ = some (wv (rkey k n)) := Later.cell hc
      have HW := Lib.hid hw
      clear hw
      go_wp2
      refine wp_quiet_all (LaterC wr) (by kernel_rfl) (by kernel_rfl) (later_drew _) ?_
      repeat (go_big_quiet_step ((go_at_call 52; exact later_call _ (rotr_any _ 8 (by omega) _))))
      refine wpQuiet_nil ?_
      rintro _ ⟨e, rfl⟩
      go_wp2_with (go_at_call 53; refine (rotl_any _ 3 (by omega) _).mono ?_; rintro e w3 ⟨rfl, hb3⟩; have HB3 := Lib.hid hb3; clear hb3)
      go_roundw
      case rel =>
        exact ⟨n + 1, by omega, by go_num, rfl, rfl, aft (aft HW.out e.below) HB3.out⟩
      case measure => simp [intOf]; omega
    · obtain rfl : n = 32 := by omega
      have HW := Lib.hid hw
      clear hn hlt hw
      go_wp2_with (first
        | (go_at_call 54; refine (refBlock_any _ _ _).mono ?_; rintro e w3 ⟨rfl, hb3⟩; have HB3 := Lib.hid hb3; clear hb3)
        | (refine wl_store (w.heap.size + 1 + 1) (enc k b) (by simp) _ _ rfl rfl rfl rfl (blk_lives HR.out (aft HW.out HB3.out)) rfl ?_))
      exact bodyPost_ret (v := kv (enc k b)) (res_key rfl _ _ (w.heap.size + 1 + 1) _ (by simp) rfl (blk_row (blk_lives HR.out (aft HW.out HB3.out)))) rfl ⟨rfl, below_row (aft HB.out (aft HW.out HB3.out)) (by omega) _⟩
set_option maxHeartbeats 2000000 in
theorem refDecrypt_any (k b : List UInt8) (hk : k.length = 16) (hb : b.length = 16) (w : World) :
    Calls Try.prog 30 #[kv k, kv b] w fun e w' => e = .returned (kv (dec k b)) ∧ Below w.heap.size w w' := by
  go_enter Try.func30, Try.ntmps30
  have hx0 : (((w.alloc (.cells (kl k).toArray 23)).alloc (.cells (kl b).toArray 23)).alloc (.cells (kl zeros).toArray 23)).heap[w.heap.size]? = some (.cells (kl k).toArray 23 (0, 0)) := blk_keep (blk_keep (blk_last _ _) _) _
  have hx1 : (((w.alloc (.cells (kl k).toArray 23)).alloc (.cells (kl b).toArray 23)).alloc (.cells (kl zeros).toArray 23)).heap[w.heap.size + 1]? = some (.cells (kl b).toArray 23 (0, 0)) := blk_keep (blk_last1 _ _ _) _
  have hx2 : (((w.alloc (.cells (kl k).toArray 23)).alloc (.cells (kl b).toArray 23)).alloc (.cells (kl zeros).toArray 23)).heap[w.heap.size + 1 + 1]? = some (.cells (kl zeros).toArray 23 (0, 0)) := blk_last2 _ _ _ _
  have hb0 : Below w.heap.size w (((w.alloc (.cells (kl k).toArray 23)).alloc (.cells (kl b).toArray 23)).alloc (.cells (kl zeros).toArray 23)) := aft_alloc (aft_alloc (below_alloc _ _) _) _
  have HX0 := Lib.hid hx0; have HX1 := Lib.hid hx1; have HX2 := Lib.hid hx2; have HB0 := Lib.hid hb0
  clear hx0 hx1 hx2 hb0
  go_wp2_with (first
    | (refine wl_load (w.heap.size + 1) b hb _ rfl rfl rfl HX1.out ?_)
    | (refine wl_load w.heap.size k hk _ rfl rfl rfl (blk_lives HX0.out HB1.out) ?_)
    | (go_at_call 50; refine (refWords_any b hb _).mono ?_; rintro e w1 ⟨rfl, hb1⟩; have HB1 := Lib.hid hb1; clear hb1)
    | (go_at_call 51; refine (roundKeys_any k hk _).mono ?_; rintro e w2 ⟨v2, rfl, ho2, hb2⟩; obtain ⟨A2, c2, rfl, hs2⟩ := own_sl ho2; rw [keysL_length] at hs2 ⊢; have HS2 := Lib.hid hs2; have HB2 := Lib.hid hb2; clear ho2 hb2 hs2))
  have hB2 := aft HB1.out HB2.out
  have hr2 := blk_lives HX2.out hB2
  have hb2 := aft HB0.out hB2
  have HR := Lib.hid hr2; have HB := Lib.hid hb2
  clear hB2 hr2 hb2 HX0 HX1 HX2 HB0 HB1 HB2
  go_loopw [5, 6, 8] (fun x y i wr => ∃ n : Nat, n ≤ 32 ∧ i = .int .i64 (31 - (n : Int)) ∧ x = wv (decTo k (wordsOf b) n).1 ∧ y = wv (decTo k (wordsOf b) n).2 ∧ Below w2.heap.size w2 wr) (fun _ _ i _ => (intOf i + 1).toNat)
  case atStart => exact ⟨0, by omega, rfl, rfl, rfl, Below.refl _ _⟩
  case round =>
    obtain ⟨n, hn, rfl, rfl, rfl, hw⟩ := hrel
    by_cases hlt : n < 32
    · have hn0 : (n : Int) ≤ 31 := by omega
      have hn2 : (31 : Int) - n < 32 := by omega
      have hn3 : ((31 : Int) - n).toNat = 31 - n := by omega
      have hcm := BitVec.xor_comm (decTo k (wordsOf b) n).2 (decTo k (wordsOf b) n).1
      obtain ⟨g, off, rfl, hc⟩ := (HS2.out.lives hw).at (keysL_get k 32 (31 - n) (by omega))
      have HW := Lib.hid hw
      clear hw
      go_wp2_with (first
        | (go_at_call 52; refine (rotr_any _ 3 (by omega) _).mono ?_; rintro e w3 ⟨rfl, hb3⟩; have hc3 := (hb3.cell (World.block_lt_of_cell? wr _ hc)).trans hc; have HB3 := Lib.hid hb3; clear hb3)
        | (go_at_call 53; refine (rotl_any _ 8 (by omega) _).mono ?_; rintro e w4 ⟨rfl, hb4⟩; have HB4 := Lib.hid hb4; clear hb4))
      go_roundw
      case rel =>
        exact ⟨n + 1, by omega, by go_num, rfl, rfl, aft (aft HW.out HB3.out) HB4.out⟩
      case measure => simp [intOf]; omega
    · obtain rfl : n = 32 := by omega
      have HW := Lib.hid hw
      clear hn hlt hw
      go_wp2_with (first
        | (go_at_call 54; refine (refBlock_any _ _ _).mono ?_; rintro e w3 ⟨rfl, hb3⟩; have HB3 := Lib.hid hb3; clear hb3)
        | (refine wl_store (w.heap.size + 1 + 1) (dec k b) (by simp) _ _ rfl rfl rfl rfl (blk_lives HR.out (aft HW.out HB3.out)) rfl ?_))
      exact bodyPost_ret (v := kv (dec k b)) (res_key rfl _ _ (w.heap.size + 1 + 1) _ (by simp) rfl (blk_row (blk_lives HR.out (aft HW.out HB3.out)))) rfl ⟨rfl, below_row (aft HB.out (aft HW.out HB3.out)) (by omega) _⟩
theorem low_shift_tag (t : UInt8) (c : BitVec 64) (i : Nat) (hi : i < 7) : low ((wide t <<< 56 ||| c) >>> (8 * i)) = low (c >>> (8 * i)) := by
  unfold low
  congr 1
  ext j hj
  simp only [BitVec.getElem_setWidth, BitVec.getLsbD_ushiftRight, BitVec.getLsbD_or, BitVec.getLsbD_shiftLeft]
  have : 8 * i + j < 56 := by omega
  simp [this]
theorem low_shift_top (t : UInt8) (c : BitVec 64) (hc : c.toNat < 2 ^ 56) : low ((wide t <<< 56 ||| c) >>> 56) = t := by
  unfold low
  apply UInt8.toBitVec_inj.1
  ext j hj
  have h0 : c.getLsbD (56 + j) = false := by
    rw [BitVec.getLsbD]
    exact Nat.testBit_lt_two_pow (Nat.lt_of_lt_of_le hc (Nat.pow_le_pow_right (by decide) (by omega)))
  simp only [BitVec.getElem_setWidth, BitVec.getLsbD_ushiftRight, BitVec.getLsbD_or, BitVec.getLsbD_shiftLeft, wide, BitVec.getLsbD_setWidth, h0]
  have h1 : 56 + j < 64 := by omega
  have h2 : ¬ 56 + j < 56 := by omega
  have h3 : j < 64 := by omega
  simp [h1, h2, h3, BitVec.getLsbD_eq_getElem hj]
theorem tag_bytes (t : UInt8) (c : BitVec 64) (hc : c.toNat < 2 ^ 56) : bytes8 (wide t <<< 56 ||| c) = t :: tailBytes c 7 := by
  rw [← tailBytes_eight]
  simp only [tailBytes, low_shift_tag t c 6 (by omega), low_shift_tag t c 5 (by omega), low_shift_tag t c 4 (by omega), low_shift_tag t c 3 (by omega), low_shift_tag t c 2 (by omega), low_shift_tag t c 1 (by omega), low_shift_tag t c 0 (by omega)]
  rw [low_shift_top t c hc]
theorem keyOf_tag (t : UInt8) (c n : BitVec 64) (hc : c.toNat < 2 ^ 56) : keyOf ([t] ++ tailBytes c 7 ++ tailBytes n 8) = tagBlock t c n := by
  have : [t] ++ tailBytes c 7 ++ tailBytes n 8 = tagBlock t c n := by
    rw [tagBlock, blockOf, tag_bytes t c hc, tailBytes_eight]; rfl
  rw [this]; exact keyOf_self (tagBlock t c n) (tagBlock_length _ _ _)

set_option maxHeartbeats 2000000 in
theorem refTag_any (t : UInt8) (c n : BitVec 64) (hc : c.toNat < 2 ^ 56) (w : World) :
    Calls Try.prog 44 #[bv t, wv c, wv n] w fun e w' => e = .returned (kv (tagBlock t c n)) ∧ Below w.heap.size w w' := by
  have hlen : maxLen = 9223372036854775807 := rfl
  have hk := keyOf_tag t c n hc
  have HKY := Lib.hid hk; clear hk
  go_enter Try.func44, Try.ntmps44
  have hr1 : ((w.alloc (.cells (kl zeros).toArray 23)).alloc (.cells #[bv t] 5)).heap[w.heap.size]? = some (.cells (kl zeros).toArray 23 (0, 0)) := blk_keep (blk_last _ _) _
  have hb1 : Below w.heap.size w ((w.alloc (.cells (kl zeros).toArray 23)).alloc (.cells #[bv t] 5)) := aft_alloc (below_alloc w _) _
  have ho0 : ((w.alloc (.cells (kl zeros).toArray 23)).alloc (.cells #[bv t] 5)).ownsRow (w.heap.size + 1) 5 1 (.slice (some ⟨w.heap.size + 1, 0, none⟩) 1 1) 1 (kl [t]) := by
    have := own_lit (w := w.alloc (.cells (kl zeros).toArray 23)) (base := w.heap.size + 1) (e := 5) [bv t] (by simp) (by simp; decide)
    rw [World.size_alloc] at this; exact this
  have hz0 : w.heap.size + 1 ≤ ((w.alloc (.cells (kl zeros).toArray 23)).alloc (.cells #[bv t] 5)).heap.size := by simp
  have HR := Lib.hid hr1; have HB := Lib.hid hb1; have HO0 := Lib.hid ho0; have HZ0 := Lib.hid hz0; clear hr1 hb1 ho0 hz0
  go_wp2_with (first
    | (fail_if_success (have hh := HB1.out)
       go_at_call 66; refine (bytes_any _ 7 (by omega) _).mono ?_; rintro e w1 ⟨v1, l1, hl1, rfl, ho1, hb1⟩; obtain ⟨A1, c1, rfl, hs1⟩ := own_sl ho1; have HS1 := Lib.hid hs1; have HB1 := Lib.hid hb1; have HL1 := Lib.hid hl1; clear ho1 hb1 hl1 hs1)
    | (go_at_call 66; refine (bytes_any _ 8 (by omega) _).mono ?_; rintro e w2 ⟨v2, l2, hl2, rfl, ho2, hb2⟩; obtain ⟨A2, c2, rfl, hs2⟩ := own_sl ho2; have HS2 := Lib.hid hs2; have HB2 := Lib.hid hb2; have HL2 := Lib.hid hl2; clear ho2 hb2 hs2 hl2)
    | (refine wl_app Try.underlying37 info5 rfl (.tmp 9) (.tmp 11) rfl rfl rfl rfl (own_lives HO0.out HB1.out) HS1.out (kl_cells _) (by omega) (by omega) (Nat.le_trans HZ0.out HB1.out.size) ?_
       intro v3 w3 ho3 ha3
       have hr3 := ha3.blk (blk_lives HR.out HB1.out) (fun h => by have := (HO0.out.lt _ h).1; omega)
       have hb3 := aft_app (aft HB.out HB1.out) (own_base (own_lives HO0.out HB1.out) (by omega)) ha3
       have hz3 := Nat.le_trans (Nat.le_trans HZ0.out HB1.out.size) ha3.1.size
       rw [← kl_append] at ho3
       have HO3 := Lib.hid ho3; have HR3 := Lib.hid hr3; have HB3 := Lib.hid hb3; have HZ3 := Lib.hid hz3; clear ho3 ha3 hr3 hb3 hz3)
    | (refine wl_app Try.underlying37 info5 rfl (.tmp 13) (.tmp 15) rfl rfl rfl rfl (own_lives HO3.out HB2.out) HS2.out (kl_cells _) (by omega) (by omega) (Nat.le_trans HZ3.out HB2.out.size) ?_
       intro v4 w4 ho4 ha4
       have hr4 := ha4.blk (blk_lives HR3.out HB2.out) (fun h => by have := (HO3.out.lt _ h).1; omega)
       have hb4 := aft_app (aft HB3.out HB2.out) (own_base (own_lives HO3.out HB2.out) (by omega)) ha4
       rw [← kl_append] at ho4
       obtain ⟨A4, c4, rfl, hs4⟩ := own_sl ho4
       have HS4 := Lib.hid hs4; have HR4 := Lib.hid hr4; have HB4 := Lib.hid hb4; clear ho4 ha4 hr4 hb4 hs4)
    | (go_at_call 67; refine (key_any _ _ _ _ _ HS4.out).mono ?_; rintro e w5 ⟨rfl, hb5⟩; have HB5 := Lib.hid hb5; clear hb5
       rw [HL1.out, HL2.out, HKY.out])
    | (refine wl_store w.heap.size (tagBlock t c n) (by simp) _ _ rfl rfl rfl rfl (blk_lives HR4.out HB5.out) rfl ?_))
  exact bodyPost_ret (v := kv (tagBlock t c n)) (res_key rfl _ _ w.heap.size _ (by simp) rfl (blk_row (blk_lives HR4.out HB5.out))) rfl ⟨rfl, below_row (aft HB4.out HB5.out) (Nat.le_refl _) _⟩

set_option maxHeartbeats 1000000 in
theorem refDerive_any (k : List UInt8) (hk : k.length = 16) (t : UInt8) (n : BitVec 64) (w : World) :
    Calls Try.prog 24 #[kv k, bv t, wv n] w fun e w' => e = .returned (kv (derive k t n)) ∧ Below w.heap.size w w' := by
  go_enter Try.func24, Try.ntmps24
  go_wp2
  have hk1 : ((w.alloc (.cells (kl k).toArray 23)).alloc (.cells (kl zeros).toArray 23)).heap[w.heap.size]? = some (.cells (kl k).toArray 23 (0, 0)) := blk_keep (blk_last _ _) _
  have hr1 : ((w.alloc (.cells (kl k).toArray 23)).alloc (.cells (kl zeros).toArray 23)).heap[w.heap.size + 1]? = some (.cells (kl zeros).toArray 23 (0, 0)) := blk_last1 _ _ _
  have hb1 : Below w.heap.size w ((w.alloc (.cells (kl k).toArray 23)).alloc (.cells (kl zeros).toArray 23)) := ((Below.refl _ _).alloc (Nat.le_refl _) _).alloc (by simp) _
  generalize (w.alloc (.cells (kl k).toArray 23)).alloc (.cells (kl zeros).toArray 23) = W at *
  have HK := Lib.hid hk1; have HR := Lib.hid hr1; have HB := Lib.hid hb1
  clear hk1 hr1 hb1
  refine wp_quiet_tail 5 (LaterC W) (by kernel_rfl) (by kernel_rfl) (later_drew _) ?_
  simp only [List.take_succ_cons, List.take_zero, List.drop_succ_cons, List.drop_zero]
  refine BigFrame.wpQuiet_want rfl (fun K hK => quiet_load w.heap.size k hk _ rfl rfl HK.out (hK _ ?_))
  simp only [Act.put, List.setIfInBounds_toArray, List.set_cons_succ, List.set_cons_zero]
  repeat (go_big_quiet_step ((first | (go_at_call 44; exact later_call _ (refTag_any t 0#64 n (by decide) _)) | (go_at_call 28; exact later_call _ (refEncrypt_any k (tagBlock t 0#64 n) hk (by simp) _)))))
  refine wpQuiet_nil ?_
  rintro _ ⟨e, rfl⟩
  go_wp2_with (refine wl_store (w.heap.size + 1) (derive k t n) (by simp) _ _ rfl rfl rfl rfl (e.blk HR.out) rfl ?_)
  exact bodyPost_ret (v := kv (derive k t n)) (res_key rfl _ _ (w.heap.size + 1) _ (by simp) rfl (blk_row (e.blk HR.out))) rfl ⟨rfl, below_row (HB.out.trans (e.below.mono HB.out.size)) (by omega) _⟩

set_option maxHeartbeats 1000000 in
theorem refNumber_any (k : List UInt8) (hk : k.length = 16) (n most : BitVec 64) (w : World) :
    Calls Try.prog 26 #[kv k, wv n, wv most] w fun e w' => e = .returned (wv (numberOf k n most)) ∧ Below w.heap.size w w' := by
  by_cases hm : most = 0#64
  · have hf : numberOf k n most = 0#64 := by simp [numberOf, hm]
    have hd : decide (most = 0#64) = true := by simp [hm]
    have HF := Lib.hid hf
    clear hf hm
    go_enter Try.func26, Try.ntmps26
    go_wp2
    go_ret
    refine ⟨?_, (Below.refl _ _).alloc (Nat.le_refl _) _⟩
    rw [HF.out]; rfl
  · have hf : numberOf k n most = be ((derive k 3 n).take 8) % most := by simp [numberOf, hm, wordsOf]
    have hd : decide (most = 0#64) = false := by simp [hm]
    have HF := Lib.hid hf
    have hrem : ∀ x, binOp .rem 31 (wv x) (wv most) = pure (wv (x % most)) := fun x => op_rem 31 x most hm
    have h1 : (w.alloc (.cells (kl k).toArray 23)).heap[w.heap.size]? = some (.cells (kl k).toArray 23 (0, 0)) := blk_last _ _
    have H1 := Lib.hid h1
    clear hf h1
    go_enter Try.func26, Try.ntmps26
    go_wp2_with (first
      | (refine wl_load w.heap.size k hk _ rfl rfl rfl H1.out ?_)
      | (go_at_call 24; refine (refDerive_any k hk 3 n _).mono ?_; rintro e w1 ⟨rfl, hb1⟩; have HB1 := Lib.hid (aft (below_alloc w _) hb1); clear hb1)
      | (refine wl_store w1.heap.size (derive k 3 n) (by simp) _ _ rfl rfl rfl rfl (blk_last _ _) rfl ?_
         have hs2 := sl_key (derive_length k 3 n) (blk_row (cs := (kl (derive k 3 n)).toArray) (blk_last w1 (.cells (kl zeros).toArray 23))) 0 8 (by omega)
         have hb2 := below_row (aft_alloc HB1.out (.cells (kl zeros).toArray 23)) HB1.out.size (kl (derive k 3 n)).toArray
         have HS2 := Lib.hid hs2; have HB2 := Lib.hid hb2; clear hs2 hb2)
      | (go_at_call 46; refine (value_any _ _ _ _ _ HS2.out).mono ?_; rintro e w2 ⟨rfl, rfl⟩))
    go_ret
    refine ⟨?_, HB2.out⟩
    rw [HF.out]; rfl
end Go.Proofs.Ytccojcjgknlhdaa
