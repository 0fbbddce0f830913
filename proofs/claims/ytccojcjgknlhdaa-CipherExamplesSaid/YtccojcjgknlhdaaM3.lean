/-
  Mac, and that of the reference.
-/
import Derived.Test.YtccojcjgknlhdaaM2
import Derived.Test.YtccojcjgknlhdaaS4
namespace Go.Proofs.Ytccojcjgknlhdaa
open Go.RowKit
attribute [local go_sem] fold_zeros

@[simp] theorem macOf_length (k l : List UInt8) : (macOf k l).length = 16 := foldTo_length _ (macNext_length k) _ (derive_length _ _ _) l _

set_option maxHeartbeats 2000000 in
theorem mac_any (k : List UInt8) (hk : k.length = 16) (l : List UInt8) (A : Option Addr) (m c : Nat) (w : World) (hs : Sl w A m c (kl l)) (hm : m ≤ 16384) :
    Calls Try.prog 37 #[kv k, .slice A m c] w fun e w' => e = .returned (.tuple #[kv (macOf k l), .int .i64 0]) ∧ Below w.heap.size w w' := by
  obtain rfl : m = l.length := by have := hs.1; rw [kl_length] at this; exact this.symm
  have HS := Lib.hid hs
  have h1 : (l.length : Int) ≤ 16384 := by omega
  have hconv : ∀ wx : World, (convert 3 31 (.int .i64 (l.length : Int))).run Try.prog wx = .ok (wv (BitVec.ofNat 64 l.length)) wx := fun wx => by
    rw [run_conv_word wx _ rfl rfl, BitVec.ofInt_natCast]
  have hk1 : ((w.alloc (.cells (kl k).toArray 23)).alloc (.cells (kl zeros).toArray 23)).heap[w.heap.size]? = some (.cells (kl k).toArray 23 (0, 0)) := blk_keep (blk_last _ _) _
  have hr1 : ((w.alloc (.cells (kl k).toArray 23)).alloc (.cells (kl zeros).toArray 23)).heap[w.heap.size + 1]? = some (.cells (kl zeros).toArray 23 (0, 0)) := blk_last1 _ _ _
  have hb1 : Below w.heap.size w ((w.alloc (.cells (kl k).toArray 23)).alloc (.cells (kl zeros).toArray 23)) := aft_alloc (below_alloc _ _) _
  have HK := Lib.hid hk1; have HR := Lib.hid hr1; have HB := Lib.hid hb1
  clear hs hk1 hr1 hb1
  have hdl := derive_length k 2 (BitVec.ofNat 64 l.length)
  go_enter Try.func37, Try.ntmps37
  go_wp2_with (first
    | (refine wl_load w.heap.size k hk _ rfl rfl rfl HK.out ?_)
    | (go_at_call 23; refine (derive_any k hk 2 (BitVec.ofNat 64 l.length) _).mono ?_; rintro e w1 ⟨rfl, hb1⟩; have HB1 := Lib.hid hb1; clear hb1)
    | (refine wl_store w1.heap.size (derive k 2 (BitVec.ofNat 64 l.length)) hdl _ _ rfl rfl rfl rfl (blk_last _ _) rfl ?_
       have hk2 := new_old (blk_lives HK.out HB1.out) (derive k 2 (BitVec.ofNat 64 l.length)) (kl zeros).toArray
       have hr2 := new_old (blk_lives HR.out HB1.out) (derive k 2 (BitVec.ofNat 64 l.length)) (kl zeros).toArray
       have hx2 := new_new w1 (derive k 2 (BitVec.ofNat 64 l.length)) (kl zeros).toArray
       have hb2 := aft (aft HB.out HB1.out) (new_below w1 (derive k 2 (BitVec.ofNat 64 l.length)) (kl zeros).toArray)
       have HK2 := Lib.hid hk2; have HR2 := Lib.hid hr2; have HX2 := Lib.hid hx2; have HB2 := Lib.hid hb2; clear hk2 hr2 hx2 hb2)
    | (refine wl_load w1.heap.size (derive k 2 (BitVec.ofNat 64 l.length)) hdl _ rfl rfl rfl HX2.out ?_)
    | (go_at_call 59; refine (foldMac_any k hk w.heap.size (derive k 2 (BitVec.ofNat 64 l.length)) hdl l A _ c _ (HS.out.lives HB2.out) (by omega) HK2.out).mono ?_; rintro e w3 ⟨rfl, hb3⟩; have HB3 := Lib.hid hb3; clear hb3)
    | (refine wl_store (w.heap.size + 1) (macOf k l) (macOf_length k l) _ _ rfl rfl rfl rfl (blk_lives HR2.out HB3.out) rfl ?_))
  exact bodyPost_ret (v := .tuple #[kv (macOf k l), .int .i64 0]) (res_key2 rfl _ _ (w.heap.size + 1) _ (by simp) _ rfl rfl (blk_row (blk_lives HR2.out HB3.out))) rfl ⟨rfl, below_row (aft HB2.out HB3.out) (by omega) _⟩

set_option maxHeartbeats 1000000 in
theorem macBig_any (k : List UInt8) (m : Nat) (A : Option Addr) (c : Nat) (w : World) (hm : 16384 < m) :
    Calls Try.prog 37 #[kv k, .slice A m c] w fun e w' => e = .returned (.tuple #[kv zeros, .int .i64 4]) ∧ Below w.heap.size w w' := by
  have h1 : (16384 : Int) < m := by omega
  have hr1 : ((w.alloc (.cells (kl k).toArray 23)).alloc (.cells (kl zeros).toArray 23)).heap[w.heap.size + 1]? = some (.cells (kl zeros).toArray 23 (0, 0)) := blk_last1 _ _ _
  have HR := Lib.hid hr1
  clear hr1
  go_enter Try.func37, Try.ntmps37
  go_wp2_with (refine wl_store (w.heap.size + 1) zeros (by simp) _ _ rfl rfl rfl rfl HR.out rfl ?_)
  exact bodyPost_ret (v := .tuple #[kv zeros, .int .i64 4]) (res_key2 rfl _ _ (w.heap.size + 1) _ (by simp) _ rfl rfl (blk_row HR.out)) rfl ⟨rfl, below_row (aft_alloc (below_alloc _ _) _) (by omega) _⟩

set_option maxHeartbeats 2000000 in
theorem tag_any (k : List UInt8) (hk : k.length = 16) (l : List UInt8) (A : Option Addr) (m c : Nat) (w : World) (hs : Sl w A m c (kl l)) (hm : m ≤ 16384) :
    Calls Try.prog 63 #[kv k, .slice A m c] w fun e w' => e = .returned (kv (macOf k l)) ∧ Below w.heap.size w w' := by
  obtain rfl : m = l.length := by have := hs.1; rw [kl_length] at this; exact this.symm
  have HS := Lib.hid hs
  have h1 : (l.length : Int) ≤ 16384 := by omega
  have hconv : ∀ wx : World, (convert 3 31 (.int .i64 (l.length : Int))).run Try.prog wx = .ok (wv (BitVec.ofNat 64 l.length)) wx := fun wx => by
    rw [run_conv_word wx _ rfl rfl, BitVec.ofInt_natCast]
  have hk1 : ((w.alloc (.cells (kl k).toArray 23)).alloc (.cells (kl zeros).toArray 23)).heap[w.heap.size]? = some (.cells (kl k).toArray 23 (0, 0)) := blk_keep (blk_last _ _) _
  have hr1 : ((w.alloc (.cells (kl k).toArray 23)).alloc (.cells (kl zeros).toArray 23)).heap[w.heap.size + 1]? = some (.cells (kl zeros).toArray 23 (0, 0)) := blk_last1 _ _ _
  have hb1 : Below w.heap.size w ((w.alloc (.cells (kl k).toArray 23)).alloc (.cells (kl zeros).toArray 23)) := aft_alloc (below_alloc _ _) _
  have HK := Lib.hid hk1; have HR := Lib.hid hr1; have HB := Lib.hid hb1
  clear hs hk1 hr1 hb1
  have hdl := derive_length k 2 (BitVec.ofNat 64 l.length)
  have hlen : ∀ i, (foldTo (macNext k) (derive k 2 (BitVec.ofNat 64 l.length)) l i).length = 16 := foldTo_length _ (macNext_length k) _ hdl l
  have HLEN := Lib.hid hlen
  clear hlen
  go_enter Try.func63, Try.ntmps63
  go_wp2_with (first
    | (refine wl_load w.heap.size k hk _ rfl rfl rfl HK.out ?_)
    | (go_at_call 24; refine (refDerive_any k hk 2 (BitVec.ofNat 64 l.length) _).mono ?_; rintro e w1 ⟨rfl, hb1⟩; have HB1 := Lib.hid hb1; clear hb1)
    | (refine wl_store w1.heap.size (derive k 2 (BitVec.ofNat 64 l.length)) hdl _ _ rfl rfl rfl rfl (blk_last _ _) rfl ?_
       have hk2 := new_old (blk_lives HK.out HB1.out) (derive k 2 (BitVec.ofNat 64 l.length)) (kl zeros).toArray
       have hr2 := new_old (blk_lives HR.out HB1.out) (derive k 2 (BitVec.ofNat 64 l.length)) (kl zeros).toArray
       have hx2 := new_new w1 (derive k 2 (BitVec.ofNat 64 l.length)) (kl zeros).toArray
       have hb2 := aft (aft HB.out HB1.out) (new_below w1 (derive k 2 (BitVec.ofNat 64 l.length)) (kl zeros).toArray)
       have hz2 : w.heap.size + 1 < w1.heap.size := lt_blk (blk_lives HR.out HB1.out)
       have HK2 := Lib.hid hk2; have HR2 := Lib.hid hr2; have HX2 := Lib.hid hx2; have HB2 := Lib.hid hb2; have HZ2 := Lib.hid hz2; clear hk2 hr2 hx2 hb2 hz2))
  go_loopw [6] (fun i wr => ∃ q : Nat, q ≤ (l.length + 15) / 16 ∧ i = .int .i64 q ∧ wr.heap[w.heap.size]? = some (.cells (kl k).toArray 23 (0, 0)) ∧ wr.heap[w.heap.size + 1]? = some (.cells (kl zeros).toArray 23 (0, 0)) ∧
    wr.heap[w1.heap.size]? = some (.cells (kl (foldTo (macNext k) (derive k 2 (BitVec.ofNat 64 l.length)) l q)).toArray 23 (0, 0)) ∧ Below w.heap.size w wr) (fun i _ => (l.length + 15) / 16 - (intOf i).toNat)
  case atStart => exact ⟨0, by omega, rfl, HK2.out, HR2.out, HX2.out, HB2.out⟩
  case round =>
    obtain ⟨q, hq, rfl, hx, hr, hy, hw⟩ := hrel
    have HX := Lib.hid hx; have HR' := Lib.hid hr; have HY := Lib.hid hy; have HW := Lib.hid hw
    clear hx hr hy hw
    have hq0 : (0 : Int) ≤ q := by omega
    by_cases hlt : q < (l.length + 15) / 16
    · have hq1 : (q : Int) < ((l.length : Int) + 15) / 16 := by omega
      have h16 : 16 * q < l.length := by omega
      have hf := HLEN.out q
      have hf2 := HLEN.out (q + 1)
      have hxx := xorl_length hf (portionAt_length l q)
      go_wp2_with (go_at_call 56; refine (refPortions_any l.length (by omega) A c _).mono ?_; rintro e wr ⟨rfl, rfl⟩)
      refine wp_quiet_tail 7 (LaterC wr) (by kernel_rfl) (by kernel_rfl) (later_drew _) ?_
      simp only [List.take_succ_cons, List.take_zero, List.drop_succ_cons, List.drop_zero]
      repeat (first
        | (refine BigFrame.wpQuiet_want rfl (fun K hK => quiet_load w.heap.size k hk _ rfl rfl HX.out (hK _ ?_)); simp only [Act.put, List.setIfInBounds_toArray, List.set_cons_succ, List.set_cons_zero])
        | (refine BigFrame.wpQuiet_want rfl (fun K hK => quiet_load w1.heap.size (foldTo (macNext k) (derive k 2 (BitVec.ofNat 64 l.length)) l q) hf _ rfl rfl HY.out (hK _ ?_)); simp only [Act.put, List.setIfInBounds_toArray, List.set_cons_succ, List.set_cons_zero])
        | (go_big_quiet_step ((first
            | (go_at_call 58; exact later_call _ (refPortion_any l A l.length c q _ (HS.out.lives (aft HW.out (Later.below _))) h16))
            | (go_at_call 57; exact later_call _ (refXor_any _ (portionAt l q) hf (by simp) _))
            | (go_at_call 28; exact later_call _ (refEncrypt_any k _ hk hxx _))))))
      refine wpQuiet_nil ?_
      rintro _ ⟨e, rfl⟩
      go_wp2_with (refine wl_store w1.heap.size (foldTo (macNext k) (derive k 2 (BitVec.ofNat 64 l.length)) l (q + 1)) hf2 _ _ rfl rfl rfl rfl (e.blk HY.out) (kl_size hf) ?_)
      exact ⟨⟨q + 1, by omega, by go_num, by rw [blk_rowfar (by have := HZ2.out; omega)]; exact e.blk HX.out, by rw [blk_rowfar (by have := HZ2.out; omega)]; exact e.blk HR'.out, blk_row (e.blk HY.out), below_row (aft HW.out e.below) (by have := HZ2.out; omega) _⟩, by simp [intOf]; omega⟩
    · obtain rfl : q = (l.length + 15) / 16 := by omega
      have hq1 : ¬ ((((l.length : Int) + 15) / 16) < ((l.length : Int) + 15) / 16) := by omega
      clear hq hlt
      go_wp2_with (first
        | (go_at_call 56; refine (refPortions_any l.length (by omega) A c _).mono ?_; rintro e wr ⟨rfl, rfl⟩)
        | (refine wl_load w1.heap.size (macOf k l) (macOf_length k l) _ rfl rfl rfl HY.out ?_)
        | (refine wl_store (w.heap.size + 1) (macOf k l) (macOf_length k l) _ _ rfl rfl rfl rfl HR'.out rfl ?_))
      exact bodyPost_ret (v := kv (macOf k l)) (res_key rfl _ _ (w.heap.size + 1) _ (by simp) rfl (blk_row HR'.out)) rfl ⟨rfl, below_row HW.out (by omega) _⟩

set_option maxHeartbeats 1000000 in
theorem refMac_any (k : List UInt8) (hk : k.length = 16) (l : List UInt8) (A : Option Addr) (m c : Nat) (w : World) (hs : Sl w A m c (kl l)) (hm : m ≤ 16384) :
    Calls Try.prog 38 #[kv k, .slice A m c] w fun e w' => e = .returned (.tuple #[kv (macOf k l), .int .i64 0]) ∧ Below w.heap.size w w' := by
  have HS := Lib.hid hs
  have h1 : (m : Int) ≤ 16384 := by omega
  have hk1 : ((w.alloc (.cells (kl k).toArray 23)).alloc (.cells (kl zeros).toArray 23)).heap[w.heap.size]? = some (.cells (kl k).toArray 23 (0, 0)) := blk_keep (blk_last _ _) _
  have hr1 : ((w.alloc (.cells (kl k).toArray 23)).alloc (.cells (kl zeros).toArray 23)).heap[w.heap.size + 1]? = some (.cells (kl zeros).toArray 23 (0, 0)) := blk_last1 _ _ _
  have hb1 : Below w.heap.size w ((w.alloc (.cells (kl k).toArray 23)).alloc (.cells (kl zeros).toArray 23)) := aft_alloc (below_alloc _ _) _
  have HK := Lib.hid hk1; have HR := Lib.hid hr1; have HB := Lib.hid hb1
  clear hs hk1 hr1 hb1
  go_enter Try.func38, Try.ntmps38
  go_wp2_with (first
    | (refine wl_load w.heap.size k hk _ rfl rfl rfl HK.out ?_)
    | (go_at_call 63; refine (tag_any k hk l A m c _ (HS.out.lives HB.out) hm).mono ?_; rintro e w1 ⟨rfl, hb1⟩; have HB1 := Lib.hid hb1; clear hb1)
    | (refine wl_store (w.heap.size + 1) (macOf k l) (macOf_length k l) _ _ rfl rfl rfl rfl (blk_lives HR.out HB1.out) rfl ?_))
  exact bodyPost_ret (v := .tuple #[kv (macOf k l), .int .i64 0]) (res_key2 rfl _ _ (w.heap.size + 1) _ (by simp) _ rfl rfl (blk_row (blk_lives HR.out HB1.out))) rfl ⟨rfl, below_row (aft HB.out HB1.out) (by omega) _⟩
set_option maxHeartbeats 1000000 in
theorem refMacBig_any (k : List UInt8) (m : Nat) (A : Option Addr) (c : Nat) (w : World) (hm : 16384 < m) :
    Calls Try.prog 38 #[kv k, .slice A m c] w fun e w' => e = .returned (.tuple #[kv zeros, .int .i64 4]) ∧ Below w.heap.size w w' := by
  have h1 : (16384 : Int) < m := by omega
  have hr1 : ((w.alloc (.cells (kl k).toArray 23)).alloc (.cells (kl zeros).toArray 23)).heap[w.heap.size + 1]? = some (.cells (kl zeros).toArray 23 (0, 0)) := blk_last1 _ _ _
  have HR := Lib.hid hr1
  clear hr1
  go_enter Try.func38, Try.ntmps38
  go_wp2_with (refine wl_store (w.heap.size + 1) zeros (by simp) _ _ rfl rfl rfl rfl HR.out rfl ?_)
  exact bodyPost_ret (v := .tuple #[kv zeros, .int .i64 4]) (res_key2 rfl _ _ (w.heap.size + 1) _ (by simp) _ rfl rfl (blk_row HR.out)) rfl ⟨rfl, below_row (aft_alloc (below_alloc _ _) _) (by omega) _⟩
end Go.Proofs.Ytccojcjgknlhdaa
