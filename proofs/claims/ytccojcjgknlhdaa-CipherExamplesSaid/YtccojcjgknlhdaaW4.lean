/-
  Walks 4: Derive, Number.
-/
import Derived.Test.YtccojcjgknlhdaaW2
import Derived.Test.YtccojcjgknlhdaaTail
namespace Go.Proofs.Ytccojcjgknlhdaa
open Go.RowKit
attribute [local go_sem] fold_zeros

set_option maxHeartbeats 1000000 in
theorem derive_any (k : List UInt8) (hk : k.length = 16) (t : UInt8) (n : BitVec 64) (w : World) :
    Calls Try.prog 23 #[kv k, bv t, wv n] w fun e w' => e = .returned (kv (derive k t n)) ∧ Below w.heap.size w w' := by
  go_enter Try.func23, Try.ntmps23
  go_wp2
  have hk1 : ((w.alloc (.cells (kl k).toArray 23)).alloc (.cells (kl zeros).toArray 23)).heap[w.heap.size]? = some (.cells (kl k).toArray 23 (0, 0)) := blk_keep (blk_last _ _) _
  have hr1 : ((w.alloc (.cells (kl k).toArray 23)).alloc (.cells (kl zeros).toArray 23)).heap[w.heap.size + 1]? = some (.cells (kl zeros).toArray 23 (0, 0)) := blk_last1 _ _ _
  have hb1 : Below w.heap.size w ((w.alloc (.cells (kl k).toArray 23)).alloc (.cells (kl zeros).toArray 23)) := ((Below.refl _ _).alloc (Nat.le_refl _) _).alloc (by simp) _
  generalize (w.alloc (.cells (kl k).toArray 23)).alloc (.cells (kl zeros).toArray 23) = W at *
  have HK := Lib.hid hk1; have HR := Lib.hid hr1; have HB := Lib.hid hb1
  clear hk1 hr1 hb1
  refine wp_quiet_tail 5 (LaterC W) (by kernel_rfl) (by kernel_rfl) (later_drew _) ?_
  simp only [List.take_succ_cons, List.take_zero, List.drop_succ_cons, List.drop_zero]
  refine BigFrame.wpQuiet_want rfl (fun K hK => quiet_load w.heap.size k hk _ rfl rfl HK.out (hK _ ?_))
  simp only [Act.put, List.setIfInBounds_toArray, List.set_cons_succ, List.set_cons_zero]
  repeat (go_big_quiet_step ((first | (go_at_call 43; exact later_call _ (blockOf_any t 0#64 n _)) | (go_at_call 27; exact later_call _ (encrypt_any k (tagBlock t 0#64 n) hk (by simp) _)))))
  refine wpQuiet_nil ?_
  rintro _ ⟨e, rfl⟩
  go_wp2_with (refine wl_store (w.heap.size + 1) (derive k t n) (by simp) _ _ rfl rfl rfl rfl (e.blk HR.out) rfl ?_)
  exact bodyPost_ret (v := kv (derive k t n)) (res_key rfl _ _ (w.heap.size + 1) _ (by simp) rfl (blk_row (e.blk HR.out))) rfl ⟨rfl, below_row (HB.out.trans (e.below.mono HB.out.size)) (by omega) _⟩

set_option maxHeartbeats 1000000 in
theorem number_any (k : List UInt8) (hk : k.length = 16) (n most : BitVec 64) (w : World) :
    Calls Try.prog 25 #[kv k, wv n, wv most] w fun e w' => e = .returned (wv (numberOf k n most)) ∧ Below w.heap.size w w' := by
  by_cases hm : most = 0#64
  · have hf : numberOf k n most = 0#64 := by simp [numberOf, hm]
    have hd : decide (most = 0#64) = true := by simp [hm]
    have HF := Lib.hid hf
    clear hf hm
    go_enter Try.func25, Try.ntmps25
    go_wp2
    go_ret
    refine ⟨?_, (Below.refl _ _).alloc (Nat.le_refl _) _⟩
    rw [HF.out]; rfl
  · have hf : numberOf k n most = (wordsOf (derive k 3 n)).1 % most := by simp [numberOf, hm]
    have hd : decide (most = 0#64) = false := by simp [hm]
    have HF := Lib.hid hf
    have hrem : ∀ x, binOp .rem 31 (wv x) (wv most) = pure (wv (x % most)) := fun x => op_rem 31 x most hm
    have h1 : (w.alloc (.cells (kl k).toArray 23)).heap[w.heap.size]? = some (.cells (kl k).toArray 23 (0, 0)) := blk_last _ _
    have H1 := Lib.hid h1
    clear hf h1
    go_enter Try.func25, Try.ntmps25
    go_wp2_with (first
      | (refine wl_load w.heap.size k hk _ rfl rfl rfl H1.out ?_)
      | (go_at_call 23; refine (derive_any k hk 3 n _).mono ?_; rintro e w1 ⟨rfl, hb1⟩; have HB1 := Lib.hid hb1; clear hb1)
      | (go_at_call 45; refine (words_any (derive k 3 n) (by simp) _).mono ?_; rintro e w2 ⟨rfl, hb2⟩; have HB2 := Lib.hid hb2; clear hb2))
    go_ret
    refine ⟨?_, ((((Below.refl _ _).alloc (Nat.le_refl _) _).trans (HB1.out.mono (by simp))).trans (HB2.out.mono (by have := HB1.out.size; simp at this; omega)))⟩
    rw [HF.out]; rfl
end Go.Proofs.Ytccojcjgknlhdaa
