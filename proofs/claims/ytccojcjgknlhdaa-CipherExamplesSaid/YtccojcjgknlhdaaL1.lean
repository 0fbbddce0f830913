/-
  The walks of the laws of blocks and of derived keys.
-/
import Derived.Test.YtccojcjgknlhdaaOpn
import Derived.Test.YtccojcjgknlhdaaW3
import Derived.Test.YtccojcjgknlhdaaW4
namespace Go.Proofs.Ytccojcjgknlhdaa
open Go.RowKit

theorem eq_true {k : List UInt8} (h : k.length = 16) : ∀ w : World, (Op.equalIn 10000 23 (kv k) (kv k)).run Try.prog w = .ok true w := fun w => by
  rw [run_equal_kv k k h h, decide_eq_true rfl]

set_option maxHeartbeats 1000000 in
theorem blocks_any (k b : List UInt8) (hk : k.length = 16) (hb : b.length = 16) (w : World) :
    Calls Try.prog 5 #[kv k, kv b] w fun e w' => e = .returned (.bool true) ∧ Below w.heap.size w w' := by
  go_enter Try.func5, Try.ntmps5
  go_wp2
  have hk1 : ((w.alloc (.cells (kl k).toArray 23)).alloc (.cells (kl b).toArray 23)).heap[w.heap.size]? = some (.cells (kl k).toArray 23 (0, 0)) := blk_keep (blk_last _ _) _
  have hr1 : ((w.alloc (.cells (kl k).toArray 23)).alloc (.cells (kl b).toArray 23)).heap[w.heap.size + 1]? = some (.cells (kl b).toArray 23 (0, 0)) := blk_last1 _ _ _
  have hb1 : Below w.heap.size w ((w.alloc (.cells (kl k).toArray 23)).alloc (.cells (kl b).toArray 23)) := aft_alloc (below_alloc _ _) _
  generalize (w.alloc (.cells (kl k).toArray 23)).alloc (.cells (kl b).toArray 23) = W at *
  have HK := Lib.hid hk1; have HR := Lib.hid hr1; have HB := Lib.hid hb1
  clear hk1 hr1 hb1
  have e1 := eq_true (enc_length k b)
  have e2 := eq_true (dec_length k b)
  refine wp_quiet_all (LaterC W) (by kernel_rfl) (by kernel_rfl) (later_drew _) ?_
  repeat (first
    | (refine BigFrame.wpQuiet_want rfl (fun K hK => quiet_load w.heap.size k hk _ rfl rfl HK.out (hK _ ?_)); simp only [Act.put, List.setIfInBounds_toArray, List.set_cons_succ, List.set_cons_zero])
    | (refine BigFrame.wpQuiet_want rfl (fun K hK => quiet_load (w.heap.size + 1) b hb _ rfl rfl HR.out (hK _ ?_)); simp only [Act.put, List.setIfInBounds_toArray, List.set_cons_succ, List.set_cons_zero])
    | (go_big_quiet_step ((first | (go_at_call 27; exact later_call _ (encrypt_any k b hk hb _)) | (go_at_call 28; exact later_call _ (refEncrypt_any k b hk hb _)) | (go_at_call 29; exact later_call _ (decrypt_any k b hk hb _)) | (go_at_call 30; exact later_call _ (refDecrypt_any k b hk hb _))))))
  refine wpQuiet_nil ?_
  rintro _ ⟨e, rfl⟩
  go_wp2
  go_ret
  exact ⟨rfl, aft HB.out e.below⟩

set_option maxHeartbeats 1000000 in
theorem derives_any (k : List UInt8) (hk : k.length = 16) (t : UInt8) (n most : BitVec 64) (w : World) :
    Calls Try.prog 4 #[kv k, bv t, wv n, wv most] w fun e w' => e = .returned (.bool true) ∧ Below w.heap.size w w' := by
  go_enter Try.func4, Try.ntmps4
  go_wp2
  have hk1 : (w.alloc (.cells (kl k).toArray 23)).heap[w.heap.size]? = some (.cells (kl k).toArray 23 (0, 0)) := blk_last _ _
  have hb1 : Below w.heap.size w (w.alloc (.cells (kl k).toArray 23)) := below_alloc _ _
  generalize w.alloc (.cells (kl k).toArray 23) = W at *
  have HK := Lib.hid hk1; have HB := Lib.hid hb1
  clear hk1 hb1
  have e1 := eq_true (derive_length k t n)
  refine wp_quiet_all (LaterC W) (by kernel_rfl) (by kernel_rfl) (later_drew _) ?_
  repeat (first
    | (refine BigFrame.wpQuiet_want rfl (fun K hK => quiet_load w.heap.size k hk _ rfl rfl HK.out (hK _ ?_)); simp only [Act.put, List.setIfInBounds_toArray, List.set_cons_succ, List.set_cons_zero])
    | (go_big_quiet_step ((first | (go_at_call 23; exact later_call _ (derive_any k hk t n _)) | (go_at_call 24; exact later_call _ (refDerive_any k hk t n _)) | (go_at_call 25; exact later_call _ (number_any k hk n most _)) | (go_at_call 26; exact later_call _ (refNumber_any k hk n most _))))))
  refine wpQuiet_nil ?_
  rintro _ ⟨e, rfl⟩
  go_wp2
  go_ret
  exact ⟨rfl, aft HB.out e.below⟩
end Go.Proofs.Ytccojcjgknlhdaa
