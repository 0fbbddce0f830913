/-
  What the two folds call.
-/
import Derived.Test.YtccojcjgknlhdaaS1
import Derived.Test.YtccojcjgknlhdaaW4
namespace Go.Proofs.Ytccojcjgknlhdaa
open Go.RowKit
attribute [local go_sem] fold_zeros

set_option maxHeartbeats 1000000 in
theorem hashNext_any (s p : List UInt8) (hs : s.length = 16) (hp : p.length = 16) (w : World) :
    Calls Try.prog 60 #[kv s, kv p] w fun e w' => e = .returned (kv (hashNext s p)) ∧ Below w.heap.size w w' := by
  go_enter Try.func60, Try.ntmps60
  go_wp2
  have hs1 : (((w.alloc (.cells (kl s).toArray 23)).alloc (.cells (kl p).toArray 23)).alloc (.cells (kl zeros).toArray 23)).heap[w.heap.size]? = some (.cells (kl s).toArray 23 (0, 0)) := blk_keep (blk_keep (blk_last _ _) _) _
  have hp1 : (((w.alloc (.cells (kl s).toArray 23)).alloc (.cells (kl p).toArray 23)).alloc (.cells (kl zeros).toArray 23)).heap[w.heap.size + 1]? = some (.cells (kl p).toArray 23 (0, 0)) := blk_keep (blk_last1 _ _ _) _
  have hr1 : (((w.alloc (.cells (kl s).toArray 23)).alloc (.cells (kl p).toArray 23)).alloc (.cells (kl zeros).toArray 23)).heap[w.heap.size + 1 + 1]? = some (.cells (kl zeros).toArray 23 (0, 0)) := blk_last2 _ _ _ _
  have hb1 : Below w.heap.size w (((w.alloc (.cells (kl s).toArray 23)).alloc (.cells (kl p).toArray 23)).alloc (.cells (kl zeros).toArray 23)) := aft_alloc (aft_alloc (below_alloc _ _) _) _
  generalize ((w.alloc (.cells (kl s).toArray 23)).alloc (.cells (kl p).toArray 23)).alloc (.cells (kl zeros).toArray 23) = W at *
  have HS := Lib.hid hs1; have HP := Lib.hid hp1; have HR := Lib.hid hr1; have HB := Lib.hid hb1
  clear hs1 hp1 hr1 hb1
  have hl : (hashNext s p).length = 16 := xorl_length (by simp) hs
  refine wp_quiet_tail 5 (LaterC W) (by kernel_rfl) (by kernel_rfl) (later_drew _) ?_
  simp only [List.take_succ_cons, List.take_zero, List.drop_succ_cons, List.drop_zero]
  repeat (first
    | (refine BigFrame.wpQuiet_want rfl (fun K hK => quiet_load w.heap.size s hs _ rfl rfl HS.out (hK _ ?_)); simp only [Act.put, List.setIfInBounds_toArray, List.set_cons_succ, List.set_cons_zero])
    | (refine BigFrame.wpQuiet_want rfl (fun K hK => quiet_load (w.heap.size + 1) p hp _ rfl rfl HP.out (hK _ ?_)); simp only [Act.put, List.setIfInBounds_toArray, List.set_cons_succ, List.set_cons_zero])
    | (go_big_quiet_step ((first | (go_at_call 27; exact later_call _ (encrypt_any p s hp hs _)) | (go_at_call 61; exact later_call _ (xor_any (enc p s) s (by simp) hs _))))))
  refine wpQuiet_nil ?_
  rintro _ ⟨e, rfl⟩
  go_wp2_with (refine wl_store (w.heap.size + 1 + 1) (hashNext s p) hl _ _ rfl rfl rfl rfl (e.blk HR.out) rfl ?_)
  exact bodyPost_ret (v := kv (hashNext s p)) (res_key rfl _ _ (w.heap.size + 1 + 1) _ hl rfl (blk_row (e.blk HR.out))) rfl ⟨rfl, below_row (HB.out.trans (e.below.mono HB.out.size)) (by omega) _⟩

set_option maxHeartbeats 1000000 in
theorem macNext_any (k s p : List UInt8) (hk : k.length = 16) (hs : s.length = 16) (hp : p.length = 16) (g : Nat) (w : World) (hg : w.heap[g]? = some (.cells (kl k).toArray 23 (0, 0))) :
    Calls Try.prog 62 #[kv s, kv p, .pointer (some ⟨g, 0, none⟩)] w fun e w' => e = .returned (kv (macNext k s p)) ∧ Below w.heap.size w w' := by
  have HG := Lib.hid hg
  clear hg
  go_enter Try.func62, Try.ntmps62
  go_wp2
  have hg1 : (((w.alloc (.cells (kl s).toArray 23)).alloc (.cells (kl p).toArray 23)).alloc (.cells (kl zeros).toArray 23)).heap[g]? = some (.cells (kl k).toArray 23 (0, 0)) := blk_keep (blk_keep (blk_keep HG.out _) _) _
  have hs1 : (((w.alloc (.cells (kl s).toArray 23)).alloc (.cells (kl p).toArray 23)).alloc (.cells (kl zeros).toArray 23)).heap[w.heap.size]? = some (.cells (kl s).toArray 23 (0, 0)) := blk_keep (blk_keep (blk_last _ _) _) _
  have hp1 : (((w.alloc (.cells (kl s).toArray 23)).alloc (.cells (kl p).toArray 23)).alloc (.cells (kl zeros).toArray 23)).heap[w.heap.size + 1]? = some (.cells (kl p).toArray 23 (0, 0)) := blk_keep (blk_last1 _ _ _) _
  have hr1 : (((w.alloc (.cells (kl s).toArray 23)).alloc (.cells (kl p).toArray 23)).alloc (.cells (kl zeros).toArray 23)).heap[w.heap.size + 1 + 1]? = some (.cells (kl zeros).toArray 23 (0, 0)) := blk_last2 _ _ _ _
  have hb1 : Below w.heap.size w (((w.alloc (.cells (kl s).toArray 23)).alloc (.cells (kl p).toArray 23)).alloc (.cells (kl zeros).toArray 23)) := aft_alloc (aft_alloc (below_alloc _ _) _) _
  generalize ((w.alloc (.cells (kl s).toArray 23)).alloc (.cells (kl p).toArray 23)).alloc (.cells (kl zeros).toArray 23) = W at *
  have HG1 := Lib.hid hg1; have HS := Lib.hid hs1; have HP := Lib.hid hp1; have HR := Lib.hid hr1; have HB := Lib.hid hb1
  clear hg1 hs1 hp1 hr1 hb1
  have hx : (xorl s p).length = 16 := xorl_length hs hp
  refine wp_quiet_tail 5 (LaterC W) (by kernel_rfl) (by kernel_rfl) (later_drew _) ?_
  simp only [List.take_succ_cons, List.take_zero, List.drop_succ_cons, List.drop_zero]
  repeat (first
    | (refine BigFrame.wpQuiet_want rfl (fun K hK => quiet_load g k hk _ rfl rfl HG1.out (hK _ ?_)); simp only [Act.put, List.setIfInBounds_toArray, List.set_cons_succ, List.set_cons_zero])
    | (refine BigFrame.wpQuiet_want rfl (fun K hK => quiet_load w.heap.size s hs _ rfl rfl HS.out (hK _ ?_)); simp only [Act.put, List.setIfInBounds_toArray, List.set_cons_succ, List.set_cons_zero])
    | (refine BigFrame.wpQuiet_want rfl (fun K hK => quiet_load (w.heap.size + 1) p hp _ rfl rfl HP.out (hK _ ?_)); simp only [Act.put, List.setIfInBounds_toArray, List.set_cons_succ, List.set_cons_zero])
    | (go_big_quiet_step ((first | (go_at_call 61; exact later_call _ (xor_any s p hs hp _)) | (go_at_call 27; exact later_call _ (encrypt_any k (xorl s p) hk hx _))))))
  refine wpQuiet_nil ?_
  rintro _ ⟨e, rfl⟩
  go_wp2_with (refine wl_store (w.heap.size + 1 + 1) (macNext k s p) (enc_length _ _) _ _ rfl rfl rfl rfl (e.blk HR.out) rfl ?_)
  exact bodyPost_ret (v := kv (macNext k s p)) (res_key rfl _ _ (w.heap.size + 1 + 1) _ (enc_length _ _) rfl (blk_row (e.blk HR.out))) rfl ⟨rfl, below_row (HB.out.trans (e.below.mono HB.out.size)) (by omega) _⟩
end Go.Proofs.Ytccojcjgknlhdaa
