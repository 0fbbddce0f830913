/-
  The walk of the law that encryption is one to one.
-/
import Derived.Test.YtccojcjgknlhdaaGr4
namespace Go.Proofs.Ytccojcjgknlhdaa
open Go.RowKit
attribute [local go_sem] fold_zeros

set_option maxHeartbeats 4000000 in
theorem inverse_walk (k a b X Y D : List UInt8) (d : Bool) (hk : k.length = 16) (ha : a.length = 16) (hb : b.length = 16) (hX : X.length = 16) (hY : Y.length = 16)
    (HA : Hid (∀ w, Calls Try.prog 27 #[kv k, kv a] w fun e w' => e = .returned (kv X) ∧ Below w.heap.size w w'))
    (HB : Hid (∀ w, Calls Try.prog 27 #[kv k, kv b] w fun e w' => e = .returned (kv Y) ∧ Below w.heap.size w w'))
    (HD : Hid (∀ w, Calls Try.prog 29 #[kv k, kv X] w fun e w' => e = .returned (kv a) ∧ Below w.heap.size w w'))
    (HF : Hid (∀ w, Calls Try.prog 29 #[kv k, kv a] w fun e w' => e = .returned (kv D) ∧ Below w.heap.size w w'))
    (HG : Hid (∀ w, Calls Try.prog 27 #[kv k, kv D] w fun e w' => e = .returned (kv a) ∧ Below w.heap.size w w'))
    (q1 : ∀ w, (Op.equalIn 10000 23 (kv X) (kv Y)).run Try.prog w = .ok d w) (q2 : ∀ w, (Op.equalIn 10000 23 (kv a) (kv b)).run Try.prog w = .ok d w) (w : World) :
    Calls Try.prog 11 #[kv k, kv a, kv b] w fun e w' => e = .returned (.bool true) ∧ Below w.heap.size w w' := by
  have q3 := eq_true ha
  have h0 : (((w.alloc (.cells (kl k).toArray 23)).alloc (.cells (kl a).toArray 23)).alloc (.cells (kl b).toArray 23)).heap[w.heap.size]? = some (.cells (kl k).toArray 23 (0, 0)) := blk_keep (blk_keep (blk_last _ _) _) _
  have h1 : (((w.alloc (.cells (kl k).toArray 23)).alloc (.cells (kl a).toArray 23)).alloc (.cells (kl b).toArray 23)).heap[w.heap.size + 1]? = some (.cells (kl a).toArray 23 (0, 0)) := blk_keep (blk_last1 _ _ _) _
  have h2 : (((w.alloc (.cells (kl k).toArray 23)).alloc (.cells (kl a).toArray 23)).alloc (.cells (kl b).toArray 23)).heap[w.heap.size + 1 + 1]? = some (.cells (kl b).toArray 23 (0, 0)) := blk_last2 _ _ _ _
  have h3 : Below w.heap.size w (((w.alloc (.cells (kl k).toArray 23)).alloc (.cells (kl a).toArray 23)).alloc (.cells (kl b).toArray 23)) := aft_alloc (aft_alloc (below_alloc _ _) _) _
  go_enter Try.func11, Try.ntmps11
  go_wp2
  generalize ((w.alloc (.cells (kl k).toArray 23)).alloc (.cells (kl a).toArray 23)).alloc (.cells (kl b).toArray 23) = W at *
  have H0 := Lib.hid h0; have H1 := Lib.hid h1; have H2 := Lib.hid h2; have H3 := Lib.hid h3
  clear h0 h1 h2 h3
  refine wp_region_grow (fun j => decide (j < 8)) (by kernel_rfl) ?_
  refine grow_take (i := 0) (some 9) (kv k) rfl rfl (by kernel_rfl) (by kernel_rfl) (by kernel_rfl) (by kernel_rfl) (fun _ _ _ h => h) (yields_load w.heap.size k hk _ rfl rfl rfl H0.out) ?_
  simp only [Act.put, List.setIfInBounds_toArray, List.set_cons_succ, List.set_cons_zero]
  refine grow_take (i := 1) (some 10) (kv a) rfl rfl (by kernel_rfl) (by kernel_rfl) (by kernel_rfl) (by kernel_rfl) (fun _ _ _ h => h) (yields_load (w.heap.size + 1) a ha _ rfl rfl rfl H1.out) ?_
  simp only [Act.put, List.setIfInBounds_toArray, List.set_cons_succ, List.set_cons_zero]
  refine grow_take (i := 2) (some 11) (kv X) rfl rfl (by kernel_rfl) (by kernel_rfl) (by kernel_rfl) (by kernel_rfl) (fun _ _ _ h => h) (yields_call rfl (fun w1 _ => HA.out w1) (fun w => by unfold execOp; simp [go_sem])) ?_
  simp only [Act.put, List.setIfInBounds_toArray, List.set_cons_succ, List.set_cons_zero]
  refine grow_take2 (i := 3) (some 12) (kv k) rfl rfl (by kernel_rfl) (by kernel_rfl) (by kernel_rfl) (by kernel_rfl) (by kernel_rfl) (fun _ _ _ h => h) (yields_load w.heap.size k hk _ rfl rfl rfl H0.out) ?_
  simp only [Act.put, List.setIfInBounds_toArray, List.set_cons_succ, List.set_cons_zero]
  refine grow_take2 (i := 4) (some 13) (kv b) rfl rfl (by kernel_rfl) (by kernel_rfl) (by kernel_rfl) (by kernel_rfl) (by kernel_rfl) (fun _ _ _ h => h) (yields_load (w.heap.size + 1 + 1) b hb _ rfl rfl rfl H2.out) ?_
  simp only [Act.put, List.setIfInBounds_toArray, List.set_cons_succ, List.set_cons_zero]
  refine grow_take2 (i := 5) (some 14) (kv Y) rfl rfl (by kernel_rfl) (by kernel_rfl) (by kernel_rfl) (by kernel_rfl) (by kernel_rfl) (fun _ _ _ h => h) (yields_call rfl (fun w1 _ => HB.out w1) (fun w => by unfold execOp; simp [go_sem])) ?_
  simp only [Act.put, List.setIfInBounds_toArray, List.set_cons_succ, List.set_cons_zero]
  refine grow_alloc2 (i := 6) (k := 7) 7 8 rfl rfl rfl rfl (by decide) (by decide) (by kernel_rfl) (by kernel_rfl) (by kernel_rfl) rfl rfl rfl rfl ?_
  intro g1 g2 w1 hg hw1 hl1 hl2 hc1 hc2
  simp only [Act.put, List.setIfInBounds_toArray, List.set_cons_succ, List.set_cons_zero]
  refine grow_key_store (i := 8) none g1 X hX _ _ rfl rfl (by kernel_rfl) rfl rfl rfl rfl rfl hc1 (kl_size zeros_length) ?_
  intro w2 hw2
  have hd1 := blk_row (cs := (kl X).toArray) (blk_lives hc1 hw2)
  have hd2 := (blk_rowfar (cs := (kl X).toArray) (Ne.symm hg)).trans (blk_lives hc2 hw2)
  have hb2 := below_row (later_trans hw1 hw2) hl1 (kl X).toArray
  refine grow_key_store (i := 9) none g2 Y hY _ _ rfl rfl (by kernel_rfl) rfl rfl rfl rfl rfl hd2 (kl_size zeros_length) ?_
  intro w3 hw3
  refine grow_done (by kernel_rfl) ?_ _
  intro w4 hw4
  have he1 := blk_lives ((blk_rowfar (cs := (kl Y).toArray) hg).trans (blk_lives hd1 hw3)) hw4
  have he2 := blk_lives (blk_row (cs := (kl Y).toArray) (blk_lives hd2 hw3)) hw4
  have hb4 := later_trans (below_self W).drew (later_trans (below_row (later_trans hb2 hw3) hl2 (kl Y).toArray) hw4)
  have r0 := blk_lives H0.out hb4
  have r1 := blk_lives H1.out hb4
  have r2 := blk_lives H2.out hb4
  have r3 := aft H3.out hb4
  have R0 := Lib.hid r0; have R1 := Lib.hid r1; have R2 := Lib.hid r2; have R3 := Lib.hid r3; have R4 := Lib.hid he1; have R5 := Lib.hid he2
  clear r0 r1 r2 r3 he1 he2 hb4 hw4 hw3 hb2 hd2 hd1 hw2 hc1 hc2 hl1 hl2 hw1 hg H0 H1 H2 H3
  simp only [Act.put]
  go_wp2
  refine wp_quiet_all (LaterC w4) (by kernel_rfl) (by kernel_rfl) (later_drew _) ?_
  go_big_quiet_step ((go_at_call 33; exact later_call _ (alive_any _)))
  repeat (first
    | (refine BigFrame.wpQuiet_want rfl (fun _ hK' => quiet_load w.heap.size k hk _ rfl rfl R0.out (hK' _ ?_)); simp only [Act.put, List.setIfInBounds_toArray, List.set_cons_succ, List.set_cons_zero])
    | (refine BigFrame.wpQuiet_want rfl (fun _ hK' => quiet_load g1 X hX _ rfl rfl R4.out (hK' _ ?_)); simp only [Act.put, List.setIfInBounds_toArray, List.set_cons_succ, List.set_cons_zero])
    | (go_big_quiet_step (fail)))
  go_big_quiet_step ((go_at_call 29; exact later_call _ (HD.out _)))
  repeat (first
    | (refine BigFrame.wpQuiet_want rfl (fun _ hK' => quiet_load w.heap.size k hk _ rfl rfl R0.out (hK' _ ?_)); simp only [Act.put, List.setIfInBounds_toArray, List.set_cons_succ, List.set_cons_zero])
    | (refine BigFrame.wpQuiet_want rfl (fun _ hK' => quiet_load (w.heap.size + 1) a ha _ rfl rfl R1.out (hK' _ ?_)); simp only [Act.put, List.setIfInBounds_toArray, List.set_cons_succ, List.set_cons_zero])
    | (go_big_quiet_step (fail)))
  go_big_quiet_step ((go_at_call 29; exact later_call _ (HF.out _)))
  go_big_quiet_step ((go_at_call 27; exact later_call _ (HG.out _)))
  repeat (first
    | (refine BigFrame.wpQuiet_want rfl (fun _ hK' => quiet_load (w.heap.size + 1) a ha _ rfl rfl R1.out (hK' _ ?_)); simp only [Act.put, List.setIfInBounds_toArray, List.set_cons_succ, List.set_cons_zero])
    | (refine BigFrame.wpQuiet_want rfl (fun _ hK' => quiet_load (w.heap.size + 1 + 1) b hb _ rfl rfl R2.out (hK' _ ?_)); simp only [Act.put, List.setIfInBounds_toArray, List.set_cons_succ, List.set_cons_zero])
    | (refine BigFrame.wpQuiet_want rfl (fun _ hK' => quiet_load g1 X hX _ rfl rfl R4.out (hK' _ ?_)); simp only [Act.put, List.setIfInBounds_toArray, List.set_cons_succ, List.set_cons_zero])
    | (refine BigFrame.wpQuiet_want rfl (fun _ hK' => quiet_load g2 Y hY _ rfl rfl R5.out (hK' _ ?_)); simp only [Act.put, List.setIfInBounds_toArray, List.set_cons_succ, List.set_cons_zero])
    | (go_big_quiet_step (fail)))
  refine wpQuiet_nil ?_
  rintro _ ⟨e, rfl⟩
  go_wp2
  go_ret
  exact ⟨rfl, aft R3.out e.below⟩

theorem inverse_any (k : List UInt8) (hk : k.length = 16) (a : List UInt8) (ha : a.length = 16) (b : List UInt8) (hb : b.length = 16) (w : World) :
    Calls Try.prog 11 #[kv k, kv a, kv b] w fun e w' => e = .returned (.bool true) ∧ Below w.heap.size w w' := by
  refine inverse_walk k a b (enc k a) (enc k b) (dec k a) (decide (a = b)) hk ha hb (by simp) (by simp) (Lib.hid fun w => encrypt_any k a hk ha w) (Lib.hid fun w => encrypt_any k b hk hb w)
    (Lib.hid fun w => ?_) (Lib.hid fun w => decrypt_any k a hk ha w) (Lib.hid fun w => ?_) (fun w => ?_) (fun w => run_equal_kv a b ha hb w) w
  · have := decrypt_any k (enc k a) hk (by simp) w
    rw [dec_enc k a ha] at this; exact this
  · have := encrypt_any k (dec k a) hk (by simp) w
    rw [enc_dec k a ha] at this; exact this
  · rw [run_equal_kv (enc k a) (enc k b) (by simp) (by simp)]
    congr 1
    rw [decide_eq_decide]
    exact ⟨enc_inj k a b ha hb, fun h => by rw [h]⟩
end Go.Proofs.Ytccojcjgknlhdaa
