/-
  The walk of the law that different tags or numbers derive different keys.
-/
import Derived.Test.YtccojcjgknlhdaaK3
namespace Go.Proofs.Ytccojcjgknlhdaa
open Go.RowKit

set_option maxHeartbeats 2000000 in
theorem apart_any (k : List UInt8) (hk : k.length = 16) (t : UInt8) (n : BitVec 64) (t' : UInt8) (m : BitVec 64) (w : World) :
    Calls Try.prog 12 #[kv k, bv t, wv n, bv t', wv m] w fun e w' => e = .returned (.bool true) ∧ Below w.heap.size w w' := by
  obtain ⟨X, hX⟩ : ∃ X, X = derive k t n := ⟨_, rfl⟩
  obtain ⟨Y, hY⟩ : ∃ Y, Y = derive k t' m := ⟨_, rfl⟩
  have hXl : X.length = 16 := by rw [hX]; simp
  have hYl : Y.length = 16 := by rw [hY]; simp
  have hiff : X = Y ↔ t = t' ∧ n = m := by rw [hX, hY]; exact derive_inj k t t' n m
  have hA := fun w => derive_any k hk t n w
  have hB := fun w => derive_any k hk t' m w
  rw [← hX] at hA
  rw [← hY] at hB
  have HA := Lib.hid hA; have HB := Lib.hid hB
  have hE : ∀ w, (Op.equalIn 10000 23 (kv X) (kv Y)).run Try.prog w = .ok (decide (X = Y)) w := fun w => run_equal_kv X Y hXl hYl w
  clear hA hB hX hY
  have hk1 : (w.alloc (.cells (kl k).toArray 23)).heap[w.heap.size]? = some (.cells (kl k).toArray 23 (0, 0)) := blk_last _ _
  have hb1 : Below w.heap.size w (w.alloc (.cells (kl k).toArray 23)) := below_alloc _ _
  have HK := Lib.hid hk1; have HBB := Lib.hid hb1
  clear hk1 hb1
  by_cases ht : t = t'
  · have hd : decide (t = t') = true := decide_eq_true ht
    by_cases hn : n = m
    · have hd2 : decide (n = m) = true := decide_eq_true hn
      have hd3 : decide (X = Y) = true := decide_eq_true (hiff.2 ⟨ht, hn⟩)
      rw [hd3] at hE
      clear hiff ht hn hd3
      go_enter Try.func12, Try.ntmps12
      go_wp2
      generalize w.alloc (.cells (kl k).toArray 23) = W at *
      refine wp_quiet_all (LaterC W) (by kernel_rfl) (by kernel_rfl) (later_drew _) ?_
      go_big_quiet_step ((go_at_call 33; exact later_call _ (alive_any _)))
      repeat (first
        | (refine BigFrame.wpQuiet_want rfl (fun _ hK' => quiet_load w.heap.size k hk _ rfl rfl HK.out (hK' _ ?_)); simp only [Act.put, List.setIfInBounds_toArray, List.set_cons_succ, List.set_cons_zero])
        | (go_big_quiet_step (fail)))
      go_big_quiet_step ((go_at_call 23; exact later_call _ (HA.out _)))
      repeat (first
        | (refine BigFrame.wpQuiet_want rfl (fun _ hK' => quiet_load w.heap.size k hk _ rfl rfl HK.out (hK' _ ?_)); simp only [Act.put, List.setIfInBounds_toArray, List.set_cons_succ, List.set_cons_zero])
        | (go_big_quiet_step (fail)))
      go_big_quiet_step ((go_at_call 23; exact later_call _ (HB.out _)))
      repeat (go_big_quiet_step (fail))
      refine wpQuiet_nil ?_
      rintro _ ⟨e, rfl⟩
      go_wp2
      go_ret
      exact ⟨rfl, aft HBB.out e.below⟩
    · have hd2 : decide (n = m) = false := decide_eq_false hn
      have hd3 : decide (X = Y) = false := decide_eq_false fun h => hn (hiff.1 h).2
      rw [hd3] at hE
      clear hiff ht hn hd3
      go_enter Try.func12, Try.ntmps12
      go_wp2
      generalize w.alloc (.cells (kl k).toArray 23) = W at *
      refine wp_quiet_all (LaterC W) (by kernel_rfl) (by kernel_rfl) (later_drew _) ?_
      go_big_quiet_step ((go_at_call 33; exact later_call _ (alive_any _)))
      repeat (first
        | (refine BigFrame.wpQuiet_want rfl (fun _ hK' => quiet_load w.heap.size k hk _ rfl rfl HK.out (hK' _ ?_)); simp only [Act.put, List.setIfInBounds_toArray, List.set_cons_succ, List.set_cons_zero])
        | (go_big_quiet_step (fail)))
      go_big_quiet_step ((go_at_call 23; exact later_call _ (HA.out _)))
      repeat (first
        | (refine BigFrame.wpQuiet_want rfl (fun _ hK' => quiet_load w.heap.size k hk _ rfl rfl HK.out (hK' _ ?_)); simp only [Act.put, List.setIfInBounds_toArray, List.set_cons_succ, List.set_cons_zero])
        | (go_big_quiet_step (fail)))
      go_big_quiet_step ((go_at_call 23; exact later_call _ (HB.out _)))
      repeat (go_big_quiet_step (fail))
      refine wpQuiet_nil ?_
      rintro _ ⟨e, rfl⟩
      go_wp2
      go_ret
      exact ⟨rfl, aft HBB.out e.below⟩
  · have hd : decide (t = t') = false := decide_eq_false ht
    have hd3 : decide (X = Y) = false := decide_eq_false fun h => ht (hiff.1 h).1
    rw [hd3] at hE
    clear hiff ht hd3
    go_enter Try.func12, Try.ntmps12
    go_wp2
    generalize w.alloc (.cells (kl k).toArray 23) = W at *
    refine wp_quiet_all (LaterC W) (by kernel_rfl) (by kernel_rfl) (later_drew _) ?_
    go_big_quiet_step ((go_at_call 33; exact later_call _ (alive_any _)))
    repeat (first
      | (refine BigFrame.wpQuiet_want rfl (fun _ hK' => quiet_load w.heap.size k hk _ rfl rfl HK.out (hK' _ ?_)); simp only [Act.put, List.setIfInBounds_toArray, List.set_cons_succ, List.set_cons_zero])
      | (go_big_quiet_step (fail)))
    go_big_quiet_step ((go_at_call 23; exact later_call _ (HA.out _)))
    repeat (first
      | (refine BigFrame.wpQuiet_want rfl (fun _ hK' => quiet_load w.heap.size k hk _ rfl rfl HK.out (hK' _ ?_)); simp only [Act.put, List.setIfInBounds_toArray, List.set_cons_succ, List.set_cons_zero])
      | (go_big_quiet_step (fail)))
    go_big_quiet_step ((go_at_call 23; exact later_call _ (HB.out _)))
    repeat (go_big_quiet_step (fail))
    refine wpQuiet_nil ?_
    rintro _ ⟨e, rfl⟩
    go_wp2
    go_ret
    exact ⟨rfl, aft HBB.out e.below⟩
end Go.Proofs.Ytccojcjgknlhdaa
