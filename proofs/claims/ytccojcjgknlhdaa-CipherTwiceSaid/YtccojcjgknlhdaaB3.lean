/-
  The walk of the law that a stream undoes itself.
-/
import Derived.Test.YtccojcjgknlhdaaGr3
import Derived.Test.YtccojcjgknlhdaaP4
namespace Go.Proofs.Ytccojcjgknlhdaa
open Go.RowKit
attribute [local go_sem] fold_zeros

set_option maxHeartbeats 4000000 in
theorem twice_big (k : List UInt8) (hk : k.length = 16) (n : BitVec 64) (A : Option Addr) (m c : Nat) (many : Int) (w : World) (hm : 16384 < m) :
    Calls Try.prog 17 #[kv k, wv n, .slice A m c, .int .i64 many] w fun e w' => e = .returned (.bool true) ∧ Below w.heap.size w w' := by
  have h1 : (16384 : Int) < m := by omega
  have hk1 : (w.alloc (.cells (kl k).toArray 23)).heap[w.heap.size]? = some (.cells (kl k).toArray 23 (0, 0)) := blk_last _ _
  have HK := Lib.hid hk1
  clear hk1
  go_enter Try.func17, Try.ntmps17
  go_wp2_with (first
    | (go_at_call 33; refine (alive_any _).mono ?_; rintro e w1 ⟨rfl, hb1⟩; have HB1 := Lib.hid hb1; clear hb1)
    | (refine wl_load w.heap.size k hk _ rfl rfl rfl (blk_lives HK.out HB1.out) ?_)
    | (go_at_call 31; refine (streamBig_any k n _ A c _ hm).mono ?_; rintro e w2 ⟨rfl, hb2⟩; have HB2 := Lib.hid hb2; clear hb2))
  go_ret
  exact ⟨rfl, aft (aft (below_alloc _ _) HB1.out) HB2.out⟩

set_option maxHeartbeats 8000000 in
theorem twice_walk (k : List UInt8) (hk : k.length = 16) (n : BitVec 64) (A : Option Addr) (L c : Nat) (l X : List UInt8) (hX : stream k n l = X) (hL : L = l.length) (hm : L ≤ 16384) (many : Int) (w : World) (hs : Sl w A L c (kl l)) :
    Calls Try.prog 17 #[kv k, wv n, .slice A L c, .int .i64 many] w fun e w' => e = .returned (.bool true) ∧ Below w.heap.size w w' := by
  have hXL : L = X.length := by rw [← hX, stream_length]; exact hL
  have hXX : stream k n X = l := by rw [← hX]; exact stream_stream k n l
  have h1 : (L : Int) ≤ 16384 := by omega
  have hne := sv_neq l
  have hA := stream_sl k hk n l X hX L hL (by omega)
  have hB := stream_sl k hk n X l hXX L hXL (by omega)
  have hk1 : (w.alloc (.cells (kl k).toArray 23)).heap[w.heap.size]? = some (.cells (kl k).toArray 23 (0, 0)) := blk_last _ _
  have HK := Lib.hid hk1; have HA := Lib.hid hA; have HB := Lib.hid hB; have HS := Lib.hid hs; have HXL := Lib.hid hXL; have HX := Lib.hid hX; have HL := Lib.hid hL
  clear hk1 hA hB hXX hs hXL hX hL
  by_cases hm0 : many < 0
  · clear HX
    go_enter Try.func17, Try.ntmps17
    go_wp2_with (first
      | (go_at_call 33; refine (alive_any _).mono ?_; rintro e w1 ⟨rfl, hb1⟩; have HB1 := Lib.hid hb1; clear hb1)
      | (fail_if_success (have hh := HB2.out)
         refine wl_load w.heap.size k hk _ rfl rfl rfl (blk_lives HK.out HB1.out) ?_)
      | (refine wl_load w.heap.size k hk _ rfl rfl rfl (blk_lives HK.out (aft HB1.out HB2.out)) ?_)
      | (fail_if_success (have hh := HB2.out)
         go_at_call 31; refine (HA.out A _ c _ (HS.out.lives (aft (below_alloc _ _) HB1.out))).mono ?_; rintro e w2 ⟨A2, c2, rfl, hs2, hb2⟩; have HS2 := Lib.hid hs2; have HB2 := Lib.hid hb2; clear hs2 hb2)
      | (go_at_call 31; refine (HB.out A2 _ c2 _ HS2.out).mono ?_; rintro e w3 ⟨A3, c3, rfl, hs3, hb3⟩; have hc3 := run_conv_sl hs3; have hc4 := run_conv_sl (HS.out.lives (aft (aft (aft (below_alloc _ _) HB1.out) HB2.out) hb3)); have HB3 := Lib.hid hb3; clear hs3 hb3))
    go_ret
    exact ⟨rfl, aft (aft (aft (below_alloc _ _) HB1.out) HB2.out) HB3.out⟩
  · by_cases hm1 : (L : Int) < many
    · clear HX
      go_enter Try.func17, Try.ntmps17
      go_wp2_with (first
        | (go_at_call 33; refine (alive_any _).mono ?_; rintro e w1 ⟨rfl, hb1⟩; have HB1 := Lib.hid hb1; clear hb1)
        | (fail_if_success (have hh := HB2.out)
           refine wl_load w.heap.size k hk _ rfl rfl rfl (blk_lives HK.out HB1.out) ?_)
        | (refine wl_load w.heap.size k hk _ rfl rfl rfl (blk_lives HK.out (aft HB1.out HB2.out)) ?_)
        | (fail_if_success (have hh := HB2.out)
           go_at_call 31; refine (HA.out A _ c _ (HS.out.lives (aft (below_alloc _ _) HB1.out))).mono ?_; rintro e w2 ⟨A2, c2, rfl, hs2, hb2⟩; have HS2 := Lib.hid hs2; have HB2 := Lib.hid hb2; clear hs2 hb2)
        | (go_at_call 31; refine (HB.out A2 _ c2 _ HS2.out).mono ?_; rintro e w3 ⟨A3, c3, rfl, hs3, hb3⟩; have hc3 := run_conv_sl hs3; have hc4 := run_conv_sl (HS.out.lives (aft (aft (aft (below_alloc _ _) HB1.out) HB2.out) hb3)); have HB3 := Lib.hid hb3; clear hs3 hb3))
      go_ret
      exact ⟨rfl, aft (aft (aft (below_alloc _ _) HB1.out) HB2.out) HB3.out⟩
    · obtain ⟨q, rfl⟩ : ∃ q : Nat, many = q := ⟨many.toNat, by omega⟩
      have hqL : q ≤ L := by omega
      have hql : q = (l.take q).length := by rw [List.length_take]; have := HL.out; omega
      have hXq : stream k n (l.take q) = X.take q := by rw [← HX.out]; exact stream_take k n l q (by rw [← HL.out]; exact hqL)
      have hC := stream_sl k hk n (l.take q) (X.take q) hXq q hql (by omega)
      have heq := sv_eql (X.take q)
      have hsA := run_slice_to HS.out q hqL
      have HC := Lib.hid hC
      clear hC hXq hql HX
      go_enter Try.func17, Try.ntmps17
      go_wp2_with (first
        | (go_at_call 33; refine (alive_any _).mono ?_; rintro e w1 ⟨rfl, hb1⟩; have HB1 := Lib.hid hb1; clear hb1)
        | (fail_if_success (have hh := HB2.out)
           refine wl_load w.heap.size k hk _ rfl rfl rfl (blk_lives HK.out HB1.out) ?_)
        | (refine wl_load w.heap.size k hk _ rfl rfl rfl (blk_lives HK.out (aft HB1.out HB2.out)) ?_)
        | (fail_if_success (have hh := HB2.out)
           go_at_call 31; refine (HA.out A _ c _ (HS.out.lives (aft (below_alloc _ _) HB1.out))).mono ?_; rintro e w2 ⟨A2, c2, rfl, hs2, hb2⟩; have HS2 := Lib.hid hs2; have HB2 := Lib.hid hb2; clear hs2 hb2)
        | (go_at_call 31; refine (HB.out A2 _ c2 _ HS2.out).mono ?_; rintro e w3 ⟨A3, c3, rfl, hs3, hb3⟩; have hc3 := run_conv_sl hs3; have hc4 := run_conv_sl (HS.out.lives (aft (aft (aft (below_alloc _ _) HB1.out) HB2.out) hb3)); have HB3 := Lib.hid hb3; clear hs3 hb3))
      have hk3 := blk_lives HK.out (aft (aft HB1.out HB2.out) HB3.out)
      have hs3 := HS.out.lives (aft (aft (aft (below_alloc _ _) HB1.out) HB2.out) HB3.out)
      have hb3 := aft (aft (aft (below_alloc w (.cells (kl k).toArray 23)) HB1.out) HB2.out) HB3.out
      have hx3 := HS2.out.lives HB3.out
      have HK3 := Lib.hid hk3; have HS3 := Lib.hid hs3; have HB33 := Lib.hid hb3; have HX3 := Lib.hid hx3
      clear hc3 hc4 hk3 hs3 hb3 hx3
      refine wp_region_grow (fun _ => true) (by kernel_rfl) ?_
      refine grow_take (i := 0) (some 69) (kv k) rfl rfl (by kernel_rfl) (by kernel_rfl) (by kernel_rfl) (by kernel_rfl) (fun _ _ _ h => h) (yields_load w.heap.size k hk _ rfl rfl rfl HK3.out) ?_
      simp only [Act.put, List.setIfInBounds_toArray, List.set_cons_succ, List.set_cons_zero]
      refine grow_pure (i := 1) (some 70) (wv n) rfl rfl (by kernel_rfl) (by kernel_rfl) (by kernel_rfl) (fun _ _ _ h => h) rfl (fun w => by unfold execOp; simp [go_sem]) ?_
      simp only [Act.put, List.setIfInBounds_toArray, List.set_cons_succ, List.set_cons_zero]
      refine grow_pure (i := 2) (some 71) (.slice A L c) rfl rfl (by kernel_rfl) (by kernel_rfl) (by kernel_rfl) (fun _ _ _ h => h) rfl (fun w => by unfold execOp; simp [go_sem]) ?_
      simp only [Act.put, List.setIfInBounds_toArray, List.set_cons_succ, List.set_cons_zero]
      refine grow_pure (i := 3) (some 72) (.int .i64 (q : Int)) rfl rfl (by kernel_rfl) (by kernel_rfl) (by kernel_rfl) (fun _ _ _ h => h) rfl (fun w => by unfold execOp; simp [go_sem]) ?_
      simp only [Act.put, List.setIfInBounds_toArray, List.set_cons_succ, List.set_cons_zero]
      refine grow_pure (i := 4) (some 73) (.slice A q c) rfl rfl (by kernel_rfl) (by kernel_rfl) (by kernel_rfl) (fun _ _ _ h => h) rfl (fun w => by unfold execOp; simp [go_sem, hsA]) ?_
      simp only [Act.put, List.setIfInBounds_toArray, List.set_cons_succ, List.set_cons_zero]
      refine grow_call (i := 5) (some 74) (fun v w' => ∃ A' c', v = .tuple #[.slice A' q c', .int .i64 0] ∧ Sl w' A' q c' (kl (X.take q))) rfl rfl (by kernel_rfl) rfl (fun w => by unfold execOp; simp [go_sem]) (fun w4 hw4 => (HC.out A _ c _ ((HS3.out.lives (later_trans (below_self w3).drew hw4)).take q hqL)).mono fun e w' ⟨A', c', he, hs', hb'⟩ => ⟨_, he, ⟨A', c', rfl, hs'⟩, hb'⟩) ?_
      rintro _ w4 hw4 ⟨A4, c4, rfl, hs4⟩
      simp only [Act.put, List.setIfInBounds_toArray, List.set_cons_succ, List.set_cons_zero]
      refine grow_pure (i := 6) (some 68) (.tuple #[.slice A4 q c4, .int .i64 0]) rfl rfl (by kernel_rfl) (by kernel_rfl) (by kernel_rfl) (fun _ _ _ h => h) rfl (fun w => by unfold execOp; simp [go_sem]) ?_
      simp only [Act.put, List.setIfInBounds_toArray, List.set_cons_succ, List.set_cons_zero]
      refine grow_pure (i := 7) (some 75) (.slice A4 q c4) rfl rfl (by kernel_rfl) (by kernel_rfl) (by kernel_rfl) (fun _ _ _ h => h) rfl (fun w => by unfold execOp; simp [go_sem]) ?_
      simp only [Act.put, List.setIfInBounds_toArray, List.set_cons_succ, List.set_cons_zero]
      refine grow_pure (i := 8) (some 76) (.int .i64 0) rfl rfl (by kernel_rfl) (by kernel_rfl) (by kernel_rfl) (fun _ _ _ h => h) rfl (fun w => by unfold execOp; simp [go_sem]) ?_
      simp only [Act.put, List.setIfInBounds_toArray, List.set_cons_succ, List.set_cons_zero]
      refine grow_pure (i := 9) (some 14) (.slice A4 q c4) rfl rfl (by kernel_rfl) (by kernel_rfl) (by kernel_rfl) (fun _ _ _ h => h) rfl (fun w => by unfold execOp; simp [go_sem]) ?_
      simp only [Act.put, List.setIfInBounds_toArray, List.set_cons_succ, List.set_cons_zero]
      refine grow_pure (i := 10) (some 15) (.int .i64 0) rfl rfl (by kernel_rfl) (by kernel_rfl) (by kernel_rfl) (fun _ _ _ h => h) rfl (fun w => by unfold execOp; simp [go_sem]) ?_
      simp only [Act.put, List.setIfInBounds_toArray, List.set_cons_succ, List.set_cons_zero]
      refine grow_done (by kernel_rfl) ?_ _
      intro w5 hw5
      have r0 := run_conv_sl (hs4.lives hw5)
      have r1 := HX3.out.lives (later_trans (later_trans (below_self w3).drew hw4) hw5)
      have r2 := aft HB33.out (later_trans (later_trans (below_self w3).drew hw4) hw5)
      have HS5 := Lib.hid (hs4.lives hw5); have HX5 := Lib.hid r1; have HB5 := Lib.hid r2
      have g0 : ∀ e : Later w5, (convert 37 9 (.slice A4 q c4)).run Try.prog e.at = .ok (sv (X.take q)) e.at := fun e => run_conv_sl (HS5.out.lives e.below)
      have g1 : ∀ e : Later w5, (convert 37 9 (.slice A2 q c2)).run Try.prog e.at = .ok (sv (X.take q)) e.at := fun e => run_conv_sl ((HX5.out.lives e.below).take q hqL)
      have g2 := run_slice_to HX5.out q hqL
      clear r0 r1 r2 hs4 hw4 hw5 HS2 HS HA HB HC hsA HK3 HS3 HB33 HX3 HB1 HB2 HB3 HK
      go_wp2
      refine wp_quiet_all (LaterC w5) (by kernel_rfl) (by kernel_rfl) (later_drew _) ?_
      repeat (go_big_quiet_step (fail))
      refine wpQuiet_nil ?_
      rintro _ ⟨e, rfl⟩
      go_wp2
      go_ret
      exact ⟨rfl, aft HB5.out e.below⟩

theorem twice_any (k : List UInt8) (hk : k.length = 16) (n : BitVec 64) (A : Option Addr) (m c : Nat) (l : List UInt8) (many : Int) (w : World) (hs : Sl w A m c (kl l)) (_ : m ≤ 140737488351232) (_ : (Lit.int .i64 many).wf = true) :
    Calls Try.prog 17 #[kv k, wv n, .slice A m c, .int .i64 many] w fun e w' => e = .returned (.bool true) ∧ Below w.heap.size w w' := by
  by_cases h : 16384 < m
  · exact twice_big k hk n A m c many w h
  · exact twice_walk k hk n A m c l _ rfl (by have := hs.1; rw [kl_length] at this; exact this.symm) (by omega) many w hs
end Go.Proofs.Ytccojcjgknlhdaa
