/-
  The walk of the law that one portion that differs makes another MAC.
-/
import Derived.Test.YtccojcjgknlhdaaOw
import Derived.Test.YtccojcjgknlhdaaP5
namespace Go.Proofs.Ytccojcjgknlhdaa
open Go.RowKit
attribute [local go_sem] fold_zeros

set_option maxHeartbeats 4000000 in
theorem portion_early (k p : List UInt8) (A : Option Addr) (m c : Nat) (at' : Int) (w : World) (h : 16384 < m ∨ (m ≤ 16384 ∧ at' < 0) ∨ (m ≤ 16384 ∧ ¬ at' < 0 ∧ ((m : Int) + 15) / 16 ≤ at')) :
    Calls Try.prog 14 #[kv k, .slice A m c, .int .i64 at', kv p] w fun e w' => e = .returned (.bool true) ∧ Below w.heap.size w w' := by
  have hb0 : Below w.heap.size w ((w.alloc (.cells (kl k).toArray 23)).alloc (.cells (kl p).toArray 23)) := aft_alloc (below_alloc _ _) _
  have HB0 := Lib.hid hb0
  clear hb0
  rcases h with h1 | ⟨h1, h2⟩ | ⟨h1, h2, h3⟩
  · have i1 : (16384 : Int) < m := by omega
    go_enter Try.func14, Try.ntmps14
    go_wp2_with (go_at_call 33; refine (alive_any _).mono ?_; rintro e w1 ⟨rfl, hb1⟩; have HB1 := Lib.hid hb1; clear hb1)
    go_ret
    exact ⟨rfl, aft HB0.out HB1.out⟩
  · have i1 : (m : Int) ≤ 16384 := by omega
    go_enter Try.func14, Try.ntmps14
    go_wp2_with (go_at_call 33; refine (alive_any _).mono ?_; rintro e w1 ⟨rfl, hb1⟩; have HB1 := Lib.hid hb1; clear hb1)
    go_ret
    exact ⟨rfl, aft HB0.out HB1.out⟩
  · have i1 : (m : Int) ≤ 16384 := by omega
    go_enter Try.func14, Try.ntmps14
    go_wp2_with (go_at_call 33; refine (alive_any _).mono ?_; rintro e w1 ⟨rfl, hb1⟩; have HB1 := Lib.hid hb1; clear hb1)
    go_ret
    exact ⟨rfl, aft HB0.out HB1.out⟩

set_option maxHeartbeats 8000000 in
theorem portion_walk (k p : List UInt8) (hk : k.length = 16) (hp : p.length = 16) (A : Option Addr) (c q L t : Nat) (l X Y C : List UInt8) (d : Bool) (w : World) (hs : Sl w A L c (kl l)) (hL : L = l.length) (hm : L ≤ 16384) (hq : q < (L + 15) / 16)
    (ht : t = min 16 (L - 16 * q)) (hC : putTo l p q t = C)
    (HX : Hid (∀ A c w, Sl w A L c (kl l) → Calls Try.prog 37 #[kv k, .slice A L c] w fun e w' => e = .returned (.tuple #[kv X, .int .i64 0]) ∧ Below w.heap.size w w'))
    (HY : Hid (∀ A c w, Sl w A L c (kl C) → Calls Try.prog 37 #[kv k, .slice A L c] w fun e w' => e = .returned (.tuple #[kv Y, .int .i64 0]) ∧ Below w.heap.size w w'))
    (hX : X.length = 16) (hY : Y.length = 16) (q1 : ∀ w, (Op.equalIn 10000 23 (kv X) (kv Y)).run Try.prog w = .ok d w) (q2 : binOp .eql 9 (sv l) (sv C) = pure (.bool d)) :
    Calls Try.prog 14 #[kv k, .slice A L c, .int .i64 (q : Int), kv p] w fun e w' => e = .returned (.bool true) ∧ Below w.heap.size w w' := by
  have hb0 : Below w.heap.size w ((w.alloc (.cells (kl k).toArray 23)).alloc (.cells (kl p).toArray 23)) := aft_alloc (below_alloc _ _) _
  have hk0 : ((w.alloc (.cells (kl k).toArray 23)).alloc (.cells (kl p).toArray 23)).heap[w.heap.size]? = some (.cells (kl k).toArray 23 (0, 0)) := blk_keep (blk_last _ _) _
  have hp0 : ((w.alloc (.cells (kl k).toArray 23)).alloc (.cells (kl p).toArray 23)).heap[w.heap.size + 1]? = some (.cells (kl p).toArray 23 (0, 0)) := blk_last1 _ _ _
  have hmax : maxLen = 9223372036854775807 := rfl
  have i1 : (L : Int) ≤ 16384 := by omega
  have i2 : decide ((16384 : Int) < L) = false := decide_eq_false (by omega)
  have i3 : decide ((q : Int) < 0) = false := decide_eq_false (by omega)
  have i4 : (q : Int) < ((L : Int) + 15) / 16 := by omega
  have i5 : (q : Int) ≤ 1024 := by omega
  have i6 : (0 : Int) ≤ q := by omega
  have i7 : decide (((L : Int) + 15) / 16 ≤ q) = false := decide_eq_false (by omega)
  have hne : l ≠ [] := fun h => by rw [h] at hL; simp at hL; omega
  have HB0 := Lib.hid hb0; have HK0 := Lib.hid hk0; have HP0 := Lib.hid hp0; have HS := Lib.hid hs; have HL := Lib.hid hL; have HT := Lib.hid ht; have HC := Lib.hid hC; have HQ := Lib.hid hq; have HNE := Lib.hid hne
  clear hb0 hk0 hp0 hs hL ht hC hq hne
  go_enter Try.func14, Try.ntmps14
  go_wp2_with (first
    | (go_at_call 33; refine (alive_any _).mono ?_; rintro e w1 ⟨rfl, hb1⟩
       have ho0 := own_lit0 w1 w1.heap.size (Nat.le_refl _)
       have HO0 := Lib.hid ho0; have HB1 := Lib.hid hb1; clear hb1 ho0)
    | (refine wl_app Try.underlying37 info5 rfl (.tmp 33) (.tmp 34) rfl rfl rfl rfl HO0.out (HS.out.lives (aft_alloc (aft HB0.out HB1.out) _)) (kl_cells _) (by omega) (by omega) (by simp) ?_; intro v2 w2 ho2 ha2
       have hb2 := aft_app (below_alloc w1 _) HO0.out ha2
       have ho3 := ob_app (l := []) (m := l) (by rw [← HL.out]; exact ho2)
       rw [List.nil_append] at ho3
       obtain ⟨g, cap, rfl, hg, hw⟩ := ownB_of ho3 HNE.out
       rw [← HL.out]
       have HG := Lib.hid hg; have HW := Lib.hid hw; have HB2 := Lib.hid hb2; clear ho2 ha2 ho3 hb2 hg hw))
  have f0 := blk_lives HK0.out (aft HB1.out HB2.out)
  have f1 := blk_lives HP0.out (aft HB1.out HB2.out)
  have hpl := fun j => putTo_length l p q j
  have hg : w1.heap.size ≤ g := HG.out
  have hz := lt_blk HP0.out
  have hz1 := HB1.out.size
  have n0 : w.heap.size ≠ g := by omega
  have n1 : w.heap.size + 1 ≠ g := by omega
  have F0 := Lib.hid f0; have F1 := Lib.hid f1; have HPL := Lib.hid hpl; have N0 := Lib.hid n0; have N1 := Lib.hid n1
  clear f0 f1 hpl hg hz hz1 n0 n1
  go_loopw [11] (fun i wr => ∃ j : Nat, j ≤ t ∧ i = .int .i64 j ∧ wr.heap[w.heap.size]? = some (.cells (kl k).toArray 23 (0, 0)) ∧ wr.heap[w.heap.size + 1]? = some (.cells (kl p).toArray 23 (0, 0)) ∧ OwnB wr g cap (putTo l p q j) ∧ Below w1.heap.size w1 wr) (fun i _ => t - (intOf i).toNat)
  case atStart => exact ⟨0, by omega, rfl, F0.out, F1.out, HW.out, HB2.out⟩
  case round =>
    obtain ⟨j, hj, rfl, h0, h1, h2, h3⟩ := hrel
    have H0 := Lib.hid h0; have H1 := Lib.hid h1; have H2 := Lib.hid h2; have H3 := Lib.hid h3
    by_cases hlt : j < t
    · have htt := HT.out
      have hLL := HL.out
      have j0 : (0 : Int) ≤ j := by omega
      have j1 : (j : Int) < 16 := by omega
      have j2 : 16 * (q : Int) + j < L := by omega
      have j3 : (0 : Int) ≤ 16 * (q : Int) + j := by omega
      have c0 := cell_kl h1 (i := j) (by omega)
      obtain ⟨y, hy⟩ : ∃ y, (putTo l p q j)[16 * q + j]? = some y := ⟨_, List.getElem?_eq_getElem (by rw [HPL.out]; omega)⟩
      have c1 := h2.cell hy
      have f1 := h2.free (16 * q + j)
      clear h0 h1 h2 h3 hy htt hLL
      go_wp2
      go_roundw
      case rel =>
        refine ⟨j + 1, by omega, by go_num, (blk_far N0.out).trans H0.out, (blk_far N1.out).trans H1.out, H2.out.set _ _, H3.out.setCell HG.out _⟩
      case measure => simp [intOf]; omega
    · obtain rfl : j = t := by omega
      have hCL : L = C.length := by rw [← HC.out, HPL.out]; exact HL.out
      rw [HC.out] at H2
      have HCL := Lib.hid hCL
      clear h0 h1 h2 h3 hCL
      by_cases ht16 : j < 16
      · have htt := HT.out
        have j1 : decide ((j : Int) < 16) = true := decide_eq_true (by omega)
        have j2 : decide (16 * (q : Int) + j < L) = false := decide_eq_false (by omega)
        have j3 : (j : Int) < 16 := by omega
        have j4 : ¬ (16 * (q : Int) + j < L) := by omega
        have j5 : (0 : Int) ≤ j := by omega
        clear htt hlt
        go_wp2_with (first
          | (fail_if_success (have hh := HB4.out)
             refine wl_load w.heap.size k hk _ rfl rfl rfl H0.out ?_)
          | (fail_if_success (have hh := HB4.out)
             go_at_call 37; refine (HX.out A c _ (HS.out.lives (aft (aft HB0.out HB1.out) H3.out))).mono ?_; rintro e4 w4 ⟨rfl, hb4⟩; have HB4 := Lib.hid hb4; clear hb4)
          | (fail_if_success (have hh := HB5.out)
             refine wl_store w4.heap.size X hX _ _ rfl rfl rfl rfl (blk_last _ _) rfl ?_
             have r0 := new_old (blk_lives H0.out HB4.out) X (kl zeros).toArray
             have r1 := new_new w4 X (kl zeros).toArray
             have r2 := aft HB4.out (new_below w4 X (kl zeros).toArray)
             have R0 := Lib.hid r0; have R1 := Lib.hid r1; have R2 := Lib.hid r2; clear r0 r1 r2)
          | (refine wl_load w.heap.size k hk _ rfl rfl rfl R0.out ?_)
          | (go_at_call 37; refine (HY.out _ cap _ ((H2.out.lives R2.out).sl L HCL.out)).mono ?_; rintro e5 w5 ⟨rfl, hb5⟩; have HB5 := Lib.hid hb5; clear hb5)
          | (refine wl_store w5.heap.size Y hY _ _ rfl rfl rfl rfl (blk_last _ _) rfl ?_
             have r1 := new_old (blk_lives R1.out HB5.out) Y (kl zeros).toArray
             have r2 := new_new w5 Y (kl zeros).toArray
             have r3 := aft (aft R2.out HB5.out) (new_below w5 Y (kl zeros).toArray)
             have Q1 := Lib.hid r1; have Q2 := Lib.hid r2; have Q3 := Lib.hid r3; clear r1 r2 r3))
        generalize (w5.alloc (.cells (kl zeros).toArray 23)).setRow w5.heap.size (kl Y).toArray = W at *
        have s1 := HS.out.lives (aft (aft (aft HB0.out HB1.out) H3.out) Q3.out)
        have s2 := (H2.out.lives Q3.out).sl L HCL.out
        have s3 := aft (aft (aft HB0.out HB1.out) H3.out) Q3.out
        have S1 := Lib.hid s1; have S2 := Lib.hid s2; have S3 := Lib.hid s3
        have g0 : ∀ e : Later W, (convert 37 9 (.slice A L c)).run Try.prog e.at = .ok (sv l) e.at := fun e => run_conv_sl (S1.out.lives e.below)
        have g1 : ∀ e : Later W, (convert 37 9 (.slice (some ⟨g, 0, none⟩) L cap)).run Try.prog e.at = .ok (sv C) e.at := fun e => run_conv_sl (S2.out.lives e.below)
        clear s1 s2 s3
        refine wp_quiet_all (LaterC W) (by kernel_rfl) (by kernel_rfl) (later_drew _) ?_
        repeat (first
          | (refine BigFrame.wpQuiet_want rfl (fun _ hK' => quiet_load w4.heap.size X hX _ rfl rfl Q1.out (hK' _ ?_)); simp only [Act.put, List.setIfInBounds_toArray, List.set_cons_succ, List.set_cons_zero])
          | (refine BigFrame.wpQuiet_want rfl (fun _ hK' => quiet_load w5.heap.size Y hY _ rfl rfl Q2.out (hK' _ ?_)); simp only [Act.put, List.setIfInBounds_toArray, List.set_cons_succ, List.set_cons_zero])
          | (go_big_quiet_step (fail)))
        refine wpQuiet_nil ?_
        rintro _ ⟨e, rfl⟩
        go_wp2
        go_ret
        exact ⟨rfl, aft S3.out e.below⟩
      · have htt := HT.out
        obtain rfl : j = 16 := by omega
        clear htt hlt ht16
        go_wp2_with (first
          | (fail_if_success (have hh := HB4.out)
             refine wl_load w.heap.size k hk _ rfl rfl rfl H0.out ?_)
          | (fail_if_success (have hh := HB4.out)
             go_at_call 37; refine (HX.out A c _ (HS.out.lives (aft (aft HB0.out HB1.out) H3.out))).mono ?_; rintro e4 w4 ⟨rfl, hb4⟩; have HB4 := Lib.hid hb4; clear hb4)
          | (fail_if_success (have hh := HB5.out)
             refine wl_store w4.heap.size X hX _ _ rfl rfl rfl rfl (blk_last _ _) rfl ?_
             have r0 := new_old (blk_lives H0.out HB4.out) X (kl zeros).toArray
             have r1 := new_new w4 X (kl zeros).toArray
             have r2 := aft HB4.out (new_below w4 X (kl zeros).toArray)
             have R0 := Lib.hid r0; have R1 := Lib.hid r1; have R2 := Lib.hid r2; clear r0 r1 r2)
          | (refine wl_load w.heap.size k hk _ rfl rfl rfl R0.out ?_)
          | (go_at_call 37; refine (HY.out _ cap _ ((H2.out.lives R2.out).sl L HCL.out)).mono ?_; rintro e5 w5 ⟨rfl, hb5⟩; have HB5 := Lib.hid hb5; clear hb5)
          | (refine wl_store w5.heap.size Y hY _ _ rfl rfl rfl rfl (blk_last _ _) rfl ?_
             have r1 := new_old (blk_lives R1.out HB5.out) Y (kl zeros).toArray
             have r2 := new_new w5 Y (kl zeros).toArray
             have r3 := aft (aft R2.out HB5.out) (new_below w5 Y (kl zeros).toArray)
             have Q1 := Lib.hid r1; have Q2 := Lib.hid r2; have Q3 := Lib.hid r3; clear r1 r2 r3))
        generalize (w5.alloc (.cells (kl zeros).toArray 23)).setRow w5.heap.size (kl Y).toArray = W at *
        have s1 := HS.out.lives (aft (aft (aft HB0.out HB1.out) H3.out) Q3.out)
        have s2 := (H2.out.lives Q3.out).sl L HCL.out
        have s3 := aft (aft (aft HB0.out HB1.out) H3.out) Q3.out
        have S1 := Lib.hid s1; have S2 := Lib.hid s2; have S3 := Lib.hid s3
        have g0 : ∀ e : Later W, (convert 37 9 (.slice A L c)).run Try.prog e.at = .ok (sv l) e.at := fun e => run_conv_sl (S1.out.lives e.below)
        have g1 : ∀ e : Later W, (convert 37 9 (.slice (some ⟨g, 0, none⟩) L cap)).run Try.prog e.at = .ok (sv C) e.at := fun e => run_conv_sl (S2.out.lives e.below)
        clear s1 s2 s3
        refine wp_quiet_all (LaterC W) (by kernel_rfl) (by kernel_rfl) (later_drew _) ?_
        repeat (first
          | (refine BigFrame.wpQuiet_want rfl (fun _ hK' => quiet_load w4.heap.size X hX _ rfl rfl Q1.out (hK' _ ?_)); simp only [Act.put, List.setIfInBounds_toArray, List.set_cons_succ, List.set_cons_zero])
          | (refine BigFrame.wpQuiet_want rfl (fun _ hK' => quiet_load w5.heap.size Y hY _ rfl rfl Q2.out (hK' _ ?_)); simp only [Act.put, List.setIfInBounds_toArray, List.set_cons_succ, List.set_cons_zero])
          | (go_big_quiet_step (fail)))
        refine wpQuiet_nil ?_
        rintro _ ⟨e, rfl⟩
        go_wp2
        go_ret
        exact ⟨rfl, aft S3.out e.below⟩

theorem portion_any (k : List UInt8) (hk : k.length = 16) (A : Option Addr) (m c : Nat) (l : List UInt8) (at' : Int) (p : List UInt8) (hp : p.length = 16) (w : World) (hs : Sl w A m c (kl l)) (_ : m ≤ 140737488351232) (_ : (Lit.int .i64 at').wf = true) :
    Calls Try.prog 14 #[kv k, .slice A m c, .int .i64 at', kv p] w fun e w' => e = .returned (.bool true) ∧ Below w.heap.size w w' := by
  by_cases h1 : 16384 < m
  · exact portion_early k p A m c at' w (.inl h1)
  by_cases h2 : at' < 0
  · exact portion_early k p A m c at' w (.inr (.inl ⟨by omega, h2⟩))
  by_cases h3 : ((m : Int) + 15) / 16 ≤ at'
  · exact portion_early k p A m c at' w (.inr (.inr ⟨by omega, h2, h3⟩))
  obtain ⟨q, rfl⟩ : ∃ q : Nat, at' = q := ⟨at'.toNat, by omega⟩
  have hl : m = l.length := by have := hs.1; rw [kl_length] at this; exact this.symm
  have hq : q < (m + 15) / 16 := by omega
  have hC : (putTo l p q (min 16 (m - 16 * q))).length = m := by rw [putTo_length]; exact hl.symm
  refine portion_walk k p hk hp A c q m _ l (macOf k l) (macOf k (putTo l p q (min 16 (m - 16 * q)))) (putTo l p q (min 16 (m - 16 * q))) (decide (l = putTo l p q (min 16 (m - 16 * q)))) w hs hl (by omega) hq rfl rfl
    (Lib.hid fun A c w hs => mac_any k hk l A m c w hs (by omega)) (Lib.hid fun A c w hs => mac_any k hk _ A m c w hs (by omega)) (by simp) (by simp) (fun w => ?_) (sv_eq _ _)
  rw [run_equal_kv _ _ (by simp) (by simp)]
  congr 1
  rw [decide_eq_decide]
  exact put_mac k l p q _ (by omega) (by rw [← hl]; exact hq)
end Go.Proofs.Ytccojcjgknlhdaa
