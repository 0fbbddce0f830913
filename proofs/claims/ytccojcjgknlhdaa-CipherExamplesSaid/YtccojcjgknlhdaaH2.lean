/-
  Hash.
-/
import Derived.Test.YtccojcjgknlhdaaH1
namespace Go.Proofs.Ytccojcjgknlhdaa
open Go.RowKit
attribute [local go_sem] fold_zeros

theorem splice_any (l : List UInt8) (n : Nat) : splice (kl (List.replicate n 0)) 0 (kl l) = kl (l ++ List.replicate (n - l.length) 0) := by
  unfold splice
  rw [List.take_zero, List.nil_append, kl_length, Nat.zero_add, kl_append]
  congr 1
  rw [kl, ← List.map_drop, List.drop_replicate]; rfl
theorem src_any {w : World} {A : Option Addr} {n c : Nat} {l : List UInt8} (h : Sl w A n c (kl l)) (hp : 0 < l.length) {o1 o2 : Obj} : ∃ ad, A = some ad ∧ ∀ j v, (kl l)[j]? = some v → ((w.alloc o1).alloc o2).cell? (ad.add j) = some v := by
  obtain ⟨b, off, rfl⟩ := h.2.2.2.1 (by have := h.1; have := h.2.1; rw [kl_length] at *; omega)
  refine ⟨_, rfl, fun j v hj => ?_⟩
  have hadd : (⟨b, off, none⟩ : Addr).add j = ⟨b, off + j, none⟩ := by unfold Addr.add; split <;> simp_all
  rw [hadd]
  exact (h.lives (aft_alloc (below_alloc w o1) o2)).2.2.2.2 b off rfl j v hj
theorem size_below (w : World) (o1 o2 : Obj) : Below (w.heap.size + 1) (w.alloc o1) ((w.alloc o1).alloc o2) := by
  have := below_alloc (w.alloc o1) o2
  rw [World.size_alloc] at this; exact this

@[simp] theorem hashOf_length (l : List UInt8) : (hashOf l).length = 16 := foldTo_length _ hashNext_length _ start_length _ _

set_option maxHeartbeats 4000000 in
theorem hash_any (l : List UInt8) (A : Option Addr) (m c : Nat) (w : World) (hs : Sl w A m c (kl l)) (hm : m ≤ 16384) :
    Calls Try.prog 34 #[.slice A m c] w fun e w' => e = .returned (.tuple #[kv (hashOf l), .int .i64 0]) ∧ Below w.heap.size w w' := by
  obtain rfl : m = l.length := by have := hs.1; rw [kl_length] at this; exact this.symm
  have HS := Lib.hid hs
  have h1 : (l.length : Int) ≤ 16384 := by omega
  by_cases h7 : l.length % 16 ≤ 7
  · obtain ⟨n, hn⟩ : ∃ n : Nat, n = l.length / 16 * 16 + 16 := ⟨_, rfl⟩
    have hni : (l.length : Int) / 16 * 16 + 16 = (n : Int) := by omega
    have hri : (l.length : Int) % 16 ≤ 7 := by omega
    have hmk := run_make_bytes n (by omega)
    have HN := Lib.hid hn; have H7 := Lib.hid h7
    clear hs h7 hn
    have hsp : splice (kl (List.replicate n 0)) 0 (kl l) = kl (l ++ List.replicate (n - l.length) 0) := splice_any l n
    have HSP := Lib.hid hsp
    have hL0 : (l.length : Int) + 8 < n := by omega
    have hL1 : (2 : Int) ≤ n := by omega
    have hnl : (n : Int) ≤ 16416 := by omega
    clear hsp
    go_enter Try.func34, Try.ntmps34
    go_wp2_with (first
      | (refine wpList_copy_splice rfl (.tmp 25) (.tmp 26) 37 37 rfl 5 Try.underlying37 (by kernel_rfl) (some ⟨w.heap.size + 1, 0, none⟩) A n n l.length c rfl rfl (w.heap.size + 1) 0 (kl (List.replicate n 0)) 5 (blk_last1 _ _ _) (kl l) (by rw [kl_length]; exact (Nat.min_eq_left (by omega)).symm) (fun hp => ⟨rfl, src_any HS.out (by rw [kl_length] at hp; exact hp)⟩) (by rw [kl_length, kl_length, List.length_replicate]; omega) (kl_cells _) (w.heap.size + 1) (w.alloc (.cells (kl zeros).toArray 23)) (size_below _ _ _) (Nat.le_refl _) ?_
         intro w2 hg2 hb2
         rw [kl_length]
         have hg3 := hg2.out
         rw [HSP.out] at hg3
         have c1 := cell_kl hg3 (i := l.length) (by rw [List.length_append, List.length_replicate]; omega)
         have c2 := cell_kl hg3 (i := n - 2) (by rw [List.length_append, List.length_replicate]; omega)
         have c3 := cell_kl hg3 (i := n - 1) (by rw [List.length_append, List.length_replicate]; omega)
         have f1 := free_blk (i := l.length) hg3
         have f2 := free_blk (i := n - 2) hg3
         have f3 := free_blk (i := n - 1) hg3
         have HG3 := Lib.hid hg3; have HB2 := Lib.hid hb2; clear hg2 hb2 hg3))
    have hpad := padded_eq l hm n (by have := HN.out; have := H7.out; omega)
    have hpl : n = (padded l).length := by rw [padded_length]; have := HN.out; have := H7.out; omega
    have hd1 := bv_div l.length hm
    have hd2 := bv_mod l.length
    rw [hd1, hd2]
    have k1 : ((((w2.setCell ⟨w.heap.size + 1, l.length, none⟩ (.int .u8 128)).setCell ⟨w.heap.size + 1, n - 2, none⟩ (bv (UInt8.ofNat (l.length / 256)))).setCell ⟨w.heap.size + 1, n - 1, none⟩ (bv (UInt8.ofNat l.length))).alloc (.cells (kl zeros).toArray 23)).heap[w.heap.size + 1]? = some (.cells (kl (padded l)).toArray 5 (0, 0)) := by
      refine blk_keep ?_ _
      rw [blk_set (blk_set (blk_set HG3.out)), ← hpad, ← kl_set, ← kl_set, ← kl_set]; rfl
    have k2 : ((((w2.setCell ⟨w.heap.size + 1, l.length, none⟩ (.int .u8 128)).setCell ⟨w.heap.size + 1, n - 2, none⟩ (bv (UInt8.ofNat (l.length / 256)))).setCell ⟨w.heap.size + 1, n - 1, none⟩ (bv (UInt8.ofNat l.length))).alloc (.cells (kl zeros).toArray 23)).heap[w.heap.size]? = some (.cells (kl zeros).toArray 23 (0, 0)) := by
      refine blk_keep ?_ _
      rw [blk_far (by omega), blk_far (by omega), blk_far (by omega), HB2.out.block _ (by omega)]
      exact blk_last _ _
    have hsz2 : w.heap.size + 1 < w2.heap.size := lt_blk HG3.out
    have k3 : ((((w2.setCell ⟨w.heap.size + 1, l.length, none⟩ (.int .u8 128)).setCell ⟨w.heap.size + 1, n - 2, none⟩ (bv (UInt8.ofNat (l.length / 256)))).setCell ⟨w.heap.size + 1, n - 1, none⟩ (bv (UInt8.ofNat l.length))).alloc (.cells (kl zeros).toArray 23)).heap[w2.heap.size]? = some (.cells (kl (startTo 0)).toArray 23 (0, 0)) := by
      have := blk_last (((w2.setCell ⟨w.heap.size + 1, l.length, none⟩ (.int .u8 128)).setCell ⟨w.heap.size + 1, n - 2, none⟩ (bv (UInt8.ofNat (l.length / 256)))).setCell ⟨w.heap.size + 1, n - 1, none⟩ (bv (UInt8.ofNat l.length))) (.cells (kl zeros).toArray 23)
      rwa [size_set, size_set, size_set] at this
    have k4 : Below w.heap.size w ((((w2.setCell ⟨w.heap.size + 1, l.length, none⟩ (.int .u8 128)).setCell ⟨w.heap.size + 1, n - 2, none⟩ (bv (UInt8.ofNat (l.length / 256)))).setCell ⟨w.heap.size + 1, n - 1, none⟩ (bv (UInt8.ofNat l.length))).alloc (.cells (kl zeros).toArray 23)) :=
      aft_alloc (((((below_alloc w _).trans (HB2.out.mono (Nat.le_succ _))).setCell (by show w.heap.size ≤ w.heap.size + 1; omega) _).setCell (by show w.heap.size ≤ w.heap.size + 1; omega) _).setCell (by show w.heap.size ≤ w.heap.size + 1; omega) _) _
    generalize (((w2.setCell ⟨w.heap.size + 1, l.length, none⟩ (.int .u8 128)).setCell ⟨w.heap.size + 1, n - 2, none⟩ (bv (UInt8.ofNat (l.length / 256)))).setCell ⟨w.heap.size + 1, n - 1, none⟩ (bv (UInt8.ofNat l.length))).alloc (.cells (kl zeros).toArray 23) = W3 at *
    generalize w2.heap.size = g2 at *
    have HPL := Lib.hid hpl; have K1 := Lib.hid k1; have K2 := Lib.hid k2; have K3 := Lib.hid k3; have K4 := Lib.hid k4; have HZ := Lib.hid hsz2
    clear hpad hpl k1 k2 k3 k4 c1 c2 c3 f1 f2 f3 hd1 hd2 hsz2 hmk
    go_loopw [47] (fun i wr => ∃ q : Nat, q ≤ 16 ∧ i = .int .i64 q ∧ wr.heap[w.heap.size + 1]? = some (.cells (kl (padded l)).toArray 5 (0, 0)) ∧ wr.heap[w.heap.size]? = some (.cells (kl zeros).toArray 23 (0, 0)) ∧
      wr.heap[g2]? = some (.cells (kl (startTo q)).toArray 23 (0, 0)) ∧ Below w.heap.size w wr) (fun i _ => 16 - (intOf i).toNat)
    case atStart => exact ⟨0, by omega, rfl, K1.out, K2.out, K3.out, K4.out⟩
    case round =>
      obtain ⟨q, hq, rfl, hx, hr, hy, hw⟩ := hrel
      have HX := Lib.hid hx; have HR := Lib.hid hr; have HY := Lib.hid hy; have HW := Lib.hid hw
      have hq0 : (0 : Int) ≤ q := by omega
      by_cases hlt : q < 16
      · have hq1 : (q : Int) < 16 := by omega
        have c0 := cell_kl hy (i := q) (by rw [startTo_length]; omega)
        have f := free_blk (i := q) hy
        clear hx hr hy hw
        go_wp2
        go_roundw
        case rel =>
          refine ⟨q + 1, by omega, by go_num, ?_, ?_, ?_, ?_⟩
          · rw [blk_far (by have := HZ.out; omega)]; exact HX.out
          · rw [blk_far (by have := HZ.out; omega)]; exact HR.out
          · rw [blk_set HY.out]; show some (Obj.cells ((kl (startTo q)).toArray.setIfInBounds q (bv 90)) 23 (0, 0)) = _; rw [kl_set]; rfl
          · exact HW.out.setCell (by show w.heap.size ≤ g2; have := HZ.out; omega) _
        case measure => simp [intOf]; omega
      · obtain rfl : q = 16 := by omega
        have hsl := sl_blk hx (by have := HPL.out; have : maxLen = 9223372036854775807 := rfl; omega) n HPL.out
        have hh : foldTo hashNext start (padded l) (((padded l).length + 15) / 16) = hashOf l := by
          unfold hashOf
          have := HPL.out; have := HN.out
          congr 1
          omega
        have HSL := Lib.hid hsl; have HH := Lib.hid hh
        have hal : (hashOf l).length = 16 := hashOf_length l
        clear hx hr hy hw hsl hh
        go_wp2_with (first
          | (refine wl_load g2 start start_length _ rfl rfl rfl HY.out ?_)
          | (go_at_call 59; refine (foldHash_any start start_length (padded l) _ n n _ HSL.out (by omega)).mono ?_; rw [HH.out]; rintro e w4 ⟨rfl, hb4⟩; have HB4 := Lib.hid hb4; clear hb4)
          | (refine wl_store w.heap.size (hashOf l) hal _ _ rfl rfl rfl rfl (blk_lives HR.out HB4.out) rfl ?_))
        exact bodyPost_ret (v := .tuple #[kv (hashOf l), .int .i64 0]) (res_key2 rfl _ _ w.heap.size _ hal _ rfl rfl (blk_row (blk_lives HR.out HB4.out))) rfl ⟨rfl, below_row (aft HW.out HB4.out) (Nat.le_refl _) _⟩
  · obtain ⟨n, hn⟩ : ∃ n : Nat, n = l.length / 16 * 16 + 32 := ⟨_, rfl⟩
    have hni : (l.length : Int) / 16 * 16 + 16 + 16 = (n : Int) := by omega
    have hri : 7 < (l.length : Int) % 16 := by omega
    have hmk := run_make_bytes n (by omega)
    have HN := Lib.hid hn; have H7 := Lib.hid h7
    clear hs h7 hn
    have hsp : splice (kl (List.replicate n 0)) 0 (kl l) = kl (l ++ List.replicate (n - l.length) 0) := splice_any l n
    have HSP := Lib.hid hsp
    have hL0 : (l.length : Int) + 8 < n := by omega
    have hL1 : (2 : Int) ≤ n := by omega
    have hnl : (n : Int) ≤ 16416 := by omega
    clear hsp
    go_enter Try.func34, Try.ntmps34
    go_wp2_with (first
      | (refine wpList_copy_splice rfl (.tmp 25) (.tmp 26) 37 37 rfl 5 Try.underlying37 (by kernel_rfl) (some ⟨w.heap.size + 1, 0, none⟩) A n n l.length c rfl rfl (w.heap.size + 1) 0 (kl (List.replicate n 0)) 5 (blk_last1 _ _ _) (kl l) (by rw [kl_length]; exact (Nat.min_eq_left (by omega)).symm) (fun hp => ⟨rfl, src_any HS.out (by rw [kl_length] at hp; exact hp)⟩) (by rw [kl_length, kl_length, List.length_replicate]; omega) (kl_cells _) (w.heap.size + 1) (w.alloc (.cells (kl zeros).toArray 23)) (size_below _ _ _) (Nat.le_refl _) ?_
         intro w2 hg2 hb2
         rw [kl_length]
         have hg3 := hg2.out
         rw [HSP.out] at hg3
         have c1 := cell_kl hg3 (i := l.length) (by rw [List.length_append, List.length_replicate]; omega)
         have c2 := cell_kl hg3 (i := n - 2) (by rw [List.length_append, List.length_replicate]; omega)
         have c3 := cell_kl hg3 (i := n - 1) (by rw [List.length_append, List.length_replicate]; omega)
         have f1 := free_blk (i := l.length) hg3
         have f2 := free_blk (i := n - 2) hg3
         have f3 := free_blk (i := n - 1) hg3
         have HG3 := Lib.hid hg3; have HB2 := Lib.hid hb2; clear hg2 hb2 hg3))
    have hpad := padded_eq l hm n (by have := HN.out; have := H7.out; omega)
    have hpl : n = (padded l).length := by rw [padded_length]; have := HN.out; have := H7.out; omega
    have hd1 := bv_div l.length hm
    have hd2 := bv_mod l.length
    rw [hd1, hd2]
    have k1 : ((((w2.setCell ⟨w.heap.size + 1, l.length, none⟩ (.int .u8 128)).setCell ⟨w.heap.size + 1, n - 2, none⟩ (bv (UInt8.ofNat (l.length / 256)))).setCell ⟨w.heap.size + 1, n - 1, none⟩ (bv (UInt8.ofNat l.length))).alloc (.cells (kl zeros).toArray 23)).heap[w.heap.size + 1]? = some (.cells (kl (padded l)).toArray 5 (0, 0)) := by
      refine blk_keep ?_ _
      rw [blk_set (blk_set (blk_set HG3.out)), ← hpad, ← kl_set, ← kl_set, ← kl_set]; rfl
    have k2 : ((((w2.setCell ⟨w.heap.size + 1, l.length, none⟩ (.int .u8 128)).setCell ⟨w.heap.size + 1, n - 2, none⟩ (bv (UInt8.ofNat (l.length / 256)))).setCell ⟨w.heap.size + 1, n - 1, none⟩ (bv (UInt8.ofNat l.length))).alloc (.cells (kl zeros).toArray 23)).heap[w.heap.size]? = some (.cells (kl zeros).toArray 23 (0, 0)) := by
      refine blk_keep ?_ _
      rw [blk_far (by omega), blk_far (by omega), blk_far (by omega), HB2.out.block _ (by omega)]
      exact blk_last _ _
    have hsz2 : w.heap.size + 1 < w2.heap.size := lt_blk HG3.out
    have k3 : ((((w2.setCell ⟨w.heap.size + 1, l.length, none⟩ (.int .u8 128)).setCell ⟨w.heap.size + 1, n - 2, none⟩ (bv (UInt8.ofNat (l.length / 256)))).setCell ⟨w.heap.size + 1, n - 1, none⟩ (bv (UInt8.ofNat l.length))).alloc (.cells (kl zeros).toArray 23)).heap[w2.heap.size]? = some (.cells (kl (startTo 0)).toArray 23 (0, 0)) := by
      have := blk_last (((w2.setCell ⟨w.heap.size + 1, l.length, none⟩ (.int .u8 128)).setCell ⟨w.heap.size + 1, n - 2, none⟩ (bv (UInt8.ofNat (l.length / 256)))).setCell ⟨w.heap.size + 1, n - 1, none⟩ (bv (UInt8.ofNat l.length))) (.cells (kl zeros).toArray 23)
      rwa [size_set, size_set, size_set] at this
    have k4 : Below w.heap.size w ((((w2.setCell ⟨w.heap.size + 1, l.length, none⟩ (.int .u8 128)).setCell ⟨w.heap.size + 1, n - 2, none⟩ (bv (UInt8.ofNat (l.length / 256)))).setCell ⟨w.heap.size + 1, n - 1, none⟩ (bv (UInt8.ofNat l.length))).alloc (.cells (kl zeros).toArray 23)) :=
      aft_alloc (((((below_alloc w _).trans (HB2.out.mono (Nat.le_succ _))).setCell (by show w.heap.size ≤ w.heap.size + 1; omega) _).setCell (by show w.heap.size ≤ w.heap.size + 1; omega) _).setCell (by show w.heap.size ≤ w.heap.size + 1; omega) _) _
    generalize (((w2.setCell ⟨w.heap.size + 1, l.length, none⟩ (.int .u8 128)).setCell ⟨w.heap.size + 1, n - 2, none⟩ (bv (UInt8.ofNat (l.length / 256)))).setCell ⟨w.heap.size + 1, n - 1, none⟩ (bv (UInt8.ofNat l.length))).alloc (.cells (kl zeros).toArray 23) = W3 at *
    generalize w2.heap.size = g2 at *
    have HPL := Lib.hid hpl; have K1 := Lib.hid k1; have K2 := Lib.hid k2; have K3 := Lib.hid k3; have K4 := Lib.hid k4; have HZ := Lib.hid hsz2
    clear hpad hpl k1 k2 k3 k4 c1 c2 c3 f1 f2 f3 hd1 hd2 hsz2 hmk
    go_loopw [47] (fun i wr => ∃ q : Nat, q ≤ 16 ∧ i = .int .i64 q ∧ wr.heap[w.heap.size + 1]? = some (.cells (kl (padded l)).toArray 5 (0, 0)) ∧ wr.heap[w.heap.size]? = some (.cells (kl zeros).toArray 23 (0, 0)) ∧
      wr.heap[g2]? = some (.cells (kl (startTo q)).toArray 23 (0, 0)) ∧ Below w.heap.size w wr) (fun i _ => 16 - (intOf i).toNat)
    case atStart => exact ⟨0, by omega, rfl, K1.out, K2.out, K3.out, K4.out⟩
    case round =>
      obtain ⟨q, hq, rfl, hx, hr, hy, hw⟩ := hrel
      have HX := Lib.hid hx; have HR := Lib.hid hr; have HY := Lib.hid hy; have HW := Lib.hid hw
      have hq0 : (0 : Int) ≤ q := by omega
      by_cases hlt : q < 16
      · have hq1 : (q : Int) < 16 := by omega
        have c0 := cell_kl hy (i := q) (by rw [startTo_length]; omega)
        have f := free_blk (i := q) hy
        clear hx hr hy hw
        go_wp2
        go_roundw
        case rel =>
          refine ⟨q + 1, by omega, by go_num, ?_, ?_, ?_, ?_⟩
          · rw [blk_far (by have := HZ.out; omega)]; exact HX.out
          · rw [blk_far (by have := HZ.out; omega)]; exact HR.out
          · rw [blk_set HY.out]; show some (Obj.cells ((kl (startTo q)).toArray.setIfInBounds q (bv 90)) 23 (0, 0)) = _; rw [kl_set]; rfl
          · exact HW.out.setCell (by show w.heap.size ≤ g2; have := HZ.out; omega) _
        case measure => simp [intOf]; omega
      · obtain rfl : q = 16 := by omega
        have hsl := sl_blk hx (by have := HPL.out; have : maxLen = 9223372036854775807 := rfl; omega) n HPL.out
        have hh : foldTo hashNext start (padded l) (((padded l).length + 15) / 16) = hashOf l := by
          unfold hashOf
          have := HPL.out; have := HN.out
          congr 1
          omega
        have HSL := Lib.hid hsl; have HH := Lib.hid hh
        have hal : (hashOf l).length = 16 := hashOf_length l
        clear hx hr hy hw hsl hh
        go_wp2_with (first
          | (refine wl_load g2 start start_length _ rfl rfl rfl HY.out ?_)
          | (go_at_call 59; refine (foldHash_any start start_length (padded l) _ n n _ HSL.out (by omega)).mono ?_; rw [HH.out]; rintro e w4 ⟨rfl, hb4⟩; have HB4 := Lib.hid hb4; clear hb4)
          | (refine wl_store w.heap.size (hashOf l) hal _ _ rfl rfl rfl rfl (blk_lives HR.out HB4.out) rfl ?_))
        exact bodyPost_ret (v := .tuple #[kv (hashOf l), .int .i64 0]) (res_key2 rfl _ _ w.heap.size _ hal _ rfl rfl (blk_row (blk_lives HR.out HB4.out))) rfl ⟨rfl, below_row (aft HW.out HB4.out) (Nat.le_refl _) _⟩
end Go.Proofs.Ytccojcjgknlhdaa
