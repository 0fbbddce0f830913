/-
  Blocks combined; the portions of the reference.
-/
import Derived.Test.YtccojcjgknlhdaaL2
namespace Go.Proofs.Ytccojcjgknlhdaa
open Go.RowKit
attribute [local go_sem] fold_zeros

def xorTo (a b : List UInt8) : Nat → List UInt8
  | 0 => a
  | n + 1 => (xorTo a b n).set n (a[n]?.getD 0 ^^^ b[n]?.getD 0)
theorem xorTo_length (a b : List UInt8) (n : Nat) : (xorTo a b n).length = a.length := by
  induction n with
  | zero => rfl
  | succ n ih => simp [xorTo, ih]
theorem xorTo_get (a b : List UInt8) (n j : Nat) (hj : j < a.length) : (xorTo a b n)[j]?.getD 0 = if j < n then a[j]?.getD 0 ^^^ b[j]?.getD 0 else a[j]?.getD 0 := by
  induction n with
  | zero => simp [xorTo]
  | succ n ih =>
    by_cases h : j = n
    · subst h; simp only [xorTo]; rw [List.getElem?_set_self (by rw [xorTo_length]; exact hj)]; simp
    · simp only [xorTo]; rw [List.getElem?_set_ne (by omega), ih]
      by_cases h1 : j < n
      · rw [if_pos h1, if_pos (by omega)]
      · rw [if_neg h1, if_neg (by omega)]
theorem xorl_get (a b : List UInt8) (hb : b.length = a.length) (j : Nat) (hj : j < a.length) : (xorl a b)[j]? = some (a[j]?.getD 0 ^^^ b[j]?.getD 0) := by
  simp [xorl, hj, hb]
theorem xorTo_all (a b : List UInt8) (ha : a.length = 16) (hb : b.length = 16) : xorTo a b 16 = xorl a b := by
  apply List.ext_getElem?
  intro j
  by_cases hj : j < 16
  · have h1 := xorTo_get a b 16 j (by omega)
    rw [if_pos hj] at h1
    rw [xorl_get a b (by omega) j (by omega), ← h1, List.getElem?_eq_getElem (by rw [xorTo_length]; omega)]; rfl
  · rw [List.getElem?_eq_none (by rw [xorTo_length]; omega), List.getElem?_eq_none (by rw [xorl_length ha hb]; omega)]
theorem xorl_self (a : List UInt8) (ha : a.length = 16) : xorl a a = zeros := by
  apply List.ext_getElem?
  intro j
  by_cases hj : j < 16
  · rw [xorl_get a a rfl j (by omega)]
    rw [zeros, List.getElem?_replicate, if_pos hj]; simp
  · rw [List.getElem?_eq_none (by rw [xorl_length ha ha]; omega), List.getElem?_eq_none (by simp; omega)]

set_option maxHeartbeats 2000000 in
theorem refXor_any (a b : List UInt8) (ha : a.length = 16) (hb : b.length = 16) (w : World) :
    Calls Try.prog 57 #[kv a, kv b] w fun e w' => e = .returned (kv (xorl a b)) ∧ Below w.heap.size w w' := by
  go_enter Try.func57, Try.ntmps57
  go_wp2
  go_loopw [5] (fun i wr => ∃ n : Nat, n ≤ 16 ∧ i = .int .i64 n ∧ wr.heap[w.heap.size]? = some (.cells (kl (xorTo a b n)).toArray 23 (0, 0)) ∧ wr.heap[w.heap.size + 1]? = some (.cells (kl b).toArray 23 (0, 0)) ∧
    wr.heap[w.heap.size + 1 + 1]? = some (.cells (kl zeros).toArray 23 (0, 0)) ∧ Below w.heap.size w wr) (fun i _ => 16 - (intOf i).toNat)
  case atStart => exact ⟨0, by omega, rfl, blk_keep (blk_keep (blk_last _ _) _) _, blk_keep (blk_last1 _ _ _) _, blk_last2 _ _ _ _, aft_alloc (aft_alloc (below_alloc _ _) _) _⟩
  case round =>
    obtain ⟨n, hn, rfl, hx, hy, hr, hw⟩ := hrel
    have HX := Lib.hid hx; have HY := Lib.hid hy; have HR := Lib.hid hr; have HW := Lib.hid hw
    by_cases hlt : n < 16
    · have c0 := cell_kl hx (i := n) (by rw [xorTo_length]; omega)
      have c1 := cell_kl hy (i := n) (by omega)
      have f := free_blk (i := n) hx
      have hg := xorTo_get a b n n (by omega)
      rw [if_neg (by omega)] at hg
      rw [hg] at c0
      have hn0 : (0 : Int) ≤ n := by omega
      have hn1 : (n : Int) < 16 := by omega
      clear hx hy hr hw hg
      go_wp2
      go_region
      go_wp2
      go_roundw
      case rel =>
        refine ⟨n + 1, by omega, by go_num, ?_, ?_, ?_, ?_⟩
        · rw [blk_drew, blk_set HX.out, kl_set]; simp [xorTo, ha, hb, hlt]
        · rw [blk_drew, blk_far (by omega)]; exact HY.out
        · rw [blk_drew, blk_far (by omega)]; exact HR.out
        · exact (HW.out.setCell (Nat.le_refl _) _).drew
      case measure => simp [intOf]; omega
    · obtain rfl : n = 16 := by omega
      have hk := xorTo_all a b ha hb
      rw [hk] at HX
      clear hx hy hr hw hk
      go_wp2_with (first
        | (refine wl_load w.heap.size (xorl a b) (xorl_length ha hb) _ rfl rfl rfl HX.out ?_)
        | (refine wl_store (w.heap.size + 1 + 1) (xorl a b) (xorl_length ha hb) _ _ rfl rfl rfl rfl HR.out rfl ?_))
      exact bodyPost_ret (v := kv (xorl a b)) (res_key rfl _ _ (w.heap.size + 1 + 1) _ (xorl_length ha hb) rfl (blk_row HR.out)) rfl ⟨rfl, below_row HW.out (by omega) _⟩

set_option maxHeartbeats 2000000 in
theorem xor_any (a b : List UInt8) (ha : a.length = 16) (hb : b.length = 16) (w : World) :
    Calls Try.prog 61 #[kv a, kv b] w fun e w' => e = .returned (kv (xorl a b)) ∧ Below w.heap.size w w' := by
  have hx0 : (((w.alloc (.cells (kl a).toArray 23)).alloc (.cells (kl b).toArray 23)).alloc (.cells (kl zeros).toArray 23)).heap[w.heap.size]? = some (.cells (kl a).toArray 23 (0, 0)) := blk_keep (blk_keep (blk_last _ _) _) _
  have hx1 : (((w.alloc (.cells (kl a).toArray 23)).alloc (.cells (kl b).toArray 23)).alloc (.cells (kl zeros).toArray 23)).heap[w.heap.size + 1]? = some (.cells (kl b).toArray 23 (0, 0)) := blk_keep (blk_last1 _ _ _) _
  have hx2 : (((w.alloc (.cells (kl a).toArray 23)).alloc (.cells (kl b).toArray 23)).alloc (.cells (kl zeros).toArray 23)).heap[w.heap.size + 1 + 1]? = some (.cells (kl zeros).toArray 23 (0, 0)) := blk_last2 _ _ _ _
  have hb0 : Below w.heap.size w (((w.alloc (.cells (kl a).toArray 23)).alloc (.cells (kl b).toArray 23)).alloc (.cells (kl zeros).toArray 23)) := aft_alloc (aft_alloc (below_alloc _ _) _) _
  have HX0 := Lib.hid hx0; have HX1 := Lib.hid hx1; have HX2 := Lib.hid hx2; have HB0 := Lib.hid hb0
  clear hx0 hx1 hx2 hb0
  by_cases hab : a = b
  · subst hab
    have hq := eq_true ha
    have hz := xorl_self a ha
    have HZ := Lib.hid hz
    clear hz
    go_enter Try.func61, Try.ntmps61
    go_wp2_with (first
      | (refine wl_load w.heap.size a ha _ rfl rfl rfl HX0.out ?_)
      | (refine wl_load (w.heap.size + 1) a ha _ rfl rfl rfl HX1.out ?_)
      | (refine wl_store (w.heap.size + 1 + 1) zeros (by simp) _ _ rfl rfl rfl rfl HX2.out rfl ?_))
    rw [HZ.out]
    exact bodyPost_ret (v := kv zeros) (res_key rfl _ _ (w.heap.size + 1 + 1) _ (by simp) rfl (blk_row HX2.out)) rfl ⟨rfl, below_row HB0.out (by omega) _⟩
  · have hq : ∀ w, (Op.equalIn 10000 23 (kv a) (kv b)).run Try.prog w = .ok false w := fun w => by rw [run_equal_kv a b ha hb, decide_eq_false hab]
    go_enter Try.func61, Try.ntmps61
    go_wp2_with (first
      | (refine wl_load w.heap.size a ha _ rfl rfl rfl HX0.out ?_)
      | (refine wl_load (w.heap.size + 1) b hb _ rfl rfl rfl HX1.out ?_))
    go_loopw [10] (fun i wr => ∃ n : Nat, n ≤ 16 ∧ i = .int .i64 n ∧ wr.heap[w.heap.size]? = some (.cells (kl (xorTo a b n)).toArray 23 (0, 0)) ∧ wr.heap[w.heap.size + 1]? = some (.cells (kl b).toArray 23 (0, 0)) ∧
      wr.heap[w.heap.size + 1 + 1]? = some (.cells (kl zeros).toArray 23 (0, 0)) ∧ Below w.heap.size w wr) (fun i _ => 16 - (intOf i).toNat)
    case atStart => exact ⟨0, by omega, rfl, HX0.out, HX1.out, HX2.out, HB0.out⟩
    case round =>
      obtain ⟨n, hn, rfl, hx, hy, hr, hw⟩ := hrel
      have HX := Lib.hid hx; have HY := Lib.hid hy; have HR := Lib.hid hr; have HW := Lib.hid hw
      by_cases hlt : n < 16
      · have c0 := cell_kl hx (i := n) (by rw [xorTo_length]; omega)
        have c1 := cell_kl hy (i := n) (by omega)
        have f := free_blk (i := n) hx
        have hg := xorTo_get a b n n (by omega)
        rw [if_neg (by omega)] at hg
        rw [hg] at c0
        have hn0 : (0 : Int) ≤ n := by omega
        have hn1 : (n : Int) < 16 := by omega
        clear hx hy hr hw hg
        go_wp2
        go_region
        go_wp2
        go_roundw
        case rel =>
          refine ⟨n + 1, by omega, by go_num, ?_, ?_, ?_, ?_⟩
          · rw [blk_drew, blk_set HX.out, kl_set]; simp [xorTo, ha, hb, hlt]
          · rw [blk_drew, blk_far (by omega)]; exact HY.out
          · rw [blk_drew, blk_far (by omega)]; exact HR.out
          · exact (HW.out.setCell (Nat.le_refl _) _).drew
        case measure => simp [intOf]; omega
      · obtain rfl : n = 16 := by omega
        have hk := xorTo_all a b ha hb
        rw [hk] at HX
        clear hx hy hr hw hk
        go_wp2_with (first
          | (refine wl_load w.heap.size (xorl a b) (xorl_length ha hb) _ rfl rfl rfl HX.out ?_)
          | (refine wl_store (w.heap.size + 1 + 1) (xorl a b) (xorl_length ha hb) _ _ rfl rfl rfl rfl HR.out rfl ?_))
        exact bodyPost_ret (v := kv (xorl a b)) (res_key rfl _ _ (w.heap.size + 1 + 1) _ (xorl_length ha hb) rfl (blk_row HR.out)) rfl ⟨rfl, below_row HW.out (by omega) _⟩

set_option maxHeartbeats 1000000 in
theorem refPortions_any (n : Nat) (hn : n ≤ 140737488355328) (A : Option Addr) (c : Nat) (w : World) :
    Calls Try.prog 56 #[.slice A n c] w fun e w' => e = .returned (.int .i64 (((n + 15) / 16 : Nat) : Int)) ∧ w' = w := by
  go_enter Try.func56, Try.ntmps56
  go_wp2
  go_ret
  refine ⟨?_, rfl⟩
  show Ending.returned (.int .i64 (((n : Int) + 15) / 16)) = _
  congr 2

theorem keyOf_portion (l : List UInt8) (i : Nat) : keyOf (l.drop (16 * i)) = portionAt l i := by
  unfold keyOf portionAt
  congr 1
  funext j
  rw [List.getD_eq_getElem?_getD, List.getD_eq_getElem?_getD, List.getElem?_drop]
theorem Sl.drop {w : World} {b off n c : Nat} {l : List UInt8} (h : Sl w (some ⟨b, off, none⟩) n c (kl l)) (k : Nat) (hk : k ≤ n) : Sl w (some ⟨b, off + k, none⟩) (n - k) (c - k) (kl (l.drop k)) := by
  obtain ⟨h1, h2, h3, h4, h5⟩ := h
  rw [kl_length] at h1
  refine ⟨by rw [kl_length, List.length_drop]; omega, by omega, by omega, fun _ => ⟨b, off + k, rfl⟩, fun b' o hA j v hv => ?_⟩
  simp only [Option.some.injEq, Addr.mk.injEq, and_true] at hA
  obtain ⟨rfl, rfl⟩ := hA
  have := h5 b off rfl (k + j) v (by
    rw [kl, List.getElem?_map, List.getElem?_drop] at hv
    rw [kl, List.getElem?_map]; exact hv)
  rw [Nat.add_assoc]; exact this

set_option maxHeartbeats 1000000 in
theorem refPortion_any (l : List UInt8) (A : Option Addr) (n c i : Nat) (w : World) (hs : Sl w A n c (kl l)) (hi : 16 * i < n) :
    Calls Try.prog 58 #[.slice A n c, .int .i64 (i : Int)] w fun e w' => e = .returned (kv (portionAt l i)) ∧ Below w.heap.size w w' := by
  obtain ⟨b, off, rfl⟩ := hs.2.2.2.1 (by have := hs.2.1; omega)
  have hc := hs.2.2.1
  have hn := hs.2.1
  have hm : maxLen = 9223372036854775807 := rfl
  have hd := hs.drop (16 * i) (by omega)
  have HD := Lib.hid hd
  have h0 : (0 : Int) ≤ 16 * (i : Int) := by omega
  have h1 : 16 * (i : Int) ≤ n := by omega
  have h2 : 16 * (i : Int) ≤ c := by omega
  have h3 : (16 * (i : Int)).toNat = 16 * i := by omega
  clear hs hd
  have hr1 : (w.alloc (.cells (kl zeros).toArray 23)).heap[w.heap.size]? = some (.cells (kl zeros).toArray 23 (0, 0)) := blk_last _ _
  have HR := Lib.hid hr1
  clear hr1
  go_enter Try.func58, Try.ntmps58
  go_wp2_with (first
    | (go_at_call 67; refine (key_any (l.drop (16 * i)) _ _ _ _ (HD.out.lives (below_alloc _ _))).mono ?_; rw [keyOf_portion]; rintro e w1 ⟨rfl, hb1⟩; have HB1 := Lib.hid hb1; clear hb1)
    | (refine wl_store w.heap.size (portionAt l i) (by simp) _ _ rfl rfl rfl rfl (blk_lives HR.out HB1.out) rfl ?_))
  exact bodyPost_ret (v := kv (portionAt l i)) (res_key rfl _ _ w.heap.size _ (by simp) rfl (blk_row (blk_lives HR.out HB1.out))) rfl ⟨rfl, below_row (aft (below_alloc _ _) HB1.out) (Nat.le_refl _) _⟩
end Go.Proofs.Ytccojcjgknlhdaa
