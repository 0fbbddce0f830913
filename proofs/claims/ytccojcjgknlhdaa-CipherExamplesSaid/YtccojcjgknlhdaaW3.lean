/-
  Walks 3: Decrypt.
-/
import Derived.Test.YtccojcjgknlhdaaW2
import Derived.Test.YtccojcjgknlhdaaTail
namespace Go.Proofs.Ytccojcjgknlhdaa
open Go.RowKit Go.Shelf
attribute [local go_sem] Oper.semAt_some wide_depth wide_fn

def keysTo (k : List UInt8) : Nat → List (BitVec 64)
  | 0 => List.replicate 32 0#64
  | i + 1 => (keysTo k i).set i (rkey k i)
theorem keysTo_length (k : List UInt8) (i : Nat) : (keysTo k i).length = 32 := by
  induction i with
  | zero => rfl
  | succ i ih => simp [keysTo, ih]
theorem keysTo_get (k : List UInt8) (i j : Nat) (hj : j < i) (hi : i ≤ 32) : (keysTo k i)[j]? = some (rkey k j) := by
  induction i with
  | zero => omega
  | succ i ih =>
    by_cases h : j = i
    · subst h; simp only [keysTo]; rw [List.getElem?_set_self (by rw [keysTo_length]; omega)]
    · simp only [keysTo]; rw [List.getElem?_set_ne (by omega)]; exact ih (by omega) (by omega)
theorem wl_zeros : (wl (keysTo [] 0)).toArray = #[.int .u64 0, .int .u64 0, .int .u64 0, .int .u64 0, .int .u64 0, .int .u64 0, .int .u64 0, .int .u64 0, .int .u64 0, .int .u64 0, .int .u64 0, .int .u64 0, .int .u64 0, .int .u64 0, .int .u64 0, .int .u64 0,
  .int .u64 0, .int .u64 0, .int .u64 0, .int .u64 0, .int .u64 0, .int .u64 0, .int .u64 0, .int .u64 0, .int .u64 0, .int .u64 0, .int .u64 0, .int .u64 0, .int .u64 0, .int .u64 0, .int .u64 0, .int .u64 0] := rfl

set_option maxRecDepth 100000 in
set_option maxHeartbeats 2000000 in
theorem decrypt_any (k b : List UInt8) (hk : k.length = 16) (hb : b.length = 16) (w : World) :
    Calls Try.prog 29 #[kv k, kv b] w fun e w' => e = .returned (kv (dec k b)) ∧ Below w.heap.size w w' := by
  refine (callsIn_wide (n := 3)).1 ?_
  refine callsIn_of_wp_marks Try.func29 rfl trivial ?_
  simp only [Try.ntmps29, List.size_toArray, List.length_cons, List.length_nil, Nat.reduceAdd, Nat.reduceSub, Array.replicate_succ, Array.replicate_zero, List.push_toArray, List.append_toArray, List.nil_append, List.cons_append]
  have hx0 : ∀ (o1 o2 o3 : Obj), ((((w.alloc (.cells (kl k).toArray 23)).alloc o1).alloc o2).alloc o3).heap[w.heap.size]? = some (.cells (kl k).toArray 23 (0, 0)) := fun o1 o2 o3 => blk_keep (blk_keep (blk_keep (blk_last _ _) _) _) _
  have hx1 : ∀ (o0 o1 o2 o3 : Obj), ((((w.alloc o0).alloc o1).alloc o2).alloc o3).heap[w.heap.size + 1]? = some o1 := fun o0 o1 o2 o3 => blk_keep (blk_keep (blk_last1 _ _ _) _) _
  have hx2 : ∀ (o0 o1 o2 o3 : Obj), ((((w.alloc o0).alloc o1).alloc o2).alloc o3).heap[w.heap.size + 1 + 1]? = some o2 := fun o0 o1 o2 o3 => blk_keep (blk_last2 _ _ _ _) _
  have hx3 : ∀ (o0 o1 o2 o3 : Obj), ((((w.alloc o0).alloc o1).alloc o2).alloc o3).heap[w.heap.size + 1 + 1 + 1]? = some o3 := fun o0 o1 o2 o3 => by
    have := blk_last2 (w.alloc o0) o1 o2 o3
    rwa [World.size_alloc] at this
  have HX0 := Lib.hid hx0; have HX1 := Lib.hid hx1; have HX2 := Lib.hid hx2; have HX3 := Lib.hid hx3
  clear hx0 hx1 hx2 hx3
  gi_wp2_with (first
    | (refine wi_load w.heap.size k hk _ rfl rfl rfl (HX0.out _ _ _) ?_)
    | (gi_at_call 47; refine (callsIn_wide.2 (keys_any k _)).mono ?_; rintro e w2 ⟨rfl, rfl⟩))
  obtain ⟨W1, hW1⟩ : ∃ W1, W1 = (((w.alloc (.cells (kl k).toArray 23)).alloc (.cells (kl b).toArray 23)).alloc (.cells (kl zeros).toArray 23)).alloc (.cells (wl (keysTo k 0)).toArray 79) := ⟨_, rfl⟩
  have hs1 : W1.heap.size = w.heap.size + 4 := by rw [hW1]; simp
  have hb1 : Below w.heap.size w W1 := by
    rw [hW1]; exact ((((Below.refl _ _).alloc (Nat.le_refl _) _).alloc (by simp) _).alloc (by simp; omega) _).alloc (by simp; omega) _
  have hy1 : W1.heap[w.heap.size + 1]? = some (.cells (kl b).toArray 23 (0, 0)) := by rw [hW1]; exact HX1.out _ _ _ _
  have hy2 : W1.heap[w.heap.size + 1 + 1]? = some (.cells (kl zeros).toArray 23 (0, 0)) := by rw [hW1]; exact HX2.out _ _ _ _
  have hy3 : W1.heap[w.heap.size + 1 + 1 + 1]? = some (.cells (wl (keysTo k 0)).toArray 79 (0, 0)) := by rw [hW1]; exact HX3.out _ _ _ _
  obtain ⟨W2, hW2⟩ : ∃ W2, W2 = W1.alloc (.cells (kl k).toArray 23) := ⟨_, rfl⟩
  have hg2 : W2.heap[w.heap.size + 4]? = some (.cells (kl k).toArray 23 (0, 0)) := by rw [hW2, ← hs1]; exact blk_last _ _
  have hb2 : Below w.heap.size w W2 := by rw [hW2]; exact hb1.alloc hb1.size _
  have hz1 : W2.heap[w.heap.size + 1]? = some (.cells (kl b).toArray 23 (0, 0)) := by rw [hW2]; exact blk_keep hy1 _
  have hz2 : W2.heap[w.heap.size + 1 + 1]? = some (.cells (kl zeros).toArray 23 (0, 0)) := by rw [hW2]; exact blk_keep hy2 _
  have hz3 : W2.heap[w.heap.size + 1 + 1 + 1]? = some (.cells (wl (keysTo k 0)).toArray 79 (0, 0)) := by rw [hW2]; exact blk_keep hy3 _
  have hsz : W2.heap.size = w.heap.size + 5 := by rw [hW2]; simp [hs1]
  have he : (((((w.alloc (.cells (kl k).toArray 23)).alloc (.cells (kl b).toArray 23)).alloc (.cells (kl zeros).toArray 23)).alloc (.cells (wl (keysTo k 0)).toArray 79)).alloc (.cells (kl k).toArray 23)) = W2 := by rw [hW2, hW1]
  have HE := Lib.hid he; have HB2 := Lib.hid hb2; have HG2 := Lib.hid hg2; have HZ1 := Lib.hid hz1; have HZ2 := Lib.hid hz2; have HZ3 := Lib.hid hz3; have HSZ := Lib.hid hsz
  clear he hb2 hg2 hz1 hz2 hz3 hsz hW2 hy1 hy2 hy3 hb1 hs1 hW1 HX0 HX1 HX2 HX3
  refine (show ∀ X, W2 = X → Code.wpIn Fence.wide 3 Try.prog _ _ _ X from ?_) _ HE.out.symm
  intro X hX
  subst hX
  refine range_law (gf := 68) (lb := #[.pointer (some ⟨w.heap.size + 4, 0, none⟩)]) rfl (enters_of Try.func68 (by kernel_rfl) rfl) (encs := encs k) (N := 32) (fun _ => rfl)
    (fun l J W hW hJ hY h0 => keys1_any _ k hk _ l J W (blk_lives HG2.out hW) hJ hY h0)
    (fun i W => W.heap[w.heap.size + 1 + 1 + 1]? = some (.cells (wl (keysTo k i)).toArray 79 (0, 0)) ∧ W.heap[w.heap.size + 1]? = some (.cells (kl b).toArray 23 (0, 0)) ∧ W.heap[w.heap.size + 1 + 1]? = some (.cells (kl zeros).toArray 23 (0, 0)) ∧ Below w.heap.size w W)
    (fun i A C h hAC => ⟨(hAC.block _ (lt_blk HZ3.out)).trans h.1, (hAC.block _ (lt_blk HZ1.out)).trans h.2.1, (hAC.block _ (lt_blk HZ2.out)).trans h.2.2.1, h.2.2.2.trans (hAC.mono HB2.out.size)⟩)
    ⟨HZ3.out, HZ1.out, HZ2.out, HB2.out⟩
    (fun i => { tmps := #[kv k, kv b, .pointer (some ⟨w.heap.size, 0, none⟩), .pointer (some ⟨w.heap.size + 1, 0, none⟩), .pointer (some ⟨w.heap.size + 1 + 1, 0, none⟩), .pointer (some ⟨w.heap.size + 1 + 1 + 1, 0, none⟩), .int .i64 (i : Int), wv (rkey k i), undef, undef, kv k,
      .func (.func 68) #[] #[.pointer (some ⟨w.heap.size + 4, 0, none⟩)], .int .i64 (i : Int), wv (rkey k i), undef, undef, undef, undef, undef, undef, undef, undef, undef, undef, undef, undef, undef, undef, undef, undef], defers := [] }) ?assign ?body ?done
  case assign =>
    intro l i W K hK
    dsimp only [encs]
    gi_wp2
    exact hK
  case body =>
    rintro l i W hi ⟨ha, hb, hr, hw⟩ hlt
    have p0 := cell_wl ha (i := i) (List.getElem?_eq_getElem (by rw [keysTo_length]; exact hi))
    have f0 := free_blk (i := i) ha
    have hi0 : (0 : Int) ≤ i := by omega
    have hi1 : (i : Int) < 32 := by omega
    have HA := Lib.hid ha; have HB := Lib.hid hb; have HR := Lib.hid hr; have HW := Lib.hid hw
    clear ha hb hr hw
    gi_wp2
    refine ⟨⟨?_, ?_, ?_, ?_⟩, ?_⟩
    · rw [blk_set HA.out, wl_set]; rfl
    · rw [blk_far (by omega)]; exact HB.out
    · rw [blk_far (by omega)]; exact HR.out
    · exact HW.out.setCell (by show w.heap.size ≤ w.heap.size + 1 + 1 + 1; omega) _
    · exact (Above.refl _ _).setCell (by have := HSZ.out; omega) _
  case done =>
    rintro W ⟨ha, hb, hr, hw⟩ hD
    have HA := Lib.hid ha; have HB := Lib.hid hb; have HR := Lib.hid hr; have HW := Lib.hid hw; have HD0 := Lib.hid hD
    clear ha hb hr hw hD
    gi_wp2_with (first
      | (refine wi_load (w.heap.size + 1) b hb _ rfl rfl rfl HB.out ?_)
      | (gi_at_call 45; refine (callsIn_wide.2 (words_any b hb _)).mono ?_; rintro e w1 ⟨rfl, hb1⟩; have HB1 := Lib.hid hb1; clear hb1))
    gi_loopw [9] (fun i wr => ∃ m : Nat, m ≤ 32 ∧ i = .int .i64 (31 - (m : Int)) ∧ wr.heap[w.heap.size + 1 + 1 + 1]? = some (.cells (wl (keysTo k 32)).toArray 79 (0, 0)) ∧ wr.heap[w.heap.size + 1 + 1]? = some (.cells (kl zeros).toArray 23 (0, 0)) ∧
        wr.heap[w1.heap.size]? = some (.cells #[wv (decTo k (wordsOf b) m).1, wv (decTo k (wordsOf b) m).2] 65 (0, 0)) ∧ wr.heap[W2.heap.size]? = some (.deferred (some [])) ∧ Below w.heap.size w wr) (fun i _ => (intOf i + 1).toNat)
    case atStart =>
      refine ⟨0, by omega, rfl, ?_, ?_, ?_, ?_, ?_⟩
      · exact blk_keep (blk_lives HA.out HB1.out) _
      · exact blk_keep (blk_lives HR.out HB1.out) _
      · exact blk_last _ _
      · exact blk_keep (blk_lives HD0.out HB1.out) _
      · exact (HW.out.trans (HB1.out.mono HW.out.size)).alloc (by have := HW.out.size; have := HB1.out.size; omega) _
    case round =>
      obtain ⟨m, hm, rfl, ha, hr, hp, hd, hw⟩ := hrel
      by_cases hlt : m < 32
      · have c0 := cell_wl ha (i := 31 - m) (keysTo_get k 32 (31 - m) (by omega) (by omega))
        have p0 := cell_blk hp (i := 0) (v := wv (decTo k (wordsOf b) m).1) rfl
        have p1 := cell_blk hp (i := 1) (v := wv (decTo k (wordsOf b) m).2) rfl
        have f0 := free_blk (i := 0) hp
        have f1 := free_blk (i := 1) hp
        have hm0 : (m : Int) < 32 := by omega
        have hm1 : (m : Int) ≤ 31 := by omega
        have hm2 : (0 : Int) ≤ 31 - m := by omega
        have hm3 : (31 : Int) - m < 32 := by omega
        have HA := Lib.hid ha; have HR := Lib.hid hr; have HP := Lib.hid hp; have HD := Lib.hid hd; have HW := Lib.hid hw
        clear ha hr hp hd hw
        gi_wp2
        refine wpIn_wide.2 ?_
        have k0 : ∀ e : Later wr, e.at.cell? ⟨w.heap.size + 1 + 1 + 1, 31 - m, none⟩ = some (wv (rkey k (31 - m))) := Later.cell c0
        have k1 : ∀ e : Later wr, e.at.cell? ⟨w1.heap.size, 0, none⟩ = some (wv (decTo k (wordsOf b) m).1) := Later.cell p0
        have k2 : ∀ e : Later wr, e.at.cell? ⟨w1.heap.size, 1, none⟩ = some (wv (decTo k (wordsOf b) m).2) := Later.cell p1
        have k3 : ∀ e : Later wr, e.at.frozen? ⟨w1.heap.size, 0, none⟩ = false := Later.free p0 f0
        have k4 : ∀ e : Later wr, e.at.frozen? ⟨w1.heap.size, 1, none⟩ = false := Later.free p1 f1
        refine wp_quiet_tail 5 (LaterC wr) (by kernel_rfl) (by kernel_rfl) (later_drew _) ?_
        simp only [List.take_succ_cons, List.take_zero, List.drop_succ_cons, List.drop_zero]
        repeat (go_big_quiet_step ((exact later_call _ (back_any _ _ _ _))))
        refine wpQuiet_nil ?_
        rintro _ ⟨e, rfl⟩
        go_wp2
        gi_wp2
        have hlt1 : W2.heap.size < w1.heap.size := by have := lt_blk (blk_lives HD0.out HB1.out); omega
        refine ⟨⟨m + 1, by omega, ?_, ?_, ?_, ?_, ?_, ?_⟩, ?_⟩
        · congr 1; omega
        · rw [blk_far (by have := HSZ.out; omega), blk_far (by have := HSZ.out; omega)]; exact e.blk HA.out
        · rw [blk_far (by have := HSZ.out; omega), blk_far (by have := HSZ.out; omega)]; exact e.blk HR.out
        · rw [blk_set (blk_set (e.blk HP.out))]; rfl
        · rw [blk_far (by omega), blk_far (by omega)]; exact e.blk HD.out
        · exact ((HW.out.trans (e.below.mono HW.out.size)).setCell (by show w.heap.size ≤ w1.heap.size; have := HSZ.out; omega) _).setCell (by show w.heap.size ≤ w1.heap.size; have := HSZ.out; omega) _
        · simp [intOf]; omega
      · obtain rfl : m = 32 := by omega
        have p0 := cell_blk hp (i := 0) (v := wv (decTo k (wordsOf b) 32).1) rfl
        have p1 := cell_blk hp (i := 1) (v := wv (decTo k (wordsOf b) 32).2) rfl
        have hneg : (31 : Int) - ((32 : Nat) : Int) < 0 := by omega
        have HR := Lib.hid hr; have HD := Lib.hid hd; have HW := Lib.hid hw
        clear ha hr hp hd hw
        gi_wp2_with (first
          | (gi_at_call 49; refine (callsIn_wide.2 (block_any (decTo k (wordsOf b) 32).1 (decTo k (wordsOf b) 32).2 _)).mono ?_; rintro e w3 ⟨rfl, hb3⟩
             have HB3 := Lib.hid hb3
             clear hb3)
          | (refine wi_store (w.heap.size + 1 + 1) (dec k b) (by simp) _ _ rfl rfl rfl rfl (blk_lives HR.out HB3.out) rfl ?_))
        have hD3 : (w3.setRow (w.heap.size + 1 + 1) (kl (dec k b)).toArray).heap[W2.heap.size]? = some (.deferred (some [])) := by
          rw [blk_rowfar (by have := HSZ.out; omega)]; exact blk_lives HD.out HB3.out
        refine ⟨by simp, .inl ⟨_, _, rfl, run_takeDeferred hD3, ?_⟩⟩
        refine ⟨kv (dec k b), res_key rfl _ _ (w.heap.size + 1 + 1) _ (by simp) rfl ((World.putObj_heap_other (by have := HSZ.out; omega)).trans (blk_row (blk_lives HR.out HB3.out))), rfl, ?_⟩
        exact (below_row (HW.out.trans (HB3.out.mono HW.out.size)) (by omega) _).trans (below_put _ _ (by have := HSZ.out; omega))
end Go.Proofs.Ytccojcjgknlhdaa
