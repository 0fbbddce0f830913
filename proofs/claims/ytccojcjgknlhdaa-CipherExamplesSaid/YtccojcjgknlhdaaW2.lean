/-
  Walks 2: the block of a tag, the iterator of the round keys, Encrypt.
-/
import Derived.Test.YtccojcjgknlhdaaW1
import Derived.Test.YtccojcjgknlhdaaRange
import Derived.OwnWalkIn
import Derived.TacticsInMore
import Derived.LoopNIn
import Derived.LoopIn
import Derived.RangeFuncCalls
namespace Go.Proofs.Ytccojcjgknlhdaa
open Go.RowKit Go.Shelf
attribute [local go_sem] Oper.semAt_some

theorem wide_depth : Fence.wide.depth = none := rfl
theorem wide_fn (f : FuncId) : Fence.wide.fn f = True := rfl
attribute [local go_sem] wide_depth wide_fn

set_option maxHeartbeats 1000000 in
theorem keys_any (k : List UInt8) (w : World) :
    Calls Try.prog 47 #[kv k] w fun e w' => e = .returned (.func (.func 68) #[] #[.pointer (some ⟨w.heap.size, 0, none⟩)]) ∧ w' = w.alloc (.cells (kl k).toArray 23) := by
  go_enter Try.func47, Try.ntmps47
  go_wp2
  go_ret
  exact ⟨rfl, rfl⟩

def encs (k : List UInt8) (i : Nat) : Array Value := #[.int .i64 (i : Int), wv (rkey k i)]

set_option maxHeartbeats 2000000 in
theorem keys1_any (n : Nat) (k : List UInt8) (hk : k.length = 16) (g : Nat) (l : Nat) (J : Nat → World → Prop) (W : World) (hg : W.heap[g]? = some (.cells (kl k).toArray 23 (0, 0)))
    (hJ : ∀ i A C, J i A → Below W.heap.size A C → J i C)
    (hY : ∀ i W1, i < 32 → J i W1 → YieldAt Fence.wide (n - 1) Try.prog l (encs k i) W1 fun e W' => e = .returned (.bool true) ∧ J (i + 1) W' ∧ Above W.heap.size W1 W') (h0 : J 0 W) :
    CallsIn Fence.wide n Try.prog 68 (#[.func (.yield l) #[] #[]] ++ #[.pointer (some ⟨g, 0, none⟩)]) W fun e W' => (∃ v, e = .returned v) ∧ J 32 W' := by
  refine callsIn_of_wp Try.func68 rfl trivial ?_
  simp only [Try.ntmps68, List.size_toArray, List.length_cons, List.length_nil, Nat.reduceAdd, Nat.reduceSub, Array.replicate_succ, Array.replicate_zero, List.push_toArray, List.append_toArray, List.nil_append, List.cons_append]
  have HG := Lib.hid hg; have HJ := Lib.hid hJ; have HY := Lib.hid hY; have H0 := Lib.hid h0
  clear hg hJ hY h0
  gi_wp2_with (first
    | (refine wi_load g k hk _ rfl rfl rfl HG.out ?_)
    | (gi_at_call 45; refine (callsIn_wide.2 (words_any k hk _)).mono ?_; rintro e w1 ⟨rfl, hb1⟩; have HB1 := Lib.hid hb1; clear hb1))
  gi_loopw [7] (fun i wr => ∃ m : Nat, m ≤ 32 ∧ i = .int .i64 m ∧ J m wr ∧ wr.heap[w1.heap.size]? = some (.cells #[wv (sched k m).1, wv (sched k m).2] 65 (0, 0)) ∧ W.heap.size ≤ w1.heap.size) (fun i _ => 32 - (intOf i).toNat)
  case atStart =>
    refine ⟨0, by omega, rfl, HJ.out _ _ _ H0.out (HB1.out.alloc HB1.out.size _), heap_alloc_new _ _, HB1.out.size⟩
  case round =>
    obtain ⟨m, hm, rfl, hj, hp, hz⟩ := hrel
    by_cases hlt : m < 32
    · have hm0 : (m : Int) < 32 := by omega
      have p0 := cell_blk hp (i := 0) (v := wv (sched k m).1) rfl
      have p1 := cell_blk hp (i := 1) (v := wv (sched k m).2) rfl
      obtain ⟨fn, tmps, assign, body, hy, hR⟩ := HY.out m wr hlt hj
      dsimp only [encs, rkey] at hy
      have HP := Lib.hid hp; have HR := Lib.hid hR
      clear hp hR
      gi_wp2
      refine HR.out.mono ?_
      rintro e w2 ⟨rfl, hj2, hab⟩
      have hp2 := (hab.2 w1.heap.size hz (lt_blk HP.out)).trans HP.out
      have q0 := cell_blk hp2 (i := 0) (v := wv (sched k m).1) rfl
      have q1 := cell_blk hp2 (i := 1) (v := wv (sched k m).2) rfl
      have HP2 := Lib.hid hp2; have HAB := Lib.hid hab
      clear hp2 hab p0 p1 hy
      gi_wp2_with fail
      rw [wv_nat (by omega)]
      refine (callsIn_wide.2 (round_any _ _ _ _)).mono ?_
      rintro e w3 ⟨rfl, hb3⟩
      have hp3 := (hb3.block w1.heap.size (lt_blk HP2.out)).trans HP2.out
      have r0 := cell_blk hp3 (i := 0) (v := wv (sched k m).1) rfl
      have r1 := cell_blk hp3 (i := 1) (v := wv (sched k m).2) rfl
      have f0 := free_blk (i := 0) hp3
      have f1 := free_blk (i := 1) hp3
      have HP3 := Lib.hid hp3; have HB3 := Lib.hid hb3
      clear hp3 hb3 q0 q1
      gi_wp2
      have hle : W.heap.size ≤ w2.heap.size := by have := lt_blk HP2.out; omega
      refine ⟨⟨m + 1, by omega, by go_num, HJ.out _ _ _ hj2 (((HB3.out.mono hle).setCell hz _).setCell hz _), ?_, hz⟩, by simp [intOf]; omega⟩
      rw [blk_set (blk_set HP3.out)]
      rfl
    · obtain rfl : m = 32 := by omega
      clear hp
      gi_wp2
      go_end0
      exact ⟨⟨_, rfl⟩, hj⟩

set_option maxHeartbeats 1000000 in
theorem blockOf_any (t : UInt8) (c n : BitVec 64) (w : World) :
    Calls Try.prog 43 #[bv t, wv c, wv n] w fun e w' => e = .returned (kv (tagBlock t c n)) ∧ Below w.heap.size w w' := by
  go_enter Try.func43, Try.ntmps43
  go_wp2_with fail
  refine (block_any _ _ _).mono ?_
  rintro e w1 ⟨rfl, hb⟩
  have hr : w1.heap[w.heap.size]? = some (.cells (kl zeros).toArray 23 (0, 0)) := by
    exact blk_lives (blk_last _ _) hb
  have HR := Lib.hid hr; have HB := Lib.hid hb
  clear hr hb
  go_wp2_with (first
        | (refine wl_store w.heap.size (tagBlock t c n) (by simp) _ _ rfl rfl rfl rfl HR.out rfl ?_))
  exact bodyPost_ret (v := kv (tagBlock t c n)) (res_key rfl _ _ w.heap.size _ (by simp) rfl (blk_row HR.out)) rfl ⟨rfl, below_row (((Below.refl _ _).alloc (Nat.le_refl _) _).trans (HB.out.mono (by simp))) (by omega) _⟩

set_option maxRecDepth 100000 in
set_option maxHeartbeats 2000000 in
theorem encrypt_any (k b : List UInt8) (hk : k.length = 16) (hb : b.length = 16) (w : World) :
    Calls Try.prog 27 #[kv k, kv b] w fun e w' => e = .returned (kv (enc k b)) ∧ Below w.heap.size w w' := by
  refine (callsIn_wide (n := 3)).1 ?_
  refine callsIn_of_wp_marks Try.func27 rfl trivial ?_
  simp only [Try.ntmps27, List.size_toArray, List.length_cons, List.length_nil, Nat.reduceAdd, Nat.reduceSub, Array.replicate_succ, Array.replicate_zero, List.push_toArray, List.append_toArray, List.nil_append, List.cons_append]
  gi_wp2_with (first
    | (refine wi_load (w.heap.size + 1) b hb _ rfl rfl rfl (blk_keep (blk_last1 _ _ _) _) ?_)
    | (gi_at_call 45; refine (callsIn_wide.2 (words_any b hb _)).mono ?_; rintro e w1 ⟨rfl, hb1⟩
       have HK := Lib.hid (blk_lives (blk_keep (blk_keep (blk_last _ _) _) _) hb1)
       have HR := Lib.hid (blk_lives (blk_last2 _ _ _ _) hb1)
       have HB1 := Lib.hid hb1
       clear hb1)
    | (refine wi_load w.heap.size k hk _ rfl rfl rfl (blk_keep HK.out _) ?_)
    | (gi_at_call 47; refine (callsIn_wide.2 (keys_any k _)).mono ?_; rintro e w2 ⟨rfl, rfl⟩))
  obtain ⟨W2, hW2⟩ : ∃ W2, W2 = (w1.alloc (.cells #[wv (wordsOf b).1, wv (wordsOf b).2] 65)).alloc (.cells (kl k).toArray 23) := ⟨_, rfl⟩
  have hs2 : W2.heap.size = w1.heap.size + 2 := by rw [hW2]; simp
  have hb2 : Below w.heap.size w W2 := by
    rw [hW2]
    have h1 := HB1.out
    have hle : w.heap.size + 3 ≤ w1.heap.size := by have := h1.size; simpa using this
    exact (((((((Below.refl _ _).alloc (Nat.le_refl _) _).alloc (by simp) _).alloc (by simp; omega) _).trans (h1.mono (by simp; omega))).alloc (by omega) _).alloc (by simp; omega) _)
  have hp2 : W2.heap[w1.heap.size]? = some (.cells #[wv (wordsOf b).1, wv (wordsOf b).2] 65 (0, 0)) := by
    rw [hW2]; exact blk_keep (blk_last _ _) _
  have hg2 : W2.heap[w1.heap.size + 1]? = some (.cells (kl k).toArray 23 (0, 0)) := by
    rw [hW2]; exact blk_last1 _ _ _
  have hr2 : W2.heap[w.heap.size + 1 + 1]? = some (.cells (kl zeros).toArray 23 (0, 0)) := by
    rw [hW2]; exact blk_keep (blk_keep HR.out _) _
  rw [← hW2]
  have HS2 := Lib.hid hs2; have HW2 := Lib.hid hW2; have HB2 := Lib.hid hb2; have HP2 := Lib.hid hp2; have HG2 := Lib.hid hg2; have HR2 := Lib.hid hr2
  clear hs2 hW2 hb2 hp2 hg2 hr2
  refine range_law (gf := 68) (lb := #[.pointer (some ⟨w1.heap.size + 1, 0, none⟩)]) rfl (enters_of Try.func68 (by kernel_rfl) rfl) (encs := encs k) (N := 32) (fun _ => rfl)
    (fun l J W hW hJ hY h0 => keys1_any _ k hk _ l J W (blk_lives HG2.out hW) hJ hY h0)
    (fun i W => W.heap[w1.heap.size]? = some (.cells #[wv (encTo k (wordsOf b) i).1, wv (encTo k (wordsOf b) i).2] 65 (0, 0)) ∧ W.heap[w.heap.size + 1 + 1]? = some (.cells (kl zeros).toArray 23 (0, 0)) ∧ Below w.heap.size w W)
    (fun i A C h hAC => ⟨(hAC.block _ (lt_blk HP2.out)).trans h.1, (hAC.block _ (lt_blk HR2.out)).trans h.2.1, h.2.2.trans (hAC.mono HB2.out.size)⟩)
    ⟨HP2.out, HR2.out, HB2.out⟩
    (fun i => { tmps := #[kv k, kv b, .pointer (some ⟨w.heap.size, 0, none⟩), .pointer (some ⟨w.heap.size + 1, 0, none⟩), .pointer (some ⟨w.heap.size + 1 + 1, 0, none⟩), .pointer (some ⟨w1.heap.size, 0, none⟩), undef, wv (rkey k i), kv b, pv (wordsOf b), kv k,
      .func (.func 68) #[] #[.pointer (some ⟨w1.heap.size + 1, 0, none⟩)], .int .i64 (i : Int), wv (rkey k i), undef, undef, undef, undef, undef], defers := [] }) ?assign ?body ?done
  case assign =>
    intro l i W K hK
    dsimp only [encs]
    gi_wp2
    exact hK
  case body =>
    rintro l i W hi ⟨hp, hr, hw⟩ hlt
    have p0 := cell_blk hp (i := 0) (v := wv (encTo k (wordsOf b) i).1) rfl
    have p1 := cell_blk hp (i := 1) (v := wv (encTo k (wordsOf b) i).2) rfl
    have HP := Lib.hid hp; have HR := Lib.hid hr; have HW := Lib.hid hw
    clear hp hr hw
    gi_wp2_with fail
    refine (CallsIn.inRound l (callsIn_wide.2 (round_any _ _ _ _))).mono ?_
    rintro e w3 ⟨rfl, hb3⟩
    have hp3 := blk_lives HP.out hb3
    have r0 := cell_blk hp3 (i := 0) (v := wv (encTo k (wordsOf b) i).1) rfl
    have r1 := cell_blk hp3 (i := 1) (v := wv (encTo k (wordsOf b) i).2) rfl
    have f0 := free_blk (i := 0) hp3
    have f1 := free_blk (i := 1) hp3
    have HP3 := Lib.hid hp3; have HB3 := Lib.hid hb3
    clear hp3 hb3 p0 p1
    gi_wp2
    have hlt1 : w1.heap.size < W2.heap.size := lt_blk HP2.out
    have hle1 : w.heap.size + 3 ≤ w1.heap.size := by have := HB1.out.size; simpa using this
    have hle2 : w.heap.size ≤ W.heap.size := HW.out.size
    refine ⟨⟨?_, ?_, ?_⟩, ?_⟩
    · rw [blk_set (blk_set HP3.out)]; rfl
    · rw [blk_far (by omega), blk_far (by omega)]; exact blk_lives HR.out HB3.out
    · exact ((HW.out.trans (HB3.out.mono hle2)).setCell (by show w.heap.size ≤ w1.heap.size; omega) _).setCell (by show w.heap.size ≤ w1.heap.size; omega) _
    · exact ((Above.below HB3.out (Nat.le_refl _)).setCell hlt1 _).setCell hlt1 _
  case done =>
    rintro W ⟨hp, hr, hw⟩ hD
    have p0 := cell_blk hp (i := 0) (v := wv (encTo k (wordsOf b) 32).1) rfl
    have p1 := cell_blk hp (i := 1) (v := wv (encTo k (wordsOf b) 32).2) rfl
    have HP := Lib.hid hp; have HR' := Lib.hid hr; have HW := Lib.hid hw; have HD := Lib.hid hD
    clear hp hr hw hD
    gi_wp2_with (first
      | (gi_at_call 49; refine (callsIn_wide.2 (block_any (encTo k (wordsOf b) 32).1 (encTo k (wordsOf b) 32).2 _)).mono ?_; rintro e w3 ⟨rfl, hb3⟩
         have HB3 := Lib.hid hb3
         clear hb3)
      | (refine wi_store (w.heap.size + 1 + 1) (enc k b) (by simp) _ _ rfl rfl rfl rfl (blk_lives HR'.out HB3.out) rfl ?_))
    have hlt1 : w1.heap.size < W2.heap.size := lt_blk HP2.out
    have hle1 : w.heap.size + 3 ≤ w1.heap.size := by have := HB1.out.size; simpa using this
    have hD3 : (w3.setRow (w.heap.size + 1 + 1) (kl (enc k b)).toArray).heap[W2.heap.size]? = some (.deferred (some [])) := by
      rw [blk_rowfar (by omega)]; exact blk_lives HD.out HB3.out
    refine ⟨by simp, .inl ⟨_, _, rfl, run_takeDeferred hD3, ?_⟩⟩
    refine ⟨kv (enc k b), res_key rfl _ _ (w.heap.size + 1 + 1) _ (by simp) rfl ((World.putObj_heap_other (by omega)).trans (blk_row (blk_lives HR'.out HB3.out))), rfl, ?_⟩
    exact (below_row (HW.out.trans (HB3.out.mono HW.out.size)) (by omega) _).trans (below_put _ _ (by omega))
end Go.Proofs.Ytccojcjgknlhdaa
