/-
  Walks 5, of the reference: rotations, the number in some bytes, the words of a block.
-/
import Derived.Test.YtccojcjgknlhdaaW1
import Derived.Test.YtccojcjgknlhdaaSl
namespace Go.Proofs.Ytccojcjgknlhdaa
open Go.RowKit

theorem rl_or (x : BitVec 64) (s : Nat) (hs : s ≤ 64) : x >>> s ||| x <<< (64 - s) = rl x (64 - s) := by
  rw [rl, BitVec.or_comm, show 64 - (64 - s) = s by omega]
theorem be_step (x : BitVec 64) (b : UInt8) : BitVec.ofInt 64 256 * x + wide b = x <<< 8 ||| wide b := by
  have h1 : BitVec.ofInt 64 256 * x = x <<< 8 := by
    apply BitVec.eq_of_toNat_eq
    rw [BitVec.toNat_mul, BitVec.toNat_shiftLeft, Nat.shiftLeft_eq, Nat.mul_comm]
    rfl
  rw [h1]
  refine BitVec.add_eq_or_of_and_eq_zero _ _ ?_
  ext i hi
  simp only [BitVec.getElem_and, BitVec.getElem_shiftLeft, BitVec.getElem_zero, wide, BitVec.getElem_setWidth]
  by_cases h : i < 8
  · simp [h]
  · simp [BitVec.getLsbD_of_ge _ _ (Nat.le_of_not_lt h)]

set_option maxHeartbeats 400000 in
theorem rotr_any (x : BitVec 64) (s : Nat) (hs : s ≤ 64) (w : World) :
    Calls Try.prog 52 #[wv x, .int .i64 (s : Int)] w fun e w' => e = .returned (wv (rl x (64 - s))) ∧ Below w.heap.size w w' := by
  have h1 : (s : Int) ≤ 64 := by omega
  go_enter Try.func52, Try.ntmps52
  go_wp2
  go_region
  go_wp2
  go_ret
  refine ⟨?_, drawn (Below.refl _ _) _⟩
  simp [← rl_or x s hs]

set_option maxHeartbeats 400000 in
theorem rotl_any (x : BitVec 64) (s : Nat) (hs : s ≤ 64) (w : World) :
    Calls Try.prog 53 #[wv x, .int .i64 (s : Int)] w fun e w' => e = .returned (wv (rl x s)) ∧ Below w.heap.size w w' := by
  have h1 : (s : Int) ≤ 64 := by omega
  have h2 : (64 : Int) - (s : Int) = ((64 - s : Nat) : Int) := by omega
  have h3 : IntKind.i64.wrap ((64 : Int) - (s : Int)) = ((64 - s : Nat) : Int) := by rw [h2]; exact IntWalk.i64_in _ (by omega)
  have h4 : 64 - (64 - s) = s := by omega
  clear h2
  go_enter Try.func53, Try.ntmps53
  go_wp2_with ((go_at_call 52; (try rw [h3]); refine (rotr_any x (64 - s) (by omega) _).mono ?_; rw [h4]; rintro e w1 ⟨rfl, hb1⟩; have HB1 := Lib.hid hb1; clear hb1))
  go_ret
  exact ⟨rfl, HB1.out⟩

set_option maxHeartbeats 1000000 in
theorem value_any (l : List UInt8) (w : World) (A : Option Addr) (n c : Nat) (hs : Sl w A n c (kl l)) :
    Calls Try.prog 46 #[.slice A n c] w fun e w' => e = .returned (wv (be l)) ∧ w' = w := by
  obtain rfl : n = l.length := by have := hs.1; rw [kl_length] at this; exact this.symm
  have HS := Lib.hid hs
  have hmax : l.length ≤ maxLen := by have := hs.2.1; have := hs.2.2.1; omega
  clear hs
  go_enter Try.func46, Try.ntmps46
  go_wp2
  go_loopw [3, 4] (fun m i wr => ∃ n : Nat, n ≤ l.length ∧ i = .int .i64 n ∧ m = wv (be (l.take n)) ∧ wr = w) (fun _ i _ => l.length - (intOf i).toNat)
  case atStart => exact ⟨0, by omega, rfl, rfl, rfl⟩
  case round =>
    obtain ⟨n, hn, rfl, rfl, rfl⟩ := hrel
    have hm1 : maxLen = 9223372036854775807 := rfl
    by_cases hlt : n < l.length
    · obtain ⟨b, off, rfl, hc⟩ := HS.out.at (kl_get hlt)
      have hn0 : (0 : Int) ≤ n := by omega
      have hn1 : (n : Int) < l.length := by omega
      go_wp2
      go_roundw
      case rel => 
        refine ⟨n + 1, by omega, by go_num, ?_, trivial⟩
        rw [take_snoc _ _ hlt, be_snoc, ← be_step]
        simp [hlt]
      case measure => simp [intOf]; omega
    · obtain rfl : n = l.length := by omega
      go_wp2
      go_ret
      rw [List.take_length]
      exact ⟨rfl, rfl⟩

theorem sl_key {w : World} {g : Nat} {k : List UInt8} {t : TypeId} {fr : Nat × Nat} (hk : k.length = 16) (h : w.heap[g]? = some (.cells (kl k).toArray t fr)) (off n : Nat) (hn : off + n ≤ 16) :
    Sl w (some ⟨g, off, none⟩) n (16 - off) (kl ((k.drop off).take n)) := by
  have h1 := Sl.of_blk h (by rw [kl_size hk]; decide) off n (by rw [kl_size hk]; exact hn)
  rw [kl_size hk] at h1
  have h2 : (kl ((k.drop off).take n)) = (((kl k).toArray.toList.drop off).take n) := by simp [kl, List.map_take, List.map_drop]
  rw [h2]; exact h1

set_option maxHeartbeats 1000000 in
theorem refWords_any (k : List UInt8) (hk : k.length = 16) (w : World) :
    Calls Try.prog 50 #[kv k] w fun e w' => e = .returned (.tuple #[wv (wordsOf k).1, wv (wordsOf k).2]) ∧ Below w.heap.size w w' := by
  go_enter Try.func50, Try.ntmps50
  go_wp2
  have hs1 : Sl (w.alloc (.cells (kl k).toArray 23)) (some ⟨w.heap.size, 0, none⟩) 8 16 (kl (k.take 8)) := sl_key hk (blk_last _ _) 0 8 (by omega)
  have hs2 : Sl (w.alloc (.cells (kl k).toArray 23)) (some ⟨w.heap.size, 8, none⟩) 8 8 (kl ((k.drop 8).take 8)) := sl_key hk (blk_last _ _) 8 8 (by omega)
  have hb1 : Below w.heap.size w (w.alloc (.cells (kl k).toArray 23)) := (Below.refl _ _).alloc (Nat.le_refl _) _
  generalize w.alloc (.cells (kl k).toArray 23) = W at *
  have HS1 := Lib.hid hs1; have HS2 := Lib.hid hs2; have HB := Lib.hid hb1
  clear hs1 hs2 hb1
  refine wp_quiet_all (LaterC W) (by kernel_rfl) (by kernel_rfl) (later_drew _) ?_
  repeat (go_big_quiet_step ((go_at_call 46; first | exact later_same _ (value_any (k.take 8) _ _ _ _ (HS1.out.lives (Later.below _))) | exact later_same _ (value_any ((k.drop 8).take 8) _ _ _ _ (HS2.out.lives (Later.below _))))))
  refine wpQuiet_nil ?_
  rintro _ ⟨e, rfl⟩
  go_wp2
  exact bodyPost_ret (v := .tuple #[wv (wordsOf k).1, wv (wordsOf k).2]) (by simp [results, Try.results50, go_sem]; exact ⟨rfl, rfl⟩) rfl ⟨rfl, HB.out.trans (e.below.mono HB.out.size)⟩

theorem sl_lit (w : World) (x : BitVec 64) (o : Obj) (h : o = .cells #[wv x] 31) : Sl (w.alloc o) (some ⟨w.heap.size, 0, none⟩) 1 1 (wl [x]) := by
  subst h
  have := Sl.of_blk (blk_last w (.cells #[wv x] 31)) (by simp; decide) 0 1 (by simp)
  simpa [wl] using this
theorem sl_litb (w : World) (x : UInt8) (o : Obj) (h : o = .cells #[bv x] 5) : Sl (w.alloc o) (some ⟨w.heap.size, 0, none⟩) 1 1 (kl [x]) := by
  subst h
  have := Sl.of_blk (blk_last w (.cells #[bv x] 5)) (by simp; decide) 0 1 (by simp)
  simpa [kl] using this
def keysL (k : List UInt8) (n : Nat) : List (BitVec 64) := (List.range n).map (rkey k)
theorem keysL_snoc (k : List UInt8) (n : Nat) : keysL k (n + 1) = keysL k n ++ [rkey k n] := by simp [keysL, List.range_succ]
theorem keysL_length (k : List UInt8) (n : Nat) : (keysL k n).length = n := by simp [keysL]
theorem own_app {w : World} {base e n m : Nat} {v : Value} {xs ys zs : List Value} (h : w.ownsRow base e 1 v (n + m) (xs ++ ys)) {k : Nat} (hk : k = n + m) (hz : zs = xs ++ ys) : w.ownsRow base e 1 v k zs := by subst hk hz; exact h

theorem aft {a w w' : World} (h : Below a.heap.size a w) (h2 : Below w.heap.size w w') : Below a.heap.size a w' := h.trans (h2.mono h.size)
theorem aft_alloc {a w : World} (h : Below a.heap.size a w) (o : Obj) : Below a.heap.size a (w.alloc o) := h.alloc h.size _
theorem aft_app {a w w' : World} {v v' : Value} {e n : Nat} {xs : List Value} (h : Below a.heap.size a w) (ho : w.ownsRow a.heap.size e 1 v n xs) (ha : Apd w w' v v') : Below a.heap.size a w' := h.trans (ha.below ho (Nat.le_refl _) h.size)
theorem below_self (w : World) : Below w.heap.size w w := Below.refl _ _
theorem below_alloc (w : World) (o : Obj) : Below w.heap.size w (w.alloc o) := (Below.refl _ _).alloc (Nat.le_refl _) _
theorem ow_app {w : World} {base : Nat} {v : Value} {l m : List (BitVec 64)} (h : w.ownsRow base 31 1 v (l.length + m.length) (wl l ++ wl m)) : Ow w base v (l ++ m) := by
  rw [← wl_append, ← List.length_append] at h; exact h
theorem ob_app {w : World} {base : Nat} {v : Value} {l m : List UInt8} (h : w.ownsRow base 5 1 v (l.length + m.length) (kl l ++ kl m)) : Ob w base v (l ++ m) := by
  rw [← kl_append, ← List.length_append] at h; exact h

set_option maxHeartbeats 1000000 in
theorem roundKeys_any (k : List UInt8) (hk : k.length = 16) (w : World) :
    Calls Try.prog 51 #[kv k] w fun e w' => ∃ v, e = .returned v ∧ Ow w' w.heap.size v (keysL k 32) ∧ Below w.heap.size w w' := by
  go_enter Try.func51, Try.ntmps51
  have hk1 : (w.alloc (.cells (kl k).toArray 23)).heap[w.heap.size]? = some (.cells (kl k).toArray 23 (0, 0)) := blk_last _ _
  have HK := Lib.hid hk1; clear hk1
  go_wp2_with (first
    | (refine wl_load w.heap.size k hk _ rfl rfl rfl HK.out ?_)
    | (go_at_call 50; refine (refWords_any k hk _).mono ?_; rintro e w1 ⟨rfl, hb1⟩; have HB1 := Lib.hid hb1; clear hb1))
  have hlen : maxLen = 9223372036854775807 := rfl
  have hB1 : Below w.heap.size w w1 := ((Below.refl _ _).alloc (Nat.le_refl _) _).trans (HB1.out.mono (by simp))
  have HB := Lib.hid hB1; clear HB1 hB1
  go_loopw [3, 4, 5, 6] (fun l at' out i wr => ∃ n : Nat, n ≤ 31 ∧ i = .int .i64 n ∧ l = wv (sched k n).1 ∧ at' = wv (sched k n).2 ∧ Ow wr w.heap.size out (keysL k (n + 1)) ∧ Below w.heap.size w wr) (fun _ _ _ i _ => 31 - (intOf i).toNat)
  case atStart =>
    refine ⟨0, by omega, rfl, rfl, rfl, ?_, HB.out.alloc HB.out.size _⟩
    exact own_lit (e := 31) [wv (wordsOf k).2] HB.out.size (by simp; decide)
  case round =>
    obtain ⟨n, hn, rfl, rfl, rfl, ho, hb⟩ := hrel
    have HO := Lib.hid ho; have HW := Lib.hid hb
    clear ho hb
    by_cases hlt : n < 31
    · have hn1 : (n : Int) < 31 := by omega
      have hc : BitVec.ofInt 64 (n : Int) = BitVec.ofNat 64 n := by rw [BitVec.ofInt_natCast]
      have hconv : ∀ wx : World, (convert 3 31 (.int .i64 (n : Int))).run Try.prog wx = .ok (wv (BitVec.ofNat 64 n)) wx := fun wx => by rw [run_conv_word wx _ rfl rfl, hc]
      clear hc
      go_wp2_with (first
        | (go_at_call 52; refine (rotr_any _ 8 (by omega) _).mono ?_; rintro e w2 ⟨rfl, hb2⟩; have HB2 := Lib.hid hb2; clear hb2)
        | (go_at_call 53; refine (rotl_any _ 3 (by omega) _).mono ?_; rintro e w3 ⟨rfl, hb3⟩; have HB3 := Lib.hid hb3; clear hb3)
        | (refine wl_app Try.underlying75 info31 rfl (.tmp 29) (.tmp 31) rfl rfl rfl rfl (own_lives (own_lives (own_lives HO.out HB2.out) HB3.out) ((Below.refl _ _).alloc (Nat.le_refl _) _)) (sl_lit _ _ _ rfl) (wl_cells _)
             (by rw [keysL_length]; omega) (by rw [keysL_length]; omega) (by rw [World.size_alloc]; exact Nat.le_trans HW.out.size (Nat.le_trans HB2.out.size (Nat.le_succ_of_le HB3.out.size))) ?_
           intro v' w4 ho4 ha4; have HO4 := Lib.hid ho4; have HA4 := Lib.hid ha4; clear ho4 ha4))
      go_roundw
      case rel =>
        have hr : (sched k n).2 + rl (sched k n).1 56 ^^^ BitVec.ofNat 64 n = (sched k (n + 1)).1 := by rw [BitVec.add_comm]; rfl
        refine ⟨n + 1, by omega, by go_num, by rw [hr], by rw [hr, ← hr, BitVec.add_comm]; rfl, ?_, ?_⟩
        · rw [keysL_snoc]
          have := HO4.out
          rw [BitVec.add_comm] at this
          exact ow_app (m := [rkey k (n + 1)]) this
        · have HB3' := aft (aft HW.out HB2.out) HB3.out
          exact aft_app (aft_alloc HB3' _) (own_lives (own_lives (own_lives HO.out HB2.out) HB3.out) (below_alloc _ _)) HA4.out
      case measure => simp [intOf]; omega
    · obtain rfl : n = 31 := by omega
      clear hn hlt
      go_wp2
      go_ret
      exact ⟨_, rfl, HO.out, HW.out⟩
end Go.Proofs.Ytccojcjgknlhdaa
