/-
  Walks 1: math/bits.RotateLeft64, a round, a round undone, the words of a block, the block of two words.
-/
import Derived.Test.YtccojcjgknlhdaaVals
import Derived.BigQuiet
namespace Go.Proofs.Ytccojcjgknlhdaa
open Go.RowKit

theorem rot_r8 : bits .and .u64 (IntKind.u64.wrap (-8)) 63 = ((56 : Nat) : Int) := by decide
theorem rot_l3 : bits .and .u64 (IntKind.u64.wrap 3) 63 = ((3 : Nat) : Int) := by decide
theorem rot_r3 : bits .and .u64 (IntKind.u64.wrap (-3)) 63 = ((61 : Nat) : Int) := by decide
theorem rot_l8 : bits .and .u64 (IntKind.u64.wrap 8) 63 = ((8 : Nat) : Int) := by decide

set_option maxHeartbeats 400000 in
theorem rot_any (x : BitVec 64) (k : Int) (s : Nat) (hs : s < 64) (h : bits .and .u64 (IntKind.u64.wrap k) 63 = (s : Int)) (w : World) :
    Calls Try.prog 69 #[wv x, .int .i64 k] w fun e w' => e = .returned (wv (rl x s)) ∧ w' = w := by
  have h0 : IntKind.u64.wrap (64 - (s : Int)) = 64 - (s : Int) := IntWalk.u64_in _ (by omega)
  have h1 : (s : Int) ≤ 64 := by omega
  go_enter Try.func69, Try.ntmps69
  go_wp2
  go_ret
  refine ⟨?_, rfl⟩
  simp [rl]

set_option maxHeartbeats 400000 in
theorem round_any (x y k : BitVec 64) (w : World) :
    Calls Try.prog 48 #[pv (x, y), wv k] w fun e w' => e = .returned (pv (rnd (x, y) k)) ∧ Below w.heap.size w w' := by
  go_enter Try.func48, Try.ntmps48
  go_wp2_with fail
  go_quiet ((go_at_call 69; exact Calls.quiet_of_same (rot_any _ _ 56 (by omega) rot_r8 _)))
  go_wp2_with fail
  refine (rot_any _ _ 3 (by omega) rot_l3 _).mono ?_
  rintro e w' ⟨rfl, rfl⟩
  go_wp2
  exact bodyPost_ret (v := pv (rnd (x, y) k)) (by simp [results, Try.results48, go_sem]; exact ⟨rfl, rfl⟩) rfl ⟨rfl, by
    repeat (first | exact Below.refl _ _ | refine Below.setCell ?_ (by simp) _ | refine drawn ?_ _ | refine Below.drew ?_ | refine Below.alloc ?_ (by simp) _)⟩

set_option maxHeartbeats 400000 in
theorem back_any (x y k : BitVec 64) (w : World) :
    Calls Try.prog 55 #[pv (x, y), wv k] w fun e w' => e = .returned (pv (bck (x, y) k)) ∧ Below w.heap.size w w' := by
  go_enter Try.func55, Try.ntmps55
  go_wp2_with fail
  refine (rot_any _ _ 61 (by omega) rot_r3 _).mono ?_
  rintro e w' ⟨rfl, rfl⟩
  go_wp2_with fail
  refine (rot_any _ _ 8 (by omega) rot_l8 _).mono ?_
  rintro e w' ⟨rfl, rfl⟩
  go_wp2
  exact bodyPost_ret (v := pv (bck (x, y) k)) (by simp [results, Try.results55, go_sem]; exact ⟨rfl, rfl⟩) rfl ⟨rfl, by
    repeat (first | exact Below.refl _ _ | refine Below.setCell ?_ (by simp) _ | refine drawn ?_ _ | refine Below.drew ?_ | refine Below.alloc ?_ (by simp) _)⟩


theorem be_snoc (l : List UInt8) (c : UInt8) : be (l ++ [c]) = be l <<< 8 ||| wide c := by simp [be]
theorem take_snoc (l : List UInt8) (n : Nat) (h : n < l.length) : l.take (n + 1) = l.take n ++ [l[n]?.getD 0] := by
  rw [List.take_succ_eq_append_getElem h]; simp [h]


set_option maxHeartbeats 1000000 in
theorem words_any (k : List UInt8) (hk : k.length = 16) (w : World) :
    Calls Try.prog 45 #[kv k] w fun e w' => e = .returned (pv (wordsOf k)) ∧ Below w.heap.size w w' := by
  go_enter Try.func45, Try.ntmps45
  go_wp2
  go_loopw [5] (fun i wr => ∃ n : Nat, n ≤ 8 ∧ i = .int .i64 n ∧ wr.heap[w.heap.size]? = some (.cells (kl k).toArray 23 (0, 0)) ∧ wr.heap[w.heap.size + 1]? = some (.cells #[.int .u64 0, .int .u64 0] 65 (0, 0)) ∧
     wr.heap[w.heap.size + 1 + 1]? = some (.cells #[wv (be (k.take n)), wv (be ((k.drop 8).take n))] 65 (0, 0)) ∧ w.heap.size + 1 + 1 < wr.heap.size ∧ Below w.heap.size w wr) (fun i _ => 8 - (intOf i).toNat)
  case atStart =>
    refine ⟨0, by omega, rfl, ?_, ?_, ?_, ?_, ?_⟩
    · simp only [blk_alloc, World.size_alloc]; repeat (first | rw [if_pos (by first | trivial | omega)] | rw [if_neg (by omega)])
    · simp only [blk_alloc, World.size_alloc]; repeat (first | rw [if_pos (by first | trivial | omega)] | rw [if_neg (by omega)])
    · simp only [blk_alloc, World.size_alloc]; repeat (first | rw [if_pos (by first | trivial | omega)] | rw [if_neg (by omega)])
      simp [be, wv_zero]
    · simp
    · exact (((Below.refl _ _).alloc (Nat.le_refl _) _).alloc (by simp) _).alloc (by simp; omega) _
  case round =>
    obtain ⟨n, hn, rfl, hb, hr, hp, hz, hw⟩ := hrel
    have HB := Lib.hid hb; have HP := Lib.hid hp; have HR := Lib.hid hr; have HW := Lib.hid hw
    by_cases hlt : n < 8
    · have c0 := cell_kl hb (i := n) (by omega)
      have c1 := cell_kl hb (i := 8 + n) (by omega)
      have p0 : wr.cell? ⟨w.heap.size + 1 + 1, 0, none⟩ = some (wv (be (k.take n))) := by simp [World.cell?, hp]
      have p1 : wr.cell? ⟨w.heap.size + 1 + 1, 1, none⟩ = some (wv (be ((k.drop 8).take n))) := by simp [World.cell?, hp]
      have f : wr.frozen? ⟨w.heap.size + 1 + 1, 0, none⟩ = false := by simp [World.frozen?, hp]
      have f1 : wr.frozen? ⟨w.heap.size + 1 + 1, 1, none⟩ = false := by simp [World.frozen?, hp]
      have hn0 : (0 : Int) ≤ n := by omega
      have hn1 : (n : Int) < 8 := by omega
      have hn2 : (n : Int) < 16 := by omega
      have hn3 : (8 + n : Int) < 16 := by omega
      clear hb hp hw hr
      go_wp2
      go_region
      go_wp2
      go_roundw
      case rel =>
        refine ⟨n + 1, by omega, by go_num, ?_, ?_, ?_, ?_, ?_⟩
        · rw [blk_drew, blk_far (by omega), blk_far (by omega)]; exact HB.out
        · rw [blk_drew, blk_far (by omega), blk_far (by omega)]; exact HR.out
        · rw [blk_drew, blk_set (blk_set HP.out), take_snoc _ _ (by omega), take_snoc _ _ (by simp; omega), be_snoc, be_snoc]
          simp
        · simpa [size_set] using hz
        · exact ((HW.out.setCell (by show w.heap.size ≤ w.heap.size + 1 + 1; omega) _).setCell (by show w.heap.size ≤ w.heap.size + 1 + 1; omega) _).drew
      case measure => simp [intOf]; omega
    · obtain rfl : n = 8 := by omega
      have p0 : wr.cell? ⟨w.heap.size + 1 + 1, 0, none⟩ = some (wv (be (k.take 8))) := by simp [World.cell?, hp]
      have p1 : wr.cell? ⟨w.heap.size + 1 + 1, 1, none⟩ = some (wv (be ((k.drop 8).take 8))) := by simp [World.cell?, hp]
      have q0 : wr.cell? ⟨w.heap.size + 1, 0, none⟩ = some (.int .u64 0) := by simp [World.cell?, hr]
      have q1 : wr.cell? ⟨w.heap.size + 1, 1, none⟩ = some (.int .u64 0) := by simp [World.cell?, hr]
      have f : wr.frozen? ⟨w.heap.size + 1, 0, none⟩ = false := by simp [World.frozen?, hr]
      have f1 : wr.frozen? ⟨w.heap.size + 1, 1, none⟩ = false := by simp [World.frozen?, hr]
      clear hb hp hw hr
      go_wp2
      exact bodyPost_ret (v := pv (wordsOf k)) (by simp [results, Try.results45, go_sem, q0, q1]; exact ⟨rfl, rfl⟩) rfl ⟨rfl, (HW.out.setCell (by show w.heap.size ≤ w.heap.size + 1; omega) _).setCell (by show w.heap.size ≤ w.heap.size + 1; omega) _⟩

def fillTo (p : BitVec 64 × BitVec 64) : Nat → List UInt8
  | 0 => zeros
  | n + 1 => ((fillTo p n).set n (byteAt p.1 n)).set (8 + n) (byteAt p.2 n)
theorem fillTo_length (p : BitVec 64 × BitVec 64) (n : Nat) : (fillTo p n).length = 16 := by
  induction n with
  | zero => rfl
  | succ n ih => simp [fillTo, ih]
theorem fillTo_eight (p : BitVec 64 × BitVec 64) : fillTo p 8 = blockOf p := rfl

set_option maxHeartbeats 1000000 in
theorem block_any (x y : BitVec 64) (w : World) :
    Calls Try.prog 49 #[pv (x, y)] w fun e w' => e = .returned (kv (blockOf (x, y))) ∧ Below w.heap.size w w' := by
  go_enter Try.func49, Try.ntmps49
  go_wp2
  go_loopw [5] (fun i wr => ∃ n : Nat, n ≤ 8 ∧ i = .int .i64 n ∧ wr.heap[w.heap.size]? = some (.cells #[wv x, wv y] 65 (0, 0)) ∧ wr.heap[w.heap.size + 1]? = some (.cells (kl zeros).toArray 23 (0, 0)) ∧
     wr.heap[w.heap.size + 1 + 1]? = some (.cells (kl (fillTo (x, y) n)).toArray 23 (0, 0)) ∧ Below w.heap.size w wr) (fun i _ => 8 - (intOf i).toNat)
  case atStart =>
    refine ⟨0, by omega, rfl, ?_, ?_, ?_, ?_⟩
    · simp only [blk_alloc, World.size_alloc]; repeat (first | rw [if_pos (by first | trivial | omega)] | rw [if_neg (by omega)])
    · simp only [blk_alloc, World.size_alloc]; repeat (first | rw [if_pos (by first | trivial | omega)] | rw [if_neg (by omega)])
      rfl
    · simp only [blk_alloc, World.size_alloc]; repeat (first | rw [if_pos (by first | trivial | omega)] | rw [if_neg (by omega)])
      rfl
    · exact (((Below.refl _ _).alloc (Nat.le_refl _) _).alloc (by simp) _).alloc (by simp; omega) _
  case round =>
    obtain ⟨n, hn, rfl, hb, hr, hp, hw⟩ := hrel
    have HB := Lib.hid hb; have HP := Lib.hid hp; have HW := Lib.hid hw; have HR := Lib.hid hr;
    by_cases hlt : n < 8
    · have c0 := cell_kl hp (i := n) (by rw [fillTo_length]; omega)
      have c1 := cell_kl hp (i := 8 + n) (by rw [fillTo_length]; omega)
      have p0 := cell_blk hb (i := 0) (v := wv x) rfl
      have p1 := cell_blk hb (i := 1) (v := wv y) rfl
      have f := free_blk (i := n) hp
      have f1 := free_blk (i := 8 + n) hp
      have hn0 : (0 : Int) ≤ n := by omega
      have hn1 : (n : Int) < 8 := by omega
      have hn2 : (n : Int) < 16 := by omega
      have hn3 : (8 + n : Int) < 16 := by omega
      have hn4 : (8 * n : Int) ≤ 56 := by omega
      clear hb hp hw hr
      go_wp2
      go_region
      go_wp2
      go_roundw
      case rel =>
        refine ⟨n + 1, by omega, by go_num, ?_, ?_, ?_, ?_⟩
        · rw [blk_drew, blk_far (by omega), blk_far (by omega)]; exact HB.out
        · rw [blk_drew, blk_far (by omega), blk_far (by omega)]; exact HR.out
        · rw [blk_drew, blk_set (blk_set HP.out), kl_set, kl_set]; rfl
        · exact ((HW.out.setCell (by show w.heap.size ≤ w.heap.size + 1 + 1; omega) _).setCell (by show w.heap.size ≤ w.heap.size + 1 + 1; omega) _).drew
      case measure => simp [intOf]; omega
    · obtain rfl : n = 8 := by omega
      clear hb hp hw hr
      go_wp2_with (first
        | (refine wl_load (w.heap.size + 1 + 1) (fillTo (x, y) 8) (fillTo_length _ _) _ rfl rfl rfl HP.out ?_)
        | (refine wl_store (w.heap.size + 1) (fillTo (x, y) 8) (fillTo_length _ _) _ _ rfl rfl rfl rfl HR.out rfl ?_))
      exact bodyPost_ret (v := kv (blockOf (x, y))) (res_key rfl _ _ (w.heap.size + 1) _ (by simp) rfl (blk_row HR.out)) rfl ⟨rfl, below_row HW.out (by omega) _⟩
end Go.Proofs.Ytccojcjgknlhdaa
