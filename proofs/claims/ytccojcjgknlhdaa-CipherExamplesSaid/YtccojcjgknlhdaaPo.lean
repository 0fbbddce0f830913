/-
  The laws' own xor and portions.
-/
import Derived.Test.YtccojcjgknlhdaaGr4
namespace Go.Proofs.Ytccojcjgknlhdaa
open Go.RowKit
attribute [local go_sem] fold_zeros

set_option maxHeartbeats 2000000 in
theorem lawXor_any (a b : List UInt8) (ha : a.length = 16) (hb : b.length = 16) (w : World) :
    Calls Try.prog 36 #[kv a, kv b] w fun e w' => e = .returned (kv (xorl a b)) ∧ Below w.heap.size w w' := by
  go_enter Try.func36, Try.ntmps36
  go_wp2
  go_loopw [5] (fun i wr => ∃ n : Nat, n ≤ 16 ∧ i = .int .i64 n ∧ wr.heap[w.heap.size]? = some (.cells (kl (xorTo a b n)).toArray 23 (0, 0)) ∧ wr.heap[w.heap.size + 1]? = some (.cells (kl b).toArray 23 (0, 0)) ∧
    wr.heap[w.heap.size + 1 + 1]? = some (.cells (kl zeros).toArray 23 (0, 0)) ∧ Below w.heap.size w wr) (fun i _ => 16 - (intOf i).toNat)
  case atStart => exact ⟨0, by omega, rfl, blk_keep (blk_keep (blk_last _ _) _) _, blk_keep (blk_last1 _ _ _) _, blk_last2 _ _ _ _, aft_alloc (aft_alloc (below_alloc _ _) _) _⟩
  case round =>
    obtain ⟨n, hn, rfl, hx, hy, hr, hw⟩ := hrel
    have HX := Lib.hid hx; have HY := Lib.hid hy; have HR := Lib.hid hr; have HW := Lib.hid hw
    by_cases hlt : n < 16
    · have c0 := cell_kl hx (i := n) (by rw [xorTo_length]; omega)
      have c1 := cell_kl hy (i := n) (by omega)
      have f := free_blk (i := n) hx
      have hg := xorTo_get a b n n (by omega)
      rw [if_neg (by omega)] at hg
      rw [hg] at c0
      have hn0 : (0 : Int) ≤ n := by omega
      have hn1 : (n : Int) < 16 := by omega
      clear hx hy hr hw hg
      go_wp2
      go_region
      go_wp2
      go_roundw
      case rel =>
        refine ⟨n + 1, by omega, by go_num, ?_, ?_, ?_, ?_⟩
        · rw [blk_drew, blk_set HX.out, kl_set]; simp [xorTo, ha, hb, hlt]
        · rw [blk_drew, blk_far (by omega)]; exact HY.out
        · rw [blk_drew, blk_far (by omega)]; exact HR.out
        · exact (HW.out.setCell (Nat.le_refl _) _).drew
      case measure => simp [intOf]; omega
    · obtain rfl : n = 16 := by omega
      have hk := xorTo_all a b ha hb
      rw [hk] at HX
      clear hx hy hr hw hk
      go_wp2_with (first
        | (refine wl_load w.heap.size (xorl a b) (xorl_length ha hb) _ rfl rfl rfl HX.out ?_)
        | (refine wl_store (w.heap.size + 1 + 1) (xorl a b) (xorl_length ha hb) _ _ rfl rfl rfl rfl HR.out rfl ?_))
      exact bodyPost_ret (v := kv (xorl a b)) (res_key rfl _ _ (w.heap.size + 1 + 1) _ (xorl_length ha hb) rfl (blk_row HR.out)) rfl ⟨rfl, below_row HW.out (by omega) _⟩


/-! portions -/
theorem info23z : (Try.prog.info? 23).map (fun i => (i.zero, i.size, i.bytes)) = some (some (kv zeros), 16, 16) := by kernel_rfl
theorem made_zero (n : Nat) : madeCells (Value.cells (kv zeros)) n = (kl (List.replicate n 0)).toArray := by
  have key : ∀ r, r < 16 → (Value.cells (kv zeros))[r]! = .int .u8 0 := by
    intro r hr
    have h : r = 0 ∨ r = 1 ∨ r = 2 ∨ r = 3 ∨ r = 4 ∨ r = 5 ∨ r = 6 ∨ r = 7 ∨ r = 8 ∨ r = 9 ∨ r = 10 ∨ r = 11 ∨ r = 12 ∨ r = 13 ∨ r = 14 ∨ r = 15 := by omega
    rcases h with rfl | rfl | rfl | rfl | rfl | rfl | rfl | rfl | rfl | rfl | rfl | rfl | rfl | rfl | rfl | rfl <;> rfl
  have hs : (Value.cells (kv zeros)).size = 16 := rfl
  apply Array.ext
  · simp [madeCells, kl]
  · intro j h1 h2
    simp only [madeCells, Array.getElem_map, Array.getElem_range, hs]
    rw [key (j % 16) (Nat.mod_lt _ (by decide))]
    simp [kl, bv]
theorem run_make_keys (n : Nat) (hn : n ≤ 1000000) (w : World) : (Instr.makeSlice 46 (.int .i64 (n : Int)) (.int .i64 (n : Int))).run Try.prog w =
    .ok (.slice (some ⟨w.heap.size, 0, none⟩) n n) (w.alloc (.cells (kl (List.replicate (16 * n) 0)).toArray 23)) := by
  obtain ⟨i0, hi0, hz0, hz1, hz2⟩ := info_parts info23z
  have h := run_make (P := Try.prog) w 46 23 i0 _ Try.underlying46 hi0 hz0 .i64 .i64 (n : Int) (n : Int) (by omega) (by omega) (by rw [hz2]; omega) (by omega)
  rw [h, hz1, made_zero, Int.toNat_natCast, Nat.mul_comm]
/-- The portions, one behind the other, so far as they are filled. -/
def flatTo (l : List UInt8) (N i : Nat) : List UInt8 := l.take i ++ List.replicate (16 * N - i) 0
theorem flatTo_length (l : List UInt8) (N i : Nat) (h : i ≤ l.length) (hN : l.length ≤ 16 * N) : (flatTo l N i).length = 16 * N := by
  unfold flatTo; rw [List.length_append, List.length_take, List.length_replicate]; omega
theorem flatTo_step (l : List UInt8) (N i : Nat) (c : UInt8) (hc : l[i]? = some c) (hN : l.length ≤ 16 * N) : (flatTo l N i).set i c = flatTo l N (i + 1) := by
  have hi : i < l.length := (List.getElem?_eq_some_iff.1 hc).1
  unfold flatTo
  rw [take_snoc l i hi, hc, Option.getD_some, List.append_assoc]
  rw [List.set_append_right _ _ (by rw [List.length_take]; omega)]
  congr 1
  have e : 16 * N - i = (16 * N - (i + 1)) + 1 := by omega
  rw [e, List.replicate_succ, List.length_take, show i - min i l.length = 0 by omega]
  rfl
theorem flatTo_get (l : List UInt8) (N i j : Nat) (hi : i < N) (hN : l.length ≤ 16 * N) (hj : j < 16) : (flatTo l N l.length)[16 * i + j]? = (portionAt l i)[j]? := by
  unfold flatTo portionAt
  rw [List.getElem?_map, List.getElem?_range hj, List.take_of_length_le (Nat.le_refl _)]
  simp only [Option.map_some, List.getD_eq_getElem?_getD]
  by_cases h : 16 * i + j < l.length
  · rw [List.getElem?_append_left h, List.getElem?_eq_getElem h]; rfl
  · rw [List.getElem?_append_right (by omega), List.getElem?_replicate, if_pos (by omega), List.getElem?_eq_none (l := l) (by omega)]; rfl
/-- What portions returned. -/
def Ports (w : World) (g : Nat) (l : List UInt8) : Prop := w.heap[g]? = some (.cells (kl (flatTo l ((l.length + 15) / 16) l.length)).toArray 23 (0, 0))
theorem Ports.range {w : World} {g : Nat} {l : List UInt8} (h : Ports w g l) (i : Nat) (hi : i < (l.length + 15) / 16) : w.rangeAt g (i * 16) (kl (portionAt l i)) := by
  intro j v hv
  have hj : j < 16 := by have := (List.getElem?_eq_some_iff.1 hv).1; rw [kl_length, portionAt_length] at this; exact this
  refine cell_blk h ?_
  rw [List.getElem?_toArray, kl, List.getElem?_map, Nat.mul_comm, flatTo_get l _ i j hi (by omega) hj, ← List.getElem?_map]
  exact hv
theorem Ports.lives {w w' : World} {g : Nat} {l : List UInt8} (h : Ports w g l) (hb : Below w.heap.size w w') : Ports w' g l := blk_lives h hb

set_option maxHeartbeats 2000000 in
theorem portions_any (l : List UInt8) (A : Option Addr) (m c : Nat) (w : World) (hs : Sl w A m c (kl l)) (hm : m ≤ 100000) :
    Calls Try.prog 35 #[.slice A m c] w fun e w' => ∃ g, e = .returned (.slice (some ⟨g, 0, none⟩) ((l.length + 15) / 16) ((l.length + 15) / 16)) ∧ Ports w' g l ∧ w.heap.size ≤ g ∧ Below w.heap.size w w' := by
  obtain rfl : m = l.length := by have := hs.1; rw [kl_length] at this; exact this.symm
  obtain ⟨N, hN⟩ : ∃ N, N = (l.length + 15) / 16 := ⟨_, rfl⟩
  have hNN : (((l.length : Int) + 15) / 16) = (N : Int) := by omega
  have hmk := run_make_keys N (by omega)
  have h0 : (l.length : Int) ≤ 100000 := by omega
  have HS := Lib.hid hs
  have HN := Lib.hid hN
  clear hs
  rw [← hN]
  clear hN
  go_enter Try.func35, Try.ntmps35
  go_wp2
  go_loopw [4] (fun i wr => ∃ j : Nat, j ≤ l.length ∧ i = .int .i64 j ∧ wr.heap[w.heap.size]? = some (.cells (kl (flatTo l N j)).toArray 23 (0, 0)) ∧ Below w.heap.size w wr) (fun i _ => l.length - (intOf i).toNat)
  case atStart => exact ⟨0, by omega, rfl, blk_last _ _, below_alloc _ _⟩
  case round =>
    obtain ⟨j, hj, rfl, hd, hw⟩ := hrel
    have HD := Lib.hid hd; have HW := Lib.hid hw
    by_cases hlt : j < l.length
    · have hN16 : l.length ≤ 16 * N := by have := HN.out; omega
      obtain ⟨b, off, rfl, hc⟩ := (HS.out.lives hw).at (kl_at (List.getElem?_eq_getElem hlt))
      have hst := flatTo_step l N j _ (List.getElem?_eq_getElem hlt) hN16
      have f0 := free_blk (i := j) hd
      have c0 := cell_kl hd (i := j) (by rw [flatTo_length l N j hj hN16]; omega)
      have j0 : (0 : Int) ≤ j := by omega
      have j1 : (j : Int) < l.length := by omega
      have j2 : (0 : Int) ≤ (j : Int) / 16 := by omega
      have j3 : (j : Int) / 16 < N := by omega
      have j4 : (0 : Int) ≤ (j : Int) % 16 := by omega
      have j5 : (j : Int) % 16 < 16 := by omega
      have j6 : j / 16 * 16 + j % 16 = j := by omega
      have HST := Lib.hid hst
      clear hd hw hst
      generalize l[j] = x at *
      go_wp2
      go_region
      go_wp2
      go_roundw
      case rel =>
        refine ⟨j + 1, by omega, by go_num, ?_, ?_⟩
        · rw [blk_drew, blk_set HD.out, kl_set, HST.out]
        · exact (HW.out.setCell (Nat.le_refl _) _).drew
      case measure => simp [intOf]; omega
    · obtain rfl : j = l.length := by omega
      have HNN := HN.out
      clear hd hw hlt hj
      go_wp2
      refine bodyPost_ret (v := .slice (some ⟨w.heap.size, 0, none⟩) N N) (by simp [results, Try.results35, go_sem]) rfl ⟨w.heap.size, rfl, ?_, Nat.le_refl _, HW.out⟩
      unfold Ports
      rw [← HNN]; exact HD.out
end Go.Proofs.Ytccojcjgknlhdaa
