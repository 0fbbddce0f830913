/-
  Walks 6, of the reference: Bytes, key, block.
-/
import Derived.Test.YtccojcjgknlhdaaW5
namespace Go.Proofs.Ytccojcjgknlhdaa
open Go.RowKit
/-- The lowest bytes of a word, the highest first. -/
def tailBytes (x : BitVec 64) : Nat → List UInt8
  | 0 => []
  | i + 1 => low (x >>> (8 * i)) :: tailBytes x i
theorem tailBytes_length (x : BitVec 64) (n : Nat) : (tailBytes x n).length = n := by
  induction n with
  | zero => rfl
  | succ n ih => simp [tailBytes, ih]
theorem tailBytes_eight (x : BitVec 64) : tailBytes x 8 = bytes8 x := rfl
theorem low_rem (x : BitVec 64) : low (x % 256#64) = low x := by
  unfold low
  congr 1
  apply BitVec.eq_of_toNat_eq
  simp
theorem quo_shift (x : BitVec 64) (n : Nat) : (x >>> (8 * n)) / 256#64 = x >>> (8 * (n + 1)) := by
  have : x >>> (8 * (n + 1)) = (x >>> (8 * n)) >>> 8 := by rw [← BitVec.shiftRight_add]; rfl
  rw [this]
  apply BitVec.eq_of_toNat_eq
  rw [BitVec.toNat_udiv, BitVec.toNat_ushiftRight, BitVec.toNat_ushiftRight, BitVec.toNat_ushiftRight, Nat.shiftRight_eq_div_pow (x.toNat >>> (8 * n)) 8]
  rfl

set_option maxHeartbeats 1000000 in
theorem bytes_any (x : BitVec 64) (n : Nat) (hn : n ≤ 8) (w : World) :
    Calls Try.prog 66 #[wv x, .int .i64 (n : Int)] w fun e w' => ∃ v l, l = tailBytes x n ∧ e = .returned v ∧ w'.ownsRow w.heap.size 5 1 v n (kl l) ∧ Below w.heap.size w w' := by
  have hlen : maxLen = 9223372036854775807 := rfl
  go_enter Try.func66, Try.ntmps66
  go_wp2
  go_loopw [0, 5, 6] (fun y out i wr => ∃ m : Nat, m ≤ n ∧ i = .int .i64 m ∧ y = wv (x >>> (8 * m)) ∧ Ob wr w.heap.size out (tailBytes x m) ∧ Below w.heap.size w wr) (fun _ _ i _ => n - (intOf i).toNat)
  case atStart => exact ⟨0, by omega, rfl, rfl, ⟨rfl, .inl ⟨rfl, rfl⟩⟩, Below.refl _ _⟩
  case round =>
    obtain ⟨m, hm, rfl, rfl, ho, hb⟩ := hrel
    obtain ⟨A, c, rfl, hs⟩ := own_sl ho
    have HO := Lib.hid ho; have HW := Lib.hid hb; have HS := Lib.hid hs
    clear ho hb hs
    by_cases hlt : m < n
    · have hm0 : (0 : Int) ≤ m := by omega
      have hm1 : (m : Int) < n := by omega
      go_wp2_with (
        (refine wl_app Try.underlying37 info5 rfl (.tmp 15) (.tmp 16) rfl rfl rfl rfl (own_lit [bv (low (x >>> (8 * m) % 256#64))] HW.out.size (by simp; decide)) (HS.out.lives (below_alloc _ _)) (kl_cells _)
             (by rw [tailBytes_length]; simp; omega) (by rw [tailBytes_length]; simp; omega) (by rw [World.size_alloc]; exact Nat.le_succ_of_le HW.out.size) ?_
         intro v' w4 ho4 ha4; have HO4 := Lib.hid ho4; have HA4 := Lib.hid ha4; clear ho4 ha4))
      go_roundw
      case rel =>
        refine ⟨m + 1, by omega, by go_num, by rw [quo_shift], ?_, ?_⟩
        · have := ob_app (l := [low (x >>> (8 * m) % 256#64)]) HO4.out
          rw [low_rem] at this
          exact this
        · exact aft_app (aft_alloc HW.out _) (own_lit [bv (low (x >>> (8 * m) % 256#64))] HW.out.size (by simp; decide)) HA4.out
      case measure => simp [intOf]; omega
    · obtain rfl : m = n := by omega
      clear hm hlt
      have HO' := HO.out
      unfold Ob at HO'
      rw [tailBytes_length x m] at HO' ⊢
      have HO1 := Lib.hid HO'
      clear HO'
      go_wp2
      go_ret
      exact ⟨_, _, rfl, rfl, HO1.out, HW.out⟩
/-- Some bytes as a key; missing ones are zero. -/
def keyOf (l : List UInt8) : List UInt8 := (List.range 16).map fun j => l.getD j 0
def keyTo (l : List UInt8) : Nat → List UInt8
  | 0 => zeros
  | i + 1 => (keyTo l i).set i (l[i]?.getD 0)
theorem keyTo_length (l : List UInt8) (i : Nat) : (keyTo l i).length = 16 := by
  induction i with
  | zero => rfl
  | succ i ih => simp [keyTo, ih]
theorem keyTo_get (l : List UInt8) (i j : Nat) (hj : j < 16) : (keyTo l i)[j]? = some (if j < i then l.getD j 0 else 0) := by
  induction i with
  | zero => simp only [keyTo, zeros, List.getElem?_replicate]; simp [hj]
  | succ i ih =>
    by_cases h : j = i
    · subst h; simp only [keyTo]; rw [List.getElem?_set_self (by rw [keyTo_length]; omega)]; simp
    · simp only [keyTo]; rw [List.getElem?_set_ne (by omega), ih]
      by_cases h1 : j < i
      · rw [if_pos h1, if_pos (by omega)]
      · rw [if_neg h1, if_neg (by omega)]
theorem keyTo_all (l : List UInt8) (i : Nat) (h : i = 16 ∨ l.length ≤ i) : keyTo l i = keyOf l := by
  apply List.ext_getElem?
  intro j
  by_cases hj : j < 16
  · rw [keyTo_get l i j hj]
    simp only [keyOf, List.getElem?_map, List.getElem?_range hj, Option.map_some]
    by_cases h1 : j < i
    · rw [if_pos h1]
    · rw [if_neg h1, List.getD_eq_getElem?_getD, List.getElem?_eq_none (by omega)]; rfl
  · rw [List.getElem?_eq_none (by rw [keyTo_length]; omega), List.getElem?_eq_none (by simp [keyOf]; omega)]
@[simp] theorem keyOf_length (l : List UInt8) : (keyOf l).length = 16 := by simp [keyOf]
theorem keyOf_self (l : List UInt8) (h : l.length = 16) : keyOf l = l := by
  apply List.ext_getElem?
  intro j
  by_cases hj : j < 16
  · simp only [keyOf, List.getElem?_map, List.getElem?_range hj, Option.map_some]
    rw [List.getD_eq_getElem?_getD, List.getElem?_eq_getElem (by omega)]; rfl
  · rw [List.getElem?_eq_none (by simp; omega), List.getElem?_eq_none (by omega)]

set_option maxHeartbeats 1000000 in
theorem key_any (l : List UInt8) (w : World) (A : Option Addr) (n c : Nat) (hs : Sl w A n c (kl l)) :
    Calls Try.prog 67 #[.slice A n c] w fun e w' => e = .returned (kv (keyOf l)) ∧ Below w.heap.size w w' := by
  obtain rfl : n = l.length := by have := hs.1; rw [kl_length] at this; exact this.symm
  have HS := Lib.hid hs
  have hmax : l.length ≤ maxLen := by have := hs.2.1; have := hs.2.2.1; omega
  have hlen : maxLen = 9223372036854775807 := rfl
  clear hs
  go_enter Try.func67, Try.ntmps67
  go_wp2
  go_loopw [4] (fun i wr => ∃ m : Nat, m ≤ 16 ∧ m ≤ l.length ∧ i = .int .i64 m ∧ wr.heap[w.heap.size]? = some (.cells (kl zeros).toArray 23 (0, 0)) ∧ wr.heap[w.heap.size + 1]? = some (.cells (kl (keyTo l m)).toArray 23 (0, 0)) ∧
     Below w.heap.size w wr) (fun i _ => 16 - (intOf i).toNat)
  case atStart => exact ⟨0, by omega, by omega, rfl, blk_keep (blk_last _ _) _, blk_last1 _ _ _, aft_alloc (below_alloc _ _) _⟩
  case round =>
    obtain ⟨m, hm, hml, rfl, hr, hp, hw⟩ := hrel
    have HR := Lib.hid hr; have HP := Lib.hid hp; have HW := Lib.hid hw
    by_cases h16 : m < 16
    · have hm0 : (0 : Int) ≤ m := by omega
      have hm1 : (m : Int) < 16 := by omega
      by_cases hlt : m < l.length
      · obtain ⟨b, off, rfl, hc⟩ := (HS.out.lives hw).at (kl_get hlt)
        have hm2 : (m : Int) < l.length := by omega
        have c0 := cell_kl hp (i := m) (by rw [keyTo_length]; omega)
        have f := free_blk (i := m) hp
        clear hr hp hw
        go_wp2
        go_roundw
        case rel =>
          refine ⟨m + 1, by omega, by omega, by go_num, ?_, ?_, ?_⟩
          · rw [blk_far (by omega)]; exact HR.out
          · rw [blk_set HP.out, kl_set]; simp [keyTo, hlt]
          · exact HW.out.setCell (by show w.heap.size ≤ w.heap.size + 1; omega) _
        case measure => simp [intOf]; omega
      · obtain rfl : m = l.length := by omega
        have hk := keyTo_all l l.length (.inr (Nat.le_refl _))
        rw [hk] at HP
        clear hr hp hw
        go_wp2_with (first
          | (refine wl_load (w.heap.size + 1) (keyOf l) (by simp) _ rfl rfl rfl HP.out ?_)
          | (refine wl_store w.heap.size (keyOf l) (by simp) _ _ rfl rfl rfl rfl HR.out rfl ?_))
        exact bodyPost_ret (v := kv (keyOf l)) (res_key rfl _ _ w.heap.size _ (by simp) rfl (blk_row HR.out)) rfl ⟨rfl, below_row HW.out (by omega) _⟩
    · obtain rfl : m = 16 := by omega
      have hk := keyTo_all l 16 (.inl rfl)
      rw [hk] at HP
      clear hr hp hw
      go_wp2_with (first
        | (refine wl_load (w.heap.size + 1) (keyOf l) (by simp) _ rfl rfl rfl HP.out ?_)
        | (refine wl_store w.heap.size (keyOf l) (by simp) _ _ rfl rfl rfl rfl HR.out rfl ?_))
      exact bodyPost_ret (v := kv (keyOf l)) (res_key rfl _ _ w.heap.size _ (by simp) rfl (blk_row HR.out)) rfl ⟨rfl, below_row HW.out (by omega) _⟩

attribute [local go_sem] fold_zeros
set_option maxHeartbeats 1000000 in
theorem refBlock_any (x y : BitVec 64) (w : World) :
    Calls Try.prog 54 #[wv x, wv y] w fun e w' => e = .returned (kv (blockOf (x, y))) ∧ Below w.heap.size w w' := by
  have hlen : maxLen = 9223372036854775807 := rfl
  have hk : keyOf (tailBytes x 8 ++ tailBytes y 8) = blockOf (x, y) := by rw [tailBytes_eight, tailBytes_eight]; exact keyOf_self (blockOf (x, y)) (blockOf_length _)
  have HKY := Lib.hid hk; clear hk
  go_enter Try.func54, Try.ntmps54
  have hr1 : (w.alloc (.cells (kl zeros).toArray 23)).heap[w.heap.size]? = some (.cells (kl zeros).toArray 23 (0, 0)) := blk_last _ _
  have hb1 := below_alloc w (.cells (kl zeros).toArray 23)
  have HR := Lib.hid hr1; have HB := Lib.hid hb1; clear hr1 hb1
  go_wp2_with (first
    | (fail_if_success (have hh := HB1.out)
       go_at_call 66; refine (bytes_any _ 8 (by omega) _).mono ?_; rintro e w1 ⟨v1, l1, hl1, rfl, ho1, hb1⟩; have HO1 := Lib.hid ho1; have HB1 := Lib.hid hb1; have HL1 := Lib.hid hl1; clear ho1 hb1 hl1)
    | (go_at_call 66; refine (bytes_any _ 8 (by omega) _).mono ?_; rintro e w2 ⟨v2, l2, hl2, rfl, ho2, hb2⟩; obtain ⟨A2, c2, rfl, hs2⟩ := own_sl ho2; have HS2 := Lib.hid hs2; have HB2 := Lib.hid hb2; have HL2 := Lib.hid hl2; clear ho2 hb2 hs2 hl2)
    | (refine wl_app Try.underlying37 info5 rfl (.tmp 6) (.tmp 8) rfl rfl rfl rfl (own_lives HO1.out HB2.out) HS2.out (kl_cells _) (by omega) (by omega) (Nat.le_trans HB1.out.size HB2.out.size) ?_
       intro v3 w3 ho3 ha3
       have hb3 := aft_app (aft HB1.out HB2.out) (own_lives HO1.out HB2.out) ha3
       rw [← kl_append] at ho3
       obtain ⟨A3, c3, rfl, hs3⟩ := own_sl ho3; have HS3 := Lib.hid hs3; have HB3 := Lib.hid hb3; clear ho3 ha3 hs3 hb3)
    | (go_at_call 67; refine (key_any _ _ _ _ _ HS3.out).mono ?_; rintro e w4 ⟨rfl, hb4⟩; have HB4 := Lib.hid hb4; clear hb4
       rw [HL1.out, HL2.out, HKY.out])
    | (refine wl_store w.heap.size (blockOf (x, y)) (by simp) _ _ rfl rfl rfl rfl (blk_lives HR.out (aft HB3.out HB4.out)) rfl ?_))
  exact bodyPost_ret (v := kv (blockOf (x, y))) (res_key rfl _ _ w.heap.size _ (by simp) rfl (blk_row (blk_lives HR.out (aft HB3.out HB4.out)))) rfl ⟨rfl, below_row (aft HB.out (aft HB3.out HB4.out)) (Nat.le_refl _) _⟩
end Go.Proofs.Ytccojcjgknlhdaa
