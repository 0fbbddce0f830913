/-
  Stream.
-/
import Derived.Test.YtccojcjgknlhdaaS1
import Derived.Laws.OwnMore
namespace Go.Proofs.Ytccojcjgknlhdaa
open Go.RowKit
attribute [local go_sem] fold_zeros

theorem run_make_bytes (n : Nat) (hn : n ≤ 140737488355328) (w : World) : (Instr.makeSlice 37 (.int .i64 (n : Int)) (.int .i64 (n : Int))).run Try.prog w =
    .ok (.slice (some ⟨w.heap.size, 0, none⟩) n n) (w.alloc (.cells (kl (List.replicate n 0)).toArray 5)) := by
  obtain ⟨i0, hi0, hz0, hz1, hz2⟩ := info_parts info5
  have h := run_make (P := Try.prog) w 37 5 i0 _ Try.underlying37 hi0 hz0 .i64 .i64 (n : Int) (n : Int) (by omega) (by omega) (by rw [hz2]; omega) (by omega)
  rw [h, hz1]
  have e : madeCells (Value.cells (.int .u8 0)) ((n : Int).toNat * 1) = (kl (List.replicate n 0)).toArray := by
    apply Array.toList_inj.1
    rw [show Value.cells (.int .u8 0) = #[.int .u8 0] from rfl, toList_madeCells_one]
    simp [kl, bv]
  rw [e]
  simp

def maskNow (k : List UInt8) (n : BitVec 64) : Nat → List UInt8
  | 0 => zeros
  | i + 1 => maskOf k n (i / 16)
theorem maskNow_length (k : List UInt8) (n : BitVec 64) (i : Nat) : (maskNow k n i).length = 16 := by cases i <;> simp [maskNow]
theorem maskNow_keep (k : List UInt8) (n : BitVec 64) (i : Nat) (h : ¬ i % 16 = 0) : maskNow k n i = maskOf k n (i / 16) := by
  cases i with
  | zero => simp at h
  | succ i => simp only [maskNow]; congr 1; omega
def streamTo (k : List UInt8) (n : BitVec 64) (l : List UInt8) : Nat → List UInt8
  | 0 => List.replicate l.length 0
  | i + 1 => (streamTo k n l i).set i (streamAt k n l i)
theorem streamTo_length (k : List UInt8) (n : BitVec 64) (l : List UInt8) (i : Nat) : (streamTo k n l i).length = l.length := by
  induction i with
  | zero => simp [streamTo]
  | succ i ih => simp [streamTo, ih]
theorem streamTo_get (k : List UInt8) (n : BitVec 64) (l : List UInt8) (i j : Nat) (hj : j < i) (hl : j < l.length) : (streamTo k n l i)[j]? = some (streamAt k n l j) := by
  induction i with
  | zero => omega
  | succ i ih =>
    by_cases h : j = i
    · subst h; simp only [streamTo]; rw [List.getElem?_set_self (by rw [streamTo_length]; exact hl)]
    · simp only [streamTo]; rw [List.getElem?_set_ne (by omega)]; exact ih (by omega)
theorem streamTo_all (k : List UInt8) (n : BitVec 64) (l : List UInt8) : streamTo k n l l.length = stream k n l := by
  apply List.ext_getElem?
  intro j
  by_cases hj : j < l.length
  · rw [streamTo_get k n l _ j hj hj]; simp [stream, hj]
  · rw [List.getElem?_eq_none (by rw [streamTo_length]; omega), List.getElem?_eq_none (by simp; omega)]
theorem ob_blk {w : World} {base g : Nat} {l : List UInt8} (h : w.heap[g]? = some (.cells (kl l).toArray 5 (0, 0))) (hb : base ≤ g) (hm : l.length ≤ maxLen) : Ob w base (.slice (some ⟨g, 0, none⟩) l.length l.length) l := by
  refine ⟨by simp [kl], .inr ⟨g, l.length, (kl l).toArray, rfl, hb, h, Nat.le_refl _, hm, by simp [kl], by simp [kl, List.take_of_length_le]⟩⟩

theorem kl_at {l : List UInt8} {j : Nat} {x : UInt8} (h : l[j]? = some x) : (kl l)[j]? = some (bv x) := by simp [kl, h]

set_option maxHeartbeats 4000000 in
theorem stream_any (k : List UInt8) (hk : k.length = 16) (n : BitVec 64) (l : List UInt8) (A : Option Addr) (m c : Nat) (w : World) (hs : Sl w A m c (kl l)) (hm : l.length ≤ 16384) :
    Calls Try.prog 31 #[kv k, wv n, .slice A m c] w fun e w' => ∃ v, e = .returned (.tuple #[v, .int .i64 0]) ∧ Ob w' w.heap.size v (stream k n l) ∧ Below w.heap.size w w' := by
  obtain rfl : m = l.length := by have := hs.1; rw [kl_length] at this; exact this.symm
  have HS := Lib.hid hs
  have h1 : (l.length : Int) ≤ 16384 := by omega
  have hmk := run_make_bytes l.length (by omega)
  have hmax : maxLen = 9223372036854775807 := rfl
  clear hs
  go_enter Try.func31, Try.ntmps31
  go_wp2
  go_loopw [20] (fun i wr => ∃ j : Nat, j ≤ l.length ∧ i = .int .i64 j ∧ wr.heap[w.heap.size]? = some (.cells (kl k).toArray 23 (0, 0)) ∧
    wr.heap[w.heap.size + 1]? = some (.cells (kl (streamTo k n l j)).toArray 5 (0, 0)) ∧ wr.heap[w.heap.size + 1 + 1]? = some (.cells (kl (maskNow k n j)).toArray 23 (0, 0)) ∧ Below w.heap.size w wr) (fun i _ => l.length - (intOf i).toNat)
  case atStart => exact ⟨0, by omega, rfl, blk_keep (blk_keep (blk_last _ _) _) _, blk_keep (blk_last1 _ _ _) _, blk_last2 _ _ _ _, aft_alloc (aft_alloc (below_alloc _ _) _) _⟩
  case round =>
    obtain ⟨j, hj, rfl, hx, ho, hp, hw⟩ := hrel
    have HX := Lib.hid hx; have HO := Lib.hid ho; have HP := Lib.hid hp; have HW := Lib.hid hw
    by_cases hlt : j < l.length
    · obtain ⟨x, hlx⟩ : ∃ x, l[j]? = some x := ⟨_, List.getElem?_eq_getElem hlt⟩
      obtain ⟨b, off, rfl, hc⟩ := (HS.out.lives hw).at (kl_at hlx)
      have hst : streamAt k n l j = x ^^^ (maskOf k n (j / 16))[j % 16]?.getD 0 := by
        unfold streamAt; rw [List.getD_eq_getElem?_getD, List.getD_eq_getElem?_getD, hlx]; rfl
      have HST := Lib.hid hst
      have hj0 : (0 : Int) ≤ j := by omega
      have hj1 : (j : Int) < l.length := by omega
      have hconv : ∀ wx : World, (convert 3 31 (.int .i64 ((j : Int) / 16))).run Try.prog wx = .ok (wv (BitVec.ofNat 64 (j / 16))) wx := fun wx => by
        rw [run_conv_word wx _ rfl rfl, show (j : Int) / 16 = ((j / 16 : Nat) : Int) by omega, BitVec.ofInt_natCast]
      clear hx ho hp hw hst hlx
      by_cases h16 : j % 16 = 0
      · have hd : (j : Int) % 16 = 0 := by omega
        go_wp2
        refine wp_quiet_tail 7 (LaterC wr) (by kernel_rfl) (by kernel_rfl) (later_drew _) ?_
        simp only [List.take_succ_cons, List.take_zero, List.drop_succ_cons, List.drop_zero]
        refine BigFrame.wpQuiet_want rfl (fun K hK => quiet_load w.heap.size k hk _ rfl rfl HX.out (hK _ ?_))
        simp only [Act.put, List.setIfInBounds_toArray, List.set_cons_succ, List.set_cons_zero]
        repeat (go_big_quiet_step ((first | (go_at_call 43; exact later_call _ (blockOf_any 1 (BitVec.ofNat 64 (j / 16)) n _)) | (go_at_call 27; exact later_call _ (encrypt_any k (tagBlock 1 (BitVec.ofNat 64 (j / 16)) n) hk (by simp) _)))))
        refine wpQuiet_nil ?_
        rintro _ ⟨e, rfl⟩
        refine wl_store (w.heap.size + 1 + 1) (maskOf k n (j / 16)) (by simp) _ _ rfl rfl rfl rfl (e.blk HP.out) (by simp [kl, maskNow_length]) ?_
        have q1 := blk_row (cs := (kl (maskOf k n (j / 16))).toArray) (e.blk HP.out)
        have q2 : (e.at.setRow (w.heap.size + 1 + 1) (kl (maskOf k n (j / 16))).toArray).heap[w.heap.size + 1]? = some (.cells (kl (streamTo k n l j)).toArray 5 (0, 0)) := by rw [blk_rowfar (by omega)]; exact e.blk HO.out
        have q3 : (e.at.setRow (w.heap.size + 1 + 1) (kl (maskOf k n (j / 16))).toArray).heap[w.heap.size]? = some (.cells (kl k).toArray 23 (0, 0)) := by rw [blk_rowfar (by omega)]; exact e.blk HX.out
        have q4 := below_row (aft HW.out e.below) (show w.heap.size ≤ w.heap.size + 1 + 1 by omega) (kl (maskOf k n (j / 16))).toArray
        clear hc h16
        generalize e.at.setRow (w.heap.size + 1 + 1) (kl (maskOf k n (j / 16))).toArray = W2 at *
        have HQ1 := Lib.hid q1; have HQ2 := Lib.hid q2; have HQ3 := Lib.hid q3; have HQ4 := Lib.hid q4
        have c1 := cell_kl q1 (i := j % 16) (by simp; omega)
        have c2 := cell_kl q2 (i := j) (by rw [streamTo_length]; exact hlt)
        have f2 := free_blk (i := j) q2
        have m1 : ((j : Int) % 16).toNat = j % 16 := by omega
        have m2 : (0 : Int) ≤ (j : Int) % 16 := by omega
        have m3 : (j : Int) % 16 < 16 := by omega
        generalize hg : (maskOf k n (j / 16))[j % 16]?.getD 0 = y at *
        clear q1 q2 q3 q4 hd
        go_wp2
        go_roundw
        case rel =>
          refine ⟨j + 1, by omega, by go_num, ?_, ?_, ?_, ?_⟩
          · rw [blk_far (by omega)]; exact HQ3.out
          · rw [blk_set HQ2.out, kl_set]
            have h5 := HST.out
            try rw [hg] at h5
            simp only [streamTo, h5]
          · rw [blk_far (by omega)]; exact HQ1.out
          · exact HQ4.out.setCell (by show w.heap.size ≤ w.heap.size + 1; omega) _
        case measure => simp [intOf]; omega
      · have hd : ((j : Int) % 16 == 0) = false := by rw [beq_eq_false_iff_ne]; omega
        have hkp := maskNow_keep k n j h16
        have q1 := HP.out
        rw [hkp] at q1
        have q2 := HO.out
        have q3 := HX.out
        have q4 := HW.out
        clear hkp h16
        have HQ1 := Lib.hid q1; have HQ2 := Lib.hid q2; have HQ3 := Lib.hid q3; have HQ4 := Lib.hid q4
        have c1 := cell_kl q1 (i := j % 16) (by simp; omega)
        have c2 := cell_kl q2 (i := j) (by rw [streamTo_length]; exact hlt)
        have f2 := free_blk (i := j) q2
        have m1 : ((j : Int) % 16).toNat = j % 16 := by omega
        have m2 : (0 : Int) ≤ (j : Int) % 16 := by omega
        have m3 : (j : Int) % 16 < 16 := by omega
        generalize hg : (maskOf k n (j / 16))[j % 16]?.getD 0 = y at *
        clear q1 q2 q3 q4
        go_wp2
        go_roundw
        case rel =>
          refine ⟨j + 1, by omega, by go_num, ?_, ?_, ?_, ?_⟩
          · rw [blk_far (by omega)]; exact HQ3.out
          · rw [blk_set HQ2.out, kl_set]
            have h5 := HST.out
            try rw [hg] at h5
            simp only [streamTo, h5]
          · rw [blk_far (by omega)]; exact HQ1.out
          · exact HQ4.out.setCell (by show w.heap.size ≤ w.heap.size + 1; omega) _
        case measure => simp [intOf]; omega
    · obtain rfl : j = l.length := by omega
      have hall := streamTo_all k n l
      rw [hall] at HO
      clear hx ho hp hw hall
      go_wp2
      refine bodyPost_ret (v := .tuple #[.slice (some ⟨w.heap.size + 1, 0, none⟩) l.length l.length, .int .i64 0]) (by simp [results, Try.results31, go_sem]) rfl ⟨_, rfl, ?_, HW.out⟩
      have := ob_blk (base := w.heap.size) HO.out (by omega) (by simp; omega)
      simpa using this

set_option maxHeartbeats 1000000 in
theorem streamBig_any (k : List UInt8) (n : BitVec 64) (m : Nat) (A : Option Addr) (c : Nat) (w : World) (hm : 16384 < m) :
    Calls Try.prog 31 #[kv k, wv n, .slice A m c] w fun e w' => e = .returned (.tuple #[.slice none 0 0, .int .i64 4]) ∧ Below w.heap.size w w' := by
  have h1 : (16384 : Int) < m := by omega
  go_enter Try.func31, Try.ntmps31
  go_wp2
  exact bodyPost_ret (v := .tuple #[.slice none 0 0, .int .i64 4]) (by simp [results, Try.results31, go_sem]) rfl ⟨rfl, below_alloc _ _⟩
set_option maxHeartbeats 1000000 in
theorem refStreamBig_any (k : List UInt8) (n : BitVec 64) (m : Nat) (A : Option Addr) (c : Nat) (w : World) (hm : 16384 < m) :
    Calls Try.prog 32 #[kv k, wv n, .slice A m c] w fun e w' => e = .returned (.tuple #[.slice none 0 0, .int .i64 4]) ∧ Below w.heap.size w w' := by
  have h1 : (16384 : Int) < m := by omega
  go_enter Try.func32, Try.ntmps32
  go_wp2
  exact bodyPost_ret (v := .tuple #[.slice none 0 0, .int .i64 4]) (by simp [results, Try.results32, go_sem]) rfl ⟨rfl, below_alloc _ _⟩
end Go.Proofs.Ytccojcjgknlhdaa
