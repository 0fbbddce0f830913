/-
  Hash of the reference; the walk of the law of digests.
-/
import Derived.Test.YtccojcjgknlhdaaH2
import Derived.Test.YtccojcjgknlhdaaM4
namespace Go.Proofs.Ytccojcjgknlhdaa
open Go.RowKit
attribute [local go_sem] fold_zeros

/-- What follows n bytes before they are digested. -/
def padOf (n : Nat) : List UInt8 := 128 :: List.replicate ((16 - (n + 9) % 16) % 16) 0 ++ bytes8 (BitVec.ofNat 64 n)
theorem padded_pad (l : List UInt8) : padded l = l ++ padOf l.length := by simp [padded, padOf]
theorem padOf_length (n : Nat) : (padOf n).length = 9 + (16 - (n + 9) % 16) % 16 := by simp [padOf]; omega
def padTo (i : Nat) : List UInt8 := 128 :: List.replicate i 0
theorem padTo_length (i : Nat) : (padTo i).length = i + 1 := by simp [padTo]
theorem padTo_step (i : Nat) : padTo (i + 1) = padTo i ++ [0] := by simp [padTo, List.replicate_succ']

set_option maxHeartbeats 2000000 in
theorem pad_any (n : Nat) (hn : n ≤ 16384) (w : World) :
    Calls Try.prog 70 #[.int .i64 (n : Int)] w fun e w' => ∃ v l, l = padOf n ∧ e = .returned v ∧ w'.ownsRow w.heap.size 5 1 v (9 + (16 - (n + 9) % 16) % 16) (kl l) ∧ Below w.heap.size w w' := by
  have hmax : maxLen = 9223372036854775807 := rfl
  have hconv : ∀ wx : World, (convert 3 31 (.int .i64 (n : Int))).run Try.prog wx = .ok (wv (BitVec.ofNat 64 n)) wx := fun wx => by
    rw [run_conv_word wx _ rfl rfl, BitVec.ofInt_natCast]
  go_enter Try.func70, Try.ntmps70
  go_wp2
  go_loopw [3] (fun v wr => ∃ (i : Nat) (A : Option Addr) (c : Nat), i ≤ (16 - (n + 9) % 16) % 16 ∧ v = .slice A (i + 1) c ∧ wr.ownsRow w.heap.size 5 1 v (i + 1) (kl (padTo i)) ∧ Below w.heap.size w wr) (fun v _ => 17 - lenOf v)
  case atStart => exact ⟨0, _, _, by omega, rfl, own_lit (kl (padTo 0)) (Nat.le_refl _) (by decide), below_alloc _ _⟩
  case round =>
    obtain ⟨i, A, c, hi, rfl, ho, hw⟩ := hrel
    have HO := Lib.hid ho; have HW := Lib.hid hw
    clear ho hw
    by_cases hlt : i < (16 - (n + 9) % 16) % 16
    · have hd : (((n : Int) + ((i : Int) + 1) + 8) % 16 == 0) = false := by rw [beq_eq_false_iff_ne]; omega
      have hil : i ≤ 16 := by omega
      go_wp2_with (
        (refine wl_app Try.underlying37 info5 rfl (.tmp 12) (.tmp 13) rfl rfl rfl rfl (own_lives HO.out (below_alloc _ _)) (sl_litb _ 0 _ rfl) (kl_cells _) (by omega) (by omega) (by rw [World.size_alloc]; exact Nat.le_succ_of_le HW.out.size) ?_
         intro v' w4 ho4 ha4
         have hb4 := aft_app (aft_alloc HW.out _) (own_lives HO.out (below_alloc _ _)) ha4
         rw [← kl_append] at ho4
         obtain ⟨A4, c4, rfl, _⟩ := own_sl ho4
         have HO4 := Lib.hid ho4; have HB4 := Lib.hid hb4; clear ho4 ha4 hb4))
      refine ⟨⟨i + 1, A4, c4, by omega, rfl, ?_, HB4.out⟩, ?_⟩
      · rw [padTo_step]; exact HO4.out
      · simp [lenOf]; omega
    · obtain rfl : i = (16 - (n + 9) % 16) % 16 := by omega
      obtain ⟨pd, hpd⟩ : ∃ pd, pd = (16 - (n + 9) % 16) % 16 := ⟨_, rfl⟩
      rw [← hpd] at HO hi hlt ⊢
      have hd : (((n : Int) + ((pd : Int) + 1) + 8) % 16 == 0) = true := by rw [beq_iff_eq]; omega
      have hpl : pd ≤ 15 := by omega
      have HPD := Lib.hid hpd
      clear hpd hi hlt
      go_wp2_with (first
        | (go_at_call 66; refine (bytes_any _ 8 (by omega) _).mono ?_; rintro e w2 ⟨v2, l2, hl2, rfl, ho2, hb2⟩; obtain ⟨A2, c2, rfl, hs2⟩ := own_sl ho2; have HS2 := Lib.hid hs2; have HB2 := Lib.hid hb2; have HL2 := Lib.hid hl2; clear ho2 hb2 hs2 hl2)
        | (refine wl_app Try.underlying37 info5 rfl (.tmp 15) (.tmp 18) rfl rfl rfl rfl (own_lives HO.out HB2.out) HS2.out (kl_cells _) (by omega) (by omega) (Nat.le_trans HW.out.size HB2.out.size) ?_
           intro v3 w3 ho3 ha3
           have hb3 := aft_app (aft HW.out HB2.out) (own_lives HO.out HB2.out) ha3
           rw [← kl_append] at ho3
           have HO3 := Lib.hid ho3; have HB3 := Lib.hid hb3; clear ho3 ha3 hb3))
      go_ret
      refine ⟨_, padTo pd ++ l2, ?_, rfl, ?_, HB3.out⟩
      · rw [HL2.out, tailBytes_eight, HPD.out]; rfl
      · have := HO3.out
        have e : pd + 1 + 8 = 9 + pd := by omega
        rw [e] at this
        rw [← HPD.out]
        exact this

theorem own_row {w : World} {base e size n g : Nat} {v : Value} {xs : List Value} (h : w.ownsRow base e size v n xs) (hg : g < base) (cs : Array Value) : (w.setRow g cs).ownsRow base e size v n xs := by
  refine ⟨h.1, ?_⟩
  rcases h.2 with h2 | ⟨g', cap, cur, hv, hg', hh, r⟩
  · exact .inl h2
  · exact .inr ⟨g', cap, cur, hv, hg', by rw [blk_rowfar (by omega)]; exact hh, r⟩
theorem own_sl_of {w : World} {base e n c : Nat} {A : Option Addr} {xs : List Value} (h : w.ownsRow base e 1 (.slice A n c) n xs) : Sl w A n c xs := by
  obtain ⟨A', c', hv, hs⟩ := own_sl h
  simp only [Value.slice.injEq, true_and] at hv
  obtain ⟨rfl, rfl⟩ := hv
  exact hs

set_option maxHeartbeats 4000000 in
theorem digest_any (l : List UInt8) (A : Option Addr) (m c : Nat) (w : World) (hs : Sl w A m c (kl l)) (hm : m ≤ 16384) :
    Calls Try.prog 64 #[.slice A m c] w fun e w' => e = .returned (kv (hashOf l)) ∧ Below w.heap.size w w' := by
  obtain rfl : m = l.length := by have := hs.1; rw [kl_length] at this; exact this.symm
  have HS := Lib.hid hs
  have hmax : maxLen = 9223372036854775807 := rfl
  have h1 : (l.length : Int) ≤ 16384 := by omega
  obtain ⟨N, hN⟩ : ∃ N, N = (padded l).length := ⟨_, rfl⟩
  have hN2 := padded_length l
  have hN3 : N ≤ 16408 := by omega
  have hpn : l.length + (9 + (16 - (l.length + 9) % 16) % 16) = N := by omega
  have HN := Lib.hid hN; have HPN := Lib.hid hpn
  clear hs hN hN2 hpn
  go_enter Try.func64, Try.ntmps64
  go_wp2
  go_loopw [4] (fun i wr => ∃ q : Nat, q ≤ 16 ∧ i = .int .i64 q ∧ wr.heap[w.heap.size]? = some (.cells (kl zeros).toArray 23 (0, 0)) ∧ wr.heap[w.heap.size + 1]? = some (.cells (kl (startTo q)).toArray 23 (0, 0)) ∧ Below w.heap.size w wr) (fun i _ => 16 - (intOf i).toNat)
  case atStart => exact ⟨0, by omega, rfl, blk_keep (blk_last _ _) _, blk_last1 _ _ _, aft_alloc (below_alloc _ _) _⟩
  case round =>
    obtain ⟨q, hq, rfl, hr, hy, hw⟩ := hrel
    have HR := Lib.hid hr; have HY := Lib.hid hy; have HW := Lib.hid hw
    have hq0 : (0 : Int) ≤ q := by omega
    by_cases hlt : q < 16
    · have hq1 : (q : Int) < 16 := by omega
      have c0 := cell_kl hy (i := q) (by rw [startTo_length]; omega)
      have f := free_blk (i := q) hy
      clear hr hy hw
      go_wp2
      go_roundw
      case rel =>
        refine ⟨q + 1, by omega, by go_num, ?_, ?_, ?_⟩
        · rw [blk_far (by omega)]; exact HR.out
        · rw [blk_set HY.out]; show some (Obj.cells ((kl (startTo q)).toArray.setIfInBounds q (bv 90)) 23 (0, 0)) = _; rw [kl_set]; rfl
        · exact HW.out.setCell (by show w.heap.size ≤ w.heap.size + 1; omega) _
      case measure => simp [intOf]; omega
    · obtain rfl : q = 16 := by omega
      have ho0 := own_lit0 wr (w.heap.size + 1 + 1) (Nat.le_of_lt_succ (Nat.lt_succ_of_le (lt_blk hy)))
      have hz := lt_blk hy
      have hs0 := HS.out.lives (aft_alloc hw (.cells #[] 5))
      have hr0 := blk_keep hr (.cells #[] 5)
      have hy0 := blk_keep hy (.cells #[] 5)
      have hb0 := aft_alloc hw (.cells #[] 5)
      have hz0 : w.heap.size + 1 + 1 ≤ (wr.alloc (.cells #[] 5)).heap.size := by rw [World.size_alloc]; omega
      have HO0 := Lib.hid ho0; have HS0 := Lib.hid hs0; have HR0 := Lib.hid hr0; have HY0 := Lib.hid hy0; have HB0 := Lib.hid hb0; have HZ0 := Lib.hid hz0
      clear hr hy hw ho0 hz hs0 hr0 hy0 hb0 hz0 HR HY HW
      go_wp2_with (first
        | (refine wl_app Try.underlying37 info5 rfl (.tmp 13) (.tmp 14) rfl rfl rfl rfl HO0.out HS0.out (kl_cells _) (by omega) (by omega) HZ0.out ?_
           intro v1 w1 ho1 ha1
           have hr2 := ha1.blk HR0.out (fun h => by have := (HO0.out.lt _ h).1; omega)
           have hy2 := ha1.blk HY0.out (fun h => by have := (HO0.out.lt _ h).1; omega)
           have hb1 := aft_app HB0.out (own_base HO0.out (by omega)) ha1
           have ho2 := ob_app (l := []) ho1
           have hz1 := Nat.le_trans HZ0.out ha1.1.size
           rw [List.nil_append] at ho2
           have HO1 := Lib.hid ho2; have HR1 := Lib.hid hr2; have HY1 := Lib.hid hy2; have HB1 := Lib.hid hb1; have HZ1 := Lib.hid hz1; clear ho1 ha1 hr2 hy2 hb1 ho2 hz1)
        | (go_at_call 70; refine (pad_any l.length hm _).mono ?_; rintro e w2 ⟨v2, l2, hl2, rfl, ho2, hb2⟩; obtain ⟨A2, c2, rfl, hs2⟩ := own_sl ho2; have HS2 := Lib.hid hs2; have HB2 := Lib.hid hb2; have HL2 := Lib.hid hl2; clear ho2 hb2 hs2 hl2)
        | (refine wl_app Try.underlying37 info5 rfl (.tmp 16) (.tmp 19) rfl rfl rfl rfl (own_lives HO1.out HB2.out) HS2.out (kl_cells _) (by omega) (by omega) (Nat.le_trans HZ1.out HB2.out.size) ?_
           intro v3 w3 ho3 ha3
           have hr3 := ha3.blk (blk_lives HR1.out HB2.out) (fun h => by have := (HO1.out.lt _ h).1; omega)
           have hy3 := ha3.blk (blk_lives HY1.out HB2.out) (fun h => by have := (HO1.out.lt _ h).1; omega)
           have hb3 := aft_app (aft HB1.out HB2.out) (own_base (own_lives HO1.out HB2.out) (by omega)) ha3
           rw [← kl_append, HL2.out, ← padded_pad, HPN.out] at ho3
           obtain ⟨A3, c3, rfl, hs3⟩ := own_sl ho3
           have HS3 := Lib.hid ho3; have HR3 := Lib.hid hr3; have HY3 := Lib.hid hy3; have HB3 := Lib.hid hb3; clear ho3 ha3 hr3 hy3 hb3 hs3))
      go_loopw [6] (fun i wx => ∃ q : Nat, q ≤ (N + 15) / 16 ∧ i = .int .i64 q ∧ wx.heap[w.heap.size]? = some (.cells (kl zeros).toArray 23 (0, 0)) ∧ wx.heap[w.heap.size + 1]? = some (.cells (kl (foldTo hashNext start (padded l) q)).toArray 23 (0, 0)) ∧ wx.ownsRow (w.heap.size + 1 + 1) 5 1 (.slice A3 N c3) N (kl (padded l)) ∧ Below w.heap.size w wx) (fun i _ => (N + 15) / 16 - (intOf i).toNat)
      case atStart => exact ⟨0, by omega, rfl, HR3.out, HY3.out, HS3.out, HB3.out⟩
      case round =>
        obtain ⟨q, hq', rfl, hr, hy, hw3, hw⟩ := hrel
        have HR := Lib.hid hr; have HY := Lib.hid hy; have HW3 := Lib.hid hw3; have HW := Lib.hid hw
        clear hr hy hw3 hw
        have hq2 : (0 : Int) ≤ q := by omega
        have hnN : (N : Int) ≤ 16408 := by omega
        by_cases hlt2 : q < (N + 15) / 16
        · have hq1 : (q : Int) < ((N : Int) + 15) / 16 := by omega
          have h16 : 16 * q < N := by have := HN.out; have := padded_length l; omega
          have hf := foldTo_length _ hashNext_length start start_length (padded l) q
          have hf2 := foldTo_length _ hashNext_length start start_length (padded l) (q + 1)
          have he := enc_length (portionAt (padded l) q) (foldTo hashNext start (padded l) q)
          go_wp2_with (go_at_call 56; refine (refPortions_any N (by omega) _ _ _).mono ?_; rintro e wr ⟨rfl, rfl⟩)
          refine wp_quiet_tail 7 (LaterC wr) (by kernel_rfl) (by kernel_rfl) (later_drew _) ?_
          simp only [List.take_succ_cons, List.take_zero, List.drop_succ_cons, List.drop_zero]
          repeat (first
            | (refine BigFrame.wpQuiet_want rfl (fun K hK => quiet_load (w.heap.size + 1) (foldTo hashNext start (padded l) q) hf _ rfl rfl HY.out (hK _ ?_)); simp only [Act.put, List.setIfInBounds_toArray, List.set_cons_succ, List.set_cons_zero])
            | (go_big_quiet_step ((first
                | (go_at_call 58; exact later_call _ (refPortion_any (padded l) A3 N c3 q _ ((own_sl_of HW3.out).lives (Later.below _)) h16))
                | (go_at_call 28; exact later_call _ (refEncrypt_any (portionAt (padded l) q) (foldTo hashNext start (padded l) q) (by simp) hf _))
                | (go_at_call 57; exact later_call _ (refXor_any (enc (portionAt (padded l) q) (foldTo hashNext start (padded l) q)) (foldTo hashNext start (padded l) q) he hf _))))))
          refine wpQuiet_nil ?_
          rintro _ ⟨e, rfl⟩
          go_wp2_with (refine wl_store (w.heap.size + 1) (foldTo hashNext start (padded l) (q + 1)) hf2 _ _ rfl rfl rfl rfl (e.blk HY.out) (kl_size hf) ?_)
          refine ⟨⟨q + 1, by omega, by go_num, by rw [blk_rowfar (by omega)]; exact e.blk HR.out, blk_row (e.blk HY.out), own_row (own_lives HW3.out e.below) (by omega) _, below_row (aft HW.out e.below) (by omega) _⟩, by simp [intOf]; omega⟩
        · obtain rfl : q = (N + 15) / 16 := by omega
          have hq1 : ¬ ((((N : Int) + 15) / 16) < ((N : Int) + 15) / 16) := by omega
          have hh : foldTo hashNext start (padded l) ((N + 15) / 16) = hashOf l := by
            unfold hashOf
            have := HN.out; have := padded_length l
            congr 1
            omega
          rw [hh] at HY
          have hal := hashOf_length l
          clear hq' hlt2 hh
          go_wp2_with (first
            | (go_at_call 56; refine (refPortions_any N (by omega) _ _ _).mono ?_; rintro e wr ⟨rfl, rfl⟩)
            | (refine wl_load (w.heap.size + 1) (hashOf l) hal _ rfl rfl rfl HY.out ?_)
            | (refine wl_store w.heap.size (hashOf l) hal _ _ rfl rfl rfl rfl HR.out rfl ?_))
          exact bodyPost_ret (v := kv (hashOf l)) (res_key rfl _ _ w.heap.size _ hal rfl (blk_row HR.out)) rfl ⟨rfl, below_row HW.out (Nat.le_refl _) _⟩

set_option maxHeartbeats 1000000 in
theorem refHash_any (l : List UInt8) (A : Option Addr) (m c : Nat) (w : World) (hs : Sl w A m c (kl l)) (hm : m ≤ 16384) :
    Calls Try.prog 40 #[.slice A m c] w fun e w' => e = .returned (.tuple #[kv (hashOf l), .int .i64 0]) ∧ Below w.heap.size w w' := by
  have HS := Lib.hid hs
  have h1 : (m : Int) ≤ 16384 := by omega
  have hr1 : (w.alloc (.cells (kl zeros).toArray 23)).heap[w.heap.size]? = some (.cells (kl zeros).toArray 23 (0, 0)) := blk_last _ _
  have HR := Lib.hid hr1
  have hal := hashOf_length l
  clear hs hr1
  go_enter Try.func40, Try.ntmps40
  go_wp2_with (first
    | (go_at_call 64; refine (digest_any l A m c _ (HS.out.lives (below_alloc _ _)) hm).mono ?_; rintro e w1 ⟨rfl, hb1⟩; have HB1 := Lib.hid hb1; clear hb1)
    | (refine wl_store w.heap.size (hashOf l) hal _ _ rfl rfl rfl rfl (blk_lives HR.out HB1.out) rfl ?_))
  exact bodyPost_ret (v := .tuple #[kv (hashOf l), .int .i64 0]) (res_key2 rfl _ _ w.heap.size _ hal _ rfl rfl (blk_row (blk_lives HR.out HB1.out))) rfl ⟨rfl, below_row (aft (below_alloc _ _) HB1.out) (Nat.le_refl _) _⟩
set_option maxHeartbeats 1000000 in
theorem refHashBig_any (m : Nat) (A : Option Addr) (c : Nat) (w : World) (hm : 16384 < m) :
    Calls Try.prog 40 #[.slice A m c] w fun e w' => e = .returned (.tuple #[kv zeros, .int .i64 4]) ∧ Below w.heap.size w w' := by
  have h1 : (16384 : Int) < m := by omega
  have hr1 : (w.alloc (.cells (kl zeros).toArray 23)).heap[w.heap.size]? = some (.cells (kl zeros).toArray 23 (0, 0)) := blk_last _ _
  have HR := Lib.hid hr1
  clear hr1
  go_enter Try.func40, Try.ntmps40
  go_wp2_with (refine wl_store w.heap.size zeros (by simp) _ _ rfl rfl rfl rfl HR.out rfl ?_)
  exact bodyPost_ret (v := .tuple #[kv zeros, .int .i64 4]) (res_key2 rfl _ _ w.heap.size _ (by simp) _ rfl rfl (blk_row HR.out)) rfl ⟨rfl, below_row (below_alloc _ _) (Nat.le_refl _) _⟩
set_option maxHeartbeats 1000000 in
theorem hashBig_any (m : Nat) (A : Option Addr) (c : Nat) (w : World) (hm : 16384 < m) :
    Calls Try.prog 34 #[.slice A m c] w fun e w' => e = .returned (.tuple #[kv zeros, .int .i64 4]) ∧ Below w.heap.size w w' := by
  have h1 : (16384 : Int) < m := by omega
  have hr1 : (w.alloc (.cells (kl zeros).toArray 23)).heap[w.heap.size]? = some (.cells (kl zeros).toArray 23 (0, 0)) := blk_last _ _
  have HR := Lib.hid hr1
  clear hr1
  go_enter Try.func34, Try.ntmps34
  go_wp2_with (refine wl_store w.heap.size zeros (by simp) _ _ rfl rfl rfl rfl HR.out rfl ?_)
  exact bodyPost_ret (v := .tuple #[kv zeros, .int .i64 4]) (res_key2 rfl _ _ w.heap.size _ (by simp) _ rfl rfl (blk_row HR.out)) rfl ⟨rfl, below_row (below_alloc _ _) (Nat.le_refl _) _⟩

theorem hash_both (l : List UInt8) : ∃ (X : List UInt8) (E : Int), X.length = 16 ∧
    (∀ (A : Option Addr) (m c : Nat) (w : World), Sl w A m c (kl l) → Calls Try.prog 34 #[.slice A m c] w fun e w' => e = .returned (.tuple #[kv X, .int .i64 E]) ∧ Below w.heap.size w w') ∧
    (∀ (A : Option Addr) (m c : Nat) (w : World), Sl w A m c (kl l) → Calls Try.prog 40 #[.slice A m c] w fun e w' => e = .returned (.tuple #[kv X, .int .i64 E]) ∧ Below w.heap.size w w') := by
  by_cases h : l.length ≤ 16384
  · exact ⟨hashOf l, 0, by simp, fun A m c w hs => hash_any l A m c w hs (by have := hs.1; rw [kl_length] at this; omega), fun A m c w hs => refHash_any l A m c w hs (by have := hs.1; rw [kl_length] at this; omega)⟩
  · exact ⟨zeros, 4, by simp, fun A m c w hs => hashBig_any m A c w (by have := hs.1; rw [kl_length] at this; omega), fun A m c w hs => refHashBig_any m A c w (by have := hs.1; rw [kl_length] at this; omega)⟩

set_option maxHeartbeats 4000000 in
theorem hashes_any (A : Option Addr) (m c : Nat) (l : List UInt8) (w : World) (hs : Sl w A m c (kl l)) (_ : m ≤ 140737488351232) :
    Calls Try.prog 10 #[.slice A m c] w fun e w' => e = .returned (.bool true) ∧ Below w.heap.size w w' := by
  obtain ⟨X, E, hX, hP, hR⟩ := hash_both l
  have HP := Lib.hid hP; have HR := Lib.hid hR
  have HS := Lib.hid hs
  have hXX := eq_true hX
  clear hP hR hs
  go_enter Try.func10, Try.ntmps10
  go_wp2_with (first
    | (go_at_call 34; refine (HP.out A _ c _ HS.out).mono ?_; rintro e w2 ⟨rfl, hb2⟩; have HB2 := Lib.hid hb2; clear hb2)
    | (refine wl_store w2.heap.size X hX _ _ rfl rfl rfl rfl (blk_last _ _) rfl ?_)
    | (go_at_call 40; refine (HR.out A _ c _ (HS.out.lives (aft HB2.out (new_below w2 X (kl zeros).toArray)))).mono ?_; rintro e w3 ⟨rfl, hb3⟩; have HB3 := Lib.hid hb3; clear hb3)
    | (refine wl_store w3.heap.size X hX _ _ rfl rfl rfl rfl (blk_last _ _) rfl ?_
       have q0 := aft (aft HB2.out (new_below w2 X (kl zeros).toArray)) (aft HB3.out (new_below w3 X (kl zeros).toArray))
       have q1 := blk_lives (new_new w2 X (kl zeros).toArray) (aft HB3.out (new_below w3 X (kl zeros).toArray))
       have q2 := new_new w3 X (kl zeros).toArray
       have HQ1 := Lib.hid q1; have HQ2 := Lib.hid q2; have HQ5 := Lib.hid q0; clear q0 q1 q2)
    | (refine wl_load w2.heap.size X hX _ rfl rfl rfl HQ1.out ?_)
    | (refine wl_load w3.heap.size X hX _ rfl rfl rfl HQ2.out ?_))
  go_ret
  exact ⟨rfl, HQ5.out⟩
end Go.Proofs.Ytccojcjgknlhdaa
