/-
  The walk of the law that the digest is made of Encrypt alone.
-/
import Derived.Test.YtccojcjgknlhdaaOw
import Derived.Test.YtccojcjgknlhdaaB7
namespace Go.Proofs.Ytccojcjgknlhdaa
open Go.RowKit
attribute [local go_sem] fold_zeros

theorem OwnB.far {w : World} {g cap : Nat} {l : List UInt8} (h : OwnB w g cap l) {g' i : Nat} (hg : g ≠ g') (v : Value) : OwnB (w.setCell ⟨g', i, none⟩ v) g cap l := by
  obtain ⟨h1, h2, cur, h3, h4⟩ := h
  exact ⟨h1, h2, cur, (blk_far hg).trans h3, h4⟩
theorem OwnB.lt {w : World} {g cap : Nat} {l : List UInt8} (h : OwnB w g cap l) : g < w.heap.size := by
  obtain ⟨_, _, cur, h3, _⟩ := h
  exact lt_blk h3
theorem sl_lit8 (w : World) (a b : UInt8) (o : Obj) (h : o = .cells #[.int .u8 0, .int .u8 0, .int .u8 0, .int .u8 0, .int .u8 0, .int .u8 0, bv a, bv b] 5) : Sl (w.alloc o) (some ⟨w.heap.size, 0, none⟩) 8 8 (kl [0, 0, 0, 0, 0, 0, a, b]) := by
  subst h
  exact sl_blk (l := [0, 0, 0, 0, 0, 0, a, b]) (blk_last _ _) (by simp; decide) 8 rfl
theorem len_shr (L : Nat) : binOp .shr 3 (.int .i64 (L : Int)) (.int .u64 8) = pure (.int .i64 ((L / 256 : Nat) : Int)) := by
  have : binOp .shr 3 (.int .i64 (L : Int)) (.int .u64 8) = Op.shift .shr .i64 (L : Int) .u64 8 := rfl
  rw [this, shift_shr_any _ _ _ _ (by decide)]
  have h2 : min (8 : Int).toNat IntKind.i64.bits = 8 := by decide
  rw [h2, Int.natCast_ediv]; rfl
theorem conv_byte (n : Nat) (w : World) : (convert 3 5 (.int .i64 (n : Int))).run Try.prog w = .ok (bv (UInt8.ofNat n)) w := by
  rw [run_conv_byte w _ rfl rfl, BitVec.ofInt_natCast]; rfl

set_option maxHeartbeats 4000000 in
theorem digestBig_any (A : Option Addr) (m c : Nat) (w : World) (hm : 16384 < m) :
    Calls Try.prog 7 #[.slice A m c] w fun e w' => e = .returned (.bool true) ∧ Below w.heap.size w w' := by
  have h1 : (16384 : Int) < m := by omega
  go_enter Try.func7, Try.ntmps7
  go_wp2_with (first
    | (go_at_call 33; refine (alive_any _).mono ?_; rintro e w1 ⟨rfl, hb1⟩; have HB1 := Lib.hid hb1; clear hb1)
    | (go_at_call 34; refine (hashBig_any m _ c _ hm).mono ?_; rintro e w2 ⟨rfl, hb2⟩; have HB2 := Lib.hid hb2; clear hb2)
    | (refine wl_store w2.heap.size zeros zeros_length _ _ rfl rfl rfl rfl (blk_last _ _) rfl ?_))
  go_ret
  exact ⟨rfl, aft (aft HB1.out HB2.out) (new_below w2 zeros (kl zeros).toArray)⟩

set_option maxHeartbeats 8000000 in
theorem digest_walk (A : Option Addr) (c : Nat) (l X : List UInt8) (L pd : Nat) (w : World) (hs : Sl w A L c (kl l)) (hL : L = l.length) (hm : L ≤ 16384) (hpd : pd = (16 - (L + 9) % 16) % 16) (hX : X.length = 16)
    (HA : Hid (∀ A c w, Sl w A L c (kl l) → Calls Try.prog 34 #[.slice A L c] w fun e w' => e = .returned (.tuple #[kv X, .int .i64 0]) ∧ Below w.heap.size w w'))
    (hXS : X = foldTo hashNext start (padded l) (((padded l).length + 15) / 16)) :
    Calls Try.prog 7 #[.slice A L c] w fun e w' => e = .returned (.bool true) ∧ Below w.heap.size w w' := by
  have hmax : maxLen = 9223372036854775807 := rfl
  have i0 : (L : Int) ≤ 16384 := by omega
  have i1 : decide ((16384 : Int) < L) = false := decide_eq_false (by omega)
  have hpl : pd ≤ 15 := by omega
  have HS := Lib.hid hs; have HL := Lib.hid hL; have HPD := Lib.hid hpd; have HXS := Lib.hid hXS
  clear hs hL hpd hXS
  go_enter Try.func7, Try.ntmps7
  go_wp2_with (first
    | (go_at_call 33; refine (alive_any _).mono ?_; rintro e w1 ⟨rfl, hb1⟩; have HB1 := Lib.hid hb1; clear hb1)
    | (go_at_call 34; refine (HA.out A c _ (HS.out.lives HB1.out)).mono ?_; rintro e w2 ⟨rfl, hb2⟩; have HB2 := Lib.hid hb2; clear hb2)
    | (refine wl_store w2.heap.size X hX _ _ rfl rfl rfl rfl (blk_last _ _) rfl ?_
       have r0 := new_new w2 X (kl zeros).toArray
       have r1 := aft (aft HB1.out HB2.out) (new_below w2 X (kl zeros).toArray)
       have r2 := own_lit0 ((w2.alloc (.cells (kl zeros).toArray 23)).setRow w2.heap.size (kl X).toArray) _ (Nat.le_refl _)
       generalize (w2.alloc (.cells (kl zeros).toArray 23)).setRow w2.heap.size (kl X).toArray = W at *
       generalize w2.heap.size = g4 at *
       have R0 := Lib.hid r0; have R1 := Lib.hid r1; have R2 := Lib.hid r2
       clear r0 r1 r2 HB1 HB2 HA)
    | (refine wl_app Try.underlying37 info5 rfl (.tmp 25) (.tmp 26) rfl rfl rfl rfl R2.out (HS.out.lives (aft_alloc R1.out _)) (kl_cells _) (by omega) (by omega) (by simp) ?_
       intro v3 w3 ho3 ha3
       have hb3 := aft_app (below_alloc W _) R2.out ha3
       have ho4 := ob_app (l := []) (m := l) (by rw [← HL.out]; exact ho3)
       rw [List.nil_append] at ho4
       have HO3 := Lib.hid ho4; have HB3 := Lib.hid hb3; clear ho3 ha3 ho4 hb3)
    | (refine wl_app Try.underlying37 info5 rfl (.tmp 28) (.tmp 29) rfl rfl rfl rfl (own_lives HO3.out (below_alloc _ _)) (sl_litb _ 128 _ rfl) (kl_cells _) (by rw [← HL.out]; omega) (by rw [← HL.out]; omega) (by rw [World.size_alloc]; exact Nat.le_succ_of_le HB3.out.size) ?_
       intro v4 w4 ho4 ha4
       have hb4 := aft_app (aft_alloc HB3.out _) (own_lives HO3.out (below_alloc _ _)) ha4
       rw [← kl_append, ← HL.out] at ho4
       obtain ⟨A4, c4, rfl, _⟩ := own_sl ho4
       have HO4 := Lib.hid ho4; have HB4 := Lib.hid hb4; clear ho4 ha4 hb4))
  go_loopw [6] (fun v wr => ∃ (i : Nat) (A : Option Addr) (c : Nat), i ≤ pd ∧ v = .slice A (L + (i + 1)) c ∧ wr.ownsRow W.heap.size 5 1 v (L + (i + 1)) (kl (l ++ padTo i)) ∧ Below W.heap.size W wr) (fun v _ => L + 17 - lenOf v)
  case atStart => exact ⟨0, _, _, by omega, rfl, HO4.out, HB4.out⟩
  case round =>
    obtain ⟨i, A', c', hi, rfl, ho, hw⟩ := hrel
    have HO := Lib.hid ho; have HW := Lib.hid hw
    clear ho hw
    by_cases hlt : i < pd
    · have hpe := HPD.out
      have hd : (((L : Int) + ((i : Int) + 1)) % 16 == 8) = false := by rw [beq_eq_false_iff_ne]; omega
      clear hpe
      go_wp2_with (
        (refine wl_app Try.underlying37 info5 rfl (.tmp 35) (.tmp 36) rfl rfl rfl rfl (own_lives HO.out (below_alloc _ _)) (sl_litb _ 0 _ rfl) (kl_cells _) (by omega) (by omega) (by rw [World.size_alloc]; exact Nat.le_succ_of_le HW.out.size) ?_
         intro v' w5 ho5 ha5
         have hb5 := aft_app (aft_alloc HW.out _) (own_lives HO.out (below_alloc _ _)) ha5
         rw [← kl_append] at ho5
         obtain ⟨A5, c5, rfl, _⟩ := own_sl ho5
         have HO5 := Lib.hid ho5; have HB5 := Lib.hid hb5; clear ho5 ha5 hb5))
      refine ⟨⟨i + 1, A5, c5, by omega, rfl, ?_, HB5.out⟩, ?_⟩
      · rw [padTo_step, ← List.append_assoc]; exact HO5.out
      · simp [lenOf]; omega
    · obtain rfl : i = pd := by omega
      have hpe := HPD.out
      have hd : (((L : Int) + ((i : Int) + 1)) % 16 == 8) = true := by rw [beq_iff_eq]; omega
      have h1 := len_shr L
      have h2 := conv_byte (L / 256)
      have h3 := conv_byte L
      obtain ⟨Q, hQ⟩ : ∃ Q : Int, Q = ((L / 256 : Nat) : Int) := ⟨_, rfl⟩
      rw [← hQ] at h1 h2
      clear hi hlt hpe hQ
      have hpad : padded l = (l ++ padTo i) ++ [0, 0, 0, 0, 0, 0, UInt8.ofNat (L / 256), UInt8.ofNat L] := by
        have e1 := HPD.out
        have e2 := HL.out
        subst e2
        rw [padded_pad, padOf, ← e1, bytes8_small l.length hm, padTo]
        simp
      have hplen : L + (i + 1) + 8 = (padded l).length := by
        rw [hpad]; simp [padTo_length, ← HL.out]; omega
      have hpne : padded l ≠ [] := fun h => by rw [h] at hplen; simp at hplen
      have HPAD := Lib.hid hpad; have HPLEN := Lib.hid hplen; have HPNE := Lib.hid hpne
      clear hpad hplen hpne
      go_wp2_with (
        (refine wl_app Try.underlying37 info5 rfl (.tmp 38) (.tmp 46) rfl rfl rfl rfl (own_lives HO.out (below_alloc _ _)) (sl_lit8 _ (UInt8.ofNat (L / 256)) (UInt8.ofNat L) _ rfl) (kl_cells _) (by omega) (by omega) (by rw [World.size_alloc]; exact Nat.le_succ_of_le HW.out.size) ?_
         intro v6 w6 ho6 ha6
         have hb6 := aft_app (aft_alloc HW.out _) (own_lives HO.out (below_alloc _ _)) ha6
         rw [← kl_append, ← HPAD.out, HPLEN.out] at ho6
         obtain ⟨g6, cap, rfl, hg6, hw6⟩ := ownB_of ho6 HPNE.out
         have HO6 := Lib.hid hw6; have HG6 := Lib.hid hg6; have HB6 := Lib.hid hb6; clear ho6 ha6 hb6 hg6 hw6))
      have f0 := blk_lives R0.out HB6.out
      have f1 := aft R1.out HB6.out
      have f2 := HO6.out
      have n0 := lt_blk f0
      have n1 := f2.lt
      have hNle : (padded l).length ≤ 16408 := by have := HPLEN.out; omega
      obtain ⟨P, hP⟩ : ∃ P, P = padded l := ⟨_, rfl⟩
      obtain ⟨N, hN⟩ : ∃ N, N = P.length := ⟨_, rfl⟩
      have hXP := HXS.out
      rw [← hP, ← hN] at hNle hXP
      rw [← hP] at f2
      rw [← hP, ← hN]
      have F0 := Lib.hid f0; have F1 := Lib.hid f1; have F2 := Lib.hid f2; have N0 := Lib.hid n0; have N1 := Lib.hid n1; have HN := Lib.hid hN; have HXP := Lib.hid hXP
      clear f0 f1 f2 n0 n1 hP HO HW HPD HPAD HPLEN HPNE HXS HO6 HG6 HB6 R0 R1 R2 HO4 HB4 HO3 HB3 h1 h2 h3 hN hXP hd
      go_loopw [8] (fun i wr => ∃ q : Nat, q ≤ 16 ∧ i = .int .i64 q ∧ wr.heap[g4]? = some (.cells (kl X).toArray 23 (0, 0)) ∧ wr.heap[w6.heap.size]? = some (.cells (kl (startTo q)).toArray 23 (0, 0)) ∧ OwnB wr g6 cap P ∧ Below w.heap.size w wr ∧ Below w6.heap.size w6 wr) (fun i _ => 16 - (intOf i).toNat)
      case atStart => exact ⟨0, by omega, rfl, blk_keep F0.out _, blk_last _ _, F2.out.lives (below_alloc _ _), aft F1.out (below_alloc _ _), below_alloc _ _⟩
      case round =>
        obtain ⟨q, hq, rfl, h0, h1, h2, h3, h4⟩ := hrel
        have H0 := Lib.hid h0; have H1 := Lib.hid h1; have H2 := Lib.hid h2; have H3 := Lib.hid h3; have H4 := Lib.hid h4
        by_cases hlt : q < 16
        · have q0 : (0 : Int) ≤ q := by omega
          have q1 : (q : Int) < 16 := by omega
          have c0 := cell_kl h1 (i := q) (by rw [startTo_length]; omega)
          have f := free_blk (i := q) h1
          clear h0 h1 h2 h3 h4
          go_wp2
          go_roundw
          case rel =>
            refine ⟨q + 1, by omega, by go_num, (blk_far (Nat.ne_of_lt N0.out)).trans H0.out, ?_, H2.out.far (Nat.ne_of_lt N1.out) _, H3.out.setCell F1.out.size _, H4.out.setCell (Nat.le_refl _) _⟩
            rw [blk_set H1.out]; show some (Obj.cells ((kl (startTo q)).toArray.setIfInBounds q (bv 90)) 23 (0, 0)) = _; rw [kl_set]; rfl
          case measure => simp [intOf]; omega
        · obtain rfl : q = 16 := by omega
          rw [startTo_all] at H1
          clear h0 h1 h2 h3 h4 hlt hq
          obtain ⟨M, hM⟩ : ∃ M, M = (P.length + 15) / 16 := ⟨_, rfl⟩
          have hC := fun w A c hs => portions_any P A N c w hs (by omega)
          rw [← hM] at hC
          have hXM : X = foldTo hashNext start P M := by
            have e1 := HXP.out
            have e2 := HN.out
            rw [e2, ← hM] at e1; exact e1
          have i2 : (M : Int) ≤ 2000 := by have := HN.out; omega
          have HC := Lib.hid hC; have HM := Lib.hid hM; have HXM := Lib.hid hXM
          clear hC hM hXM
          go_wp2_with (
            (go_at_call 35; refine (HC.out _ _ cap (H2.out.sl N HN.out)).mono ?_; rintro e w8 ⟨g9, rfl, hp8, hg8, hb8⟩
             have HP8 := Lib.hid hp8; have HG8 := Lib.hid hg8; have HB8 := Lib.hid hb8; clear hp8 hg8 hb8))
          have f0 := blk_lives H0.out HB8.out
          have f1 := blk_lives H1.out HB8.out
          have f3 := aft H3.out HB8.out
          have n2 := lt_blk H1.out
          have n3 := HG8.out
          have n4 : g9 ≠ w6.heap.size := by omega
          have n5 : w.heap.size ≤ w6.heap.size := F1.out.size
          have K0 := Lib.hid f0; have K1 := Lib.hid f1; have K3 := Lib.hid f3; have N4 := Lib.hid n4; have N5 := Lib.hid n5
          clear f0 f1 f3 n2 n3 n4 n5 H0 H1 H2 H3 H4 HB8 HG8 F0 F1 F2 HC HXP HS HL
          generalize w6.heap.size = g8 at *
          go_loopw [10] (fun i wr => ∃ j : Nat, j ≤ M ∧ i = .int .i64 j ∧ wr.heap[g4]? = some (.cells (kl X).toArray 23 (0, 0)) ∧ wr.heap[g8]? = some (.cells (kl (foldTo hashNext start P j)).toArray 23 (0, 0)) ∧ Ports wr g9 P ∧ Below w.heap.size w wr) (fun i _ => M - (intOf i).toNat)
          case atStart => exact ⟨0, by omega, rfl, K0.out, K1.out, HP8.out, K3.out⟩
          case round =>
            obtain ⟨j, hj, rfl, h0, h1, h2, h3⟩ := hrel
            have H0 := Lib.hid h0; have H1 := Lib.hid h1; have H2 := Lib.hid h2; have H3 := Lib.hid h3
            clear h0 h1 h2 h3
            by_cases hlt : j < M
            · have j0 : (0 : Int) ≤ j := by omega
              have j1 : (j : Int) < M := by omega
              have hjN : j < (P.length + 15) / 16 := by rw [← HM.out]; exact hlt
              have hT := foldTo_length hashNext hashNext_length start start_length P j
              obtain ⟨T, hTe⟩ : ∃ T, T = foldTo hashNext start P j := ⟨_, rfl⟩
              have hstep : foldTo hashNext start P (j + 1) = xorl (enc (portionAt P j) T) T := by rw [hTe]; rfl
              rw [← hTe] at H1 hT
              have hel : (enc (portionAt P j) T).length = 16 := by simp
              have hxl : (xorl (enc (portionAt P j) T) T).length = 16 := xorl_length hel hT
              have HST := Lib.hid hstep; have HJN := Lib.hid hjN
              clear hstep hTe hjN
              go_wp2
              refine wp_quiet_tail 8 (LaterC wr) (by kernel_rfl) (by kernel_rfl) (later_drew _) ?_
              simp only [List.take_succ_cons, List.take_zero, List.drop_succ_cons, List.drop_zero]
              repeat (first
                | (refine BigFrame.wpQuiet_want rfl (fun _ hK' => quiet_load g8 T hT _ rfl rfl H1.out (hK' _ ?_)); simp only [Act.put, List.setIfInBounds_toArray, List.set_cons_succ, List.set_cons_zero])
                | (refine BigFrame.wpQuiet_want rfl (fun _ hK' => quiet_port g9 j P _ rfl rfl H2.out HJN.out (hK' _ ?_)); simp only [Act.put, List.setIfInBounds_toArray, List.set_cons_succ, List.set_cons_zero])
                | (go_big_quiet_step ((first
                    | (go_at_call 36; exact later_call _ (lawXor_any (enc (portionAt P j) T) T hel hT _))
                    | (go_at_call 27; exact later_call _ (encrypt_any (portionAt P j) T (by simp) hT _))))))
              refine wpQuiet_nil ?_
              rintro _ ⟨e, rfl⟩
              go_wp2_with (refine wl_store g8 (xorl (enc (portionAt P j) T) T) hxl _ _ rfl rfl rfl rfl (e.blk H1.out) (kl_size hT) ?_)
              refine ⟨⟨j + 1, by omega, by go_num, (blk_rowfar (Nat.ne_of_lt N0.out)).trans (e.blk H0.out), by rw [HST.out]; exact blk_row (e.blk H1.out), (blk_rowfar N4.out).trans (e.blk H2.out), below_row (aft H3.out e.below) N5.out _⟩, by simp [intOf]; omega⟩
            · obtain rfl : j = M := by omega
              rw [← HXM.out] at H1
              have hq := eq_true hX
              clear hlt hj
              go_wp2_with (first
                | (refine wl_loadg g4 X hX _ rfl rfl rfl H0.out ?_)
                | (refine wl_loadg g8 X hX _ rfl rfl rfl H1.out ?_))
              go_ret
              exact ⟨rfl, H3.out⟩

theorem digestLaw_any (A : Option Addr) (m c : Nat) (l : List UInt8) (w : World) (hs : Sl w A m c (kl l)) (_ : m ≤ 140737488351232) :
    Calls Try.prog 7 #[.slice A m c] w fun e w' => e = .returned (.bool true) ∧ Below w.heap.size w w' := by
  have hl : m = l.length := by have := hs.1; rw [kl_length] at this; exact this.symm
  by_cases h : 16384 < m
  · exact digestBig_any A m c w h
  · refine digest_walk A c l (hashOf l) m _ w hs hl (by omega) rfl (hashOf_length l) (Lib.hid fun A c w hs => hash_any l A m c w hs (by omega)) ?_
    unfold hashOf
    congr 1
    have := padded_length l
    omega
end Go.Proofs.Ytccojcjgknlhdaa
