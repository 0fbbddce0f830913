/-
  The walk of the law that a stream is xor with encrypted blocks: the great way.
-/
import Derived.Test.YtccojcjgknlhdaaB5
namespace Go.Proofs.Ytccojcjgknlhdaa
open Go.RowKit
attribute [local go_sem] fold_zeros

set_option maxHeartbeats 8000000 in
theorem mask_walk (k : List UInt8) (hk : k.length = 16) (n : BitVec 64) (A B : Option Addr) (L c c' q : Nat) (a b X Y E : List UInt8) (xq yq aq bq eq : UInt8) (w : World)
    (hL : L ≤ 16384) (hq : q < L) (hs : Sl w A L c (kl a)) (ht : Sl w B L c' (kl b))
    (HA : Hid (∀ A m c w, Sl w A m c (kl a) → Calls Try.prog 31 #[kv k, wv n, .slice A m c] w fun e w' => ∃ A' c', e = .returned (.tuple #[.slice A' L c', .int .i64 0]) ∧ Sl w' A' L c' (kl X) ∧ Below w.heap.size w w'))
    (HB : Hid (∀ A m c w, Sl w A m c (kl b) → Calls Try.prog 31 #[kv k, wv n, .slice A m c] w fun e w' => ∃ A' c', e = .returned (.tuple #[.slice A' L c', .int .i64 0]) ∧ Sl w' A' L c' (kl Y) ∧ Below w.heap.size w w'))
    (HE : Hid (∀ w, Calls Try.prog 27 #[kv k, kv (numTo (q / 16) n 8)] w fun e w' => e = .returned (kv E) ∧ Below w.heap.size w w'))
    (hX : X[q]? = some xq) (hY : Y[q]? = some yq) (ha : a[q]? = some aq) (hb : b[q]? = some bq) (hE : E.length = 16) (he : E[q % 16]?.getD 0 = eq)
    (h1 : xq ^^^ yq = aq ^^^ bq) (h2 : xq ^^^ aq = eq) :
    Calls Try.prog 18 #[kv k, wv n, .slice A L c, .slice B L c', .int .i64 (q : Int)] w fun e w' => e = .returned (.bool true) ∧ Below w.heap.size w w' := by
  obtain ⟨ga, oa, rfl, ca⟩ := hs.at (kl_at ha)
  obtain ⟨gb, ob, rfl, cb⟩ := ht.at (kl_at hb)
  have i1 : (L : Int) ≤ 16384 := by omega
  have i2 : (0 : Int) ≤ q := by omega
  have i3 : (q : Int) < L := by omega
  have i4 : decide ((16384 : Int) < L) = false := decide_eq_false (by omega)
  have i5 : decide ((q : Int) < 0) = false := decide_eq_false (by omega)
  have hm : q / 16 < 2 ^ 32 := by omega
  have hk1 : (w.alloc (.cells (kl k).toArray 23)).heap[w.heap.size]? = some (.cells (kl k).toArray 23 (0, 0)) := blk_last _ _
  have hnq : binOp .neq 5 (bv (xq ^^^ yq)) (bv (aq ^^^ bq)) = pure (.bool false) := by
    rw [h1]
    have : binOp .neq 5 (bv (aq ^^^ bq)) (bv (aq ^^^ bq)) = pure (.bool (((aq ^^^ bq).toNat : Int) != ((aq ^^^ bq).toNat : Int))) := rfl
    rw [this, bne_self_eq_false]
  have hHS := Lib.hid hs; have HT := Lib.hid ht; have HK := Lib.hid hk1; have HNQ := Lib.hid hnq; have HX := Lib.hid hX; have HY := Lib.hid hY; have HHE := Lib.hid he; have HH2 := Lib.hid h2; have HCA := Lib.hid ca; have HCB := Lib.hid cb
  clear hs ht hk1 hnq hX hY he h1 h2 ca cb ha hb
  go_enter Try.func18, Try.ntmps18
  go_wp2_with (first
    | (go_at_call 33; refine (alive_any _).mono ?_; rintro e w1 ⟨rfl, hb1⟩; have HB1 := Lib.hid hb1; clear hb1)
    | (fail_if_success (have hh := HB2.out)
       refine wl_load w.heap.size k hk _ rfl rfl rfl (blk_lives HK.out HB1.out) ?_)
    | (refine wl_load w.heap.size k hk _ rfl rfl rfl (blk_lives HK.out (aft HB1.out HB2.out)) ?_)
    | (fail_if_success (have hh := HB2.out)
       go_at_call 31; refine (HA.out _ _ c _ (hHS.out.lives (aft (below_alloc _ _) HB1.out))).mono ?_; rintro e w2 ⟨A2, c2, rfl, hs2, hb2⟩; obtain ⟨g2, o2, rfl, cx⟩ := hs2.at (kl_at HX.out); have HCX := Lib.hid cx; have HB2 := Lib.hid hb2; clear hs2 hb2 cx)
    | (go_at_call 31; refine (HB.out _ _ c' _ (HT.out.lives (aft (aft (below_alloc _ _) HB1.out) HB2.out))).mono ?_; rintro e w3 ⟨A3, c3, rfl, hs3, hb3⟩; obtain ⟨g3, o3, rfl, cy⟩ := hs3.at (kl_at HY.out); have HCY := Lib.hid cy; have HB3 := Lib.hid hb3; clear hs3 hb3 cy))
  have b3 := aft (aft (aft (below_alloc w (.cells (kl k).toArray 23)) HB1.out) HB2.out) HB3.out
  have lx := (HB3.out.cell (World.block_lt_of_cell? w2 _ HCX.out)).trans HCX.out
  have la := (b3.cell (World.block_lt_of_cell? w _ HCA.out)).trans HCA.out
  have lb := (b3.cell (World.block_lt_of_cell? w _ HCB.out)).trans HCB.out
  have lk := blk_lives HK.out (aft (aft HB1.out HB2.out) HB3.out)
  have mx : ∀ e : Later w3, e.at.cell? ⟨g2, o2 + q, none⟩ = some (bv xq) := Later.cell lx
  have my : ∀ e : Later w3, e.at.cell? ⟨g3, o3 + q, none⟩ = some (bv yq) := Later.cell HCY.out
  have ma : ∀ e : Later w3, e.at.cell? ⟨ga, oa + q, none⟩ = some (bv aq) := Later.cell la
  have mb : ∀ e : Later w3, e.at.cell? ⟨gb, ob + q, none⟩ = some (bv bq) := Later.cell lb
  have hnq := HNQ.out
  have LX := Lib.hid lx; have LA := Lib.hid la; have LK := Lib.hid lk; have LB3 := Lib.hid b3
  clear b3 lx la lb lk
  refine wp_quiet_all (LaterC w3) (by kernel_rfl) (by kernel_rfl) (later_drew _) ?_
  repeat (go_big_quiet_step (fail))
  refine wpQuiet_nil ?_
  rintro _ ⟨e, rfl⟩
  have lx := (e.below.cell (World.block_lt_of_cell? w3 _ LX.out)).trans LX.out
  have la := (e.below.cell (World.block_lt_of_cell? w3 _ LA.out)).trans LA.out
  have lk := blk_lives LK.out e.below
  have lb := aft LB3.out e.below
  generalize e.at = W at *
  have VX := Lib.hid lx; have VA := Lib.hid la; have VK := Lib.hid lk; have VB := Lib.hid lb
  clear lx la lk lb mx my ma mb hnq LX LA LK LB3 HB1 HB2 HB3 HCY HCX HCA HCB HA HB HX HY HNQ HK HT hHS
  have k0 := cell_kl (blk_last W (.cells (kl zeros).toArray 23)) (k := zeros) (i := 0) (by simp)
  have f0 := free_blk (i := 0) (blk_last W (.cells (kl zeros).toArray 23))
  go_wp2
  have hcs : ((kl zeros).set 0 (.int .u8 1)) = kl (ctrTo (q / 16) 0) := rfl
  rw [hcs]
  have HM := Lib.hid hm
  clear k0 f0 hcs hm
  go_loopw [17] (fun i wr => ∃ j : Nat, j ≤ 4 ∧ i = .int .i64 j ∧ wr.heap[W.heap.size]? = some (.cells (kl (ctrTo (q / 16) j)).toArray 23 (0, 0)) ∧ Below W.heap.size W wr) (fun i _ => 4 - (intOf i).toNat)
  case atStart => exact ⟨0, by omega, rfl, blk_last _ _, below_alloc _ _⟩
  case round =>
    obtain ⟨j, hj, rfl, hd, hw⟩ := hrel
    have HD := Lib.hid hd; have HW := Lib.hid hw
    by_cases hlt : j < 4
    · have c0 := cell_kl hd (i := 7 - j) (by rw [ctrTo_length]; omega)
      have f0 := free_blk (i := 7 - j) hd
      have j0 : (0 : Int) ≤ j := by omega
      have j1 : (j : Int) < 4 := by omega
      have j2 : ((7 : Int) - j).toNat = 7 - j := by omega
      have j3 : (0 : Int) ≤ 7 - j := by omega
      have j4 : (7 : Int) - j < 16 := by omega
      obtain ⟨S, hS⟩ : ∃ S : Int, S = (((q / 16) >>> (8 * j) : Nat) : Int) := ⟨_, rfl⟩
      have hsh := int_shr q j hlt
      have hcv := conv_low (q / 16) j HM.out
      rw [← hS] at hsh hcv
      clear hd hw hS
      go_wp2
      go_roundw
      case rel =>
        refine ⟨j + 1, by omega, by go_num, ?_, HW.out.setCell (Nat.le_refl _) _⟩
        rw [blk_set HD.out, kl_set]; rfl
      case measure => simp [intOf]; omega
    · obtain rfl : j = 4 := by omega
      clear hd hw hlt hj
      go_wp2
      have hcn : ctrTo (q / 16) 4 = numTo (q / 16) n 0 := rfl
      rw [hcn] at HD
      go_loopw [18] (fun i wx => ∃ j : Nat, j ≤ 8 ∧ i = .int .i64 j ∧ wx.heap[W.heap.size]? = some (.cells (kl (numTo (q / 16) n j)).toArray 23 (0, 0)) ∧ Below W.heap.size W wx) (fun i _ => 8 - (intOf i).toNat)
      case atStart => exact ⟨0, by omega, rfl, HD.out, HW.out⟩
      case round =>
        obtain ⟨j, hj, rfl, hd, hw⟩ := hrel
        have HD := Lib.hid hd; have HW := Lib.hid hw
        by_cases hlt : j < 8
        · have c0 := cell_kl hd (i := 15 - j) (by rw [numTo_length]; omega)
          have f0 := free_blk (i := 15 - j) hd
          have j0 : (0 : Int) ≤ j := by omega
          have j1 : (j : Int) < 8 := by omega
          have j2 : ((15 : Int) - j).toNat = 15 - j := by omega
          have j3 : (0 : Int) ≤ 15 - j := by omega
          have j4 : (15 : Int) - j < 16 := by omega
          have hsh : binOp .shr 31 (wv n) (.int .i64 (8 * (j : Int))) = pure (wv (n >>> (8 * j))) := by
            have := op_shr 31 n (k := .i64) (n := 8 * (j : Int)) (by omega)
            rwa [show (8 * (j : Int)).toNat = 8 * j by omega] at this
          clear hd hw
          go_wp2
          go_roundw
          case rel =>
            refine ⟨j + 1, by omega, by go_num, ?_, HW.out.setCell (Nat.le_refl _) _⟩
            rw [blk_set HD.out, kl_set]; rfl
          case measure => simp [intOf]; omega
        · obtain rfl : j = 8 := by omega
          clear hd hw hlt hj
          have hk9 := blk_lives VK.out HW.out
          have hd9 : wr.heap[W.heap.size]? = some (.cells (kl (numTo (q / 16) n 8)).toArray 23 (0, 0)) := HD.out
          have lx := (HW.out.cell (World.block_lt_of_cell? W _ VX.out)).trans VX.out
          have la := (HW.out.cell (World.block_lt_of_cell? W _ VA.out)).trans VA.out
          have HK9 := Lib.hid hk9; have HD9 := Lib.hid hd9
          have mx : ∀ e : Later wr, e.at.cell? ⟨g2, o2 + q, none⟩ = some (bv xq) := Later.cell lx
          have ma : ∀ e : Later wr, e.at.cell? ⟨ga, oa + q, none⟩ = some (bv aq) := Later.cell la
          have hnl := numTo_length (q / 16) n 8
          have hd2 : decide (xq ^^^ aq = eq) = true := decide_eq_true HH2.out
          have hix : ∀ w, (Instr.index 23 (kv E) (.int .i64 ((q : Int) % 16))).run Try.prog w = .ok (bv eq) w := fun w => by
            have := run_index_kv E (q % 16) 16 hE (Nat.mod_lt _ (by decide)) rfl w
            rw [HHE.out] at this
            rwa [Int.natCast_emod] at this
          clear hk9 hd9 lx la
          generalize numTo (q / 16) n 8 = D at *
          go_wp2
          refine wp_quiet_all (LaterC wr) (by kernel_rfl) (by kernel_rfl) (later_drew _) ?_
          repeat (first
            | (refine BigFrame.wpQuiet_want rfl (fun _ hK' => quiet_load w.heap.size k hk _ rfl rfl HK9.out (hK' _ ?_)); simp only [Act.put, List.setIfInBounds_toArray, List.set_cons_succ, List.set_cons_zero])
            | (refine BigFrame.wpQuiet_want rfl (fun _ hK' => quiet_load W.heap.size D hnl _ rfl rfl HD9.out (hK' _ ?_)); simp only [Act.put, List.setIfInBounds_toArray, List.set_cons_succ, List.set_cons_zero])
            | (go_big_quiet_step ((go_at_call 27; exact later_call _ (HE.out _)))))
          refine wpQuiet_nil ?_
          rintro _ ⟨e, rfl⟩
          go_wp2
          go_ret
          exact ⟨rfl, aft (aft VB.out HW.out) e.below⟩

theorem mask_any (k : List UInt8) (hk : k.length = 16) (n : BitVec 64) (A : Option Addr) (m c : Nat) (a : List UInt8) (B : Option Addr) (m' c' : Nat) (b : List UInt8) (at' : Int) (w : World)
    (hs : Sl w A m c (kl a)) (_ : m ≤ 140737488351232) (ht : Sl w B m' c' (kl b)) (_ : m' ≤ 140737488351232) (_ : (Lit.int .i64 at').wf = true) :
    Calls Try.prog 18 #[kv k, wv n, .slice A m c, .slice B m' c', .int .i64 at'] w fun e w' => e = .returned (.bool true) ∧ Below w.heap.size w w' := by
  by_cases h1 : 16384 < m
  · exact mask_early k n A m c B m' c' at' w (.inl h1)
  by_cases h2 : m' = m
  · by_cases h3 : at' < 0
    · exact mask_early k n A m c B m' c' at' w (.inr (.inr (.inl ⟨by omega, h2, h3⟩)))
    by_cases h4 : (m : Int) ≤ at'
    · exact mask_early k n A m c B m' c' at' w (.inr (.inr (.inr ⟨by omega, h2, h3, h4⟩)))
    subst h2
    obtain ⟨q, rfl⟩ : ∃ q : Nat, at' = q := ⟨at'.toNat, by omega⟩
    have hq : q < m' := by omega
    have ha : a.length = m' := by have := hs.1; rwa [kl_length] at this
    have hb : b.length = m' := by have := ht.1; rwa [kl_length] at this
    have g : ∀ l : List UInt8, l.length = m' → l[q]? = some (l.getD q 0) := fun l hl => by
      rw [List.getD_eq_getElem?_getD, List.getElem?_eq_getElem (by omega)]; rfl
    refine mask_walk k hk n A B m' c c' q a b (stream k n a) (stream k n b) (maskOf k n (q / 16)) (streamAt k n a q) (streamAt k n b q) (a.getD q 0) (b.getD q 0) ((maskOf k n (q / 16)).getD (q % 16) 0) w (by omega) hq hs ht
      (Lib.hid (stream_sl k hk n a _ rfl m' ha.symm (by omega))) (Lib.hid (stream_sl k hk n b _ rfl m' hb.symm (by omega))) (Lib.hid fun w => ?_) (stream_get k n a q (by omega)) (stream_get k n b q (by omega)) (g a ha) (g b hb) (by simp) (by rw [List.getD_eq_getElem?_getD])
      (mask_two k n a b q) (mask_one k n a q)
    have := encrypt_any k (tagBlock 1 (BitVec.ofNat 64 (q / 16)) n) hk (by simp) w
    rw [← numTo_all (q / 16) n (by omega)] at this
    unfold maskOf
    rw [← numTo_all (q / 16) n (by omega)]
    exact this
  · exact mask_early k n A m c B m' c' at' w (.inr (.inl ⟨by omega, h2⟩))
end Go.Proofs.Ytccojcjgknlhdaa
