/-
  The walk of the law that the MAC is made of Encrypt alone.
-/
import Derived.Test.YtccojcjgknlhdaaPo
import Derived.Test.YtccojcjgknlhdaaB2
namespace Go.Proofs.Ytccojcjgknlhdaa
open Go.RowKit
attribute [local go_sem] fold_zeros

/-- A portion, read in whatever later world. -/
theorem quiet_port {a : Act} {o : Oper} {w : World} {K : Act → Prop} (g i : Nat) (l : List UInt8) (x : Operand) (ho : o.op = .load 23 x) (hx : a.eval x = .pointer (some ⟨g, i * 16, none⟩)) (hp : Ports w g l) (hi : i < (l.length + 15) / 16)
    (h : K (a.put o.dst (kv (portionAt l i)))) : o.quiet Try.prog a (LaterC w) K := by
  refine ⟨kv (portionAt l i), ?_, h⟩
  rintro _ ⟨e, rfl⟩
  unfold Oper.quietAt execOp
  simp only [ho, hx, Instr.loadAt, Instr.sureAddr, Sem.run_bind, Sem.run_pure, Result.andThen_ok, run_loadVar_mid e.at g (i * 16) 23 (kl (portionAt l i)) _ ((hp.lives e.below).range i hi) Try.underlying23 rfl (by rw [kl_length, portionAt_length]; exact info23)]
  exact ⟨rfl, rfl⟩

set_option maxHeartbeats 4000000 in
theorem chain_big (k : List UInt8) (hk : k.length = 16) (A : Option Addr) (m c : Nat) (w : World) (hm : 16384 < m) :
    Calls Try.prog 13 #[kv k, .slice A m c] w fun e w' => e = .returned (.bool true) ∧ Below w.heap.size w w' := by
  have h1 : (16384 : Int) < m := by omega
  have hk1 : (w.alloc (.cells (kl k).toArray 23)).heap[w.heap.size]? = some (.cells (kl k).toArray 23 (0, 0)) := blk_last _ _
  have HK := Lib.hid hk1
  clear hk1
  go_enter Try.func13, Try.ntmps13
  go_wp2_with (first
    | (go_at_call 33; refine (alive_any _).mono ?_; rintro e w1 ⟨rfl, hb1⟩; have HB1 := Lib.hid hb1; clear hb1)
    | (refine wl_load w.heap.size k hk _ rfl rfl rfl (blk_lives HK.out HB1.out) ?_)
    | (go_at_call 37; refine (macBig_any k m _ c _ hm).mono ?_; rintro e w2 ⟨rfl, hb2⟩; have HB2 := Lib.hid hb2; clear hb2)
    | (refine wl_store w2.heap.size zeros zeros_length _ _ rfl rfl rfl rfl (blk_last _ _) rfl ?_))
  go_ret
  exact ⟨rfl, aft (aft (aft (below_alloc _ _) HB1.out) HB2.out) (new_below w2 zeros (kl zeros).toArray)⟩

set_option maxHeartbeats 8000000 in
theorem chain_walk (k : List UInt8) (hk : k.length = 16) (A : Option Addr) (c : Nat) (l : List UInt8) (w : World) (hs : Sl w A l.length c (kl l)) (hm : l.length ≤ 16384) :
    Calls Try.prog 13 #[kv k, .slice A l.length c] w fun e w' => e = .returned (.bool true) ∧ Below w.heap.size w w' := by
  obtain ⟨X, hX⟩ : ∃ X, X = macOf k l := ⟨_, rfl⟩
  obtain ⟨S, hS⟩ : ∃ S, S = derive k 2 (BitVec.ofNat 64 l.length) := ⟨_, rfl⟩
  have hXl : X.length = 16 := by rw [hX]; simp
  have hSl : S.length = 16 := by rw [hS]; simp
  have hXS : X = foldTo (macNext k) S l ((l.length + 15) / 16) := by rw [hX, hS]; rfl
  have hA := fun w A c hs => mac_any k hk l A l.length c w hs hm
  have hB := fun w => derive_any k hk 2 (BitVec.ofNat 64 l.length) w
  have hC := fun w A c hs => portions_any l A l.length c w hs (by omega)
  rw [← hX] at hA
  rw [← hS] at hB
  have i0 : (l.length : Int) ≤ 16384 := by omega
  have i1 : decide ((16384 : Int) < l.length) = false := decide_eq_false (by omega)
  have hcv : ∀ w : World, (convert 3 31 (.int .i64 (l.length : Int))).run Try.prog w = .ok (wv (BitVec.ofNat 64 l.length)) w := fun w => by
    rw [run_conv_word w _ rfl rfl, BitVec.ofInt_natCast]
  have hk1 : (w.alloc (.cells (kl k).toArray 23)).heap[w.heap.size]? = some (.cells (kl k).toArray 23 (0, 0)) := blk_last _ _
  have HK := Lib.hid hk1; have HA := Lib.hid hA; have HB := Lib.hid hB; have HC := Lib.hid hC; have HS := Lib.hid hs; have HXS := Lib.hid hXS
  clear hk1 hA hB hC hs hX hS hXS
  obtain ⟨N, hN⟩ : ∃ N, N = (l.length + 15) / 16 := ⟨_, rfl⟩
  rw [← hN] at HC HXS
  have i2 : (N : Int) ≤ 2000 := by omega
  have HN := Lib.hid hN
  clear hN
  go_enter Try.func13, Try.ntmps13
  go_wp2_with (first
    | (go_at_call 33; refine (alive_any _).mono ?_; rintro e w1 ⟨rfl, hb1⟩; have HB1 := Lib.hid hb1; clear hb1)
    | (fail_if_success (have hh := HB2.out)
       refine wl_load w.heap.size k hk _ rfl rfl rfl (blk_lives HK.out HB1.out) ?_)
    | (go_at_call 37; refine (HA.out _ A c (HS.out.lives (aft (below_alloc _ _) HB1.out))).mono ?_; rintro e w2 ⟨rfl, hb2⟩; have HB2 := Lib.hid hb2; clear hb2)
    | (fail_if_success (have hh := HB3.out)
       refine wl_store w2.heap.size X hXl _ _ rfl rfl rfl rfl (blk_last _ _) rfl ?_
       have r0 := new_old (blk_lives HK.out (aft HB1.out HB2.out)) X (kl zeros).toArray
       have r1 := new_new w2 X (kl zeros).toArray
       have r2 := aft (aft (aft (below_alloc w (.cells (kl k).toArray 23)) HB1.out) HB2.out) (new_below w2 X (kl zeros).toArray)
       have R0 := Lib.hid r0; have R1 := Lib.hid r1; have R2 := Lib.hid r2; clear r0 r1 r2)
    | (refine wl_load w.heap.size k hk _ rfl rfl rfl R0.out ?_)
    | (go_at_call 23; refine (HB.out _).mono ?_; rintro e w3 ⟨rfl, hb3⟩; have HB3 := Lib.hid hb3; clear hb3)
    | (refine wl_store w3.heap.size S hSl _ _ rfl rfl rfl rfl (blk_last _ _) rfl ?_
       have r0 := new_old (blk_lives R0.out HB3.out) S (kl zeros).toArray
       have r1 := new_old (blk_lives R1.out HB3.out) S (kl zeros).toArray
       have r2 := new_new w3 S (kl zeros).toArray
       have r3 := aft (aft R2.out HB3.out) (new_below w3 S (kl zeros).toArray)
       have Q0 := Lib.hid r0; have Q1 := Lib.hid r1; have Q2 := Lib.hid r2; have Q3 := Lib.hid r3; clear r0 r1 r2 r3)
    | (go_at_call 35; refine (HC.out _ A c (HS.out.lives Q3.out)).mono ?_; rintro e w4 ⟨g, rfl, hp4, hg4, hb4⟩
       have HP4 := Lib.hid hp4; have HG4 := Lib.hid hg4; have HB4 := Lib.hid hb4; clear hp4 hg4 hb4))
  have f0 := blk_lives Q0.out HB4.out
  have f1 := blk_lives Q1.out HB4.out
  have f2 := blk_lives Q2.out HB4.out
  have f4 := aft Q3.out HB4.out
  have f5 := lt_blk R0.out
  have f6 := lt_blk R1.out
  have f7 := HB3.out.size
  have f8 := lt_blk Q2.out
  have f9 := HG4.out
  have n0 : w.heap.size < w3.heap.size := by omega
  have n1 : w2.heap.size ≠ w3.heap.size := by omega
  have n2 : g ≠ w3.heap.size := by omega
  have F0 := Lib.hid f0; have F1 := Lib.hid f1; have F2 := Lib.hid f2; have F4 := Lib.hid f4; have N0 := Lib.hid n0; have N1 := Lib.hid n1; have N2 := Lib.hid n2
  clear f0 f1 f2 f4 f5 f6 f7 f8 f9 n0 n1 n2 HA HB HC R0 R1 R2 Q0 Q1 Q2 Q3 HB1 HB2 HB3 HG4 HK HS hcv
  generalize w2.heap.size = g6 at *
  generalize w3.heap.size = g8 at *
  go_loopw [10] (fun i wr => ∃ j : Nat, j ≤ N ∧ i = .int .i64 j ∧ wr.heap[w.heap.size]? = some (.cells (kl k).toArray 23 (0, 0)) ∧ wr.heap[g6]? = some (.cells (kl X).toArray 23 (0, 0)) ∧ wr.heap[g8]? = some (.cells (kl (foldTo (macNext k) S l j)).toArray 23 (0, 0)) ∧ Ports wr g l ∧ Below w.heap.size w wr) (fun i _ => N - (intOf i).toNat)
  case atStart => exact ⟨0, by omega, rfl, F0.out, F1.out, F2.out, HP4.out, F4.out⟩
  case round =>
    obtain ⟨j, hj, rfl, h0, h1, h2, h3, h4⟩ := hrel
    have H0 := Lib.hid h0; have H1 := Lib.hid h1; have H2 := Lib.hid h2; have H3 := Lib.hid h3; have H4 := Lib.hid h4
    clear h0 h1 h2 h3 h4
    by_cases hlt : j < N
    · have j0 : (0 : Int) ≤ j := by omega
      have j1 : (j : Int) < N := by omega
      have hjN : j < (l.length + 15) / 16 := by rw [← HN.out]; exact hlt
      have hT := foldTo_length (macNext k) (fun s p hs hp => by unfold macNext; simp) S hSl l j
      obtain ⟨T, hTe⟩ : ∃ T, T = foldTo (macNext k) S l j := ⟨_, rfl⟩
      have hstep : foldTo (macNext k) S l (j + 1) = enc k (xorl T (portionAt l j)) := by rw [hTe]; rfl
      rw [← hTe] at H2 hT
      have hxl : (xorl T (portionAt l j)).length = 16 := xorl_length hT (by simp)
      have HST := Lib.hid hstep; have HJN := Lib.hid hjN
      clear hstep hTe hjN
      go_wp2
      refine wp_quiet_tail 8 (LaterC wr) (by kernel_rfl) (by kernel_rfl) (later_drew _) ?_
      simp only [List.take_succ_cons, List.take_zero, List.drop_succ_cons, List.drop_zero]
      repeat (first
        | (refine BigFrame.wpQuiet_want rfl (fun _ hK' => quiet_load w.heap.size k hk _ rfl rfl H0.out (hK' _ ?_)); simp only [Act.put, List.setIfInBounds_toArray, List.set_cons_succ, List.set_cons_zero])
        | (refine BigFrame.wpQuiet_want rfl (fun _ hK' => quiet_load g8 T hT _ rfl rfl H2.out (hK' _ ?_)); simp only [Act.put, List.setIfInBounds_toArray, List.set_cons_succ, List.set_cons_zero])
        | (refine BigFrame.wpQuiet_want rfl (fun _ hK' => quiet_port g j l _ rfl rfl H3.out HJN.out (hK' _ ?_)); simp only [Act.put, List.setIfInBounds_toArray, List.set_cons_succ, List.set_cons_zero])
        | (go_big_quiet_step ((first
            | (go_at_call 36; exact later_call _ (lawXor_any T (portionAt l j) hT (by simp) _))
            | (go_at_call 27; exact later_call _ (encrypt_any k (xorl T (portionAt l j)) hk hxl _))))))
      refine wpQuiet_nil ?_
      rintro _ ⟨e, rfl⟩
      go_wp2_with (refine wl_store g8 (enc k (xorl T (portionAt l j))) (by simp) _ _ rfl rfl rfl rfl (e.blk H2.out) (kl_size hT) ?_)
      refine ⟨⟨j + 1, by omega, by go_num, (blk_rowfar (Nat.ne_of_lt N0.out)).trans (e.blk H0.out), (blk_rowfar N1.out).trans (e.blk H1.out), by rw [HST.out]; exact blk_row (e.blk H2.out), (blk_rowfar N2.out).trans (e.blk H3.out), below_row (aft H4.out e.below) (Nat.le_of_lt N0.out) _⟩, by simp [intOf]; omega⟩
    · obtain rfl : j = N := by omega
      rw [← HXS.out] at H2
      have hq := eq_true hXl
      clear hlt hj
      go_wp2_with (first
        | (refine wl_loadg g6 X hXl _ rfl rfl rfl H1.out ?_)
        | (refine wl_loadg g8 X hXl _ rfl rfl rfl H2.out ?_))
      go_ret
      exact ⟨rfl, H4.out⟩

theorem chain_any (k : List UInt8) (hk : k.length = 16) (A : Option Addr) (m c : Nat) (l : List UInt8) (w : World) (hs : Sl w A m c (kl l)) (_ : m ≤ 140737488351232) :
    Calls Try.prog 13 #[kv k, .slice A m c] w fun e w' => e = .returned (.bool true) ∧ Below w.heap.size w w' := by
  obtain rfl : m = l.length := by have := hs.1; rw [kl_length] at this; exact this.symm
  by_cases h : 16384 < l.length
  · exact chain_big k hk A l.length c w h
  · exact chain_walk k hk A c l w hs (by omega)
end Go.Proofs.Ytccojcjgknlhdaa
