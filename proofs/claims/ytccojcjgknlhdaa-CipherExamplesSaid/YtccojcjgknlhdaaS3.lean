/-
  Stream of the reference.
-/
import Derived.Test.YtccojcjgknlhdaaS2
import Derived.Test.YtccojcjgknlhdaaGrow
namespace Go.Proofs.Ytccojcjgknlhdaa
open Go.RowKit
attribute [local go_sem] fold_zeros

theorem yields_call {ops : Array Oper} {B : World} {o : Oper} {a : Act} {f : FuncId} {args : Array Value} {v : Value} (hg : o.guard = none) (h : ∀ w, Below B.heap.size B w → Calls Try.prog f args w fun e w' => e = .returned v ∧ Below w.heap.size w w')
    (he : ∀ w, (execOp a.eval o).run Try.prog w = .ok (.enter f args) w) : YieldsG Try.prog ops B o v a :=
  .inl ⟨by simp [Region.wanted, hg], fun w hw => by rw [he w]; exact h w hw⟩
theorem yields_load {ops : Array Oper} {B : World} {o : Oper} {a : Act} (g : Nat) (k : List UInt8) (hk : k.length = 16) (x : Operand) (hg : o.guard = none) (ho : o.op = .load 23 x) (hx : a.eval x = .pointer (some ⟨g, 0, none⟩)) {t : TypeId} {fr : Nat × Nat}
    (hB : B.heap[g]? = some (.cells (kl k).toArray t fr)) : YieldsG Try.prog ops B o (kv k) a := by
  refine .inl ⟨by simp [Region.wanted, hg], fun w hw => ?_⟩
  unfold execOp
  simp only [ho, hx, Instr.loadAt, Instr.sureAddr, Sem.run_bind, Sem.run_pure, Result.andThen_ok, run_loadVar_row w g t 23 _ fr _ (blk_lives hB hw) Try.underlying23 rfl (by rw [kl_size hk]; exact info23)]
  exact ⟨rfl, Below.refl _ _⟩

theorem grow_key_store {ops : Array Oper} {md : Region.Mode} {Q : Exit → Act → World → Prop} {G : Nat → Bool} {i : Nat} {oi : Oper} {f : Nat} {s : Array Bool} {a : Act} {B : World} (d : Option Tmp) (g : Nat) (k : List UInt8) (hk : k.length = 16) (x y : Operand)
    (hi : ops[i]? = some oi) (hd : oi.dst = d) (hr : Region.ready md ops s = [i]) (hg : oi.guard = none) (hG : G i = false) (ho : oi.op = .store 23 x y) (hx : a.eval x = .pointer (some ⟨g, 0, none⟩)) (hy : a.eval y = kv k) {t : TypeId} {old : Array Value} (hB : B.heap[g]? = some (.cells old t (0, 0))) (hold : old.size = 16)
    (h : ∀ w, Below B.heap.size B w → growT Try.prog md ops Q G f (s.setIfInBounds i true) (a.put d undef) (w.setRow g (kl k).toArray)) : growT Try.prog md ops Q G (f + 1) s a B := by
  subst hd
  exact grow_one hi hr hg fun w hw => wp_store_row 23 x y ho g _ hx hy t old (blk_lives hB hw) (by rw [kl_size hk]; exact info23) (by rw [kl_size hk]; exact hold) (kl_one k) ⟨fun h0 => (by rw [hG] at h0; cases h0), h w hw⟩
theorem grow_key_alloc {ops : Array Oper} {md : Region.Mode} {Q : Exit → Act → World → Prop} {G : Nat → Bool} {i : Nat} {oi : Oper} {f : Nat} {s : Array Bool} {a : Act} {B : World} (d : Option Tmp)
    (hi : ops[i]? = some oi) (hd : oi.dst = d) (hr : Region.ready md ops s = [i]) (hg : oi.guard = none) (ho : oi.op = .alloc 23)
    (h : ∀ w, Below B.heap.size B w → growT Try.prog md ops Q G f (s.setIfInBounds i true) (a.put d (.pointer (some ⟨w.heap.size, 0, none⟩))) (w.alloc (.cells (kl zeros).toArray 23))) : growT Try.prog md ops Q G (f + 1) s a B := by
  subst hd
  refine grow_one hi hr hg fun w hw => ?_
  have e : (execOp a.eval oi).run Try.prog w = .ok (.value (.pointer (some ⟨w.heap.size, 0, none⟩))) (w.alloc (.cells (kl zeros).toArray 23)) := by
    unfold execOp
    simp [ho, go_sem]
  unfold Oper.wp
  rw [e]
  exact ⟨fun _ => below_alloc _ _, h w hw⟩

theorem stream_part (k : List UInt8) (n : BitVec 64) (l : List UInt8) (i j : Nat) (hj : j < 16) : (xorl (portionAt l i) (maskOf k n i))[j]? = some (streamAt k n l (16 * i + j)) := by
  rw [xorl_get _ _ (by simp) j (by simpa using hj)]
  congr 1
  unfold streamAt portionAt
  have h1 : (16 * i + j) / 16 = i := by omega
  have h2 : (16 * i + j) % 16 = j := by omega
  rw [h1, h2]
  simp [hj]

set_option maxHeartbeats 4000000 in
theorem refStream_any (k : List UInt8) (hk : k.length = 16) (n : BitVec 64) (l : List UInt8) (A : Option Addr) (m c : Nat) (w : World) (hs : Sl w A m c (kl l)) (hm : l.length ≤ 16384) :
    Calls Try.prog 32 #[kv k, wv n, .slice A m c] w fun e w' => ∃ v, e = .returned (.tuple #[v, .int .i64 0]) ∧ Ob w' w.heap.size v (stream k n l) ∧ Below w.heap.size w w' := by
  obtain rfl : m = l.length := by have := hs.1; rw [kl_length] at this; exact this.symm
  have HS := Lib.hid hs
  have h1 : (l.length : Int) ≤ 16384 := by omega
  have hmax : maxLen = 9223372036854775807 := rfl
  clear hs
  go_enter Try.func32, Try.ntmps32
  go_wp2
  go_loopw [8, 9] (fun out i wr => ∃ q : Nat, q ≤ (l.length + 15) / 16 ∧ i = .int .i64 q ∧ Ob wr (w.heap.size + 1) out ((stream k n l).take (16 * q)) ∧ wr.heap[w.heap.size]? = some (.cells (kl k).toArray 23 (0, 0)) ∧ Below w.heap.size w wr) (fun _ i _ => (l.length + 15) / 16 - (intOf i).toNat)
  case atStart => exact ⟨0, by omega, rfl, ⟨rfl, .inl ⟨rfl, rfl⟩⟩, blk_last _ _, below_alloc _ _⟩
  case round =>
    obtain ⟨q, hq, rfl, ho, hx, hw⟩ := hrel
    have HO := Lib.hid ho; have HX := Lib.hid hx; have HW := Lib.hid hw
    clear ho hx hw
    have hq0 : (0 : Int) ≤ q := by omega
    by_cases hlt : q < (l.length + 15) / 16
    · have hq1 : (q : Int) < ((l.length : Int) + 15) / 16 := by omega
      have hconv : ∀ wx : World, (convert 3 31 (.int .i64 (q : Int))).run Try.prog wx = .ok (wv (BitVec.ofNat 64 q)) wx := fun wx => by
        rw [run_conv_word wx _ rfl rfl, BitVec.ofInt_natCast]
      have h16 : 16 * q < l.length := by omega
      go_wp2_with (go_at_call 56; refine (refPortions_any l.length (by omega) A c _).mono ?_; rintro e wr ⟨rfl, rfl⟩)
      have hxl : (xorl (portionAt l q) (enc k (tagBlock 1 (BitVec.ofNat 64 q) n))).length = 16 := xorl_length (by simp) (by simp)
      refine wp_region_grow (fun j => decide (j < 11)) (by kernel_rfl) ?_
      have hsB : Sl wr.drew A l.length c (kl l) := (HS.out.lives HW.out).lives (below_self wr).drew
      have HSB := Lib.hid hsB
      clear hsB
      refine grow_pure (i := 0) (some 21) (.slice A l.length c) rfl rfl (by kernel_rfl) (by kernel_rfl) (by kernel_rfl) (fun _ _ _ h => h) rfl (fun w => by unfold execOp; simp [go_sem]) ?_
      simp only [Act.put, List.setIfInBounds_toArray, List.set_cons_succ, List.set_cons_zero]
      refine grow_pure (i := 1) (some 22) (.int .i64 (q : Int)) rfl rfl (by kernel_rfl) (by kernel_rfl) (by kernel_rfl) (fun _ _ _ h => h) rfl (fun w => by unfold execOp; simp [go_sem]) ?_
      simp only [Act.put, List.setIfInBounds_toArray, List.set_cons_succ, List.set_cons_zero]
      refine grow_take (i := 2) (some 23) (kv (portionAt l q)) rfl rfl (by kernel_rfl) (by kernel_rfl) (by kernel_rfl) (by kernel_rfl) (fun _ _ _ h => h) (yields_call rfl (fun w1 hw1 => refPortion_any l A l.length c q w1 (HSB.out.lives hw1) h16) (fun w => by unfold execOp; simp [go_sem])) ?_
      simp only [Act.put, List.setIfInBounds_toArray, List.set_cons_succ, List.set_cons_zero]
      refine grow_take (i := 3) (some 24) (kv k) rfl rfl (by kernel_rfl) (by kernel_rfl) (by kernel_rfl) (by kernel_rfl) (fun _ _ _ h => h) (yields_load (w.heap.size) k hk _ rfl rfl rfl (HX.out)) ?_
      simp only [Act.put, List.setIfInBounds_toArray, List.set_cons_succ, List.set_cons_zero]
      refine grow_pure (i := 4) (some 25) (.int .i64 (q : Int)) rfl rfl (by kernel_rfl) (by kernel_rfl) (by kernel_rfl) (fun _ _ _ h => h) rfl (fun w => by unfold execOp; simp [go_sem]) ?_
      simp only [Act.put, List.setIfInBounds_toArray, List.set_cons_succ, List.set_cons_zero]
      refine grow_pure (i := 5) (some 26) (wv (BitVec.ofNat 64 q)) rfl rfl (by kernel_rfl) (by kernel_rfl) (by kernel_rfl) (fun _ _ _ h => h) rfl (fun w => by unfold execOp; simp [go_sem, hconv]) ?_
      simp only [Act.put, List.setIfInBounds_toArray, List.set_cons_succ, List.set_cons_zero]
      refine grow_pure (i := 6) (some 27) (wv n) rfl rfl (by kernel_rfl) (by kernel_rfl) (by kernel_rfl) (fun _ _ _ h => h) rfl (fun w => by unfold execOp; simp [go_sem]) ?_
      simp only [Act.put, List.setIfInBounds_toArray, List.set_cons_succ, List.set_cons_zero]
      refine grow_take (i := 7) (some 28) (kv (tagBlock 1 (BitVec.ofNat 64 q) n)) rfl rfl (by kernel_rfl) (by kernel_rfl) (by kernel_rfl) (by kernel_rfl) (fun _ _ _ h => h) (yields_call rfl (fun w1 hw1 => refTag_any 1 (BitVec.ofNat 64 q) n (by rw [BitVec.toNat_ofNat]; omega) w1) (fun w => by unfold execOp; simp [go_sem]; rfl)) ?_
      simp only [Act.put, List.setIfInBounds_toArray, List.set_cons_succ, List.set_cons_zero]
      refine grow_take (i := 8) (some 29) (kv (enc k (tagBlock 1 (BitVec.ofNat 64 q) n))) rfl rfl (by kernel_rfl) (by kernel_rfl) (by kernel_rfl) (by kernel_rfl) (fun _ _ _ h => h) (yields_call rfl (fun w1 hw1 => refEncrypt_any k (tagBlock 1 (BitVec.ofNat 64 q) n) hk (by simp) w1) (fun w => by unfold execOp; simp [go_sem])) ?_
      simp only [Act.put, List.setIfInBounds_toArray, List.set_cons_succ, List.set_cons_zero]
      refine grow_take (i := 9) (some 30) (kv (xorl (portionAt l q) (enc k (tagBlock 1 (BitVec.ofNat 64 q) n)))) rfl rfl (by kernel_rfl) (by kernel_rfl) (by kernel_rfl) (by kernel_rfl) (fun _ _ _ h => h) (yields_call rfl (fun w1 hw1 => refXor_any (portionAt l q) (enc k (tagBlock 1 (BitVec.ofNat 64 q) n)) (by simp) (by simp) w1) (fun w => by unfold execOp; simp [go_sem])) ?_
      simp only [Act.put, List.setIfInBounds_toArray, List.set_cons_succ, List.set_cons_zero]
      refine grow_key_alloc (i := 10) (some 10) rfl rfl (by kernel_rfl) rfl rfl ?_
      intro w2 hw2
      simp only [Act.put, List.setIfInBounds_toArray, List.set_cons_succ, List.set_cons_zero]
      refine grow_key_store (i := 11) none w2.heap.size (xorl (portionAt l q) (enc k (tagBlock 1 (BitVec.ofNat 64 q) n))) hxl _ _ rfl rfl (by kernel_rfl) rfl rfl rfl rfl rfl (blk_last _ _) (kl_size (zeros_length)) ?_
      intro w4 hw4
      refine grow_done (by kernel_rfl) ?_ _
      intro w5 hw5
      have hfin : Below w2.heap.size w2 w5 := later_trans (below_row (later_trans (below_alloc _ _) hw4) (Nat.le_refl _) _) hw5
      have hX := blk_lives (blk_row (cs := (kl (xorl (portionAt l q) (enc k (tagBlock 1 (BitVec.ofNat 64 q) n)))).toArray) (blk_lives (blk_last w2 (.cells (kl zeros).toArray 23)) hw4)) hw5
      have hb2 : Below wr.heap.size wr w2 := later_trans (below_self wr).drew hw2
      have hb5 := later_trans hb2 hfin
      have ho5 := own_lives HO.out hb5
      have hk5 := blk_lives HX.out hb5
      have hw5' := aft HW.out hb5
      have hne : u8.ownBlock ≠ some w2.heap.size := fun h => by have := (HO.out.lt _ h).2; have := hb2.size; omega
      have hlt5 : w2.heap.size < w5.heap.size := lt_blk hX
      have hz5 : w.heap.size + 1 ≤ w2.heap.size := Nat.le_trans (lt_blk HX.out) hb2.size
      generalize w2.heap.size = g at *
      have HH1 := Lib.hid hX; have HH2 := Lib.hid ho5; have HH3 := Lib.hid hk5; have HH4 := Lib.hid hw5'; have HH5 := Lib.hid hne; have HH6 := Lib.hid hlt5; have HH7 := Lib.hid hz5
      clear hX ho5 hk5 hw5' hne hlt5 hw5 hw4 hw2 hfin hb2 hb5 HSB HX HO HW hz5
      simp only [Act.put]
      go_wp2
      go_loopw [8, 11] (fun out jv wx => ∃ j : Nat, j ≤ 16 ∧ 16 * q + j ≤ l.length ∧ jv = .int .i64 j ∧ Ob wx (w.heap.size + 1) out ((stream k n l).take (16 * q + j)) ∧ out.ownBlock ≠ some g ∧
        wx.heap[g]? = some (.cells (kl (xorl (portionAt l q) (enc k (tagBlock 1 (BitVec.ofNat 64 q) n)))).toArray 23 (0, 0)) ∧ wx.heap[w.heap.size]? = some (.cells (kl k).toArray 23 (0, 0)) ∧ Below w.heap.size w wx) (fun _ jv _ => 16 - (intOf jv).toNat)
      case atStart => exact ⟨0, by omega, by omega, rfl, HH2.out, HH5.out, HH1.out, HH3.out, HH4.out⟩
      case round =>
        obtain ⟨j, hj, hjl, rfl, ho, hne, hX, hK, hw⟩ := hrel
        have HO := Lib.hid ho; have HNE := Lib.hid hne; have HX := Lib.hid hX; have HK := Lib.hid hK; have HW := Lib.hid hw
        have hj0 : (0 : Int) ≤ j := by omega
        clear ho hne hK hw
        by_cases hj16 : j < 16
        · have hj1 : (j : Int) < 16 := by omega
          by_cases hjn : 16 * q + j < l.length
          · have hj2 : 16 * (q : Int) + j < l.length := by omega
            have hx := stream_part k n l q j hj16
            have c0 := cell_blk hX (i := j) (v := bv (streamAt k n l (16 * q + j))) (by rw [List.getElem?_toArray, kl, List.getElem?_map]; unfold maskOf at hx; rw [hx]; rfl)
            have hst : (stream k n l).take (16 * q + j + 1) = (stream k n l).take (16 * q + j) ++ [streamAt k n l (16 * q + j)] := by
              rw [take_snoc _ _ (by simpa using hjn)]
              simp [stream, hjn]
            have hln : ((stream k n l).take (16 * q + j)).length = 16 * q + j := by rw [List.length_take, stream_length]; omega
            have HST := Lib.hid hst
            clear hX hx hst
            generalize streamAt k n l (16 * q + j) = b at *
            go_wp2_with (
              (refine wl_app Try.underlying37 info5 rfl (.tmp 44) (.tmp 48) rfl rfl rfl rfl (own_lives HO.out (below_alloc _ _)) (sl_litb _ _ _ rfl) (kl_cells _) (by omega) (by omega) (by rw [World.size_alloc]; exact Nat.le_succ_of_le (lt_blk HK.out)) ?_
               intro v' w6 ho6 ha6; have HO6 := Lib.hid ho6; have HA6 := Lib.hid ha6; clear ho6 ha6))
            go_roundw
            case rel =>
              refine ⟨j + 1, by omega, by omega, by go_num, ?_, ?_, ?_, ?_, ?_⟩
              · rw [← Nat.add_assoc, HST.out]; exact ob_app (m := [b]) HO6.out
              · rcases HA6.out.2 with h | h
                · rw [h]; exact HNE.out
                · rw [h, World.size_alloc]; intro h2; have := lt_blk HX.out; simp only [Option.some.injEq] at h2; omega
              · exact HA6.out.blk (blk_keep HX.out _) HNE.out
              · exact HA6.out.blk (blk_keep HK.out _) (fun h => by have := (HO.out.lt _ h).1; omega)
              · exact aft_app (aft_alloc HW.out _) (own_base (own_lives HO.out (below_alloc _ _)) (Nat.le_succ _)) HA6.out
            case measure => simp [intOf]; omega
          · have hj2 : ¬ (16 * (q : Int) + j < l.length) := by omega
            have hd : decide (16 * (q : Int) + j < l.length) = false := decide_eq_false hj2
            clear hX
            have htk : (stream k n l).take (16 * (q + 1)) = (stream k n l).take (16 * q + j) := by
              rw [List.take_of_length_le (by rw [stream_length]; omega), List.take_of_length_le (by rw [stream_length]; omega)]
            have HTK := Lib.hid htk
            clear htk
            go_wp2
            exact ⟨⟨q + 1, by omega, by go_num, by rw [HTK.out]; exact HO.out, HK.out, HW.out⟩, by simp [intOf]; omega⟩
        · obtain rfl : j = 16 := by omega
          clear hX
          go_wp2
          exact ⟨⟨q + 1, by omega, by go_num, by rw [Nat.mul_add]; exact HO.out, HK.out, HW.out⟩, by simp [intOf]; omega⟩
    · obtain rfl : q = (l.length + 15) / 16 := by omega
      have htk : (stream k n l).take (16 * ((l.length + 15) / 16)) = stream k n l := List.take_of_length_le (by rw [stream_length]; omega)
      rw [htk] at HO
      have hq1 : ¬ ((((l.length : Int) + 15) / 16) < ((l.length : Int) + 15) / 16) := by omega
      clear htk
      go_wp2_with (go_at_call 56; refine (refPortions_any l.length (by omega) A c _).mono ?_; rintro e wr ⟨rfl, rfl⟩)
      refine bodyPost_ret (v := .tuple #[u8, .int .i64 0]) (by simp [results, Try.results32, go_sem]) rfl ⟨_, rfl, own_base HO.out (Nat.le_succ _), HW.out⟩
end Go.Proofs.Ytccojcjgknlhdaa
