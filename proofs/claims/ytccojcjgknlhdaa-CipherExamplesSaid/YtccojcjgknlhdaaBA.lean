/-
  The walk of the law of the examples.
-/
import Derived.Test.YtccojcjgknlhdaaB9
import Derived.Test.YtccojcjgknlhdaaP4
namespace Go.Proofs.Ytccojcjgknlhdaa
open Go.RowKit
attribute [local go_sem] fold_zeros

def badOne : List UInt8 := [48, 70, 48, 101, 48, 100, 48, 99, 48, 98, 48, 97, 48, 57, 48, 56, 48, 55, 48, 54, 48, 53, 48, 52, 48, 51, 48, 50, 48, 49, 48, 48]
def badTwo : List UInt8 := [48, 102, 48, 101, 48, 100, 48, 99, 48, 98, 48, 97, 48, 57, 48, 56, 48, 55, 48, 54, 48, 53, 48, 52, 48, 51, 48, 50, 48, 49, 48]
theorem parse_badOne : parseE badOne = .int .i64 12 := by
  have : isText badOne = false := by decide +kernel
  rw [parseE, this]; rfl
theorem parse_badTwo : parseE badTwo = .int .i64 12 := by
  have : isText badTwo = false := by decide +kernel
  rw [parseE, this]; rfl
def oneBlock : List UInt8 := zeros.set 0 128
theorem hash_nil : hashOf [] = xorl (enc oneBlock start) start := by
  have h1 : padded [] = oneBlock := by decide +kernel
  have h2 : portionAt oneBlock 0 = oneBlock := by decide +kernel
  unfold hashOf
  rw [h1]
  show hashNext start (portionAt oneBlock 0) = _
  rw [h2]; rfl
/-- 16385 zero bytes, made. -/
theorem make_big : ∃ O : Obj, ∀ w, (Instr.makeSlice 37 (.int .i64 16385) (.int .i64 16385)).run Try.prog w = .ok (.slice (some ⟨w.heap.size, 0, none⟩) 16385 16385) (w.alloc O) :=
  ⟨_, fun w => run_make_bytes 16385 (by decide) w⟩

/-- The only one that may come up: what yields a value, the world growing. -/
theorem grow_new {ops : Array Oper} {md : Region.Mode} {Q : Exit → Act → World → Prop} {G : Nat → Bool} {i : Nat} {oi : Oper} {f : Nat} {s : Array Bool} {a : Act} {B : World} (d : Option Tmp) (v : World → Value) (n : World → World)
    (hi : ops[i]? = some oi) (hd : oi.dst = d) (hr : Region.ready md ops s = [i]) (hg : oi.guard = none) (he : ∀ w, (execOp a.eval oi).run Try.prog w = .ok (.value (v w)) (n w)) (hb : ∀ w, Below w.heap.size w (n w))
    (h : ∀ w, Below B.heap.size B w → growT Try.prog md ops Q G f (s.setIfInBounds i true) (a.put d (v w)) (n w)) : growT Try.prog md ops Q G (f + 1) s a B := by
  subst hd
  refine grow_one hi hr hg fun w hw => ?_
  unfold Oper.wp
  rw [he w]
  exact ⟨fun _ => hb w, h w hw⟩
/-- One of two that each yield a value, the world growing. -/
theorem grow_new2 {ops : Array Oper} {md : Region.Mode} {Q : Exit → Act → World → Prop} {G : Nat → Bool} {i k : Nat} {oi ok : Oper} {f : Nat} {s : Array Bool} {a : Act} {B : World} (d d2 : Option Tmp) (v v2 : World → Value) (n n2 : World → World)
    (hi : ops[i]? = some oi) (hk : ops[k]? = some ok) (hd : oi.dst = d) (hd2 : ok.dst = d2) (hr : Region.ready md ops s = [i, k]) (hg : oi.guard = none) (hg2 : ok.guard = none)
    (he : ∀ w, (execOp a.eval oi).run Try.prog w = .ok (.value (v w)) (n w)) (hb : ∀ w, Below w.heap.size w (n w)) (he2 : ∀ w, (execOp a.eval ok).run Try.prog w = .ok (.value (v2 w)) (n2 w)) (hb2 : ∀ w, Below w.heap.size w (n2 w))
    (h : ∀ w, Below B.heap.size B w → growT Try.prog md ops Q G f (s.setIfInBounds i true) (a.put d (v w)) (n w))
    (h2 : ∀ w, Below B.heap.size B w → growT Try.prog md ops Q G f (s.setIfInBounds k true) (a.put d2 (v2 w)) (n2 w)) : growT Try.prog md ops Q G (f + 1) s a B := by
  subst hd hd2
  refine grow_two hi hk hr hg hg2 (fun w hw => ?_) (fun w hw => ?_)
  · unfold Oper.wp
    rw [he w]
    exact ⟨fun _ => hb w, h w hw⟩
  · unfold Oper.wp
    rw [he2 w]
    exact ⟨fun _ => hb2 w, h2 w hw⟩

set_option maxHeartbeats 8000000 in
theorem examples_walk (K B C D E Z1 Z2 S O : List UInt8) (OB : Obj) (hK : K.length = 16) (hB : B.length = 16) (hC : C.length = 16) (hD : D.length = 16) (hS : S = start) (hO : O = oneBlock)
    (hmk : ∀ w, (Instr.makeSlice 37 (.int .i64 16385) (.int .i64 16385)).run Try.prog w = .ok (.slice (some ⟨w.heap.size, 0, none⟩) 16385 16385) (w.alloc OB))
    (HN : Hid (∀ w, Calls Try.prog 39 #[] w fun e w' => e = .returned (.tuple #[kv K, kv B, kv C, .bool true]) ∧ Below w.heap.size w w'))
    (HS0 : Hid (∀ w, Calls Try.prog 31 #[kv K, .int .u64 3, .slice none 0 0] w fun e w' => ∃ A c, e = .returned (.tuple #[.slice A 0 c, .int .i64 0]) ∧ Below w.heap.size w w'))
    (HSB : Hid (∀ A c w, Calls Try.prog 31 #[kv K, .int .u64 3, .slice A 16385 c] w fun e w' => e = .returned (.tuple #[.slice none 0 0, .int .i64 4]) ∧ Below w.heap.size w w'))
    (HHB : Hid (∀ A c w, Calls Try.prog 34 #[.slice A 16385 c] w fun e w' => e = .returned (.tuple #[kv zeros, .int .i64 4]) ∧ Below w.heap.size w w'))
    (HMB : Hid (∀ A c w, Calls Try.prog 37 #[kv K, .slice A 16385 c] w fun e w' => e = .returned (.tuple #[kv zeros, .int .i64 4]) ∧ Below w.heap.size w w'))
    (HH0 : Hid (∀ w, Calls Try.prog 34 #[.slice none 0 0] w fun e w' => e = .returned (.tuple #[kv D, .int .i64 0]) ∧ Below w.heap.size w w'))
    (HP1 : Hid (∀ w, Calls Try.prog 19 #[.string ⟨#[48, 70, 48, 101, 48, 100, 48, 99, 48, 98, 48, 97, 48, 57, 48, 56, 48, 55, 48, 54, 48, 53, 48, 52, 48, 51, 48, 50, 48, 49, 48, 48]⟩] w fun e w' => e = .returned (.tuple #[kv Z1, .int .i64 12]) ∧ Below w.heap.size w w'))
    (HP2 : Hid (∀ w, Calls Try.prog 19 #[.string ⟨#[48, 102, 48, 101, 48, 100, 48, 99, 48, 98, 48, 97, 48, 57, 48, 56, 48, 55, 48, 54, 48, 53, 48, 52, 48, 51, 48, 50, 48, 49, 48]⟩] w fun e w' => e = .returned (.tuple #[kv Z2, .int .i64 12]) ∧ Below w.heap.size w w'))
    (HN0 : Hid (∀ w, Calls Try.prog 25 #[kv K, .int .u64 5, .int .u64 0] w fun e w' => e = .returned (.int .u64 0) ∧ Below w.heap.size w w'))
    (HN1 : Hid (∀ w, Calls Try.prog 25 #[kv K, .int .u64 5, .int .u64 1] w fun e w' => e = .returned (.int .u64 0) ∧ Below w.heap.size w w'))
    (HE : Hid (∀ w, Calls Try.prog 27 #[kv O, kv S] w fun e w' => e = .returned (kv E) ∧ Below w.heap.size w w'))
    (HX : Hid (∀ w, Calls Try.prog 36 #[kv E, kv S] w fun e w' => e = .returned (kv D) ∧ Below w.heap.size w w')) (w : World) :
    Calls Try.prog 9 #[] w fun e w' => e = .returned (.bool true) ∧ Below w.heap.size w w' := by
  have hSl : S.length = 16 := by rw [hS]; rfl
  have hOl : O.length = 16 := by rw [hO]; rfl
  have HS := Lib.hid hS; have HO := Lib.hid hO
  clear hS hO
  go_enter Try.func9, Try.ntmps9
  go_wp2_with (first
    | (go_at_call 39; refine (HN.out _).mono ?_; rintro e w1 ⟨rfl, hb1⟩
       have z0 : (((w1.alloc (.cells (kl zeros).toArray 23)).alloc (.cells (kl zeros).toArray 23)).alloc (.cells (kl zeros).toArray 23)).heap[w1.heap.size]? = some (.cells (kl zeros).toArray 23 (0, 0)) := blk_keep (blk_keep (blk_last _ _) _) _
       have z1 : (((w1.alloc (.cells (kl zeros).toArray 23)).alloc (.cells (kl zeros).toArray 23)).alloc (.cells (kl zeros).toArray 23)).heap[w1.heap.size + 1]? = some (.cells (kl zeros).toArray 23 (0, 0)) := blk_keep (blk_last1 _ _ _) _
       have z2 : (((w1.alloc (.cells (kl zeros).toArray 23)).alloc (.cells (kl zeros).toArray 23)).alloc (.cells (kl zeros).toArray 23)).heap[w1.heap.size + 1 + 1]? = some (.cells (kl zeros).toArray 23 (0, 0)) := blk_last2 _ _ _ _
       have z3 := aft_alloc (aft_alloc (aft_alloc hb1 (.cells (kl zeros).toArray 23)) (.cells (kl zeros).toArray 23)) (.cells (kl zeros).toArray 23)
       have hz := hb1.size
       have Z0 := Lib.hid z0; have Z1' := Lib.hid z1; have Z2' := Lib.hid z2; have Z3 := Lib.hid z3; have HZ := Lib.hid hz
       clear hb1 z0 z1 z2 z3 hz)
    | (refine wl_store w1.heap.size K hK _ _ rfl rfl rfl rfl Z0.out rfl ?_
       have y0 := blk_row (cs := (kl K).toArray) Z0.out
       have y1 := (blk_rowfar (cs := (kl K).toArray) (show w1.heap.size + 1 ≠ w1.heap.size by omega)).trans Z1'.out
       have y2 := (blk_rowfar (cs := (kl K).toArray) (show w1.heap.size + 1 + 1 ≠ w1.heap.size by omega)).trans Z2'.out
       have y3 := below_row Z3.out HZ.out (kl K).toArray
       have Y0 := Lib.hid y0; have Y1 := Lib.hid y1; have Y2 := Lib.hid y2; have Y3 := Lib.hid y3
       clear y0 y1 y2 y3)
    | (refine wl_store (w1.heap.size + 1) B hB _ _ rfl rfl rfl rfl Y1.out rfl ?_
       have y0 := (blk_rowfar (cs := (kl B).toArray) (show w1.heap.size ≠ w1.heap.size + 1 by omega)).trans Y0.out
       have y2 := (blk_rowfar (cs := (kl B).toArray) (show w1.heap.size + 1 + 1 ≠ w1.heap.size + 1 by omega)).trans Y2.out
       have y3 := below_row Y3.out (Nat.le_succ_of_le HZ.out) (kl B).toArray
       have X0 := Lib.hid y0; have X2 := Lib.hid y2; have X3 := Lib.hid y3
       clear y0 y2 y3)
    | (refine wl_store (w1.heap.size + 1 + 1) C hC _ _ rfl rfl rfl rfl X2.out rfl ?_
       have y0 := (blk_rowfar (cs := (kl C).toArray) (show w1.heap.size ≠ w1.heap.size + 1 + 1 by omega)).trans X0.out
       have y3 := below_row X3.out (Nat.le_succ_of_le (Nat.le_succ_of_le HZ.out)) (kl C).toArray
       generalize (((((w1.alloc (.cells (kl zeros).toArray 23)).alloc (.cells (kl zeros).toArray 23)).alloc (.cells (kl zeros).toArray 23)).setRow w1.heap.size (kl K).toArray).setRow (w1.heap.size + 1) (kl B).toArray).setRow (w1.heap.size + 1 + 1) (kl C).toArray = W at *
       have V0 := Lib.hid y0; have V3 := Lib.hid y3
       clear y0 y3 Z0 Z1' Z2' Z3 HZ Y0 Y1 Y2 Y3 X0 X2 X3)
    | (refine wl_load w1.heap.size K hK _ rfl rfl rfl V0.out ?_)
    | (go_at_call 31; refine (HS0.out _).mono ?_; rintro e w2 ⟨A2, c2, rfl, hb2⟩; have HB2 := Lib.hid hb2; clear hb2))
  have k2 := blk_lives V0.out HB2.out
  have b2 := aft V3.out HB2.out
  have K2 := Lib.hid k2; have B2 := Lib.hid b2
  clear k2 b2 V0 V3 HB2
  generalize w1.heap.size = g at *
  refine wp_region_grow (fun _ => true) (by kernel_rfl) ?_
  refine grow_take (i := 0) (some 29) (kv K) rfl rfl (by kernel_rfl) (by kernel_rfl) (by kernel_rfl) (by kernel_rfl) (fun _ _ _ h => h) (yields_load g K hK _ rfl rfl rfl K2.out) ?_
  simp only [Act.put, List.setIfInBounds_toArray, List.set_cons_succ, List.set_cons_zero]
  refine grow_new (i := 1) (some 30) (fun w => .slice (some ⟨w.heap.size, 0, none⟩) 16385 16385) (fun w => w.alloc OB) rfl rfl (by kernel_rfl) rfl (fun w => by unfold execOp; simp [go_sem, hmk]) (fun w => below_alloc w OB) ?_
  intro w3 hw3
  have hw4 := later_trans hw3 (below_alloc w3 OB)
  generalize w3.alloc OB = w4 at *
  generalize w3.heap.size = gM at *
  simp only [Act.put, List.setIfInBounds_toArray, List.set_cons_succ, List.set_cons_zero]
  refine grow_take (i := 2) (some 31) (.tuple #[.slice none 0 0, .int .i64 4]) rfl rfl (by kernel_rfl) (by kernel_rfl) (by kernel_rfl) (by kernel_rfl) (fun _ _ _ h => h) (yields_call rfl (fun w1 _ => HSB.out (some ⟨gM, 0, none⟩) 16385 w1) (fun w => by unfold execOp; simp [go_sem])) ?_
  simp only [Act.put, List.setIfInBounds_toArray, List.set_cons_succ, List.set_cons_zero]
  refine grow_pure (i := 3) (some 28) (.tuple #[.slice none 0 0, .int .i64 4]) rfl rfl (by kernel_rfl) (by kernel_rfl) (by kernel_rfl) (fun _ _ _ h => h) rfl (fun w => by unfold execOp; simp [go_sem]) ?_
  simp only [Act.put, List.setIfInBounds_toArray, List.set_cons_succ, List.set_cons_zero]
  refine grow_pure (i := 4) (some 32) (.slice none 0 0) rfl rfl (by kernel_rfl) (by kernel_rfl) (by kernel_rfl) (fun _ _ _ h => h) rfl (fun w => by unfold execOp; simp [go_sem]) ?_
  simp only [Act.put, List.setIfInBounds_toArray, List.set_cons_succ, List.set_cons_zero]
  refine grow_pure (i := 5) (some 33) (.int .i64 4) rfl rfl (by kernel_rfl) (by kernel_rfl) (by kernel_rfl) (fun _ _ _ h => h) rfl (fun w => by unfold execOp; simp [go_sem]) ?_
  simp only [Act.put, List.setIfInBounds_toArray, List.set_cons_succ, List.set_cons_zero]
  refine grow_pure (i := 6) (some 7) (.slice none 0 0) rfl rfl (by kernel_rfl) (by kernel_rfl) (by kernel_rfl) (fun _ _ _ h => h) rfl (fun w => by unfold execOp; simp [go_sem]) ?_
  simp only [Act.put, List.setIfInBounds_toArray, List.set_cons_succ, List.set_cons_zero]
  refine grow_pure (i := 7) (some 8) (.int .i64 4) rfl rfl (by kernel_rfl) (by kernel_rfl) (by kernel_rfl) (fun _ _ _ h => h) rfl (fun w => by unfold execOp; simp [go_sem]) ?_
  simp only [Act.put, List.setIfInBounds_toArray, List.set_cons_succ, List.set_cons_zero]
  refine grow_done (by kernel_rfl) ?_ _
  intro w5 hw5
  have b5 := later_trans (later_trans (below_self w2).drew hw4) hw5
  have k5 := blk_lives K2.out b5
  have bb5 := aft B2.out b5
  have K5 := Lib.hid k5; have B5 := Lib.hid bb5
  clear b5 k5 bb5 hw5 hw4 hw3 K2 B2 HS0 HSB
  go_wp2_with (first
    | (go_at_call 34; refine (HHB.out _ _ _).mono ?_; rintro e w6 ⟨rfl, hb6⟩; have HB6 := Lib.hid hb6; clear hb6)
    | (refine wl_store w6.heap.size zeros zeros_length _ _ rfl rfl rfl rfl (blk_last _ _) rfl ?_
       have k7 := new_old (blk_lives K5.out (aft (below_alloc w5 OB) HB6.out)) zeros (kl zeros).toArray
       have b7 := aft (aft B5.out (aft (below_alloc w5 OB) HB6.out)) (new_below w6 zeros (kl zeros).toArray)
       generalize (w6.alloc (.cells (kl zeros).toArray 23)).setRow w6.heap.size (kl zeros).toArray = w7 at *
       have K7 := Lib.hid k7; have B7 := Lib.hid b7
       clear k7 b7 HB6 K5 B5))
  refine wp_region_grow (fun j => !(j == 7)) (by kernel_rfl) ?_
  refine grow_take (i := 0) (some 40) (kv K) rfl rfl (by kernel_rfl) (by kernel_rfl) (by kernel_rfl) (by kernel_rfl) (fun _ _ _ h => h) (yields_load g K hK _ rfl rfl rfl K7.out) ?_
  simp only [Act.put, List.setIfInBounds_toArray, List.set_cons_succ, List.set_cons_zero]
  refine grow_new2 (i := 1) (k := 6) (some 41) (some 11) (fun w => .slice (some ⟨w.heap.size, 0, none⟩) 16385 16385) (fun w => .pointer (some ⟨w.heap.size, 0, none⟩)) (fun w => w.alloc OB) (fun w => w.alloc (.cells (kl zeros).toArray 23)) rfl rfl rfl rfl (by kernel_rfl) rfl rfl
    (fun w => by unfold execOp; simp [go_sem, hmk]) (fun w => below_alloc w OB) (fun w => exec_alloc rfl w) (fun w => below_alloc w _) ?_ ?_
  · intro w8 hw8
    have hw9 := later_trans hw8 (below_alloc w8 OB)
    generalize w8.alloc OB = w9 at *
    generalize w8.heap.size = gN at *
    simp only [Act.put, List.setIfInBounds_toArray, List.set_cons_succ, List.set_cons_zero]
    refine grow_take (i := 2) (some 42) (.tuple #[kv zeros, .int .i64 4]) rfl rfl (by kernel_rfl) (by kernel_rfl) (by kernel_rfl) (by kernel_rfl) (fun _ _ _ h => h) (yields_call rfl (fun w1 _ => HMB.out (some ⟨gN, 0, none⟩) 16385 w1) (fun w => by unfold execOp; simp [go_sem])) ?_
    simp only [Act.put, List.setIfInBounds_toArray, List.set_cons_succ, List.set_cons_zero]
    refine grow_pure (i := 3) (some 39) (.tuple #[kv zeros, .int .i64 4]) rfl rfl (by kernel_rfl) (by kernel_rfl) (by kernel_rfl) (fun _ _ _ h => h) rfl (fun w => by unfold execOp; simp [go_sem]) ?_
    simp only [Act.put, List.setIfInBounds_toArray, List.set_cons_succ, List.set_cons_zero]
    refine grow_pure (i := 4) (some 43) (kv zeros) rfl rfl (by kernel_rfl) (by kernel_rfl) (by kernel_rfl) (fun _ _ _ h => h) rfl (fun w => by unfold execOp; simp [go_sem]) ?_
    simp only [Act.put, List.setIfInBounds_toArray, List.set_cons_succ, List.set_cons_zero]
    refine grow_pure (i := 5) (some 44) (.int .i64 4) rfl rfl (by kernel_rfl) (by kernel_rfl) (by kernel_rfl) (fun _ _ _ h => h) rfl (fun w => by unfold execOp; simp [go_sem]) ?_
    simp only [Act.put, List.setIfInBounds_toArray, List.set_cons_succ, List.set_cons_zero]
    refine grow_key_alloc (i := 6) (some 11) rfl rfl (by kernel_rfl) rfl rfl ?_
    intro w10 hw10
    simp only [Act.put, List.setIfInBounds_toArray, List.set_cons_succ, List.set_cons_zero]
    refine grow_key_store (i := 7) none w10.heap.size zeros zeros_length _ _ rfl rfl (by kernel_rfl) rfl rfl rfl rfl rfl (blk_last _ _) (kl_size zeros_length) ?_
    intro w12 hw12
    refine grow_pure (i := 8) (some 12) (.int .i64 4) rfl rfl (by kernel_rfl) (by kernel_rfl) (by kernel_rfl) (fun _ _ _ h => h) rfl (fun w => by unfold execOp; simp [go_sem]) ?_
    simp only [Act.put, List.setIfInBounds_toArray, List.set_cons_succ, List.set_cons_zero]
    refine grow_done (by kernel_rfl) ?_ _
    intro w13 hw13
    have b13 := later_trans (below_self w7).drew (later_trans (below_row (later_trans (later_trans hw9 (later_trans hw10 (below_alloc w10 _))) hw12) (later_trans hw9 hw10).size _) hw13)
    have k13 := blk_lives K7.out b13
    have bb13 := aft B7.out b13
    have K13 := Lib.hid k13; have B13 := Lib.hid bb13
    clear b13 k13 bb13 hw13 hw12 hw10 hw9 hw8 K7 B7
    generalize w10.heap.size = gA at *
    clear HHB HMB hmk HN
    go_wp2_with (go_at_call 33; refine (alive_any _).mono ?_; rintro e w14 ⟨rfl, hb14⟩; have HB14 := Lib.hid hb14; clear hb14)
    have f0 := blk_lives K13.out HB14.out
    have f1 := aft B13.out HB14.out
    have n0 := lt_blk f0
    have n1 := f1.size
    have F0 := Lib.hid f0; have F1 := Lib.hid f1; have N0 := Lib.hid n0; have N1 := Lib.hid n1
    clear f0 f1 n0 n1 K13 B13 HB14
    go_loopw [15] (fun i wr => ∃ q : Nat, q ≤ 16 ∧ i = .int .i64 q ∧ wr.heap[g]? = some (.cells (kl K).toArray 23 (0, 0)) ∧ wr.heap[w14.heap.size]? = some (.cells (kl (startTo q)).toArray 23 (0, 0)) ∧ wr.heap[w14.heap.size + 1]? = some (.cells (kl zeros).toArray 23 (0, 0)) ∧ Below w.heap.size w wr) (fun i _ => 16 - (intOf i).toNat)
    case atStart => exact ⟨0, by omega, rfl, blk_keep (blk_keep F0.out _) _, blk_keep (blk_last _ _) _, blk_last1 _ _ _, aft_alloc (aft_alloc F1.out _) _⟩
    case round =>
      obtain ⟨q, hq, rfl, h0, h1, h2, h3⟩ := hrel
      have H0 := Lib.hid h0; have H1 := Lib.hid h1; have H2 := Lib.hid h2; have H3 := Lib.hid h3
      have n2 : g ≠ w14.heap.size := Nat.ne_of_lt N0.out
      have n3 : g ≠ w14.heap.size + 1 := by have := N0.out; omega
      have n4 : w.heap.size ≤ w14.heap.size + 1 := Nat.le_succ_of_le N1.out
      by_cases hlt : q < 16
      · have q0 : (0 : Int) ≤ q := by omega
        have q1 : (q : Int) < 16 := by omega
        have c0 := cell_kl h1 (i := q) (by rw [startTo_length]; omega)
        have f := free_blk (i := q) h1
        clear h0 h1 h2 h3 n3 n4
        go_wp2
        go_roundw
        case rel =>
          refine ⟨q + 1, by omega, by go_num, (blk_far n2).trans H0.out, ?_, (blk_far (by omega)).trans H2.out, H3.out.setCell N1.out _⟩
          rw [blk_set H1.out]; show some (Obj.cells ((kl (startTo q)).toArray.setIfInBounds q (bv 90)) 23 (0, 0)) = _; rw [kl_set]; rfl
        case measure => simp [intOf]; omega
      · obtain rfl : q = 16 := by omega
        rw [startTo_all, ← HS.out] at h1
        have c0 := cell_kl h2 (i := 0) (by simp)
        have f := free_blk (i := 0) h2
        have r0 : (wr.setCell ⟨w14.heap.size + 1, 0, none⟩ (.int .u8 128)).heap[g]? = some (.cells (kl K).toArray 23 (0, 0)) := (blk_far n3).trans h0
        have r1 : (wr.setCell ⟨w14.heap.size + 1, 0, none⟩ (.int .u8 128)).heap[w14.heap.size]? = some (.cells (kl S).toArray 23 (0, 0)) := (blk_far (by omega)).trans h1
        have r2 : (wr.setCell ⟨w14.heap.size + 1, 0, none⟩ (.int .u8 128)).heap[w14.heap.size + 1]? = some (.cells (kl O).toArray 23 (0, 0)) := by
          rw [blk_set h2, HO.out]; show some (Obj.cells ((kl zeros).toArray.setIfInBounds 0 (bv 128)) 23 (0, 0)) = _; rw [kl_set]; rfl
        have r3 : Below w.heap.size w (wr.setCell ⟨w14.heap.size + 1, 0, none⟩ (.int .u8 128)) := h3.setCell n4 _
        have R0 := Lib.hid r0; have R1 := Lib.hid r1; have R2 := Lib.hid r2; have R3 := Lib.hid r3
        clear h0 h1 h2 h3 hlt hq r0 r1 r2 r3 H0 H1 H2 H3 n2 n3 n4
        go_wp2_with (first
          | (go_at_call 34; refine (HH0.out _).mono ?_; rintro e w15 ⟨rfl, hb15⟩
             have HB15 := Lib.hid hb15; clear hb15)
          | (refine wl_store w15.heap.size D hD _ _ rfl rfl rfl rfl (blk_last _ _) rfl ?_
             have s0 := new_old (blk_lives R0.out HB15.out) D (kl zeros).toArray
             have s1 := new_old (blk_lives R1.out HB15.out) D (kl zeros).toArray
             have s2 := new_old (blk_lives R2.out HB15.out) D (kl zeros).toArray
             have s3 := new_new w15 D (kl zeros).toArray
             have s4 := aft (aft R3.out HB15.out) (new_below w15 D (kl zeros).toArray)
             have S0 := Lib.hid s0; have S1 := Lib.hid s1; have S2 := Lib.hid s2; have S3 := Lib.hid s3; have S4 := Lib.hid s4; clear s0 s1 s2 s3 s4)
          | (fail_if_success (have hh := HB16.out)
             go_at_call 19; refine (HP1.out _).mono ?_; rintro e w16 ⟨rfl, hb16⟩; have HB16 := Lib.hid hb16; clear hb16)
          | (go_at_call 19; refine (HP2.out _).mono ?_; rintro e w17 ⟨rfl, hb17⟩; have HB17 := Lib.hid hb17; clear hb17))
        have b17 := aft HB16.out HB17.out
        have t0 := blk_lives S0.out b17
        have t1 := blk_lives S1.out b17
        have t2 := blk_lives S2.out b17
        have t3 := blk_lives S3.out b17
        have t4 := aft S4.out b17
        have T0 := Lib.hid t0; have T1 := Lib.hid t1; have T2 := Lib.hid t2; have T3 := Lib.hid t3; have T4 := Lib.hid t4
        have qD := eq_true hD
        clear b17 t0 t1 t2 t3 t4 c0 f
        refine wp_quiet_all (LaterC w17) (by kernel_rfl) (by kernel_rfl) (later_drew _) ?_
        (refine BigFrame.wpQuiet_want rfl (fun _ hK' => quiet_load g K hK _ rfl rfl T0.out (hK' _ ?_)); simp only [Act.put, List.setIfInBounds_toArray, List.set_cons_succ, List.set_cons_zero])
        go_big_quiet_step ((go_at_call 25; exact later_call _ (HN0.out _)))
        repeat (first
          | (refine BigFrame.wpQuiet_want rfl (fun _ hK' => quiet_load g K hK _ rfl rfl T0.out (hK' _ ?_)); simp only [Act.put, List.setIfInBounds_toArray, List.set_cons_succ, List.set_cons_zero])
          | (go_big_quiet_step (fail)))
        go_big_quiet_step ((go_at_call 25; exact later_call _ (HN1.out _)))
        repeat (first
          | (refine BigFrame.wpQuiet_want rfl (fun _ hK' => quiet_load w15.heap.size D hD _ rfl rfl T3.out (hK' _ ?_)); simp only [Act.put, List.setIfInBounds_toArray, List.set_cons_succ, List.set_cons_zero])
          | (refine BigFrame.wpQuiet_want rfl (fun _ hK' => quiet_load (w14.heap.size + 1) O hOl _ rfl rfl T2.out (hK' _ ?_)); simp only [Act.put, List.setIfInBounds_toArray, List.set_cons_succ, List.set_cons_zero])
          | (refine BigFrame.wpQuiet_want rfl (fun _ hK' => quiet_load w14.heap.size S hSl _ rfl rfl T1.out (hK' _ ?_)); simp only [Act.put, List.setIfInBounds_toArray, List.set_cons_succ, List.set_cons_zero])
          | (go_big_quiet_step ((first | (go_at_call 27; exact later_call _ (HE.out _)) | (go_at_call 36; exact later_call _ (HX.out _))))))
        refine wpQuiet_nil ?_
        rintro _ ⟨e, rfl⟩
        go_wp2
        go_ret
        exact ⟨rfl, aft T4.out e.below⟩
  · intro w8 hw8
    simp only [Act.put, List.setIfInBounds_toArray, List.set_cons_succ, List.set_cons_zero]
    refine grow_new (i := 1) (some 41) (fun w => .slice (some ⟨w.heap.size, 0, none⟩) 16385 16385) (fun w => w.alloc OB) rfl rfl (by kernel_rfl) rfl (fun w => by unfold execOp; simp [go_sem, hmk]) (fun w => below_alloc w OB) ?_
    intro w9 hw9
    have hl9 := blk_keep (blk_lives (blk_last w8 (.cells (kl zeros).toArray 23)) hw9) OB
    have hw10 := later_trans hw8 (later_trans (below_alloc w8 (.cells (kl zeros).toArray 23)) (later_trans hw9 (below_alloc w9 OB)))
    have hsz := hw8.size
    generalize w9.alloc OB = w10 at *
    generalize w9.heap.size = gN at *
    simp only [Act.put, List.setIfInBounds_toArray, List.set_cons_succ, List.set_cons_zero]
    refine grow_take (i := 2) (some 42) (.tuple #[kv zeros, .int .i64 4]) rfl rfl (by kernel_rfl) (by kernel_rfl) (by kernel_rfl) (by kernel_rfl) (fun _ _ _ h => h) (yields_call rfl (fun w1 _ => HMB.out (some ⟨gN, 0, none⟩) 16385 w1) (fun w => by unfold execOp; simp [go_sem])) ?_
    simp only [Act.put, List.setIfInBounds_toArray, List.set_cons_succ, List.set_cons_zero]
    refine grow_pure (i := 3) (some 39) (.tuple #[kv zeros, .int .i64 4]) rfl rfl (by kernel_rfl) (by kernel_rfl) (by kernel_rfl) (fun _ _ _ h => h) rfl (fun w => by unfold execOp; simp [go_sem]) ?_
    simp only [Act.put, List.setIfInBounds_toArray, List.set_cons_succ, List.set_cons_zero]
    refine grow_pure (i := 4) (some 43) (kv zeros) rfl rfl (by kernel_rfl) (by kernel_rfl) (by kernel_rfl) (fun _ _ _ h => h) rfl (fun w => by unfold execOp; simp [go_sem]) ?_
    simp only [Act.put, List.setIfInBounds_toArray, List.set_cons_succ, List.set_cons_zero]
    refine grow_pure (i := 5) (some 44) (.int .i64 4) rfl rfl (by kernel_rfl) (by kernel_rfl) (by kernel_rfl) (fun _ _ _ h => h) rfl (fun w => by unfold execOp; simp [go_sem]) ?_
    simp only [Act.put, List.setIfInBounds_toArray, List.set_cons_succ, List.set_cons_zero]
    refine grow_key_store (i := 7) none w8.heap.size zeros zeros_length _ _ rfl rfl (by kernel_rfl) rfl rfl rfl rfl rfl hl9 (kl_size zeros_length) ?_
    intro w12 hw12
    refine grow_pure (i := 8) (some 12) (.int .i64 4) rfl rfl (by kernel_rfl) (by kernel_rfl) (by kernel_rfl) (fun _ _ _ h => h) rfl (fun w => by unfold execOp; simp [go_sem]) ?_
    simp only [Act.put, List.setIfInBounds_toArray, List.set_cons_succ, List.set_cons_zero]
    refine grow_done (by kernel_rfl) ?_ _
    intro w13 hw13
    have b13 := later_trans (below_self w7).drew (later_trans (below_row (later_trans hw10 hw12) hsz _) hw13)
    have k13 := blk_lives K7.out b13
    have bb13 := aft B7.out b13
    have K13 := Lib.hid k13; have B13 := Lib.hid bb13
    clear b13 k13 bb13 hw13 hw12 hw10 hw9 hw8 K7 B7 hl9 hsz
    generalize w8.heap.size = gA at *
    clear HHB HMB hmk HN
    go_wp2_with (go_at_call 33; refine (alive_any _).mono ?_; rintro e w14 ⟨rfl, hb14⟩; have HB14 := Lib.hid hb14; clear hb14)
    have f0 := blk_lives K13.out HB14.out
    have f1 := aft B13.out HB14.out
    have n0 := lt_blk f0
    have n1 := f1.size
    have F0 := Lib.hid f0; have F1 := Lib.hid f1; have N0 := Lib.hid n0; have N1 := Lib.hid n1
    clear f0 f1 n0 n1 K13 B13 HB14
    go_loopw [15] (fun i wr => ∃ q : Nat, q ≤ 16 ∧ i = .int .i64 q ∧ wr.heap[g]? = some (.cells (kl K).toArray 23 (0, 0)) ∧ wr.heap[w14.heap.size]? = some (.cells (kl (startTo q)).toArray 23 (0, 0)) ∧ wr.heap[w14.heap.size + 1]? = some (.cells (kl zeros).toArray 23 (0, 0)) ∧ Below w.heap.size w wr) (fun i _ => 16 - (intOf i).toNat)
    case atStart => exact ⟨0, by omega, rfl, blk_keep (blk_keep F0.out _) _, blk_keep (blk_last _ _) _, blk_last1 _ _ _, aft_alloc (aft_alloc F1.out _) _⟩
    case round =>
      obtain ⟨q, hq, rfl, h0, h1, h2, h3⟩ := hrel
      have H0 := Lib.hid h0; have H1 := Lib.hid h1; have H2 := Lib.hid h2; have H3 := Lib.hid h3
      have n2 : g ≠ w14.heap.size := Nat.ne_of_lt N0.out
      have n3 : g ≠ w14.heap.size + 1 := by have := N0.out; omega
      have n4 : w.heap.size ≤ w14.heap.size + 1 := Nat.le_succ_of_le N1.out
      by_cases hlt : q < 16
      · have q0 : (0 : Int) ≤ q := by omega
        have q1 : (q : Int) < 16 := by omega
        have c0 := cell_kl h1 (i := q) (by rw [startTo_length]; omega)
        have f := free_blk (i := q) h1
        clear h0 h1 h2 h3 n3 n4
        go_wp2
        go_roundw
        case rel =>
          refine ⟨q + 1, by omega, by go_num, (blk_far n2).trans H0.out, ?_, (blk_far (by omega)).trans H2.out, H3.out.setCell N1.out _⟩
          rw [blk_set H1.out]; show some (Obj.cells ((kl (startTo q)).toArray.setIfInBounds q (bv 90)) 23 (0, 0)) = _; rw [kl_set]; rfl
        case measure => simp [intOf]; omega
      · obtain rfl : q = 16 := by omega
        rw [startTo_all, ← HS.out] at h1
        have c0 := cell_kl h2 (i := 0) (by simp)
        have f := free_blk (i := 0) h2
        have r0 : (wr.setCell ⟨w14.heap.size + 1, 0, none⟩ (.int .u8 128)).heap[g]? = some (.cells (kl K).toArray 23 (0, 0)) := (blk_far n3).trans h0
        have r1 : (wr.setCell ⟨w14.heap.size + 1, 0, none⟩ (.int .u8 128)).heap[w14.heap.size]? = some (.cells (kl S).toArray 23 (0, 0)) := (blk_far (by omega)).trans h1
        have r2 : (wr.setCell ⟨w14.heap.size + 1, 0, none⟩ (.int .u8 128)).heap[w14.heap.size + 1]? = some (.cells (kl O).toArray 23 (0, 0)) := by
          rw [blk_set h2, HO.out]; show some (Obj.cells ((kl zeros).toArray.setIfInBounds 0 (bv 128)) 23 (0, 0)) = _; rw [kl_set]; rfl
        have r3 : Below w.heap.size w (wr.setCell ⟨w14.heap.size + 1, 0, none⟩ (.int .u8 128)) := h3.setCell n4 _
        have R0 := Lib.hid r0; have R1 := Lib.hid r1; have R2 := Lib.hid r2; have R3 := Lib.hid r3
        clear h0 h1 h2 h3 hlt hq r0 r1 r2 r3 H0 H1 H2 H3 n2 n3 n4
        go_wp2_with (first
          | (go_at_call 34; refine (HH0.out _).mono ?_; rintro e w15 ⟨rfl, hb15⟩
             have HB15 := Lib.hid hb15; clear hb15)
          | (refine wl_store w15.heap.size D hD _ _ rfl rfl rfl rfl (blk_last _ _) rfl ?_
             have s0 := new_old (blk_lives R0.out HB15.out) D (kl zeros).toArray
             have s1 := new_old (blk_lives R1.out HB15.out) D (kl zeros).toArray
             have s2 := new_old (blk_lives R2.out HB15.out) D (kl zeros).toArray
             have s3 := new_new w15 D (kl zeros).toArray
             have s4 := aft (aft R3.out HB15.out) (new_below w15 D (kl zeros).toArray)
             have S0 := Lib.hid s0; have S1 := Lib.hid s1; have S2 := Lib.hid s2; have S3 := Lib.hid s3; have S4 := Lib.hid s4; clear s0 s1 s2 s3 s4)
          | (fail_if_success (have hh := HB16.out)
             go_at_call 19; refine (HP1.out _).mono ?_; rintro e w16 ⟨rfl, hb16⟩; have HB16 := Lib.hid hb16; clear hb16)
          | (go_at_call 19; refine (HP2.out _).mono ?_; rintro e w17 ⟨rfl, hb17⟩; have HB17 := Lib.hid hb17; clear hb17))
        have b17 := aft HB16.out HB17.out
        have t0 := blk_lives S0.out b17
        have t1 := blk_lives S1.out b17
        have t2 := blk_lives S2.out b17
        have t3 := blk_lives S3.out b17
        have t4 := aft S4.out b17
        have T0 := Lib.hid t0; have T1 := Lib.hid t1; have T2 := Lib.hid t2; have T3 := Lib.hid t3; have T4 := Lib.hid t4
        have qD := eq_true hD
        clear b17 t0 t1 t2 t3 t4 c0 f
        refine wp_quiet_all (LaterC w17) (by kernel_rfl) (by kernel_rfl) (later_drew _) ?_
        (refine BigFrame.wpQuiet_want rfl (fun _ hK' => quiet_load g K hK _ rfl rfl T0.out (hK' _ ?_)); simp only [Act.put, List.setIfInBounds_toArray, List.set_cons_succ, List.set_cons_zero])
        go_big_quiet_step ((go_at_call 25; exact later_call _ (HN0.out _)))
        repeat (first
          | (refine BigFrame.wpQuiet_want rfl (fun _ hK' => quiet_load g K hK _ rfl rfl T0.out (hK' _ ?_)); simp only [Act.put, List.setIfInBounds_toArray, List.set_cons_succ, List.set_cons_zero])
          | (go_big_quiet_step (fail)))
        go_big_quiet_step ((go_at_call 25; exact later_call _ (HN1.out _)))
        repeat (first
          | (refine BigFrame.wpQuiet_want rfl (fun _ hK' => quiet_load w15.heap.size D hD _ rfl rfl T3.out (hK' _ ?_)); simp only [Act.put, List.setIfInBounds_toArray, List.set_cons_succ, List.set_cons_zero])
          | (refine BigFrame.wpQuiet_want rfl (fun _ hK' => quiet_load (w14.heap.size + 1) O hOl _ rfl rfl T2.out (hK' _ ?_)); simp only [Act.put, List.setIfInBounds_toArray, List.set_cons_succ, List.set_cons_zero])
          | (refine BigFrame.wpQuiet_want rfl (fun _ hK' => quiet_load w14.heap.size S hSl _ rfl rfl T1.out (hK' _ ?_)); simp only [Act.put, List.setIfInBounds_toArray, List.set_cons_succ, List.set_cons_zero])
          | (go_big_quiet_step ((first | (go_at_call 27; exact later_call _ (HE.out _)) | (go_at_call 36; exact later_call _ (HX.out _))))))
        refine wpQuiet_nil ?_
        rintro _ ⟨e, rfl⟩
        go_wp2
        go_ret
        exact ⟨rfl, aft T4.out e.below⟩

theorem number_one (k : List UInt8) (n : BitVec 64) : numberOf k n 1#64 = 0#64 := by
  unfold numberOf
  rw [if_neg (by decide)]
  apply BitVec.eq_of_toNat_eq
  rw [BitVec.toNat_umod]
  exact Nat.mod_one _
theorem examples_any (w : World) : Calls Try.prog 9 #[] w fun e w' => e = .returned (.bool true) ∧ Below w.heap.size w w' := by
  obtain ⟨OB, hmk⟩ := make_big
  have hd : (hashOf []).length = 16 := hashOf_length []
  refine examples_walk pubK pubB pubC (hashOf []) (enc oneBlock start) (parseR badOne) (parseR badTwo) start oneBlock OB pubK_length pubB_length pubC_length hd rfl rfl hmk (Lib.hid known_any) (Lib.hid fun w => ?_)
    (Lib.hid fun A c w => streamBig_any pubK 3#64 16385 A c w (by decide)) (Lib.hid fun A c w => hashBig_any 16385 A c w (by decide)) (Lib.hid fun A c w => macBig_any pubK 16385 A c w (by decide))
    (Lib.hid fun w => hash_any [] none 0 0 w (Sl.nil w) (by decide)) (Lib.hid fun w => ?_) (Lib.hid fun w => ?_) (Lib.hid fun w => ?_) (Lib.hid fun w => ?_) (Lib.hid fun w => encrypt_any oneBlock start rfl rfl w) (Lib.hid fun w => ?_) w
  · refine (stream_sl pubK pubK_length 3#64 [] [] rfl 0 rfl (by decide) none 0 0 w (Sl.nil w)).mono ?_
    rintro e w' ⟨A, c, h1, _, h2⟩
    exact ⟨A, c, h1, h2⟩
  · have h := parse_any ⟨#[48, 70, 48, 101, 48, 100, 48, 99, 48, 98, 48, 97, 48, 57, 48, 56, 48, 55, 48, 54, 48, 53, 48, 52, 48, 51, 48, 50, 48, 49, 48, 48]⟩ w
    change Calls Try.prog 19 _ w fun e w' => e = .returned (.tuple #[kv (parseR badOne), parseE badOne]) ∧ Below w.heap.size w w' at h
    rw [parse_badOne] at h; exact h
  · have h := parse_any ⟨#[48, 102, 48, 101, 48, 100, 48, 99, 48, 98, 48, 97, 48, 57, 48, 56, 48, 55, 48, 54, 48, 53, 48, 52, 48, 51, 48, 50, 48, 49, 48]⟩ w
    change Calls Try.prog 19 _ w fun e w' => e = .returned (.tuple #[kv (parseR badTwo), parseE badTwo]) ∧ Below w.heap.size w w' at h
    rw [parse_badTwo] at h; exact h
  · have h := number_any pubK pubK_length 5#64 0#64 w
    rw [show numberOf pubK 5#64 0#64 = 0#64 from by simp [numberOf]] at h; exact h
  · have h := number_any pubK pubK_length 5#64 1#64 w
    rw [number_one] at h; exact h
  · have h := lawXor_any (enc oneBlock start) start (by simp) rfl w
    rw [← hash_nil] at h; exact h
end Go.Proofs.Ytccojcjgknlhdaa
