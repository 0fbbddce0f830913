/-
  alive, over keys that are variables.
-/
import Derived.Test.YtccojcjgknlhdaaK1
namespace Go.Proofs.Ytccojcjgknlhdaa
open Go.RowKit
attribute [local go_sem] fold_zeros

set_option maxHeartbeats 4000000 in
theorem alive_walk (K B C D X M T : List UInt8) (hK : K.length = 16) (hB : B.length = 16) (hC : C.length = 16) (hX : X.length = 16) (hM : M.length = 16) (hD : ((zeros.set 0 7).set 14 1).set 15 2 = D)
    (HN : Hid (∀ w, Calls Try.prog 39 #[] w fun e w' => e = .returned (.tuple #[kv K, kv B, kv C, .bool true]) ∧ Below w.heap.size w w'))
    (HE : Hid (∀ w, Calls Try.prog 27 #[kv K, kv B] w fun e w' => e = .returned (kv C) ∧ Below w.heap.size w w'))
    (HD : Hid (∀ w, Calls Try.prog 29 #[kv K, kv C] w fun e w' => e = .returned (kv B) ∧ Below w.heap.size w w'))
    (HT : Hid (∀ w, Calls Try.prog 21 #[kv K] w fun e w' => e = .returned (sv T) ∧ Below w.heap.size w w'))
    (q5 : binOp .neq 9 (sv T) (.string ⟨#[48, 102, 48, 101, 48, 100, 48, 99, 48, 98, 48, 97, 48, 57, 48, 56, 48, 55, 48, 54, 48, 53, 48, 52, 48, 51, 48, 50, 48, 49, 48, 48]⟩) = pure (.bool false))
    (HM : Hid (∀ w, Calls Try.prog 37 #[kv K, .slice none 0 0] w fun e w' => e = .returned (.tuple #[kv M, .int .i64 0]) ∧ Below w.heap.size w w'))
    (HV : Hid (∀ w, Calls Try.prog 23 #[kv K, .int .u8 7, .int .u64 258] w fun e w' => e = .returned (kv X) ∧ Below w.heap.size w w'))
    (HV2 : Hid (∀ w, Calls Try.prog 27 #[kv K, kv D] w fun e w' => e = .returned (kv X) ∧ Below w.heap.size w w'))
    (HV3 : Hid (∀ w, Calls Try.prog 23 #[kv K, .int .u8 2, .int .u64 0] w fun e w' => e = .returned (kv M) ∧ Below w.heap.size w w')) (w : World) :
    Calls Try.prog 33 #[] w fun e w' => e = .returned (.bool true) ∧ Below w.heap.size w w' := by
  have q1 := eq_true hC
  have q2 := eq_true hB
  have q3 := eq_true hX
  have q4 := eq_true hM
  have HDD := Lib.hid hD
  have hDl : D.length = 16 := by rw [← hD]; rfl
  clear hD
  go_enter Try.func33, Try.ntmps33
  go_wp2_with (first
    | (go_at_call 39; refine (HN.out _).mono ?_; rintro e w1 ⟨rfl, hb1⟩
       have z0 : (((w1.alloc (.cells (kl zeros).toArray 23)).alloc (.cells (kl zeros).toArray 23)).alloc (.cells (kl zeros).toArray 23)).heap[w1.heap.size]? = some (.cells (kl zeros).toArray 23 (0, 0)) := blk_keep (blk_keep (blk_last _ _) _) _
       have z1 : (((w1.alloc (.cells (kl zeros).toArray 23)).alloc (.cells (kl zeros).toArray 23)).alloc (.cells (kl zeros).toArray 23)).heap[w1.heap.size + 1]? = some (.cells (kl zeros).toArray 23 (0, 0)) := blk_keep (blk_last1 _ _ _) _
       have z2 : (((w1.alloc (.cells (kl zeros).toArray 23)).alloc (.cells (kl zeros).toArray 23)).alloc (.cells (kl zeros).toArray 23)).heap[w1.heap.size + 1 + 1]? = some (.cells (kl zeros).toArray 23 (0, 0)) := blk_last2 _ _ _ _
       have z3 := aft_alloc (aft_alloc (aft_alloc hb1 (.cells (kl zeros).toArray 23)) (.cells (kl zeros).toArray 23)) (.cells (kl zeros).toArray 23)
       have hz := hb1.size
       have Z0 := Lib.hid z0; have Z1 := Lib.hid z1; have Z2 := Lib.hid z2; have Z3 := Lib.hid z3; have HZ := Lib.hid hz
       clear hb1 z0 z1 z2 z3 hz)
    | (refine wl_store w1.heap.size K hK _ _ rfl rfl rfl rfl Z0.out rfl ?_
       have y0 := blk_row (cs := (kl K).toArray) Z0.out
       have y1 := (blk_rowfar (cs := (kl K).toArray) (show w1.heap.size + 1 ≠ w1.heap.size by omega)).trans Z1.out
       have y2 := (blk_rowfar (cs := (kl K).toArray) (show w1.heap.size + 1 + 1 ≠ w1.heap.size by omega)).trans Z2.out
       have y3 := below_row Z3.out HZ.out (kl K).toArray
       have Y0 := Lib.hid y0; have Y1 := Lib.hid y1; have Y2 := Lib.hid y2; have Y3 := Lib.hid y3
       clear y0 y1 y2 y3)
    | (refine wl_store (w1.heap.size + 1) B hB _ _ rfl rfl rfl rfl Y1.out rfl ?_
       have y0 := (blk_rowfar (cs := (kl B).toArray) (show w1.heap.size ≠ w1.heap.size + 1 by omega)).trans Y0.out
       have y1 := blk_row (cs := (kl B).toArray) Y1.out
       have y2 := (blk_rowfar (cs := (kl B).toArray) (show w1.heap.size + 1 + 1 ≠ w1.heap.size + 1 by omega)).trans Y2.out
       have y3 := below_row Y3.out (Nat.le_succ_of_le HZ.out) (kl B).toArray
       have X0 := Lib.hid y0; have X1 := Lib.hid y1; have X2 := Lib.hid y2; have X3 := Lib.hid y3
       clear y0 y1 y2 y3)
    | (refine wl_store (w1.heap.size + 1 + 1) C hC _ _ rfl rfl rfl rfl X2.out rfl ?_
       have y0 := (blk_rowfar (cs := (kl C).toArray) (show w1.heap.size ≠ w1.heap.size + 1 + 1 by omega)).trans X0.out
       have y1 := (blk_rowfar (cs := (kl C).toArray) (show w1.heap.size + 1 ≠ w1.heap.size + 1 + 1 by omega)).trans X1.out
       have y2 := blk_row (cs := (kl C).toArray) X2.out
       have y3 := below_row X3.out (Nat.le_succ_of_le (Nat.le_succ_of_le HZ.out)) (kl C).toArray
       have V0 := Lib.hid y0; have V1 := Lib.hid y1; have V2 := Lib.hid y2; have V3 := Lib.hid y3
       clear y0 y1 y2 y3))
  generalize (((((w1.alloc (.cells (kl zeros).toArray 23)).alloc (.cells (kl zeros).toArray 23)).alloc (.cells (kl zeros).toArray 23)).setRow w1.heap.size (kl K).toArray).setRow (w1.heap.size + 1) (kl B).toArray).setRow (w1.heap.size + 1 + 1) (kl C).toArray = W at *
  clear Z0 Z1 Z2 Z3 Y0 Y1 Y2 Y3 X0 X1 X2 X3
  refine wp_quiet_all (LaterC W) (by kernel_rfl) (by kernel_rfl) (later_drew _) ?_
  repeat (first
    | (refine BigFrame.wpQuiet_want rfl (fun _ hK' => quiet_load w1.heap.size K hK _ rfl rfl V0.out (hK' _ ?_)); simp only [Act.put, List.setIfInBounds_toArray, List.set_cons_succ, List.set_cons_zero])
    | (refine BigFrame.wpQuiet_want rfl (fun _ hK' => quiet_load (w1.heap.size + 1) B hB _ rfl rfl V1.out (hK' _ ?_)); simp only [Act.put, List.setIfInBounds_toArray, List.set_cons_succ, List.set_cons_zero])
    | (refine BigFrame.wpQuiet_want rfl (fun _ hK' => quiet_load (w1.heap.size + 1 + 1) C hC _ rfl rfl V2.out (hK' _ ?_)); simp only [Act.put, List.setIfInBounds_toArray, List.set_cons_succ, List.set_cons_zero])
    | (go_big_quiet_step ((first | (go_at_call 27; exact later_call _ (HE.out _)) | (go_at_call 29; exact later_call _ (HD.out _)) | (go_at_call 21; exact later_call _ (HT.out _))))))
  refine wpQuiet_nil ?_
  rintro _ ⟨e, rfl⟩
  have ve0 := e.blk V0.out
  have hlt := lt_blk ve0
  have hbe := aft V3.out e.below
  have hsz := hbe.size
  have k0 := cell_kl (blk_last e.at (.cells (kl zeros).toArray 23)) (k := zeros) (i := 0) (by simp)
  have k14 := cell_kl (blk_last e.at (.cells (kl zeros).toArray 23)) (k := zeros) (i := 14) (by simp)
  have k15 := cell_kl (blk_last e.at (.cells (kl zeros).toArray 23)) (k := zeros) (i := 15) (by simp)
  have f0 := free_blk (i := 0) (blk_last e.at (.cells (kl zeros).toArray 23))
  have f14 := free_blk (i := 14) (blk_last e.at (.cells (kl zeros).toArray 23))
  have f15 := free_blk (i := 15) (blk_last e.at (.cells (kl zeros).toArray 23))
  have hcs : (((kl zeros).set 0 (.int .u8 7)).set 14 (.int .u8 1)).set 15 (.int .u8 2) = kl D := by rw [← HDD.out]; rfl
  have p0 : (e.at.alloc (.cells ((((kl zeros).set 0 (.int .u8 7)).set 14 (.int .u8 1)).set 15 (.int .u8 2)).toArray 23)).heap[w1.heap.size]? = some (.cells (kl K).toArray 23 (0, 0)) := blk_keep ve0 _
  have p1 : (e.at.alloc (.cells ((((kl zeros).set 0 (.int .u8 7)).set 14 (.int .u8 1)).set 15 (.int .u8 2)).toArray 23)).heap[e.at.heap.size]? = some (.cells (kl D).toArray 23 (0, 0)) := by rw [hcs]; exact blk_last _ _
  have p2 : Below w.heap.size w (e.at.alloc (.cells ((((kl zeros).set 0 (.int .u8 7)).set 14 (.int .u8 1)).set 15 (.int .u8 2)).toArray 23)) := hbe.alloc hsz _
  have P0 := Lib.hid p0; have P1 := Lib.hid p1; have P2 := Lib.hid p2
  clear ve0 hlt hbe hsz p0 p1 p2 hcs
  go_wp2_with (first
    | (refine wl_load w1.heap.size K hK _ rfl rfl rfl P0.out ?_)
    | (go_at_call 37; refine (HM.out _).mono ?_; rintro e5 w5 ⟨rfl, hb5⟩; have HB5 := Lib.hid hb5; clear hb5)
    | (refine wl_store w5.heap.size M hM _ _ rfl rfl rfl rfl (blk_last _ _) rfl ?_))
  have r0 := new_old (blk_lives P0.out HB5.out) M (kl zeros).toArray
  have r1 := new_old (blk_lives P1.out HB5.out) M (kl zeros).toArray
  have r2 := new_new w5 M (kl zeros).toArray
  have r3 := aft (aft P2.out HB5.out) (new_below w5 M (kl zeros).toArray)
  generalize (w5.alloc (.cells (kl zeros).toArray 23)).setRow w5.heap.size (kl M).toArray = W2 at *
  have R0 := Lib.hid r0; have R1 := Lib.hid r1; have R2 := Lib.hid r2; have R3 := Lib.hid r3
  clear r0 r1 r2 r3 k0 k14 k15 f0 f14 f15
  refine wp_quiet_all (LaterC W2) (by kernel_rfl) (by kernel_rfl) (later_drew _) ?_
  (refine BigFrame.wpQuiet_want rfl (fun _ hK' => quiet_load w1.heap.size K hK _ rfl rfl R0.out (hK' _ ?_)); simp only [Act.put, List.setIfInBounds_toArray, List.set_cons_succ, List.set_cons_zero])
  go_big_quiet_step ((go_at_call 23; exact later_call _ (HV.out _)))
  repeat (first
    | (refine BigFrame.wpQuiet_want rfl (fun _ hK' => quiet_load w1.heap.size K hK _ rfl rfl R0.out (hK' _ ?_)); simp only [Act.put, List.setIfInBounds_toArray, List.set_cons_succ, List.set_cons_zero])
    | (refine BigFrame.wpQuiet_want rfl (fun _ hK' => quiet_load e.at.heap.size D hDl _ rfl rfl R1.out (hK' _ ?_)); simp only [Act.put, List.setIfInBounds_toArray, List.set_cons_succ, List.set_cons_zero])
    | (refine BigFrame.wpQuiet_want rfl (fun _ hK' => quiet_load w5.heap.size M hM _ rfl rfl R2.out (hK' _ ?_)); simp only [Act.put, List.setIfInBounds_toArray, List.set_cons_succ, List.set_cons_zero])
    | (go_big_quiet_step ((first | (go_at_call 27; exact later_call _ (HV2.out _)) | (go_at_call 23; exact later_call _ (HV3.out _))))))
  refine wpQuiet_nil ?_
  rintro _ ⟨e', rfl⟩
  go_wp2
  go_ret
  exact ⟨rfl, aft R3.out e'.below⟩
end Go.Proofs.Ytccojcjgknlhdaa
