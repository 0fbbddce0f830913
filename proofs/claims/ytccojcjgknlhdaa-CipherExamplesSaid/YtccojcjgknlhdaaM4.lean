/-
  The walk of the law of MACs.
-/
import Derived.Test.YtccojcjgknlhdaaM3
namespace Go.Proofs.Ytccojcjgknlhdaa
open Go.RowKit
attribute [local go_sem] fold_zeros

theorem mac_both (k : List UInt8) (hk : k.length = 16) (l : List UInt8) : ∃ (X : List UInt8) (E : Int), X.length = 16 ∧
    (∀ (A : Option Addr) (m c : Nat) (w : World), Sl w A m c (kl l) → Calls Try.prog 37 #[kv k, .slice A m c] w fun e w' => e = .returned (.tuple #[kv X, .int .i64 E]) ∧ Below w.heap.size w w') ∧
    (∀ (A : Option Addr) (m c : Nat) (w : World), Sl w A m c (kl l) → Calls Try.prog 38 #[kv k, .slice A m c] w fun e w' => e = .returned (.tuple #[kv X, .int .i64 E]) ∧ Below w.heap.size w w') := by
  by_cases h : l.length ≤ 16384
  · exact ⟨macOf k l, 0, by simp, fun A m c w hs => mac_any k hk l A m c w hs (by have := hs.1; rw [kl_length] at this; omega), fun A m c w hs => refMac_any k hk l A m c w hs (by have := hs.1; rw [kl_length] at this; omega)⟩
  · exact ⟨zeros, 4, by simp, fun A m c w hs => macBig_any k m A c w (by have := hs.1; rw [kl_length] at this; omega), fun A m c w hs => refMacBig_any k m A c w (by have := hs.1; rw [kl_length] at this; omega)⟩

set_option maxHeartbeats 4000000 in
theorem macs_any (k : List UInt8) (hk : k.length = 16) (A : Option Addr) (m c : Nat) (l : List UInt8) (w : World) (hs : Sl w A m c (kl l)) (hz : m ≤ 140737488351232) :
    Calls Try.prog 8 #[kv k, .slice A m c] w fun e w' => e = .returned (.bool true) ∧ Below w.heap.size w w' := by
  obtain ⟨X, E, hX, hP, hR⟩ := mac_both k hk l
  have HP := Lib.hid hP; have HR := Lib.hid hR
  clear hP hR
  obtain rfl : m = l.length := by have := hs.1; rw [kl_length] at this; exact this.symm
  have HS := Lib.hid hs
  have hmax : maxLen = 9223372036854775807 := rfl
  have heq := sv_eql l
  have hXX := eq_true hX
  have hk1 : (w.alloc (.cells (kl k).toArray 23)).heap[w.heap.size]? = some (.cells (kl k).toArray 23 (0, 0)) := blk_last _ _
  have ho0 : ((w.alloc (.cells (kl k).toArray 23)).alloc (.cells #[] 5)).ownsRow (w.heap.size + 1) 5 1 (.slice (some ⟨w.heap.size + 1, 0, none⟩) 0 0) 0 (kl []) := by
    have := own_lit0 (w.alloc (.cells (kl k).toArray 23)) (w.heap.size + 1) (by simp)
    rw [World.size_alloc] at this; exact this
  have hb0 : Below w.heap.size w ((w.alloc (.cells (kl k).toArray 23)).alloc (.cells #[] 5)) := aft_alloc (below_alloc _ _) _
  have HK := Lib.hid hk1; have HO0 := Lib.hid ho0; have HB0 := Lib.hid hb0
  clear hs hk1 ho0 hb0
  go_enter Try.func8, Try.ntmps8
  go_wp2_with (first
    | (refine wl_app Try.underlying37 info5 rfl (.tmp 10) (.tmp 11) rfl rfl rfl rfl HO0.out (HS.out.lives HB0.out) (kl_cells _) (by omega) (by omega) (by simp) ?_; intro v1 w1 ho1 ha1
       have hk2 := ha1.blk (blk_keep HK.out _) (fun h => by have := (HO0.out.lt _ h).1; omega)
       have hb1 := aft_app HB0.out (own_base HO0.out (Nat.le_succ _)) ha1
       have ho2 := ob_app (l := []) ho1
       rw [List.nil_append] at ho2
       obtain ⟨A1, c1, rfl, hs1⟩ := own_sl ho2
       have HS1 := Lib.hid hs1; have HB1 := Lib.hid hb1; have HK1 := Lib.hid hk2; clear ho1 ha1 hk2 hb1 ho2 hs1)
    | (refine wl_load w.heap.size k hk _ rfl rfl rfl HK1.out ?_)
    | (refine wl_load w.heap.size k hk _ rfl rfl rfl (new_old (blk_lives HK1.out HB2.out) X (kl zeros).toArray) ?_)
    | (go_at_call 37; refine (HP.out A1 _ c1 _ HS1.out).mono ?_; rintro e w2 ⟨rfl, hb2⟩; have HB2 := Lib.hid hb2; clear hb2)
    | (refine wl_store w2.heap.size X hX _ _ rfl rfl rfl rfl (blk_last _ _) rfl ?_)
    | (go_at_call 38; refine (HR.out A _ c _ (HS.out.lives (aft (aft HB1.out HB2.out) (new_below w2 X (kl zeros).toArray)))).mono ?_; rintro e w3 ⟨rfl, hb3⟩; have HB3 := Lib.hid hb3; clear hb3)
    | (refine wl_store w3.heap.size X hX _ _ rfl rfl rfl rfl (blk_last _ _) rfl ?_
       have q0 := aft (aft HB2.out (new_below w2 X (kl zeros).toArray)) (aft HB3.out (new_below w3 X (kl zeros).toArray))
       have q1 := blk_lives (new_new w2 X (kl zeros).toArray) (aft HB3.out (new_below w3 X (kl zeros).toArray))
       have q2 := new_new w3 X (kl zeros).toArray
       have q3 := run_conv_sl (HS1.out.lives q0)
       have q4 := run_conv_sl (HS.out.lives (aft HB1.out q0))
       have q5 := aft HB1.out q0
       have HQ1 := Lib.hid q1; have HQ2 := Lib.hid q2; have HQ5 := Lib.hid q5; clear q0 q1 q2 q5)
    | (refine wl_load w2.heap.size X hX _ rfl rfl rfl HQ1.out ?_)
    | (refine wl_load w3.heap.size X hX _ rfl rfl rfl HQ2.out ?_))
  go_ret
  exact ⟨rfl, HQ5.out⟩
end Go.Proofs.Ytccojcjgknlhdaa
