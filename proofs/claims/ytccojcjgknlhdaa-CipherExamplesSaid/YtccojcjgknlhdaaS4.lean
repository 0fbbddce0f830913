/-
  The walk of the law of streams.
-/
import Derived.Test.YtccojcjgknlhdaaS3
import Derived.Test.YtccojcjgknlhdaaOpb
import Derived.SizedLaws
namespace Go.Proofs.Ytccojcjgknlhdaa
open Go.RowKit

theorem run_conv_sl {w : World} {A : Option Addr} {n c : Nat} {l : List UInt8} (h : Sl w A n c (kl l)) : (convert 37 9 (.slice A n c)).run Try.prog w = .ok (sv l) w := by
  obtain rfl : n = l.length := by have := h.1; rw [kl_length] at this; exact this.symm
  by_cases hc : 0 < c
  · obtain ⟨b, off, rfl⟩ := h.2.2.2.1 hc
    refine run_convert_bytes_back w 37 9 5 _ c l Try.underlying37 Try.underlying5 Try.underlying9 ?_
    intro j hj
    have hadd : (⟨b, off, none⟩ : Addr).add j = ⟨b, off + j, none⟩ := by unfold Addr.add; split <;> simp_all
    rw [hadd]
    exact h.2.2.2.2 b off rfl j _ (by rw [kl, List.getElem?_map, List.getElem?_eq_getElem hj]; rfl)
  · have h2 := h.2.1
    have : l = [] := List.eq_nil_of_length_eq_zero (by omega)
    subst this
    cases A with
    | none => rw [run_convert_bytes_nil w 37 5 Try.underlying37 Try.underlying5 _ _ 9 Try.underlying9]; rfl
    | some a => 
      have := run_convert_bytes_back w 37 9 5 a c [] Try.underlying37 Try.underlying5 Try.underlying9 (fun j hj => absurd hj (Nat.not_lt_zero _))
      exact this

theorem eqg_sv (op : BinOp) (x y : Operand) (a b : List UInt8) : eqGuard op 9 x y (sv a) (sv b) = pure () := by
  unfold eqGuard; cases op <;> rfl
theorem sv_eql (a : List UInt8) : binOp .eql 9 (sv a) (sv a) = pure (.bool true) := by
  have : binOp .eql 9 (sv a) (sv a) = pure (.bool ((⟨a.toArray⟩ : ByteArray).toList == (⟨a.toArray⟩ : ByteArray).toList)) := rfl
  rw [this, beq_self_eq_true]
theorem sv_neq (a : List UInt8) : binOp .neq 9 (sv a) (sv a) = pure (.bool false) := by
  have : binOp .neq 9 (sv a) (sv a) = pure (.bool ((⟨a.toArray⟩ : ByteArray).toList != (⟨a.toArray⟩ : ByteArray).toList)) := rfl
  rw [this, bne_self_eq_false]

/-- A copy of the call's own: append to an empty literal. -/
theorem own_lit0 (w : World) (base : Nat) (hb : base ≤ w.heap.size) : (w.alloc (.cells #[] 5)).ownsRow base 5 1 (.slice (some ⟨w.heap.size, 0, none⟩) 0 0) 0 (kl []) := own_lit (e := 5) [] hb (by simp)

theorem own_block {w : World} {base : Nat} {v : Value} {l : List UInt8} (h : Ob w base v l) (hl : l ≠ []) :
    ∃ g cap cur, v = .slice (some ⟨g, 0, none⟩) l.length cap ∧ base ≤ g ∧ w.heap[g]? = some (.cells cur 5 (0, 0)) ∧ l.length ≤ cap ∧ cap ≤ maxLen ∧ cur.size = cap ∧ ∀ (j : Nat) (x : UInt8), l[j]? = some x → cur[j]? = some (bv x) := by
  rcases h.2 with ⟨_, hn⟩ | ⟨g, cap, cur, hv, hg, hh, hn, hm, hs, ht⟩
  · exact absurd (List.eq_nil_of_length_eq_zero hn) hl
  · refine ⟨g, cap, cur, hv, hg, hh, hn, hm, by omega, fun j x hj => ?_⟩
    rw [Nat.mul_one] at ht
    have hjl := (List.getElem?_eq_some_iff.1 hj).1
    have h2 := congrArg (·[j]?) ht
    simp only [List.getElem?_take, if_pos hjl] at h2
    rw [← Array.getElem?_toList, h2]
    exact kl_at hj

theorem own_blk_sl {w : World} {base g n cap : Nat} {xs : List Value} (h : w.ownsRow base 5 1 (.slice (some ⟨g, 0, none⟩) n cap) n xs) : Sl w (some ⟨g, 0, none⟩) n cap xs := by
  obtain ⟨A, c, hv, hs⟩ := own_sl h
  simp only [Value.slice.injEq, true_and] at hv
  obtain ⟨rfl, rfl⟩ := hv
  exact hs

set_option maxHeartbeats 4000000 in
theorem streams_any (k : List UInt8) (hk : k.length = 16) (n : BitVec 64) (A : Option Addr) (m c : Nat) (l : List UInt8) (w : World) (hs : Sl w A m c (kl l)) (hz : m ≤ 140737488351232) :
    Calls Try.prog 6 #[kv k, wv n, .slice A m c] w fun e w' => e = .returned (.bool true) ∧ Below w.heap.size w w' := by
  obtain rfl : m = l.length := by have := hs.1; rw [kl_length] at this; exact this.symm
  have HS := Lib.hid hs
  have hmax : maxLen = 9223372036854775807 := rfl
  have heq := sv_eql l
  have hne1 := sv_neq (stream k n l)
  have hne2 := sv_neq []
  have hk1 : (w.alloc (.cells (kl k).toArray 23)).heap[w.heap.size]? = some (.cells (kl k).toArray 23 (0, 0)) := blk_last _ _
  have ho0 : ((w.alloc (.cells (kl k).toArray 23)).alloc (.cells #[] 5)).ownsRow (w.heap.size + 1) 5 1 (.slice (some ⟨w.heap.size + 1, 0, none⟩) 0 0) 0 (kl []) := by
    have := own_lit0 (w.alloc (.cells (kl k).toArray 23)) (w.heap.size + 1) (by simp)
    rw [World.size_alloc] at this; exact this
  have hb0 : Below w.heap.size w ((w.alloc (.cells (kl k).toArray 23)).alloc (.cells #[] 5)) := aft_alloc (below_alloc _ _) _
  have HK := Lib.hid hk1; have HO0 := Lib.hid ho0; have HB0 := Lib.hid hb0
  clear hs hk1 ho0 hb0
  by_cases hlen : l.length ≤ 16384
  · by_cases hnil : l = []
    · have hn0 : (l.length : Int) ≤ 0 := by rw [hnil]; decide
      have HN := Lib.hid hnil; clear hnil
      go_enter Try.func6, Try.ntmps6
      go_wp2_with (first
        | (refine wl_app Try.underlying37 info5 rfl (.tmp 13) (.tmp 14) rfl rfl rfl rfl HO0.out (HS.out.lives HB0.out) (kl_cells _) (by omega) (by omega) (by simp) ?_; intro v1 w1 ho1 ha1; have hk2 := ha1.blk (blk_keep HK.out _) (fun h => by have := (HO0.out.lt _ h).1; omega); have hb1 := aft_app HB0.out (own_base HO0.out (Nat.le_succ _)) ha1; have ho2 := ob_app (l := []) ho1; rw [List.nil_append] at ho2; obtain ⟨A1, c1, rfl, hs1⟩ := own_sl ho2; have HS1 := Lib.hid hs1; have HB1 := Lib.hid hb1; have HK1 := Lib.hid hk2; clear ho1 ha1 hk2 hb1 ho2 hs1)
        | (refine wl_load w.heap.size k hk _ rfl rfl rfl HK1.out ?_)
        | (refine wl_load w.heap.size k hk _ rfl rfl rfl (blk_lives HK1.out HB2.out) ?_)
        | (go_at_call 31; refine (stream_any k hk n l A1 _ c1 _ HS1.out hlen).mono ?_; rintro e w2 ⟨v2, rfl, ho2, hb2⟩; obtain ⟨A2, c2, rfl, hs2⟩ := own_sl ho2; rw [stream_length] at hs2 ⊢; have HS2 := Lib.hid hs2; have HB2 := Lib.hid hb2; clear ho2 hb2 hs2)
        | (go_at_call 32; refine (refStream_any k hk n l A _ c _ (HS.out.lives (aft HB1.out HB2.out)) hlen).mono ?_; rintro e w3 ⟨v3, rfl, ho3, hb3⟩; have hc2 := run_conv_sl (HS2.out.lives hb3); have hc3 := run_conv_ob ho3; have hc4 := run_conv_sl (HS1.out.lives (aft HB2.out hb3)); have hc5 := run_conv_sl (HS.out.lives (aft (aft HB1.out HB2.out) hb3)); have HB3 := Lib.hid hb3; clear hb3 ho3))
      go_loopw [12] (fun i wr => i = .int .i64 0 ∧ wr = w3) (fun _ _ => 0)
      case atStart => exact ⟨rfl, rfl⟩
      case round =>
        obtain ⟨rfl, rfl⟩ := hrel
        go_wp2
        go_ret
        exact ⟨rfl, aft (aft HB1.out HB2.out) HB3.out⟩
    · have hnil2 : stream k n l ≠ [] := fun h => hnil (List.eq_nil_of_length_eq_zero (by rw [← stream_length k n l, h]; rfl))
      have hx1 : ∀ b : UInt8, binOp .xor 5 (bv b) (.int .u8 1) = pure (bv (b ^^^ 1)) := fun b => op_bxor 5 b 1
      clear hnil
      go_enter Try.func6, Try.ntmps6
      go_wp2_with (first
        | (refine wl_app Try.underlying37 info5 rfl (.tmp 13) (.tmp 14) rfl rfl rfl rfl HO0.out (HS.out.lives HB0.out) (kl_cells _) (by omega) (by omega) (by simp) ?_; intro v1 w1 ho1 ha1; have hk2 := ha1.blk (blk_keep HK.out _) (fun h => by have := (HO0.out.lt _ h).1; omega); have hb1 := aft_app HB0.out (own_base HO0.out (Nat.le_succ _)) ha1; have ho2 := ob_app (l := []) ho1; rw [List.nil_append] at ho2; obtain ⟨A1, c1, rfl, hs1⟩ := own_sl ho2; have HS1 := Lib.hid hs1; have HB1 := Lib.hid hb1; have HK1 := Lib.hid hk2; clear ho1 ha1 hk2 hb1 ho2 hs1)
        | (refine wl_load w.heap.size k hk _ rfl rfl rfl HK1.out ?_)
        | (refine wl_load w.heap.size k hk _ rfl rfl rfl (blk_lives HK1.out HB2.out) ?_)
        | (go_at_call 31; refine (stream_any k hk n l A1 _ c1 _ HS1.out hlen).mono ?_; rintro e w2 ⟨v2, rfl, ho2, hb2⟩; obtain ⟨g, cap, cur, rfl, hg1, hg2, hg3, hg4, hg5, hg6⟩ := own_block ho2 hnil2; have hs2 := own_blk_sl ho2; rw [stream_length] at hs2 hg3 ⊢; have HS2 := Lib.hid hs2; have HB2 := Lib.hid hb2; have HG1 := Lib.hid hg1; have HG2 := Lib.hid hg2; have HG5 := Lib.hid hg5; have HG6 := Lib.hid hg6; clear ho2 hb2 hs2 hg1 hg2 hg5 hg6)
        | (go_at_call 32; refine (refStream_any k hk n l A _ c _ (HS.out.lives (aft HB1.out HB2.out)) hlen).mono ?_; rintro e w3 ⟨v3, rfl, ho3, hb3⟩; have hc2 := run_conv_sl (HS2.out.lives hb3); have hc3 := run_conv_ob ho3; have hc4 := run_conv_sl (HS1.out.lives (aft HB2.out hb3)); have hc5 := run_conv_sl (HS.out.lives (aft (aft HB1.out HB2.out) hb3)); have HB3 := Lib.hid hb3; clear hb3 ho3))
      go_loopw [12] (fun i wr => ∃ (j : Nat) (cur' : Array Value), j ≤ l.length ∧ i = .int .i64 j ∧ wr.heap[g]? = some (.cells cur' 5 (0, 0)) ∧ cur'.size = cap ∧ (∀ j', j ≤ j' → j' < l.length → ∃ x, cur'[j']? = some (bv x)) ∧ Below w1.heap.size w1 wr) (fun i _ => l.length - (intOf i).toNat)
      case atStart => exact ⟨0, cur, by omega, rfl, blk_lives HG2.out HB3.out, HG5.out, fun j' _ h => ⟨_, HG6.out j' _ (List.getElem?_eq_getElem (by rw [stream_length]; exact h))⟩, aft HB2.out HB3.out⟩
      case round =>
        obtain ⟨j, cur', hj, rfl, hh, hsz, hcs, hw⟩ := hrel
        have HH := Lib.hid hh; have HSZ := Lib.hid hsz; have HCS := Lib.hid hcs; have HW := Lib.hid hw
        clear hc2 hc3 hc4 hc5
        by_cases hlt : j < l.length
        · obtain ⟨x, hx⟩ := hcs j (Nat.le_refl _) hlt
          have c0 := cell_blk hh hx
          have f0 := free_blk (i := j) hh
          have hj0 : (0 : Int) ≤ j := by omega
          have hj1 : (j : Int) < l.length := by omega
          clear hh hsz hcs hw hx
          go_wp2
          go_roundw
          case rel =>
            refine ⟨j + 1, cur'.setIfInBounds j (bv (x ^^^ 1)), by omega, by go_num, ?_, ?_, ?_, ?_⟩
            · rw [blk_set HH.out]
            · simpa using HSZ.out
            · intro j' h1 h2
              obtain ⟨y, hy⟩ := HCS.out j' (by omega) h2
              exact ⟨y, by rw [Array.getElem?_setIfInBounds_ne (by omega)]; exact hy⟩
            · exact HW.out.setCell HG1.out _
          case measure => simp [intOf]; omega
        · obtain rfl : j = l.length := by omega
          have hc4 := run_conv_sl (HS1.out.lives hw); have hc5 := run_conv_sl (HS.out.lives (aft HB1.out hw))
          clear hh hsz hcs hw
          go_wp2
          go_ret
          exact ⟨rfl, aft HB1.out HW.out⟩
  · have hlen2 : 16384 < l.length := by omega
    go_enter Try.func6, Try.ntmps6
    go_wp2_with (first
      | (refine wl_app Try.underlying37 info5 rfl (.tmp 13) (.tmp 14) rfl rfl rfl rfl HO0.out (HS.out.lives HB0.out) (kl_cells _) (by omega) (by omega) (by simp) ?_; intro v1 w1 ho1 ha1; have hk2 := ha1.blk (blk_keep HK.out _) (fun h => by have := (HO0.out.lt _ h).1; omega); have hb1 := aft_app HB0.out (own_base HO0.out (Nat.le_succ _)) ha1; have ho2 := ob_app (l := []) ho1; rw [List.nil_append] at ho2; obtain ⟨A1, c1, rfl, hs1⟩ := own_sl ho2; have HS1 := Lib.hid hs1; have HB1 := Lib.hid hb1; have HK1 := Lib.hid hk2; clear ho1 ha1 hk2 hb1 ho2 hs1)
      | (refine wl_load w.heap.size k hk _ rfl rfl rfl HK1.out ?_)
      | (refine wl_load w.heap.size k hk _ rfl rfl rfl (blk_lives HK1.out HB2.out) ?_)
      | (go_at_call 31; refine (streamBig_any k n _ A1 c1 _ hlen2).mono ?_; rintro e w2 ⟨rfl, hb2⟩; have HB2 := Lib.hid hb2; clear hb2)
      | (go_at_call 32; refine (refStreamBig_any k n _ A c _ hlen2).mono ?_; rintro e w3 ⟨rfl, hb3⟩; have hc2 := run_conv_sl (l := []) (Sl.nil w3); have hc4 := run_conv_sl (HS1.out.lives (aft HB2.out hb3)); have hc5 := run_conv_sl (HS.out.lives (aft (aft HB1.out HB2.out) hb3)); have HB3 := Lib.hid hb3; clear hb3))
    go_loopw [12] (fun i wr => i = .int .i64 0 ∧ wr = w3) (fun _ _ => 0)
    case atStart => exact ⟨rfl, rfl⟩
    case round =>
      obtain ⟨rfl, rfl⟩ := hrel
      go_wp2
      go_ret
      exact ⟨rfl, aft (aft HB1.out HB2.out) HB3.out⟩
end Go.Proofs.Ytccojcjgknlhdaa
