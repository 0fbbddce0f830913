/-
  The walk of the law that Text and Parse are inverse.
-/
import Derived.Test.YtccojcjgknlhdaaK3
import Derived.Test.YtccojcjgknlhdaaP3
namespace Go.Proofs.Ytccojcjgknlhdaa
open Go.RowKit
attribute [local go_sem] fold_zeros

/-- A whole key is read, behind a guard that says yes. -/
theorem wl_loadg {ops : Array Oper} {rest : List Oper} {o : Oper} {a : Act} {w : World} {Q : Exit → Act → World → Prop} (g : Nat) (k : List UInt8) (hk : k.length = 16) (x : Operand) (hgd : Region.wanted o (yielded ops a.tmps) = true) (ho : o.op = .load 23 x)
    (hx : a.eval x = .pointer (some ⟨g, 0, none⟩)) {t : TypeId} {fr : Nat × Nat} (hg : w.heap[g]? = some (.cells (kl k).toArray t fr))
    (h : wpList Try.prog ops Q rest (a.put o.dst (kv k)) w) : wpList Try.prog ops Q (o :: rest) a w :=
  BigFrame.wpList_want hgd fun _ hK => wp_load_row 23 x ho g hx t _ fr _ hg Try.underlying23 rfl (by rw [kl_size hk]; exact info23) (hK _ _ h)
theorem string_eql (s : ByteArray) : binOp .eql 9 (.string s) (.string s) = pure (.bool true) := by
  have : binOp .eql 9 (.string s) (.string s) = pure (.bool (s.toList == s.toList)) := rfl
  rw [this, beq_self_eq_true]

set_option maxHeartbeats 2000000 in
theorem back_walk (k : List UInt8) (hk : k.length = 16) (s t : ByteArray) (ht : t.size = 32) (Y : List UInt8) (hY : Y.length = 16) (E : Int) (hE : E = 0 ∨ (E = 12 ∧ Y = zeros))
    (HT : Hid (∀ w, Calls Try.prog 21 #[kv k] w fun e w' => e = .returned (.string t) ∧ Below w.heap.size w w'))
    (HP : Hid (∀ w, Calls Try.prog 19 #[.string t] w fun e w' => e = .returned (.tuple #[kv k, .int .i64 0]) ∧ Below w.heap.size w w'))
    (HP2 : Hid (∀ w, Calls Try.prog 19 #[.string s] w fun e w' => e = .returned (.tuple #[kv Y, .int .i64 E]) ∧ Below w.heap.size w w'))
    (HT2 : Hid (E = 0 → ∀ w, Calls Try.prog 21 #[kv Y] w fun e w' => e = .returned (.string s) ∧ Below w.heap.size w w')) (w : World) :
    Calls Try.prog 15 #[kv k, .string s] w fun e w' => e = .returned (.bool true) ∧ Below w.heap.size w w' := by
  have q1 := eq_true hk
  have q2 := eq_true zeros_length
  have q3 := string_eql s
  have hk1 : (w.alloc (.cells (kl k).toArray 23)).heap[w.heap.size]? = some (.cells (kl k).toArray 23 (0, 0)) := blk_last _ _
  have HK := Lib.hid hk1
  clear hk1
  rcases hE with rfl | ⟨rfl, rfl⟩
  · have HT3 := Lib.hid (HT2.out rfl)
    clear HT2
    go_enter Try.func15, Try.ntmps15
    go_wp2_with (first
      | (go_at_call 33; refine (alive_any _).mono ?_; rintro e w1 ⟨rfl, hb1⟩; have HB1 := Lib.hid hb1; clear hb1)
      | (fail_if_success (have hh := HB2.out)
         refine wl_load w.heap.size k hk _ rfl rfl rfl (blk_lives HK.out HB1.out) ?_)
      | (fail_if_success (have hh := HB2.out)
         go_at_call 21; refine (HT.out _).mono ?_; rintro e w2 ⟨rfl, hb2⟩; have HB2 := Lib.hid hb2; clear hb2)
      | (fail_if_success (have hh := HB3.out)
         go_at_call 19; refine (HP.out _).mono ?_; rintro e w3 ⟨rfl, hb3⟩; have HB3 := Lib.hid hb3; clear hb3)
      | (fail_if_success (have hh := HB4.out)
         refine wl_store w3.heap.size k hk _ _ rfl rfl rfl rfl (blk_last _ _) rfl ?_
         have r0 := new_old (blk_lives HK.out (aft (aft HB1.out HB2.out) HB3.out)) k (kl zeros).toArray
         have r1 := new_new w3 k (kl zeros).toArray
         have r2 := aft (aft (aft (aft (below_alloc w (.cells (kl k).toArray 23)) HB1.out) HB2.out) HB3.out) (new_below w3 k (kl zeros).toArray)
         have R0 := Lib.hid r0; have R1 := Lib.hid r1; have R2 := Lib.hid r2; clear r0 r1 r2)
      | (fail_if_success (have hh := HB4.out)
         refine wl_loadg w3.heap.size k hk _ rfl rfl rfl R1.out ?_)
      | (fail_if_success (have hh := HB4.out)
         refine wl_loadg w.heap.size k hk _ rfl rfl rfl R0.out ?_)
      | (go_at_call 19; refine (HP2.out _).mono ?_; rintro e w4 ⟨rfl, hb4⟩; have HB4 := Lib.hid hb4; clear hb4)
      | (refine wl_store w4.heap.size Y hY _ _ rfl rfl rfl rfl (blk_last _ _) rfl ?_
         have r0 := new_new w4 Y (kl zeros).toArray
         have r1 := aft (aft R2.out HB4.out) (new_below w4 Y (kl zeros).toArray)
         have S0 := Lib.hid r0; have S1 := Lib.hid r1; clear r0 r1)
      | (refine wl_loadg w4.heap.size Y hY _ rfl rfl rfl S0.out ?_)
      | (go_at_call 21; refine (HT3.out _).mono ?_; rintro e w5 ⟨rfl, hb5⟩; have HB5 := Lib.hid hb5; clear hb5))
    go_ret
    exact ⟨rfl, aft S1.out HB5.out⟩
  · go_enter Try.func15, Try.ntmps15
    go_wp2_with (first
      | (go_at_call 33; refine (alive_any _).mono ?_; rintro e w1 ⟨rfl, hb1⟩; have HB1 := Lib.hid hb1; clear hb1)
      | (fail_if_success (have hh := HB2.out)
         refine wl_load w.heap.size k hk _ rfl rfl rfl (blk_lives HK.out HB1.out) ?_)
      | (fail_if_success (have hh := HB2.out)
         go_at_call 21; refine (HT.out _).mono ?_; rintro e w2 ⟨rfl, hb2⟩; have HB2 := Lib.hid hb2; clear hb2)
      | (fail_if_success (have hh := HB3.out)
         go_at_call 19; refine (HP.out _).mono ?_; rintro e w3 ⟨rfl, hb3⟩; have HB3 := Lib.hid hb3; clear hb3)
      | (fail_if_success (have hh := HB4.out)
         refine wl_store w3.heap.size k hk _ _ rfl rfl rfl rfl (blk_last _ _) rfl ?_
         have r0 := new_old (blk_lives HK.out (aft (aft HB1.out HB2.out) HB3.out)) k (kl zeros).toArray
         have r1 := new_new w3 k (kl zeros).toArray
         have r2 := aft (aft (aft (aft (below_alloc w (.cells (kl k).toArray 23)) HB1.out) HB2.out) HB3.out) (new_below w3 k (kl zeros).toArray)
         have R0 := Lib.hid r0; have R1 := Lib.hid r1; have R2 := Lib.hid r2; clear r0 r1 r2)
      | (fail_if_success (have hh := HB4.out)
         refine wl_loadg w3.heap.size k hk _ rfl rfl rfl R1.out ?_)
      | (fail_if_success (have hh := HB4.out)
         refine wl_loadg w.heap.size k hk _ rfl rfl rfl R0.out ?_)
      | (go_at_call 19; refine (HP2.out _).mono ?_; rintro e w4 ⟨rfl, hb4⟩; have HB4 := Lib.hid hb4; clear hb4)
      | (refine wl_store w4.heap.size zeros zeros_length _ _ rfl rfl rfl rfl (blk_last _ _) rfl ?_
         have r0 := new_new w4 zeros (kl zeros).toArray
         have r1 := aft (aft R2.out HB4.out) (new_below w4 zeros (kl zeros).toArray)
         have S0 := Lib.hid r0; have S1 := Lib.hid r1; clear r0 r1)
      | (refine wl_loadg w4.heap.size zeros zeros_length _ rfl rfl rfl S0.out ?_))
    go_ret
    exact ⟨rfl, S1.out⟩

theorem back_law (k : List UInt8) (hk : k.length = 16) (s : ByteArray) (w : World) :
    Calls Try.prog 15 #[kv k, .string s] w fun e w' => e = .returned (.bool true) ∧ Below w.heap.size w w' := by
  have hp := parse_text k hk
  have c := parse_cases s.data.toList
  obtain ⟨E, hE, hc⟩ : ∃ E : Int, parseE s.data.toList = .int .i64 E ∧ (E = 0 ∧ textOf (parseR s.data.toList) = s.data.toList ∨ E = 12 ∧ parseR s.data.toList = zeros) := by
    rcases c with ⟨h1, h2⟩ | ⟨h1, h2⟩
    · exact ⟨0, h1, .inl ⟨rfl, h2⟩⟩
    · exact ⟨12, h1, .inr ⟨rfl, h2⟩⟩
  refine back_walk k hk s ⟨(textOf k).toArray⟩ (by show (textOf k).toArray.size = 32; simp [textOf_length, hk]) (parseR s.data.toList) (parseR_length _) E (hc.imp (·.1) id) (Lib.hid fun w => text_any k hk w) (Lib.hid fun w => ?_) (Lib.hid fun w => ?_) (Lib.hid fun h0 w => ?_) w
  · have := parse_any ⟨(textOf k).toArray⟩ w
    rw [show (⟨(textOf k).toArray⟩ : ByteArray).data.toList = textOf k from rfl, hp.1, hp.2] at this
    exact this
  · have := parse_any s w
    rw [hE] at this
    exact this
  · have h1 := text_any (parseR s.data.toList) (parseR_length _) w
    rcases hc with ⟨_, h2⟩ | ⟨h2, _⟩
    · rw [h2] at h1; exact h1
    · rw [h0] at h2; exact absurd h2 (by decide)
end Go.Proofs.Ytccojcjgknlhdaa
