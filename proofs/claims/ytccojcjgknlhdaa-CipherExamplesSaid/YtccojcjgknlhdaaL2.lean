/-
  The walk of the law of texts; a string opened.
-/
import Derived.Test.YtccojcjgknlhdaaT3
namespace Go.Proofs.Ytccojcjgknlhdaa
open Go.RowKit
attribute [local go_sem] fold_zeros

/-- A string, opened. -/
theorem open_text {H : Type} {enc : TypeId × Value → H} {w : World} {base : Nat} {spare : Nat → Bool} {held : Bool} {r : Reach} {b0 : Nat} {v : Value} {d : DataW H} {ps : List MemPlace}
    (hval : Value.okWide Try.prog w r b0 9 v) (hd : DataW.Trod enc Try.prog w base spare held 9 v d ps) : ∃ s : ByteArray, v = .string s := by
  obtain ⟨s, hs, _⟩ := Go.ChangeMaps.open_string Try.underlying9 hval hd
  exact ⟨s, hs⟩
theorem parseE_int (l : List UInt8) : ∃ n : Int, parseE l = .int .i64 n := by
  unfold parseE; split <;> exact ⟨_, rfl⟩

theorem new_new (w : World) (K : List UInt8) (o : Array Value) : ((w.alloc (.cells o 23)).setRow w.heap.size (kl K).toArray).heap[w.heap.size]? = some (.cells (kl K).toArray 23 (0, 0)) := blk_row (blk_last _ _)
theorem new_old {w : World} {i : Nat} {o : Obj} (h : w.heap[i]? = some o) (K : List UInt8) (c : Array Value) : ((w.alloc (.cells c 23)).setRow w.heap.size (kl K).toArray).heap[i]? = some o := by
  rw [blk_rowfar (Nat.ne_of_lt (lt_blk h))]; exact blk_keep h _
theorem new_below (w : World) (K : List UInt8) (c : Array Value) : Below w.heap.size w ((w.alloc (.cells c 23)).setRow w.heap.size (kl K).toArray) := below_row (below_alloc _ _) (Nat.le_refl _) _
theorem eq_string (l : List UInt8) (w : World) (x y : Operand) : (eqGuard .eql 9 x y (sv l) (sv l)).run Try.prog w = .ok () w := rfl

set_option maxHeartbeats 1000000 in
theorem texts_any (k : List UInt8) (hk : k.length = 16) (s : ByteArray) (w : World) :
    Calls Try.prog 3 #[kv k, .string s] w fun e w' => e = .returned (.bool true) ∧ Below w.heap.size w w' := by
  obtain ⟨E, hE⟩ := parseE_int s.data.toList
  have hP := fun w => parse_any s w
  have hR := fun w => refParse_any s w
  have hl := parseR_length s.data.toList
  rw [hE] at hP hR
  generalize parseR s.data.toList = X at *
  have HP := Lib.hid hP; have HRP := Lib.hid hR
  clear hE hP hR
  go_enter Try.func3, Try.ntmps3
  have hk1 : (w.alloc (.cells (kl k).toArray 23)).heap[w.heap.size]? = some (.cells (kl k).toArray 23 (0, 0)) := blk_last _ _
  have HK := Lib.hid hk1; clear hk1
  go_wp2_with (first
    | (go_at_call 19; refine (HP.out _).mono ?_; rintro e w1 ⟨rfl, hb1⟩; have HB1 := Lib.hid hb1; clear hb1)
    | (go_at_call 20; refine (HRP.out _).mono ?_; rintro e w2 ⟨rfl, hb2⟩; have HB2 := Lib.hid hb2; clear hb2)
    | (refine wl_store w1.heap.size X hl _ _ rfl rfl rfl rfl (blk_last _ _) rfl ?_)
    | (refine wl_store w2.heap.size X hl _ _ rfl rfl rfl rfl (blk_last _ _) rfl ?_))
  have hk2 := new_old (blk_lives (new_old (blk_lives HK.out HB1.out) X (kl zeros).toArray) HB2.out) X (kl zeros).toArray
  have hx2 := new_old (blk_lives (new_new w1 X (kl zeros).toArray) HB2.out) X (kl zeros).toArray
  have hy2 := new_new w2 X (kl zeros).toArray
  have hb2 := aft (aft (aft (aft (below_alloc w (.cells (kl k).toArray 23)) HB1.out) (new_below w1 X (kl zeros).toArray)) HB2.out) (new_below w2 X (kl zeros).toArray)
  generalize (w2.alloc (.cells (kl zeros).toArray 23)).setRow w2.heap.size (kl X).toArray = W at *
  have H1 := Lib.hid hk2; have H2 := Lib.hid hx2; have H3 := Lib.hid hy2; have H4 := Lib.hid hb2
  clear hk2 hx2 hy2 hb2
  have e1 := eq_true hl
  refine wp_quiet_all (LaterC W) (by kernel_rfl) (by kernel_rfl) (later_drew _) ?_
  repeat (first
    | (refine BigFrame.wpQuiet_want rfl (fun K hK => quiet_load w.heap.size k hk _ rfl rfl H1.out (hK _ ?_)); simp only [Act.put, List.setIfInBounds_toArray, List.set_cons_succ, List.set_cons_zero])
    | (refine BigFrame.wpQuiet_want rfl (fun _ hK => quiet_load w1.heap.size X hl _ rfl rfl H2.out (hK _ ?_)); simp only [Act.put, List.setIfInBounds_toArray, List.set_cons_succ, List.set_cons_zero])
    | (refine BigFrame.wpQuiet_want rfl (fun _ hK => quiet_load w2.heap.size X hl _ rfl rfl H3.out (hK _ ?_)); simp only [Act.put, List.setIfInBounds_toArray, List.set_cons_succ, List.set_cons_zero])
    | (go_big_quiet_step ((first | (go_at_call 21; exact later_call _ (text_any k hk _)) | (go_at_call 22; exact later_call _ (refText_any k hk _))))))
  refine wpQuiet_nil ?_
  rintro _ ⟨e, rfl⟩
  go_wp2
  go_ret
  exact ⟨rfl, aft H4.out e.below⟩
end Go.Proofs.Ytccojcjgknlhdaa
