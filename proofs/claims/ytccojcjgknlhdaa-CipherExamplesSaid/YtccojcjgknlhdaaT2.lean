/-
  Texts 2: the two Parse.
-/
import Derived.Test.YtccojcjgknlhdaaT1
namespace Go.Proofs.Ytccojcjgknlhdaa
open Go.RowKit
attribute [local go_sem] fold_zeros
theorem eqg_iv (op : BinOp) (t : TypeId) (x y : Operand) (a : Int) (b : Value) : eqGuard op t x y (iv a) b = pure () := by
  unfold eqGuard; cases op <;> rfl
attribute [go_sem] eqg_iv
theorem iv_eq (v : Nat) (hv : v < 16) : binOp .eql 3 (iv v) (.int .i64 16) = pure (.bool false) := by
  have : binOp .eql 3 (iv v) (.int .i64 16) = pure (.bool ((v : Int) == 16)) := rfl
  have h2 : ((v : Int) == 16) = false := by rw [beq_eq_false_iff_ne]; omega
  rw [this, h2]
theorem val_le (c : UInt8) : val c ≤ 16 := List.idxOf_le_length (a := c) (l := digits)
theorem iv_none (c : UInt8) (hv : ¬ val c < 16) : binOp .eql 3 (iv (val c)) (.int .i64 16) = pure (.bool true) := by
  have h : val c = 16 := by have := val_le c; omega
  rw [h]; rfl
theorem iv_mul (v : Nat) (hv : v < 16) : binOp .mul 3 (.int .i64 16) (iv v) = pure (iv (16 * v)) := by
  have : binOp .mul 3 (.int .i64 16) (iv v) = pure (.int .i64 (IntKind.i64.wrap (16 * (v : Int)))) := rfl
  rw [this, IntWalk.i64_in _ (by omega)]; rfl
theorem iv_add (v u : Nat) (hv : v < 16) (hu : u < 16) : binOp .add 3 (iv (16 * v)) (iv u) = pure (iv (16 * v + u)) := by
  have : binOp .add 3 (iv (16 * v)) (iv u) = pure (.int .i64 (IntKind.i64.wrap (16 * (v : Int) + (u : Int)))) := rfl
  rw [this, IntWalk.i64_in _ (by omega)]; rfl

set_option maxHeartbeats 2000000 in
theorem parse_any (s : ByteArray) (w : World) : Calls Try.prog 19 #[.string s] w fun e w' => e = .returned (.tuple #[kv (parseR s.data.toList), parseE s.data.toList]) ∧ Below w.heap.size w w' := by
  have hsz : s.size = s.data.toList.length := by rw [Array.length_toList]; rfl
  have HS := Lib.hid hsz
  by_cases hl : s.size = 32
  · have h32 : s.data.toList.length = 32 := hsz.symm.trans hl
    have H32 := Lib.hid h32
    clear hsz h32
    go_enter Try.func19, Try.ntmps19
    go_wp2
    have HL := Lib.hid hl
    clear hl
    go_loopw [12] (fun i wr => ∃ n : Nat, n ≤ 16 ∧ i = .int .i64 n ∧ GoodTo s.data.toList (2 * n) ∧ wr.heap[w.heap.size]? = some (.cells (kl zeros).toArray 23 (0, 0)) ∧ wr.heap[w.heap.size + 1]? = some (.cells (kl (parseTo s.data.toList n)).toArray 23 (0, 0)) ∧
      Below w.heap.size w wr) (fun i _ => 16 - (intOf i).toNat)
    case atStart => exact ⟨0, by omega, rfl, fun j _ hj => absurd hj (by omega), blk_keep (blk_last _ _) _, blk_last1 _ _ _, aft_alloc (below_alloc _ _) _⟩
    case round =>
      obtain ⟨n, hn, rfl, hg, hr, hp, hw⟩ := hrel
      have HR := Lib.hid hr; have HP := Lib.hid hp; have HW := Lib.hid hw; have HG := Lib.hid hg
      by_cases hlt : n < 16
      · obtain ⟨c, hc⟩ : ∃ c, s.data.toList[2 * n]? = some c := ⟨_, List.getElem?_eq_getElem (by have := H32.out; omega)⟩
        obtain ⟨d, hd⟩ : ∃ d, s.data.toList[2 * n + 1]? = some d := ⟨_, List.getElem?_eq_getElem (by have := H32.out; omega)⟩
        have hn0 : (0 : Int) ≤ n := by omega
        have hn1 : (n : Int) < 16 := by omega
        have hc' : s.data.toList[(2 * (n : Int)).toNat]? = some c := by rw [show (2 * (n : Int)).toNat = 2 * n by omega]; exact hc
        have hd' : s.data.toList[(2 * (n : Int) + 1).toNat]? = some d := by rw [show (2 * (n : Int) + 1).toNat = 2 * n + 1 by omega]; exact hd
        have HC := Lib.hid hc; have HD := Lib.hid hd; have HC' := Lib.hid hc'; have HD' := Lib.hid hd'
        have c0 := cell_kl hp (i := n) (by rw [parseTo_length]; omega)
        have f := free_blk (i := n) hp
        clear hc hd hc' hd' hr hp hw hg
        go_wp2
        refine wp_quiet_all (LaterC wr) (by kernel_rfl) (by kernel_rfl) (later_drew _) ?_
        repeat (first
          | (refine BigFrame.wpQuiet_want rfl (fun K hK => quiet_index s .i64 (2 * (n : Int)) c _ _ rfl rfl rfl (by omega) HC'.out (hK _ ?_)); simp only [Act.put, List.setIfInBounds_toArray, List.set_cons_succ, List.set_cons_zero])
          | (refine BigFrame.wpQuiet_want rfl (fun K hK => quiet_index s .i64 (2 * (n : Int) + 1) d _ _ rfl rfl rfl (by omega) HD'.out (hK _ ?_)); simp only [Act.put, List.setIfInBounds_toArray, List.set_cons_succ, List.set_cons_zero])
          | (go_big_quiet_step ((go_at_call 41; exact later_same _ (index41 _ _)))))
        refine wpQuiet_nil ?_
        rintro _ ⟨e, rfl⟩
        have HF := Lib.hid f; have HC0 := Lib.hid c0
        clear f c0
        by_cases vc : val c < 16
        · have pc : pos c = (val c : Int) := if_pos vc
          by_cases vd : val d < 16
          · have pd : pos d = (val d : Int) := if_pos vd
            have l1 : binOp .lss 3 (iv (val c)) (.int .i64 0) = pure (.bool false) := by rw [iv_lt, decide_eq_false (by omega)]
            have l2 : binOp .lss 3 (iv (val d)) (.int .i64 0) = pure (.bool false) := by rw [iv_lt, decide_eq_false (by omega)]
            have l3 := iv_shl (val c) vc
            have l4 := iv_or (val c) (val d) vc vd
            have l5 : ∀ wx : World, (convert 3 5 (iv (16 * (val c : Int) + (val d : Int)))).run Try.prog wx = .ok (bv (parseAt s.data.toList n)) wx := fun wx => by
              have h1 := iv_byte (16 * val c + val d) wx
              have h2 : parseAt s.data.toList n = UInt8.ofNat (16 * val c + val d) := by
                unfold parseAt
                rw [List.getD_eq_getElem?_getD, List.getD_eq_getElem?_getD, HC.out, HD.out]; rfl
              rw [h2]
              rw [Int.natCast_add, Int.natCast_mul] at h1
              exact h1
            have c1 : e.at.cell? ⟨w.heap.size + 1, n, none⟩ = some (bv ((parseTo s.data.toList n)[n]?.getD 0)) := Later.cell HC0.out e
            have f1 : e.at.frozen? ⟨w.heap.size + 1, n, none⟩ = false := Later.free HC0.out HF.out e
            have VC := Lib.hid vc; have VD := Lib.hid vd
            clear vc vd
            go_wp2
            go_roundw
            case rel =>
              refine ⟨n + 1, by omega, by go_num, HG.out.step HC.out HD.out VC.out VD.out, ?_, ?_, ?_⟩
              · rw [blk_far (by omega)]; exact e.blk HR.out
              · rw [blk_set (e.blk HP.out), kl_set]; rfl
              · exact (aft HW.out e.below).setCell (by show w.heap.size ≤ w.heap.size + 1; omega) _
            case measure => simp [intOf]; omega
          · have hb := isText_bad HD.out vd
            have hpr : parseR s.data.toList = zeros := by simp [parseR, hb]
            have hpe : parseE s.data.toList = .int .i64 12 := by simp [parseE, hb]
            have pd : pos d = -1 := if_neg vd
            have l1 : binOp .lss 3 (iv (val c)) (.int .i64 0) = pure (.bool false) := by rw [iv_lt, decide_eq_false (by omega)]
            have l2 : binOp .lss 3 (iv (-1)) (.int .i64 0) = pure (.bool true) := rfl
            have HPR := Lib.hid hpr; have HPE := Lib.hid hpe; have VC := Lib.hid vc
            clear hb hpr hpe vc vd
            go_wp2_with (refine wl_store w.heap.size zeros (by simp) _ _ rfl rfl rfl rfl (e.blk HR.out) rfl ?_)
            rw [HPR.out, HPE.out]
            exact bodyPost_ret (v := .tuple #[kv zeros, .int .i64 12]) (res_key2 rfl _ _ w.heap.size _ (by simp) _ rfl rfl (blk_row (e.blk HR.out))) rfl ⟨rfl, below_row (aft HW.out e.below) (by omega) _⟩
        · have hb := isText_bad HC.out vc
          have hpr : parseR s.data.toList = zeros := by simp [parseR, hb]
          have hpe : parseE s.data.toList = .int .i64 12 := by simp [parseE, hb]
          have pc : pos c = -1 := if_neg vc
          have l2 : binOp .lss 3 (iv (-1)) (.int .i64 0) = pure (.bool true) := rfl
          have HPR := Lib.hid hpr; have HPE := Lib.hid hpe
          clear hb hpr hpe vc
          go_wp2_with (refine wl_store w.heap.size zeros (by simp) _ _ rfl rfl rfl rfl (e.blk HR.out) rfl ?_)
          rw [HPR.out, HPE.out]
          exact bodyPost_ret (v := .tuple #[kv zeros, .int .i64 12]) (res_key2 rfl _ _ w.heap.size _ (by simp) _ rfl rfl (blk_row (e.blk HR.out))) rfl ⟨rfl, below_row (aft HW.out e.below) (by omega) _⟩
      · obtain rfl : n = 16 := by omega
        have hb := isText_good H32.out hg
        have hpr : parseR s.data.toList = parseTo s.data.toList 16 := by simp [parseR, hb, parseTo_all]
        have hpe : parseE s.data.toList = .int .i64 0 := by simp [parseE, hb]
        have HPR := Lib.hid hpr; have HPE := Lib.hid hpe
        have hlen := parseTo_length s.data.toList 16
        clear hb hpr hpe hr hp hw hg
        go_wp2_with (first
          | (refine wl_load (w.heap.size + 1) (parseTo s.data.toList 16) (parseTo_length _ _) _ rfl rfl rfl HP.out ?_)
          | (refine wl_store w.heap.size (parseTo s.data.toList 16) (parseTo_length _ _) _ _ rfl rfl rfl rfl HR.out rfl ?_))
        rw [HPR.out, HPE.out]
        exact bodyPost_ret (v := .tuple #[kv (parseTo s.data.toList 16), .int .i64 0]) (res_key2 rfl _ _ w.heap.size _ (parseTo_length _ _) _ rfl rfl (blk_row HR.out)) rfl ⟨rfl, below_row HW.out (by omega) _⟩
  · have hb : isText s.data.toList = false := isText_short (by omega)
    have hpr : parseR s.data.toList = zeros := by simp [parseR, hb]
    have hpe : parseE s.data.toList = .int .i64 12 := by simp [parseE, hb]
    have HPR := Lib.hid hpr; have HPE := Lib.hid hpe
    have hr1 : ((w.alloc (.cells (kl zeros).toArray 23)).alloc (.cells (kl zeros).toArray 23)).heap[w.heap.size]? = some (.cells (kl zeros).toArray 23 (0, 0)) := blk_keep (blk_last _ _) _
    have HR := Lib.hid hr1
    have hne : ((s.size : Int) = 32) = False := by simp; omega
    clear hsz hb hpr hpe hr1
    go_enter Try.func19, Try.ntmps19
    go_wp2_with (refine wl_store w.heap.size zeros (by simp) _ _ rfl rfl rfl rfl HR.out rfl ?_)
    rw [HPR.out, HPE.out]
    exact bodyPost_ret (v := .tuple #[kv zeros, .int .i64 12]) (res_key2 rfl _ _ w.heap.size _ (by simp) _ rfl rfl (blk_row HR.out)) rfl ⟨rfl, below_row (aft_alloc (below_alloc _ _) _) (by omega) _⟩

set_option maxHeartbeats 2000000 in
theorem refParse_any (s : ByteArray) (w : World) : Calls Try.prog 20 #[.string s] w fun e w' => e = .returned (.tuple #[kv (parseR s.data.toList), parseE s.data.toList]) ∧ Below w.heap.size w w' := by
  have hsz : s.size = s.data.toList.length := by rw [Array.length_toList]; rfl
  have HS := Lib.hid hsz
  by_cases hl : s.size = 32
  · have h32 : s.data.toList.length = 32 := hsz.symm.trans hl
    have H32 := Lib.hid h32
    clear hsz h32
    go_enter Try.func20, Try.ntmps20
    go_wp2
    have HL := Lib.hid hl
    clear hl
    go_loopw [5] (fun i wr => ∃ n : Nat, n ≤ 16 ∧ i = .int .i64 n ∧ GoodTo s.data.toList (2 * n) ∧ wr.heap[w.heap.size]? = some (.cells (kl zeros).toArray 23 (0, 0)) ∧ wr.heap[w.heap.size + 1]? = some (.cells (kl (parseTo s.data.toList n)).toArray 23 (0, 0)) ∧
      Below w.heap.size w wr) (fun i _ => 16 - (intOf i).toNat)
    case atStart => exact ⟨0, by omega, rfl, fun j _ hj => absurd hj (by omega), blk_keep (blk_last _ _) _, blk_last1 _ _ _, aft_alloc (below_alloc _ _) _⟩
    case round =>
      obtain ⟨n, hn, rfl, hg, hr, hp, hw⟩ := hrel
      have HR := Lib.hid hr; have HP := Lib.hid hp; have HW := Lib.hid hw; have HG := Lib.hid hg
      by_cases hlt : n < 16
      · obtain ⟨c, hc⟩ : ∃ c, s.data.toList[2 * n]? = some c := ⟨_, List.getElem?_eq_getElem (by have := H32.out; omega)⟩
        obtain ⟨d, hd⟩ : ∃ d, s.data.toList[2 * n + 1]? = some d := ⟨_, List.getElem?_eq_getElem (by have := H32.out; omega)⟩
        have hn0 : (0 : Int) ≤ n := by omega
        have hn1 : (n : Int) < 16 := by omega
        have hc' : s.data.toList[(2 * (n : Int)).toNat]? = some c := by rw [show (2 * (n : Int)).toNat = 2 * n by omega]; exact hc
        have hd' : s.data.toList[(2 * (n : Int) + 1).toNat]? = some d := by rw [show (2 * (n : Int) + 1).toNat = 2 * n + 1 by omega]; exact hd
        have HC := Lib.hid hc; have HD := Lib.hid hd; have HC' := Lib.hid hc'; have HD' := Lib.hid hd'
        have c0 := cell_kl hp (i := n) (by rw [parseTo_length]; omega)
        have f := free_blk (i := n) hp
        clear hc hd hc' hd' hr hp hw hg
        go_wp2
        refine wp_quiet_all (LaterC wr) (by kernel_rfl) (by kernel_rfl) (later_drew _) ?_
        repeat (first
          | (refine BigFrame.wpQuiet_want rfl (fun K hK => quiet_index s .i64 (2 * (n : Int)) c _ _ rfl rfl rfl (by omega) HC'.out (hK _ ?_)); simp only [Act.put, List.setIfInBounds_toArray, List.set_cons_succ, List.set_cons_zero])
          | (refine BigFrame.wpQuiet_want rfl (fun K hK => quiet_index s .i64 (2 * (n : Int) + 1) d _ _ rfl rfl rfl (by omega) HD'.out (hK _ ?_)); simp only [Act.put, List.setIfInBounds_toArray, List.set_cons_succ, List.set_cons_zero])
          | (go_big_quiet_step ((go_at_call 42; exact later_same _ (digit_any _ _)))))
        refine wpQuiet_nil ?_
        rintro _ ⟨e, rfl⟩
        have HF := Lib.hid f; have HC0 := Lib.hid c0
        clear f c0
        by_cases vc : val c < 16
        · by_cases vd : val d < 16
          · have l1 : binOp .eql 3 (iv (val c)) (.int .i64 16) = pure (.bool false) := iv_eq _ vc
            have l2 : binOp .eql 3 (iv (val d)) (.int .i64 16) = pure (.bool false) := iv_eq _ vd
            have l3 := iv_mul (val c) vc
            have l4 := iv_add (val c) (val d) vc vd
            have l5 : ∀ wx : World, (convert 3 5 (iv (16 * (val c : Int) + (val d : Int)))).run Try.prog wx = .ok (bv (parseAt s.data.toList n)) wx := fun wx => by
              have h1 := iv_byte (16 * val c + val d) wx
              have h2 : parseAt s.data.toList n = UInt8.ofNat (16 * val c + val d) := by
                unfold parseAt
                rw [List.getD_eq_getElem?_getD, List.getD_eq_getElem?_getD, HC.out, HD.out]; rfl
              rw [h2]
              rw [Int.natCast_add, Int.natCast_mul] at h1
              exact h1
            have c1 : e.at.cell? ⟨w.heap.size + 1, n, none⟩ = some (bv ((parseTo s.data.toList n)[n]?.getD 0)) := Later.cell HC0.out e
            have f1 : e.at.frozen? ⟨w.heap.size + 1, n, none⟩ = false := Later.free HC0.out HF.out e
            have VC := Lib.hid vc; have VD := Lib.hid vd
            clear vc vd
            go_wp2
            go_roundw
            case rel =>
              refine ⟨n + 1, by omega, by go_num, HG.out.step HC.out HD.out VC.out VD.out, ?_, ?_, ?_⟩
              · rw [blk_far (by omega)]; exact e.blk HR.out
              · rw [blk_set (e.blk HP.out), kl_set]; rfl
              · exact (aft HW.out e.below).setCell (by show w.heap.size ≤ w.heap.size + 1; omega) _
            case measure => simp [intOf]; omega
          · have hb := isText_bad HD.out vd
            have hpr : parseR s.data.toList = zeros := by simp [parseR, hb]
            have hpe : parseE s.data.toList = .int .i64 12 := by simp [parseE, hb]
            have l1 : binOp .eql 3 (iv (val c)) (.int .i64 16) = pure (.bool false) := iv_eq _ vc
            have l2 : binOp .eql 3 (iv (val d)) (.int .i64 16) = pure (.bool true) := iv_none _ vd
            have HPR := Lib.hid hpr; have HPE := Lib.hid hpe; have VC := Lib.hid vc
            clear hb hpr hpe vc vd
            go_wp2_with (refine wl_store w.heap.size zeros (by simp) _ _ rfl rfl rfl rfl (e.blk HR.out) rfl ?_)
            rw [HPR.out, HPE.out]
            exact bodyPost_ret (v := .tuple #[kv zeros, .int .i64 12]) (res_key2 rfl _ _ w.heap.size _ (by simp) _ rfl rfl (blk_row (e.blk HR.out))) rfl ⟨rfl, below_row (aft HW.out e.below) (by omega) _⟩
        · have hb := isText_bad HC.out vc
          have hpr : parseR s.data.toList = zeros := by simp [parseR, hb]
          have hpe : parseE s.data.toList = .int .i64 12 := by simp [parseE, hb]
          have l2 : binOp .eql 3 (iv (val c)) (.int .i64 16) = pure (.bool true) := iv_none _ vc
          have HPR := Lib.hid hpr; have HPE := Lib.hid hpe
          clear hb hpr hpe vc
          go_wp2_with (refine wl_store w.heap.size zeros (by simp) _ _ rfl rfl rfl rfl (e.blk HR.out) rfl ?_)
          rw [HPR.out, HPE.out]
          exact bodyPost_ret (v := .tuple #[kv zeros, .int .i64 12]) (res_key2 rfl _ _ w.heap.size _ (by simp) _ rfl rfl (blk_row (e.blk HR.out))) rfl ⟨rfl, below_row (aft HW.out e.below) (by omega) _⟩
      · obtain rfl : n = 16 := by omega
        have hb := isText_good H32.out hg
        have hpr : parseR s.data.toList = parseTo s.data.toList 16 := by simp [parseR, hb, parseTo_all]
        have hpe : parseE s.data.toList = .int .i64 0 := by simp [parseE, hb]
        have HPR := Lib.hid hpr; have HPE := Lib.hid hpe
        have hlen := parseTo_length s.data.toList 16
        clear hb hpr hpe hr hp hw hg
        go_wp2_with (first
          | (refine wl_load (w.heap.size + 1) (parseTo s.data.toList 16) (parseTo_length _ _) _ rfl rfl rfl HP.out ?_)
          | (refine wl_store w.heap.size (parseTo s.data.toList 16) (parseTo_length _ _) _ _ rfl rfl rfl rfl HR.out rfl ?_))
        rw [HPR.out, HPE.out]
        exact bodyPost_ret (v := .tuple #[kv (parseTo s.data.toList 16), .int .i64 0]) (res_key2 rfl _ _ w.heap.size _ (parseTo_length _ _) _ rfl rfl (blk_row HR.out)) rfl ⟨rfl, below_row HW.out (by omega) _⟩
  · have hb : isText s.data.toList = false := isText_short (by omega)
    have hpr : parseR s.data.toList = zeros := by simp [parseR, hb]
    have hpe : parseE s.data.toList = .int .i64 12 := by simp [parseE, hb]
    have HPR := Lib.hid hpr; have HPE := Lib.hid hpe
    have hr1 : ((w.alloc (.cells (kl zeros).toArray 23)).alloc (.cells (kl zeros).toArray 23)).heap[w.heap.size]? = some (.cells (kl zeros).toArray 23 (0, 0)) := blk_keep (blk_last _ _) _
    have HR := Lib.hid hr1
    have hne : ((s.size : Int) = 32) = False := by simp; omega
    clear hsz hb hpr hpe hr1
    go_enter Try.func20, Try.ntmps20
    go_wp2_with (refine wl_store w.heap.size zeros (by simp) _ _ rfl rfl rfl rfl HR.out rfl ?_)
    rw [HPR.out, HPE.out]
    exact bodyPost_ret (v := .tuple #[kv zeros, .int .i64 12]) (res_key2 rfl _ _ w.heap.size _ (by simp) _ rfl rfl (blk_row HR.out)) rfl ⟨rfl, below_row (aft_alloc (below_alloc _ _) _) (by omega) _⟩
end Go.Proofs.Ytccojcjgknlhdaa
