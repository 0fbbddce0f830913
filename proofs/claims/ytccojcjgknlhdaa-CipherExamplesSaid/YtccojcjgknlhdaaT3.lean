/-
  Texts 3: the two Text.
-/
import Derived.Test.YtccojcjgknlhdaaT2
import Derived.Deep.RegionLaw
import Derived.ChangeKeysEq
namespace Go.Proofs.Ytccojcjgknlhdaa
open Go.RowKit

/-- append as one step of a region that draws its order. -/
theorem step_app {t e : TypeId} {z : Value} {bytes : Nat} (ht : Try.prog.underlying t = some (.slice e)) (hi : (Try.prog.info? e).map (fun i => (i.zero, i.size, i.bytes)) = some (some z, 1, bytes)) (hz : z.cells.size = 1)
    {ops : Array Oper} {o : Oper} {a : Act} {K : Act → World → Prop} {Q : Exit → Act → World → Prop} {E : Prop} {w : World} {base : Nat} {v : Value} {n m c : Nat} {A : Option Addr} {xs ys : List Value} (s x : Operand) (hgd : o.guard = none)
    (ho : o.op = .call { callee := .builtin .append, args := #[s, x], argTypes := #[t, t] }) (hs : a.eval s = v) (hx : a.eval x = .slice A m c) (hown : w.ownsRow base e 1 v n xs) (hsl : Sl w A m c ys) (h1 : ∀ u ∈ ys, u.oneCell' = true)
    (hlen : (n + m) * bytes ≤ 140737488355328) (hmax : n + m ≤ maxLen) (hbase : base ≤ w.heap.size)
    (h : ∀ v' w', w'.ownsRow base e 1 v' (n + m) (xs ++ ys) → Apd w w' v v' → K (a.put o.dst v') w') :
    if Region.wanted o (yielded ops a.tmps) = true then Oper.wp Try.prog o a w K Q else E := by
  have hw : Region.wanted o (yielded ops a.tmps) = true := by simp [Region.wanted, hgd]
  rw [if_pos hw]
  obtain ⟨v', w', hr, h2, h3⟩ := run_app ht hi hz (ty := o.type) hown hsl h1 hlen hmax hbase
  unfold Oper.wp execOp
  simp only [ho, resolve, invoke, builtin, Sem.run_bind, Sem.run_pure, Result.andThen_ok, List.map_toArray, List.map_cons, List.map_nil, hs, hx, hr]
  exact h v' w' h2 h3

def nib1 (c : UInt8) : UInt8 := UInt8.ofNat (c.toNat / 16)
def nib2 (c : UInt8) : UInt8 := UInt8.ofNat (c.toNat % 16)
theorem nib1_nat (c : UInt8) : (nib1 c).toNat = c.toNat / 16 := by
  unfold nib1; rw [UInt8.toNat_ofNat']; have := c.toNat_lt; omega
theorem nib2_nat (c : UInt8) : (nib2 c).toNat = c.toNat % 16 := by
  unfold nib2; rw [UInt8.toNat_ofNat']; have := c.toNat_lt; omega
theorem bv_shr (c : UInt8) : binOp .shr 5 (bv c) (.int .u64 4) = pure (bv (nib1 c)) := by
  have : binOp .shr 5 (bv c) (.int .u64 4) = Op.shift .shr .u8 (c.toNat : Int) .u64 4 := rfl
  rw [this, shift_shr_any _ _ _ _ (by decide), bv, nib1_nat]
  have h2 : min (4 : Int).toNat IntKind.u8.bits = 4 := by decide
  rw [h2, Int.natCast_ediv]; rfl
theorem nib_and : ∀ c : Fin 256, bits .and .u8 (c.val : Int) 15 = ((c.val % 16 : Nat) : Int) := by decide +kernel
theorem bv_and (c : UInt8) : binOp .and 5 (bv c) (.int .u8 15) = pure (bv (nib2 c)) := by
  have : binOp .and 5 (bv c) (.int .u8 15) = pure (.int .u8 (bits .and .u8 (c.toNat : Int) 15)) := rfl
  rw [this, nib_and ⟨c.toNat, c.toNat_lt⟩, bv, nib2_nat]
theorem bv_quo (c : UInt8) : binOp .quo 5 (bv c) (.int .u8 16) = pure (bv (nib1 c)) := by
  have : binOp .quo 5 (bv c) (.int .u8 16) = Op.intDiv .quo .u8 (c.toNat : Int) 16 := rfl
  rw [this]
  unfold Op.intDiv
  rw [if_neg (by decide)]
  simp only
  have := c.toNat_lt
  rw [Int.tdiv_eq_ediv_of_nonneg (by omega), IntWalk.u8_in _ (by omega), bv, nib1_nat, Int.natCast_ediv]; rfl
theorem bv_rem (c : UInt8) : binOp .rem 5 (bv c) (.int .u8 16) = pure (bv (nib2 c)) := by
  have : binOp .rem 5 (bv c) (.int .u8 16) = Op.intDiv .rem .u8 (c.toNat : Int) 16 := rfl
  rw [this]
  unfold Op.intDiv
  rw [if_neg (by decide)]
  simp only
  rw [Int.tmod_eq_emod_of_nonneg (by omega), bv, nib2_nat, Int.natCast_emod]; rfl
theorem run_dig (q : UInt8) (hq : q.toNat < 16) (w : World) : (Instr.index 9 (.string ⟨#[48, 49, 50, 51, 52, 53, 54, 55, 56, 57, 97, 98, 99, 100, 101, 102]⟩) (bv q)).run Try.prog w = .ok (bv (dig q.toNat)) w :=
  run_index_sv _ .u8 _ _ (by omega) (by rw [Int.toNat_natCast]; exact dig_get _ hq) w

theorem run_index_kv (k : List UInt8) (i n : Nat) (hk : k.length = n) (hi : i < n) (h16 : n = 16) (w : World) : (Instr.index 23 (kv k) (.int .i64 (i : Int))).run Try.prog w = .ok (bv (k[i]?.getD 0)) w := by
  subst h16
  obtain ⟨ii, hii⟩ := info_of_underlying (P := Try.prog) Try.underlying5
  have hc : Try.prog.cellsOf 5 = 1 := by kernel_rfl
  have h1 : (0 : Int) ≤ (i : Int) ∧ (i : Int) < ((16 : Nat) : Int) := by omega
  have p1 : (part 5 (kl k).toArray i).run Try.prog w = .ok (bv (k[i]?.getD 0)) w := run_part_plain w (P := Try.prog) (by kernel_rfl) (by simp [kl, hk, hi])
  have hs : (sizeOf 5).run Try.prog w = .ok (Try.prog.cellsOf 5) w := run_sizeOf w hii
  simp only [Instr.index, asIntOf, Sem.run_bind, Sem.run_pure, Result.andThen_ok, run_underlying Try.underlying23, if_pos h1, hs, hc, Int.toNat_natCast, Nat.mul_one, p1]
theorem sl_lit2 (w : World) (x y : UInt8) (o : Obj) (h : o = .cells #[bv x, bv y] 5) : Sl (w.alloc o) (some ⟨w.heap.size, 0, none⟩) 2 2 (kl [x, y]) := by
  subst h
  have := Sl.of_blk (blk_last w (.cells #[bv x, bv y] 5)) (by simp; decide) 0 2 (by simp)
  simpa [kl] using this
theorem run_conv_ob {w : World} {base : Nat} {v : Value} {l : List UInt8} (h : Ob w base v l) : (convert 37 9 v).run Try.prog w = .ok (sv l) w := by
  rcases h.2 with ⟨rfl, hn⟩ | ⟨g, cap, cur, rfl, hg, hh, hn, hm, hs, ht⟩
  · have : l = [] := List.eq_nil_of_length_eq_zero hn
    subst this
    rw [run_convert_bytes_nil w 37 5 Try.underlying37 Try.underlying5 _ _ 9 Try.underlying9]; rfl
  · rw [Nat.mul_one] at ht
    refine run_convert_bytes_back w 37 9 5 _ cap l Try.underlying37 Try.underlying5 Try.underlying9 ?_
    intro j hj
    have hadd : (⟨g, 0, none⟩ : Addr).add j = ⟨g, j, none⟩ := by unfold Addr.add; split <;> simp_all
    rw [hadd, cell_of_row w g j cur 5 (0, 0) hh]
    have h2 := congrArg (·[j]?) ht
    simp only [List.getElem?_take, if_pos hj] at h2
    rw [← Array.getElem?_toList, h2, kl, List.getElem?_map, List.getElem?_eq_getElem hj]; rfl
def textTo (k : List UInt8) (n : Nat) : List UInt8 := textOf (k.take n)
theorem textTo_step (k : List UInt8) (n : Nat) (hn : n < k.length) : textTo k (n + 1) = textTo k n ++ [dig (nib1 (k[n]?.getD 0)).toNat, dig (nib2 (k[n]?.getD 0)).toNat] := by
  unfold textTo textOf
  rw [take_snoc _ _ hn, List.flatMap_append, nib1_nat, nib2_nat]
  simp
theorem textTo_length (k : List UInt8) : ∀ n, n ≤ k.length → (textTo k n).length = 2 * n
  | 0, _ => by simp [textTo, textOf]
  | n + 1, h => by rw [textTo_step k n (by omega), List.length_append, textTo_length k n (by omega)]; simp; omega

set_option maxHeartbeats 2000000 in
theorem text_any (k : List UInt8) (hk : k.length = 16) (w : World) : Calls Try.prog 21 #[kv k] w fun e w' => e = .returned (sv (textOf k)) ∧ Below w.heap.size w w' := by
  have hlen : maxLen = 9223372036854775807 := rfl
  go_enter Try.func21, Try.ntmps21
  have hk1 : (w.alloc (.cells (kl k).toArray 23)).heap[w.heap.size]? = some (.cells (kl k).toArray 23 (0, 0)) := blk_last _ _
  have HK := Lib.hid hk1; clear hk1
  go_wp2_with (refine wl_load w.heap.size k hk _ rfl rfl rfl HK.out ?_)
  go_loopw [3, 7] (fun out i wr => ∃ n : Nat, n ≤ 16 ∧ i = .int .i64 n ∧ Ob wr (w.heap.size + 1) out (textTo k n) ∧ Below w.heap.size w wr ∧ w.heap.size + 1 ≤ wr.heap.size) (fun _ i _ => 16 - (intOf i).toNat)
  case atStart => exact ⟨0, by omega, rfl, ⟨rfl, .inl ⟨rfl, rfl⟩⟩, below_alloc _ _, by simp⟩
  case round =>
    obtain ⟨n, hn, rfl, ho, hb, hz⟩ := hrel
    have HO := Lib.hid ho; have HW := Lib.hid hb; have HZ := Lib.hid hz
    clear ho hb hz
    by_cases hlt : n < 16
    · have hn0 : (0 : Int) ≤ n := by omega
      have hn1 : (n : Int) < 16 := by omega
      have hix := run_index_kv k n 16 hk hlt rfl
      have h1 := bv_shr (k[n]?.getD 0)
      have h2 := bv_and (k[n]?.getD 0)
      have q1 : (nib1 (k[n]?.getD 0)).toNat < 16 := by rw [nib1_nat]; have := (k[n]?.getD 0).toNat_lt; omega
      have q2 : (nib2 (k[n]?.getD 0)).toNat < 16 := by rw [nib2_nat]; omega
      have h3 := run_dig (nib1 (k[n]?.getD 0)) q1
      have h4 := run_dig (nib2 (k[n]?.getD 0)) q2
      have hst := textTo_step k n (by omega)
      have HST := Lib.hid hst
      clear q1 q2 hst
      generalize (k[n]?.getD 0) = c at *
      go_wp2
      go_region_law (refine step_app Try.underlying37 info5 rfl (.tmp 10) (.tmp 17) rfl rfl rfl rfl (own_lives (own_lives HO.out (Below.refl _ _).drew) (below_alloc _ _)) (sl_lit2 _ _ _ _ rfl) (kl_cells _) (by rw [textTo_length k n (by omega)]; omega) (by rw [textTo_length k n (by omega)]; omega) (by simpa using Nat.le_succ_of_le HZ.out) ?_
                     intro v' w4 ho4 ha4; have HO4 := Lib.hid ho4; have HA4 := Lib.hid ha4; clear ho4 ha4)
      all_goals
        go_wp2
        go_roundw
        case rel =>
          refine ⟨n + 1, by omega, by go_num, ?_, ?_, ?_⟩
          · rw [HST.out]; exact ob_app (m := [dig (nib1 c).toNat, dig (nib2 c).toNat]) HO4.out
          · exact HW.out.drew.trans (((below_alloc _ _).mono (by simpa using HW.out.size)).trans (HA4.out.below (own_lives (own_lives HO.out (Below.refl _ _).drew) (below_alloc _ _)) (Nat.le_succ _) (by simpa using Nat.le_succ_of_le HW.out.size)))
          · exact Nat.le_trans (by simpa using Nat.le_succ_of_le HZ.out) HA4.out.1.size
        case measure => simp [intOf]; omega
    · obtain rfl : n = 16 := by omega
      have ht : textTo k 16 = textOf k := by unfold textTo; rw [List.take_of_length_le (by omega)]
      rw [ht] at HO
      have hconv := run_conv_ob HO.out
      go_wp2
      go_ret
      exact ⟨rfl, HW.out⟩

set_option maxHeartbeats 2000000 in
theorem refText_any (k : List UInt8) (hk : k.length = 16) (w : World) : Calls Try.prog 22 #[kv k] w fun e w' => e = .returned (sv (textOf k)) ∧ Below w.heap.size w w' := by
  have hlen : maxLen = 9223372036854775807 := rfl
  go_enter Try.func22, Try.ntmps22
  go_wp2
  go_loopw [3, 4] (fun out i wr => ∃ n : Nat, n ≤ 16 ∧ i = .int .i64 n ∧ Ob wr (w.heap.size + 1) out (textTo k n) ∧ wr.heap[w.heap.size]? = some (.cells (kl k).toArray 23 (0, 0)) ∧ Below w.heap.size w wr ∧ w.heap.size + 1 ≤ wr.heap.size) (fun _ i _ => 16 - (intOf i).toNat)
  case atStart => exact ⟨0, by omega, rfl, ⟨rfl, .inl ⟨rfl, rfl⟩⟩, blk_last _ _, below_alloc _ _, by simp⟩
  case round =>
    obtain ⟨n, hn, rfl, ho, hk1, hb, hz⟩ := hrel
    have HO := Lib.hid ho; have HW := Lib.hid hb; have HZ := Lib.hid hz; have HK := Lib.hid hk1
    by_cases hlt : n < 16
    · have hn0 : (0 : Int) ≤ n := by omega
      have hn1 : (n : Int) < 16 := by omega
      have c0 := cell_kl hk1 (i := n) (by omega)
      clear ho hb hz hk1
      have h1 := bv_quo (k[n]?.getD 0)
      have h2 := bv_rem (k[n]?.getD 0)
      have q1 : (nib1 (k[n]?.getD 0)).toNat < 16 := by rw [nib1_nat]; have := (k[n]?.getD 0).toNat_lt; omega
      have q2 : (nib2 (k[n]?.getD 0)).toNat < 16 := by rw [nib2_nat]; omega
      have h3 := run_dig (nib1 (k[n]?.getD 0)) q1
      have h4 := run_dig (nib2 (k[n]?.getD 0)) q2
      have hst := textTo_step k n (by omega)
      have HST := Lib.hid hst
      clear q1 q2 hst
      generalize (k[n]?.getD 0) = c at *
      go_wp2
      go_region_law (refine step_app Try.underlying37 info5 rfl (.tmp 9) (.tmp 20) rfl rfl rfl rfl (own_lives (own_lives HO.out (Below.refl _ _).drew) (below_alloc _ _)) (sl_lit2 _ _ _ _ rfl) (kl_cells _) (by rw [textTo_length k n (by omega)]; omega) (by rw [textTo_length k n (by omega)]; omega) (by simpa using Nat.le_succ_of_le HZ.out) ?_
                     intro v' w4 ho4 ha4; have HO4 := Lib.hid ho4; have HA4 := Lib.hid ha4; clear ho4 ha4)
      all_goals
        go_wp2
        go_roundw
        case rel =>
          refine ⟨n + 1, by omega, by go_num, ?_, ?_, ?_, ?_⟩
          · rw [HST.out]; exact ob_app (m := [dig (nib1 c).toNat, dig (nib2 c).toNat]) HO4.out
          · exact HA4.out.blk (blk_keep HK.out _) (fun h => by have := (HO.out.lt _ h).1; omega)
          · exact HW.out.drew.trans (((below_alloc _ _).mono (by simpa using HW.out.size)).trans (HA4.out.below (own_lives (own_lives HO.out (Below.refl _ _).drew) (below_alloc _ _)) (Nat.le_succ _) (by simpa using Nat.le_succ_of_le HW.out.size)))
          · exact Nat.le_trans (by simpa using Nat.le_succ_of_le HZ.out) HA4.out.1.size
        case measure => simp [intOf]; omega
    · obtain rfl : n = 16 := by omega
      clear ho hb hz hk1
      have ht : textTo k 16 = textOf k := by unfold textTo; rw [List.take_of_length_le (by omega)]
      rw [ht] at HO
      have hconv := run_conv_ob HO.out
      go_wp2
      go_ret
      exact ⟨rfl, HW.out⟩
end Go.Proofs.Ytccojcjgknlhdaa
