/-
  fold, with what Hash and what Mac hand it.
-/
import Derived.Test.YtccojcjgknlhdaaM1
import Derived.Laws.CopyOwn
namespace Go.Proofs.Ytccojcjgknlhdaa
open Go.RowKit
attribute [local go_sem] fold_zeros

theorem foldTo_length (next : List UInt8 → List UInt8 → List UInt8) (hn : ∀ s p, s.length = 16 → p.length = 16 → (next s p).length = 16) (s : List UInt8) (hs : s.length = 16) (l : List UInt8) : ∀ i, (foldTo next s l i).length = 16
  | 0 => hs
  | i + 1 => hn _ _ (foldTo_length next hn s hs l i) (portionAt_length _ _)
theorem hashNext_length (s p : List UInt8) (hs : s.length = 16) (_ : p.length = 16) : (hashNext s p).length = 16 := xorl_length (by simp) hs
theorem macNext_length (k s p : List UInt8) (_ : s.length = 16) (_ : p.length = 16) : (macNext k s p).length = 16 := enc_length _ _
theorem drop_split (l : List UInt8) (i : Nat) : (l.drop (16 * i)).drop (Nat.min (l.drop (16 * i)).length 16) = l.drop (16 * (i + 1)) := by
  rw [List.drop_drop]
  by_cases h : 16 * (i + 1) ≤ l.length
  · congr 1
    rw [List.length_drop]
    have : Nat.min (l.length - 16 * i) 16 = 16 := Nat.min_eq_right (by omega)
    omega
  · have hm : Nat.min (l.drop (16 * i)).length 16 = (l.drop (16 * i)).length := Nat.min_eq_left (by rw [List.length_drop]; omega)
    rw [hm, List.length_drop, List.drop_of_length_le (by omega), List.drop_of_length_le (by omega)]
theorem portion_split (l : List UInt8) (i : Nat) : portionAt l i = (l.drop (16 * i)).take (Nat.min (l.drop (16 * i)).length 16) ++ List.replicate (16 - Nat.min (l.drop (16 * i)).length 16) 0 := by
  have hm : Nat.min (l.drop (16 * i)).length 16 ≤ (l.drop (16 * i)).length := Nat.min_le_left _ _
  have hm2 : Nat.min (l.drop (16 * i)).length 16 ≤ 16 := Nat.min_le_right _ _
  have hm3 : Nat.min (l.drop (16 * i)).length 16 = (l.drop (16 * i)).length ∨ Nat.min (l.drop (16 * i)).length 16 = 16 := by
    rcases Nat.le_total (l.drop (16 * i)).length 16 with h | h
    · exact .inl (Nat.min_eq_left h)
    · exact .inr (Nat.min_eq_right h)
  generalize Nat.min (l.drop (16 * i)).length 16 = m at *
  apply List.ext_getElem?
  intro j
  by_cases hj : j < 16
  · rw [portionAt, List.getElem?_map, List.getElem?_range hj, Option.map_some]
    by_cases hjm : j < m
    · rw [List.getElem?_append_left (by rw [List.length_take]; omega), List.getElem?_take, if_pos hjm, List.getElem?_drop, List.getD_eq_getElem?_getD]
      rw [List.length_drop] at hm
      rw [List.getElem?_eq_getElem (by omega)]; rfl
    · rw [List.getElem?_append_right (by rw [List.length_take]; omega), List.getElem?_replicate, if_pos (by rw [List.length_take]; omega), List.getD_eq_getElem?_getD]
      rw [List.length_drop] at hm3
      rw [List.getElem?_eq_none (by omega)]; rfl
  · rw [List.getElem?_eq_none (by simp; omega), List.getElem?_eq_none (by rw [List.length_append, List.length_take, List.length_replicate]; omega)]
theorem splice_zeros (l : List UInt8) (m : Nat) (hl : l.length = m) (hm : m ≤ 16) : splice (kl zeros) 0 (kl l) = kl (l ++ List.replicate (16 - m) 0) := by
  subst hl
  unfold splice
  rw [List.take_zero, List.nil_append, kl_length, Nat.zero_add, kl_append]
  congr 1
  rw [kl, ← List.map_drop, zeros, List.drop_replicate]; rfl
def lenOf : Value → Nat
  | .slice _ n _ => n
  | _ => 0

theorem Sl.any0 {w : World} {A : Option Addr} {n c : Nat} {cs : List Value} (h : Sl w A n c cs) (hc : c = 0) (A' : Option Addr) : Sl w A' n 0 cs := by
  have h2 := h.2.1
  have h1 := h.1
  obtain rfl : cs = [] := List.eq_nil_of_length_eq_zero (by omega)
  exact ⟨h1, by omega, by omega, fun h => absurd h (Nat.lt_irrefl _), fun _ _ _ j v hv => by simp at hv⟩
theorem src_cell {w : World} {b off n c mm : Nat} {l : List UInt8} {o : Obj} (h : Sl w (some ⟨b, off, none⟩) n c (kl l)) {j : Nat} {v : Value} (hj : (kl (l.take mm))[j]? = some v) : (w.alloc o).cell? ((⟨b, off, none⟩ : Addr).add j) = some v := by
  have hadd : (⟨b, off, none⟩ : Addr).add j = ⟨b, off + j, none⟩ := by unfold Addr.add; split <;> simp_all
  rw [hadd]
  refine (h.lives (below_alloc w o)).2.2.2.2 b off rfl j v ?_
  rw [kl, List.map_take, List.getElem?_take] at hj
  split at hj
  · exact hj
  · cases hj

set_option maxHeartbeats 4000000 in
theorem foldHash_any (s : List UInt8) (hs : s.length = 16) (l : List UInt8) (A : Option Addr) (m c : Nat) (w : World) (hsl : Sl w A m c (kl l)) (hm : m ≤ 16448) :
    Calls Try.prog 59 #[kv s, .slice A m c, .func (.func 60) #[] #[]] w fun e w' => e = .returned (kv (foldTo hashNext s l ((l.length + 15) / 16))) ∧ Below w.heap.size w w' := by
  obtain rfl : m = l.length := by have := hsl.1; rw [kl_length] at this; exact this.symm
  have hlen : ∀ i, (foldTo hashNext s l i).length = 16 := foldTo_length _ hashNext_length s hs l
  have HS := Lib.hid hsl
  have hmax : maxLen = 9223372036854775807 := rfl
  clear hsl
  go_enter Try.func59, Try.ntmps59
  go_wp2
  go_loopw [1] (fun b wr => ∃ (i : Nat) (A' : Option Addr) (n' c' : Nat) (l' : List UInt8), i ≤ (l.length + 15) / 16 ∧ l' = l.drop (16 * i) ∧ b = .slice A' n' c' ∧ Sl w A' n' c' (kl l') ∧
    wr.heap[w.heap.size]? = some (.cells (kl (foldTo hashNext s l i)).toArray 23 (0, 0)) ∧ wr.heap[w.heap.size + 1]? = some (.cells (kl zeros).toArray 23 (0, 0)) ∧ Below w.heap.size w wr) (fun b _ => lenOf b)
  case atStart => exact ⟨0, A, l.length, c, l, by omega, rfl, rfl, HS.out, blk_keep (blk_last _ _) _, blk_last1 _ _ _, aft_alloc (below_alloc _ _) _⟩
  case round =>
    obtain ⟨i, A', n', c', l', hi, hl', rfl, hsl, hx, hr, hw⟩ := hrel
    obtain rfl : n' = l'.length := by have := hsl.1; rw [kl_length] at this; exact this.symm
    have HSL := Lib.hid hsl; have HX := Lib.hid hx; have HR := Lib.hid hr; have HW := Lib.hid hw; have HL := Lib.hid hl'
    have hll : l'.length = l.length - 16 * i := by rw [hl', List.length_drop]
    have HLL := Lib.hid hll
    clear hx hr hw hl'
    by_cases hpos : 0 < l'.length
    · obtain ⟨b, off, rfl⟩ := hsl.2.2.2.1 (by have := hsl.2.1; omega)
      have hcap := hsl.2.1
      have hp0 : (0 : Int) < l'.length := by omega
      have hmin : Nat.min l'.length 16 ≤ l'.length := Nat.min_le_left _ _
      have hmin2 : Nat.min l'.length 16 ≤ 16 := Nat.min_le_right _ _
      have hpq : portionAt l i = l'.take (Nat.min l'.length 16) ++ List.replicate (16 - Nat.min l'.length 16) 0 := by rw [HL.out]; exact portion_split l i
      have hdr := hsl.drop (Nat.min l'.length 16) hmin
      have hnx : l'.drop (Nat.min l'.length 16) = l.drop (16 * (i + 1)) := by rw [HL.out]; exact drop_split l i
      have hsp : splice (kl zeros) 0 (kl (l'.take (Nat.min l'.length 16))) = kl (portionAt l i) := by rw [hpq]; exact splice_zeros _ _ (by rw [List.length_take]; omega) hmin2
      have hcl : (kl (l'.take (Nat.min l'.length 16))).length = Nat.min l'.length 16 := by rw [kl_length, List.length_take]; omega
      have hpm : 0 < Nat.min l'.length 16 := Nat.lt_min.2 ⟨hpos, by omega⟩
      rw [hnx] at hdr
      obtain ⟨mm, hmm⟩ : ∃ mm, mm = Nat.min l'.length 16 := ⟨_, rfl⟩
      rw [← hmm] at hmin hmin2 hdr hsp hcl hpm
      have HDR := Lib.hid hdr; have HSP := Lib.hid hsp; have HCL := Lib.hid hcl; have HMM := Lib.hid hmm; have HMIN2 := Lib.hid hmin2; have HPM := Lib.hid hpm
      have hm0 : (0 : Int) ≤ mm := by omega
      have hm1 : (mm : Int) ≤ l'.length := by omega
      have hm2 : (mm : Int) ≤ c' := by omega
      have hfl := hlen i
      have hfl2 := hlen (i + 1)
      clear hpq hdr hnx hsp hmm hll hsl hcl hmin2 hpm
      go_wp2_with (first
        | (refine wpList_copy_splice rfl (.tmp 12) (.tmp 13) 37 37 rfl 5 Try.underlying37 (by kernel_rfl) (some ⟨wr.heap.size, 0, none⟩) (some ⟨b, off, none⟩) 16 16 l'.length c' rfl rfl wr.heap.size 0 (kl zeros) 23 (blk_last _ _) (kl (l'.take mm)) (HCL.out.trans HMM.out) (fun _ => ⟨rfl, _, rfl, fun j v hj => src_cell (HSL.out.lives HW.out) hj⟩) (by rw [HCL.out, kl_length, zeros_length]; have := HMIN2.out; omega) (kl_cells _) wr.heap.size wr (below_alloc _ _) (Nat.le_refl _) ?_
           intro w2 hg2 hb2
           rw [HCL.out]
           have hg3 := hg2.out
           rw [HSP.out] at hg3
           have HG3 := Lib.hid hg3; have HB2 := Lib.hid hb2; clear hg2 hb2 hg3)
        | (refine wl_load w.heap.size (foldTo hashNext s l i) hfl _ rfl rfl rfl (blk_lives HX.out HB2.out) ?_)
        | (refine wl_load wr.heap.size (portionAt l i) (by simp) _ rfl rfl rfl HG3.out ?_)
        | (go_at_call 60; refine (hashNext_any (foldTo hashNext s l i) (portionAt l i) hfl (by simp) _).mono ?_; rintro e w3 ⟨rfl, hb3⟩; have HB3 := Lib.hid hb3; clear hb3)
        | (refine wl_store w.heap.size (foldTo hashNext s l (i + 1)) hfl2 _ _ rfl rfl rfl rfl (blk_lives (blk_lives HX.out HB2.out) HB3.out) (kl_size hfl) ?_))
      all_goals
        refine ⟨⟨i + 1, by have := HLL.out; omega, _, _, _, ⟨rfl, rfl, rfl⟩, ?_, blk_row (blk_lives (blk_lives HX.out HB2.out) HB3.out), ?_, ?_⟩, ?_⟩
      all_goals first
        | exact HDR.out
        | exact HDR.out.any0 (by omega) _
        | (rw [blk_rowfar (by omega)]; exact blk_lives (blk_lives HR.out HB2.out) HB3.out)
        | exact below_row (aft (aft HW.out HB2.out) HB3.out) (Nat.le_refl _) _
        | (simp [lenOf]; have := HPM.out; omega)
    · have h0 : l'.length = 0 := by omega
      have hfin : i = (l.length + 15) / 16 := by have := HLL.out; omega
      have hp0 : ¬ (0 : Int) < l'.length := by omega
      subst hfin
      have hfl := hlen ((l.length + 15) / 16)
      clear hsl hpos h0 hll hlen
      go_wp2_with (first
        | (refine wl_load w.heap.size (foldTo hashNext s l ((l.length + 15) / 16)) hfl _ rfl rfl rfl HX.out ?_)
        | (refine wl_store (w.heap.size + 1) (foldTo hashNext s l ((l.length + 15) / 16)) hfl _ _ rfl rfl rfl rfl HR.out rfl ?_))
      exact bodyPost_ret (v := kv (foldTo hashNext s l ((l.length + 15) / 16))) (res_key rfl _ _ (w.heap.size + 1) _ hfl rfl (blk_row HR.out)) rfl ⟨rfl, below_row HW.out (by omega) _⟩

set_option maxHeartbeats 4000000 in
theorem foldMac_any (k : List UInt8) (hk : k.length = 16) (g : Nat) (s : List UInt8) (hs : s.length = 16) (l : List UInt8) (A : Option Addr) (m c : Nat) (w : World) (hsl : Sl w A m c (kl l)) (hm : m ≤ 16448) (hgk : w.heap[g]? = some (.cells (kl k).toArray 23 (0, 0))) :
    Calls Try.prog 59 #[kv s, .slice A m c, .func (.func 62) #[] #[.pointer (some ⟨g, 0, none⟩)]] w fun e w' => e = .returned (kv (foldTo (macNext k) s l ((l.length + 15) / 16))) ∧ Below w.heap.size w w' := by
  obtain rfl : m = l.length := by have := hsl.1; rw [kl_length] at this; exact this.symm
  have hlen : ∀ i, (foldTo (macNext k) s l i).length = 16 := foldTo_length _ (macNext_length k) s hs l
  have HS := Lib.hid hsl
  have HGK := Lib.hid hgk; clear hgk
  have hmax : maxLen = 9223372036854775807 := rfl
  clear hsl
  go_enter Try.func59, Try.ntmps59
  go_wp2
  go_loopw [1] (fun b wr => ∃ (i : Nat) (A' : Option Addr) (n' c' : Nat) (l' : List UInt8), i ≤ (l.length + 15) / 16 ∧ l' = l.drop (16 * i) ∧ b = .slice A' n' c' ∧ Sl w A' n' c' (kl l') ∧
    wr.heap[w.heap.size]? = some (.cells (kl (foldTo (macNext k) s l i)).toArray 23 (0, 0)) ∧ wr.heap[w.heap.size + 1]? = some (.cells (kl zeros).toArray 23 (0, 0)) ∧ Below w.heap.size w wr) (fun b _ => lenOf b)
  case atStart => exact ⟨0, A, l.length, c, l, by omega, rfl, rfl, HS.out, blk_keep (blk_last _ _) _, blk_last1 _ _ _, aft_alloc (below_alloc _ _) _⟩
  case round =>
    obtain ⟨i, A', n', c', l', hi, hl', rfl, hsl, hx, hr, hw⟩ := hrel
    obtain rfl : n' = l'.length := by have := hsl.1; rw [kl_length] at this; exact this.symm
    have HSL := Lib.hid hsl; have HX := Lib.hid hx; have HR := Lib.hid hr; have HW := Lib.hid hw; have HL := Lib.hid hl'
    have hll : l'.length = l.length - 16 * i := by rw [hl', List.length_drop]
    have HLL := Lib.hid hll
    clear hx hr hw hl'
    by_cases hpos : 0 < l'.length
    · obtain ⟨b, off, rfl⟩ := hsl.2.2.2.1 (by have := hsl.2.1; omega)
      have hcap := hsl.2.1
      have hp0 : (0 : Int) < l'.length := by omega
      have hmin : Nat.min l'.length 16 ≤ l'.length := Nat.min_le_left _ _
      have hmin2 : Nat.min l'.length 16 ≤ 16 := Nat.min_le_right _ _
      have hpq : portionAt l i = l'.take (Nat.min l'.length 16) ++ List.replicate (16 - Nat.min l'.length 16) 0 := by rw [HL.out]; exact portion_split l i
      have hdr := hsl.drop (Nat.min l'.length 16) hmin
      have hnx : l'.drop (Nat.min l'.length 16) = l.drop (16 * (i + 1)) := by rw [HL.out]; exact drop_split l i
      have hsp : splice (kl zeros) 0 (kl (l'.take (Nat.min l'.length 16))) = kl (portionAt l i) := by rw [hpq]; exact splice_zeros _ _ (by rw [List.length_take]; omega) hmin2
      have hcl : (kl (l'.take (Nat.min l'.length 16))).length = Nat.min l'.length 16 := by rw [kl_length, List.length_take]; omega
      have hpm : 0 < Nat.min l'.length 16 := Nat.lt_min.2 ⟨hpos, by omega⟩
      rw [hnx] at hdr
      obtain ⟨mm, hmm⟩ : ∃ mm, mm = Nat.min l'.length 16 := ⟨_, rfl⟩
      rw [← hmm] at hmin hmin2 hdr hsp hcl hpm
      have HDR := Lib.hid hdr; have HSP := Lib.hid hsp; have HCL := Lib.hid hcl; have HMM := Lib.hid hmm; have HMIN2 := Lib.hid hmin2; have HPM := Lib.hid hpm
      have hm0 : (0 : Int) ≤ mm := by omega
      have hm1 : (mm : Int) ≤ l'.length := by omega
      have hm2 : (mm : Int) ≤ c' := by omega
      have hfl := hlen i
      have hfl2 := hlen (i + 1)
      clear hpq hdr hnx hsp hmm hll hsl hcl hmin2 hpm
      go_wp2_with (first
        | (refine wpList_copy_splice rfl (.tmp 12) (.tmp 13) 37 37 rfl 5 Try.underlying37 (by kernel_rfl) (some ⟨wr.heap.size, 0, none⟩) (some ⟨b, off, none⟩) 16 16 l'.length c' rfl rfl wr.heap.size 0 (kl zeros) 23 (blk_last _ _) (kl (l'.take mm)) (HCL.out.trans HMM.out) (fun _ => ⟨rfl, _, rfl, fun j v hj => src_cell (HSL.out.lives HW.out) hj⟩) (by rw [HCL.out, kl_length, zeros_length]; have := HMIN2.out; omega) (kl_cells _) wr.heap.size wr (below_alloc _ _) (Nat.le_refl _) ?_
           intro w2 hg2 hb2
           rw [HCL.out]
           have hg3 := hg2.out
           rw [HSP.out] at hg3
           have HG3 := Lib.hid hg3; have HB2 := Lib.hid hb2; clear hg2 hb2 hg3)
        | (refine wl_load w.heap.size (foldTo (macNext k) s l i) hfl _ rfl rfl rfl (blk_lives HX.out HB2.out) ?_)
        | (refine wl_load wr.heap.size (portionAt l i) (by simp) _ rfl rfl rfl HG3.out ?_)
        | (go_at_call 62; refine (macNext_any k (foldTo (macNext k) s l i) (portionAt l i) hk hfl (by simp) g _ (blk_lives (blk_lives HGK.out HW.out) HB2.out)).mono ?_; rintro e w3 ⟨rfl, hb3⟩; have HB3 := Lib.hid hb3; clear hb3)
        | (refine wl_store w.heap.size (foldTo (macNext k) s l (i + 1)) hfl2 _ _ rfl rfl rfl rfl (blk_lives (blk_lives HX.out HB2.out) HB3.out) (kl_size hfl) ?_))
      all_goals
        refine ⟨⟨i + 1, by have := HLL.out; omega, _, _, _, ⟨rfl, rfl, rfl⟩, ?_, blk_row (blk_lives (blk_lives HX.out HB2.out) HB3.out), ?_, ?_⟩, ?_⟩
      all_goals first
        | exact HDR.out
        | exact HDR.out.any0 (by omega) _
        | (rw [blk_rowfar (by omega)]; exact blk_lives (blk_lives HR.out HB2.out) HB3.out)
        | exact below_row (aft (aft HW.out HB2.out) HB3.out) (Nat.le_refl _) _
        | (simp [lenOf]; have := HPM.out; omega)
    · have h0 : l'.length = 0 := by omega
      have hfin : i = (l.length + 15) / 16 := by have := HLL.out; omega
      have hp0 : ¬ (0 : Int) < l'.length := by omega
      subst hfin
      have hfl := hlen ((l.length + 15) / 16)
      clear hsl hpos h0 hll hlen
      go_wp2_with (first
        | (refine wl_load w.heap.size (foldTo (macNext k) s l ((l.length + 15) / 16)) hfl _ rfl rfl rfl HX.out ?_)
        | (refine wl_store (w.heap.size + 1) (foldTo (macNext k) s l ((l.length + 15) / 16)) hfl _ _ rfl rfl rfl rfl HR.out rfl ?_))
      exact bodyPost_ret (v := kv (foldTo (macNext k) s l ((l.length + 15) / 16))) (res_key rfl _ _ (w.heap.size + 1) _ hfl rfl (blk_row HR.out)) rfl ⟨rfl, below_row HW.out (by omega) _⟩
end Go.Proofs.Ytccojcjgknlhdaa
