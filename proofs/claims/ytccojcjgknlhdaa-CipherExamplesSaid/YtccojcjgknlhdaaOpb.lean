/-
  A slice of bytes, opened.
-/
import Derived.Test.YtccojcjgknlhdaaOpn
import Derived.SizedLaws
import Derived.ChangeSlices
namespace Go.Proofs.Ytccojcjgknlhdaa
open Go.ChangeShapes Go.WideShapes Go.ChangeAt Go.RowKit

theorem weights_at {H : Type} {P : Program} {p : Nat → Bool} : ∀ {ts : List TypeId} {ds : List (DataW H)}, (DataW.weightsEach P ts ds).all p = true → ∀ (j : Nat) {t : TypeId} {d : DataW H}, ts[j]? = some t → ds[j]? = some d → (d.weights P t).all p = true
  | [], _, _, j, _, _, ht, _ => by simp at ht
  | _ :: _, [], _, j, _, _, _, hd => by simp at hd
  | t :: ts, d :: ds, h, 0, _, _, ht, hd => by
    simp only [List.getElem?_cons_zero, Option.some.injEq] at ht hd
    subst ht hd
    simp only [DataW.weightsEach, List.all_append, Bool.and_eq_true] at h
    exact h.1
  | t :: ts, d :: ds, h, j + 1, _, _, ht, hd => by
    simp only [List.getElem?_cons_succ] at ht hd
    simp only [DataW.weightsEach, List.all_append, Bool.and_eq_true] at h
    exact weights_at h.2 j ht hd

/-- A slice of bytes, opened. -/
theorem open_bytes {H : Type} {enc : TypeId × Value → H} {w : World} {r : Reach} {b0 : Nat} {v : Value} {d : DataW H} {ps : List MemPlace}
    (hval : Value.okWide Try.prog w r b0 37 v) (hd : DataW.Trod enc Try.prog w 0 (fun _ => true) true 37 v d ps) (hz : (d.weights Try.prog 37).all (· ≤ reachBytes) = true) :
    ∃ (A : Option Addr) (n c : Nat) (l : List UInt8), v = .slice A n c ∧ Sl w A n c (kl l) ∧ n ≤ 140737488351232 := by
  obtain ⟨a, len, cap, rfl⟩ := okWide_slice Try.underlying37 hval
  obtain ⟨fuel, hf⟩ := hd
  rcases open_ints Try.underlying37 Try.underlying5 (by kernel_rfl) hf with ⟨hcs, _⟩ | ⟨x, len', cap', zs, hcs, _, hl, hm, hzl, hx, hcell, hwz⟩
  · simp [Value.cells] at hcs
    obtain ⟨rfl, rfl, rfl⟩ := hcs
    exact ⟨none, 0, 0, [], rfl, Sl.nil w, by omega⟩
  · simp [Value.cells] at hcs
    obtain ⟨rfl, rfl, rfl⟩ := hcs
    simp only [if_true] at hzl
    have hd2 : d = .slice (lits .u8 (zs.take len)) (lits .u8 (zs.drop len)) := congrArg Prod.fst hx
    have hb : Try.prog.bytesOf 5 = 1 := by kernel_rfl
    have hlen : len ≤ 140737488351232 := by
      rw [hd2] at hz
      simp only [DataW.weights, Try.underlying37, List.all_cons, Bool.and_eq_true, decide_eq_true_eq, hb] at hz
      have h1 := hz.1
      have h2 : reachBytes = 140737488351232 := rfl
      simp only [lits, List.length_map, List.length_take, List.length_drop, h2] at h1
      omega
    refine ⟨some x, len, cap, (zs.take len).map (fun z => UInt8.ofNat z.toNat), rfl, ⟨by simp [kl]; omega, hl, hm, fun hc => ?_, fun b off hA j v hv => ?_⟩, hlen⟩
    · have h0 := hcell 0 (by omega)
      obtain ⟨b, off, spot⟩ := x
      have := World.cell?_spot h0
      simp [Addr.add] at this
      subst this
      exact ⟨b, off, rfl⟩
    · simp only [Option.some.injEq] at hA
      subst hA
      have hjl : j < len := by
        have := (List.getElem?_eq_some_iff.1 hv).1
        simp [kl] at this; omega
      have hc := hcell j (by omega)
      have hadd : (⟨b, off, none⟩ : Addr).add j = ⟨b, off + j, none⟩ := by unfold Addr.add; split <;> simp_all
      rw [hadd] at hc
      rw [hc]
      have hzj : zs[j]? = some (zs.getD j 0) := by rw [List.getD_eq_getElem?_getD, List.getElem?_eq_getElem (by omega)]; rfl
      rw [kl, List.getElem?_map, List.getElem?_map, List.getElem?_take, if_pos hjl, hzj] at hv
      simp only [Option.map_some, Option.some.injEq] at hv
      rw [← hv]
      have hw := bounds_u8 (hwz (zs.getD j 0) (List.mem_of_getElem? hzj))
      generalize zs.getD j 0 = z at *
      congr 1
      rw [bv]
      congr 1
      simp
      omega
end Go.Proofs.Ytccojcjgknlhdaa
