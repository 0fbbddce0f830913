/-
  Keys compared; arguments opened: a key, a word, a byte.
-/
import Derived.Test.YtccojcjgknlhdaaW7
import Derived.ProofKit
import Derived.OpenShut
import Derived.ShutString
import Derived.ChangeOld
import Derived.ChangeKeysEq
import Derived.Below
namespace Go.Proofs.Ytccojcjgknlhdaa
open Go.ChangeShapes Go.WideShapes Go.ChangeAt Go.RowKit

theorem run_eqItems_kl (d : Nat) (w : World) (a b : List UInt8) (ha : a.length = 16) (hb : b.length = 16) : ∀ is : List Nat, (∀ i ∈ is, i < 16) →
    (Op.eqItems (d + 1) 5 1 (kl a).toArray (kl b).toArray is).run Try.prog w = .ok (decide (∀ i ∈ is, a[i]? = b[i]?)) w
  | [], _ => by simp [Op.eqItems]
  | i :: is, h => by
    have hi := h i (by simp)
    have ih := run_eqItems_kl d w a b ha hb is (fun j hj => h j (by simp [hj]))
    have p1 : (part 5 (kl a).toArray (i * 1)).run Try.prog w = .ok (bv a[i]) w := run_part_plain w (P := Try.prog) (by kernel_rfl) (by simp [kl, ha, hi])
    have p2 : (part 5 (kl b).toArray (i * 1)).run Try.prog w = .ok (bv b[i]) w := run_part_plain w (P := Try.prog) (by kernel_rfl) (by simp [kl, hb, hi])
    have p3 : (Op.equalIn (d + 1) 5 (bv a[i]) (bv b[i])).run Try.prog w = .ok ((a[i].toNat : Int) == (b[i].toNat : Int)) w := run_equalIn_int w d 5 _ _ _ _ Try.underlying5
    simp only [Op.eqItems, Sem.run_bind, p1, p2, p3, Result.andThen_ok]
    have e : ((a[i].toNat : Int) == (b[i].toNat : Int)) = decide (a[i]? = b[i]?) := by
      rw [Bool.eq_iff_iff, beq_iff_eq, decide_eq_true_eq, Int.natCast_inj]
      simp [ha, hb, hi, UInt8.toNat_inj]
    rw [e]
    by_cases he : a[i]? = b[i]?
    · simp [he, ih]
    · simp [he]

theorem run_equal_kv (a b : List UInt8) (ha : a.length = 16) (hb : b.length = 16) (w : World) : (Op.equalIn 10000 23 (kv a) (kv b)).run Try.prog w = .ok (decide (a = b)) w := by
  obtain ⟨i, hi⟩ := info_of_underlying (P := Try.prog) Try.underlying5
  rw [run_equalIn_array w 9999 _ _ Try.underlying23 hi]
  have hc : Try.prog.cellsOf 5 = 1 := by kernel_rfl
  rw [hc, run_eqItems_kl 9998 w a b ha hb _ (by simp)]
  congr 1
  rw [decide_eq_decide]
  constructor
  · intro h
    apply List.ext_getElem?
    intro j
    by_cases hj : j < 16
    · exact h j (by simp [hj])
    · rw [List.getElem?_eq_none (by omega), List.getElem?_eq_none (by omega)]
  · rintro rfl i _; rfl

/-- A key, opened. -/
theorem open_key {H : Type} {enc : TypeId × Value → H} {w : World} {base : Nat} {spare : Nat → Bool} {held : Bool} {r : Reach} {b0 : Nat} {v : Value} {d : DataW H} {ps : List MemPlace}
    (hval : Value.okWide Try.prog w r b0 23 v) (hd : DataW.Trod enc Try.prog w base spare held 23 v d ps) : ∃ k : List UInt8, k.length = 16 ∧ v = kv k := by
  simp only [Value.okWide, Try.underlying23] at hval
  obtain ⟨cs, rfl, hsz, _⟩ := hval
  have hc : Try.prog.cellsOf 23 = 16 := by kernel_rfl
  have hc5 : Try.prog.cellsOf 5 = 1 := by kernel_rfl
  rw [hc] at hsz
  obtain ⟨fuel, hf⟩ := hd
  obtain ⟨xs, m, _, _, hl, hxs, hat⟩ := DataW.trod_array Try.underlying23 hf
  rw [hc5] at hat
  have hcs : (Value.agg cs).cells.toList = cs.toList := rfl
  rw [hcs] at hl hat
  have hb : ∀ i, i < 16 → ∃ b : UInt8, cs.toList[i]? = some (bv b) := by
    intro i hi
    have h1 := hat i hi
    rw [List.getElem?_eq_getElem (by omega)] at h1
    obtain ⟨n, hn, _, hw⟩ := DataW.trod_int Try.underlying5 h1
    have hg : cs.toList[i]? = some (.int .u8 n) := by
      have := congrArg (·[0]?) hn
      simpa [List.getElem?_take] using this
    obtain ⟨h0, h255⟩ := bounds_u8 hw
    refine ⟨UInt8.ofNat n.toNat, ?_⟩
    rw [hg, bv]
    congr 2
    simp
    omega
  refine ⟨(List.range 16).map fun i => if h : i < 16 then (hb i h).choose else 0, by simp, ?_⟩
  congr 1
  apply Array.toList_inj.1
  apply List.ext_getElem?
  intro j
  by_cases hj : j < 16
  · rw [(hb j hj).choose_spec]
    simp [kl, hj]
  · rw [List.getElem?_eq_none (by simp; omega), List.getElem?_eq_none (by simp [kl]; omega)]
theorem open_word {H : Type} {enc : TypeId × Value → H} {w : World} {base : Nat} {spare : Nat → Bool} {held : Bool} {r : Reach} {b0 : Nat} {v : Value} {d : DataW H} {ps : List MemPlace}
    (hval : Value.okWide Try.prog w r b0 31 v) (hd : DataW.Trod enc Try.prog w base spare held 31 v d ps) : ∃ x : BitVec 64, v = wv x := by
  obtain ⟨n, rfl, _, _, hw⟩ := open_int Try.underlying31 hval hd
  obtain ⟨h0, h1⟩ := bounds_u64 hw
  refine ⟨BitVec.ofNat 64 n.toNat, ?_⟩
  rw [wv, BitVec.toNat_ofNat]
  congr 1
  omega
theorem open_byte {H : Type} {enc : TypeId × Value → H} {w : World} {base : Nat} {spare : Nat → Bool} {held : Bool} {r : Reach} {b0 : Nat} {v : Value} {d : DataW H} {ps : List MemPlace}
    (hval : Value.okWide Try.prog w r b0 5 v) (hd : DataW.Trod enc Try.prog w base spare held 5 v d ps) : ∃ b : UInt8, v = bv b := by
  obtain ⟨n, rfl, _, _, hw⟩ := open_int Try.underlying5 hval hd
  obtain ⟨h0, h1⟩ := bounds_u8 hw
  refine ⟨UInt8.ofNat n.toNat, ?_⟩
  rw [bv]
  congr 1
  simp
  omega
end Go.Proofs.Ytccojcjgknlhdaa
