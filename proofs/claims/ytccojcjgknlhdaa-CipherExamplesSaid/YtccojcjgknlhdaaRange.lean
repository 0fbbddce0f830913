/-
  A range over an iterator that keeps its state in a cell of its own: the loop's law, for a body that never leaves.
  The caller's invariant speaks of what lies below the loop's first block; the body leaves all from there on as it lay; the iterator leaves all below it.
-/
import Derived.Test.YtccojcjgknlhdaaVals
import Derived.RangeFuncRecord
import Derived.RangeFuncSeq
import Derived.RangeFuncLeaves
import Derived.Shelf.Abstract
import Derived.ControlIn
import Derived.TacticsIn
namespace Go.Proofs.Ytccojcjgknlhdaa
open Go.RowKit

/-- From block B on nothing that lay has turned. -/
def Above (B : Nat) (W W' : World) : Prop := W.heap.size ≤ W'.heap.size ∧ ∀ k, B ≤ k → k < W.heap.size → W'.heap[k]? = W.heap[k]?
theorem Above.refl (B : Nat) (W : World) : Above B W W := ⟨Nat.le_refl _, fun _ _ _ => rfl⟩
theorem Above.trans {B : Nat} {a b c : World} (h : Above B a b) (k : Above B b c) : Above B a c :=
  ⟨Nat.le_trans h.1 k.1, fun i hB hi => (k.2 i hB (Nat.lt_of_lt_of_le hi h.1)).trans (h.2 i hB hi)⟩
theorem Above.mono {B B' : Nat} {a b : World} (h : Above B a b) (hB : B ≤ B') : Above B' a b := ⟨h.1, fun k hk hi => h.2 k (Nat.le_trans hB hk) hi⟩
theorem Above.below {B C : Nat} {a b : World} (h : Below C a b) (hC : a.heap.size ≤ C) : Above B a b := ⟨h.size, fun k _ hi => h.block k (by omega)⟩
theorem Above.setCell {B g o : Nat} {a b : World} (h : Above B a b) (hg : g < B) (v : Value) : Above B a (b.setCell ⟨g, o, none⟩ v) :=
  h.trans ⟨by simp [World.setCell], fun k hk _ => Below.heap_setCell _ _ _ _ (by show k ≠ g; omega)⟩
theorem Above.drew {B : Nat} {a b : World} (h : Above B a b) : Above B a b.drew := h

theorem below_put {B l : Nat} (W : World) (o : Obj) (h : B ≤ l) : Below B W (W.putObj l o) :=
  ⟨rfl, rfl, rfl, by simp, fun k hk => World.putObj_heap_other (by omega)⟩

/-- How a round's body is left: at its end. -/
def roundEnds (I : World → Prop) (B : Nat) (W : World) : Exit → Act → World → Prop
  | .normal, _, W' => I W' ∧ Above B W W'
  | _, _, _ => False

/-- THE LAW. -/
theorem range_law {P : Program} {n : Nat} {g : Operand} {ps : Array Tmp} {assign body : Code} {Q : Exit → Act → World → Prop} {a : Act} {w : World} {gf : Nat} {lb : Array Value}
    (hg : a.eval g = .func (.func gf) #[] lb) (eg : ∀ args w, (callFunc gf args).run P w = .ok (.enter gf args) w) {encs : Nat → Array Value} {N : Nat} (hps : ∀ i, (encs i).size = ps.size)
    (hseq : ∀ (l : Nat) (J : Nat → World → Prop) (W : World), Below w.heap.size w W → (∀ i A C, J i A → Below W.heap.size A C → J i C) →
      (∀ i W1, i < N → J i W1 → YieldAt Fence.wide (n - 1 - 1) P l (encs i) W1 fun e W' => e = .returned (.bool true) ∧ J (i + 1) W' ∧ Above W.heap.size W1 W') →
      J 0 W → CallsIn Fence.wide (n - 1) P gf (#[.func (.yield l) #[] #[]] ++ lb) W fun e W' => (∃ v, e = .returned v) ∧ J N W')
    (I : Nat → World → Prop) (hI : ∀ i A C, I i A → Below w.heap.size A C → I i C) (h0 : I 0 w) (a₁ : Nat → Act)
    (hassign : ∀ (l i : Nat) (W : World) (K : Act → World → Prop), K (a₁ i) W →
      assign.wpIn (Fence.wide.inRound l) (n - 1 - 1) P (Exit.then K (fun _ _ _ => False)) { tmps := (ps.zip (encs i)).foldl (fun t (p, v) => t.setIfInBounds p v) a.tmps, defers := [] } W)
    (hbody : ∀ (l i : Nat) (W : World), i < N → I i W → w.heap.size + 1 < W.heap.size → body.wpIn (Fence.wide.inRound l) (n - 1 - 1) P (roundEnds (I (i + 1)) w.heap.size W) (a₁ i) W)
    (hdone : ∀ (W : World), I N W → W.heap[w.heap.size]? = some (.deferred (some [])) → Q .normal { a with defers := { target := .collected w.heap.size, args := #[] } :: a.defers } W) :
    (Code.rangeFunc g ps assign body).wpIn Fence.wide n P Q a w := by
  refine wpIn_rangeFunc fun fn _ => ?_
  obtain ⟨B, hB⟩ : ∃ B, B = w.heap.size := ⟨_, rfl⟩
  obtain ⟨rec0, hrec⟩ : ∃ rec0 : LoopState → Loop, rec0 = fun s => { state := s, pending := none, fn := fn, tmps := a.tmps, params := ps, assign := assign, body := body, defers := B } := ⟨_, rfl⟩
  obtain ⟨W1, hW1⟩ : ∃ W1, W1 = (w.alloc (.deferred (some []))).alloc (.loop (rec0 .ready)) := ⟨_, rfl⟩
  have hs1 : W1.heap.size = B + 2 := by rw [hW1, World.size_alloc, World.size_alloc, hB]
  have hL1 : W1.heap[B + 1]? = some (.loop (rec0 .ready)) := by
    rw [hW1, blk_alloc, if_pos (by rw [World.size_alloc, hB])]
  have hK1 : W1.heap[B]? = some (.deferred (some [])) := by
    rw [hW1, blk_alloc, if_neg (by rw [World.size_alloc, hB]; omega), blk_alloc, if_pos hB]
  have hb1 : Below w.heap.size w W1 := by
    rw [hW1]
    exact ((Below.refl _ _).alloc (Nat.le_refl _) _).alloc (by rw [World.size_alloc]; omega) _
  have hcall := hseq (B + 1) (fun i W => I i W ∧ W.heap[B + 1]? = some (.loop (rec0 .ready)) ∧ W.heap[B]? = some (.deferred (some []))) W1 hb1
    (fun i A C hA hAC => ⟨hI i A C hA.1 (hAC.mono (by omega)), (hAC.block _ (by omega)).trans hA.2.1, (hAC.block _ (by omega)).trans hA.2.2⟩)
    (fun i W hi hW => by
      obtain ⟨hiI, hl, hk⟩ := hW
      have hlt : B + 1 < W.heap.size := lt_blk hl
      have hy := run_yield (P := P) (args := encs i) hl (by rw [hrec]; exact hps i)
      have hbr := run_beginRound (P := P) hl (by rw [hrec])
      have hbusy : (Loop.mk .busy none fn a.tmps ps assign body B) = rec0 .busy := by rw [hrec]
      rw [hrec] at hy hbr
      refine ⟨fn, _, assign, body, hy, roundIn_of_wpIn trivial (hassign (B + 1) i W _ ⟨_, hbr, ?_⟩)⟩
      dsimp only
      rw [hbusy]
      have hl2 : (W.putObj (B + 1) (.loop (rec0 .busy))).heap[B + 1]? = some (.loop (rec0 .busy)) := World.putObj_heap_same hlt
      refine wpIn_mono (hbody (B + 1) i _ hi (hI i _ _ hiI (below_put W _ (by omega))) (by simp; omega)) ?_
      intro e a3 W3 hp
      cases e with
      | normal =>
        obtain ⟨hi3, hab⟩ := hp
        have hl3 : W3.heap[B + 1]? = some (.loop (rec0 .busy)) := (hab.2 (B + 1) (by omega) (by simp; omega)).trans hl2
        have hk3 : W3.heap[B]? = some (.deferred (some [])) := by
          rw [hab.2 B (by omega) (by simp; omega), World.putObj_heap_other (by omega)]
          exact hk
        have hlt3 : B + 1 < W3.heap.size := lt_blk hl3
        have her := run_endRound (P := P) none hl3
        have hready : { rec0 .busy with state := if (none : Option Code).isNone then .ready else .done, pending := none } = rec0 .ready := by rw [hrec]; rfl
        rw [hready] at her
        refine ⟨_, _, her, rfl, ⟨hI _ _ _ hi3 (below_put W3 _ (by omega)), World.putObj_heap_same hlt3, ?_⟩, ?_⟩
        · rw [World.putObj_heap_other (by omega)]; exact hk3
        · refine ⟨by have := hab.1; simpa using this, fun k hk1 hk2 => ?_⟩
          rw [World.putObj_heap_other (by omega), hab.2 k (by omega) (by simpa using hk2), World.putObj_heap_other (by omega)]
      | _ => exact hp.elim)
    ⟨hI 0 _ _ h0 hb1, hL1, hK1⟩
  refine ⟨B + 1, [{ target := .collected B, args := #[] }], W1, { target := .fn (.func gf) lb, args := #[.func (.yield (B + 1)) #[] #[]] }, W1, gf, #[.func (.yield (B + 1)) #[] #[]] ++ lb, W1, ?_, ?_, ?_, ?_, ?_, ?_⟩
  · rw [hW1, hrec, hB]
    exact run_enterLoop_outer _ _ _ _ _
  · simp only [resolve, hg]
    simp [go_sem]
  · intro f' _; trivial
  · simp [invoke, go_sem, eg]
  · intro h; exact absurd h (by simp [Fence.wide])
  · refine CallsIn.mono hcall ?_
    rintro e W2 ⟨⟨v, rfl⟩, hiN, hl, hk⟩
    have hel := run_endLoop (P := P) hl (by rw [hrec]; simp)
    have hp : (rec0 .ready).pending = none := by rw [hrec]
    refine ⟨_, _, hel, ?_⟩
    rw [hp]
    subst hB
    exact hdone _ (hI _ _ _ hiN (below_put W2 _ (by omega))) (by rw [World.putObj_heap_other (by omega)]; exact hk)

section
variable {F : Fence} {n : Nat} {ops : Array Oper} {rest : List Oper} {o : Oper} {a : Act} {w : World} {Q : Exit → Act → World → Prop}
theorem semAt_of (r : Option Nat) (ρ : Operand → Value) (h : ∀ c, o.op ≠ .defer c) : Oper.semAt r ρ o = execOp ρ o := by
  cases r with
  | none => rfl
  | some l => exact Oper.semAt_some l ρ o h
/-- A whole key is read, inside a fence. -/
theorem wi_load (g : Nat) (k : List UInt8) (hk : k.length = 16) (x : Operand) (hgd : o.guard = none) (ho : o.op = .load 23 x)
    (hx : a.eval x = .pointer (some ⟨g, 0, none⟩)) {t : TypeId} {fr : Nat × Nat} (hg : w.heap[g]? = some (.cells (kl k).toArray t fr))
    (h : wpListIn F n Try.prog ops Q rest (a.put o.dst (kv k)) w) : wpListIn F n Try.prog ops Q (o :: rest) a w := by
  refine wpListIn_plain hgd fun _ hK => ⟨fun f hf => ?_, ?_⟩
  · simp [Oper.about, ho] at hf
  · rw [semAt_of _ _ (by rw [ho]; intro c hc; cases hc)]
    unfold execOp
    simp only [ho, hx, Instr.loadAt, Instr.sureAddr, Sem.run_bind, Sem.run_pure, Result.andThen_ok, run_loadVar_row w g t 23 _ fr _ hg Try.underlying23 rfl (by rw [kl_size hk]; exact info23)]
    exact hK _ _ h
/-- A whole key is stored into a block of the call's own, inside a fence. -/
theorem wi_store (g : Nat) (k : List UInt8) (hk : k.length = 16) (x y : Operand) (hgd : o.guard = none) (ho : o.op = .store 23 x y)
    (hx : a.eval x = .pointer (some ⟨g, 0, none⟩)) (hy : a.eval y = kv k) {t : TypeId} {old : Array Value} (hg : w.heap[g]? = some (.cells old t (0, 0))) (hold : old.size = 16)
    (h : wpListIn F n Try.prog ops Q rest (a.put o.dst undef) (w.setRow g (kl k).toArray)) : wpListIn F n Try.prog ops Q (o :: rest) a w := by
  refine wpListIn_plain hgd fun _ hK => ⟨fun f hf => ?_, ?_⟩
  · simp [Oper.about, ho] at hf
  · rw [semAt_of _ _ (by rw [ho]; intro c hc; cases hc)]
    unfold execOp
    simp only [ho, hx, hy, Instr.storeAt, Instr.sureAddr, Sem.run_bind, Sem.run_pure, Result.andThen_ok, run_storeVar_row w g t 23 old _ hg (by rw [kl_size hk]; exact info23) (by rw [kl_size hk]; exact hold) (kl_one k)]
    exact hK _ _ h
end
end Go.Proofs.Ytccojcjgknlhdaa
