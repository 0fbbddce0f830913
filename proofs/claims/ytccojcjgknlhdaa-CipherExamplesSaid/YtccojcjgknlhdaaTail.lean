/-
  A region that draws its order: a head of operations that are quiet in a class of worlds (reads; calls that make memory and keep the class), then a tail whose order is forced. The head is walked once, in the order of the text; the tail behind it in every world of the class.
-/
import Derived.StillTail
import Derived.Deep.QuietTactic
import Derived.BigQuiet
import Derived.Test.YtccojcjgknlhdaaVals
namespace Go.Proofs.Ytccojcjgknlhdaa
open Go.RowKit

section
variable {P : Program} {ops : Array Oper} {md : Region.Mode} {C : World → Prop}

/-- f operations of the head, whatever order; then L. -/
def anyT (P : Program) (md : Region.Mode) (ops : Array Oper) (C : World → Prop) (n : Nat) (L : Array Bool → Act → Prop) : Nat → Array Bool → Act → Prop
  | 0, s, a => L s a
  | f + 1, s, a => Region.ready md ops s ≠ [] ∧ ∀ i ∈ Region.ready md ops s, i < n ∧ qOp P ops C i (anyT P md ops C n L f (s.setIfInBounds i true)) a

theorem anyT_any {n g : Nat} {L : Array Bool → Act → Prop} {Q : Exit → Act → World → Prop} (hL : ∀ s a w, C w → L s a → wpAny P md ops Q g s a w) :
    ∀ (f : Nat) (s : Array Bool) (a : Act) (w : World), C w → anyT P md ops C n L f s a → wpAny P md ops Q (f + g) s a w := by
  intro f
  induction f with
  | zero => intro s a w hw h; rw [Nat.zero_add]; exact hL s a w hw h
  | succ f ih =>
    intro s a w hw h
    rw [Nat.succ_add]
    refine ⟨fun h0 => absurd h0 h.1, fun i hi => ?_⟩
    exact wpOp_of_qOp hw (fun a' w' hw' h' => ih _ a' w' hw' h') (h.2 i hi).2

/-- A quiet operation of the head that may come up may be taken first. -/
theorem anyT_first {n i : Nat} {oi : Oper} {v : Value} {L : Array Bool → Act → Prop} (hi : ops[i]? = some oi) (hsel : ∀ (j : Nat) (o : Oper) cs b, ops[j]? = some o → o.op ≠ .select cs b)
    (hs : Region.sinkB md ops n = true) (hc : Region.chainB md ops n = true) (hn : n < ops.size) (hin : i < n) (hdone : ∀ s a, L s a → ∀ j ∈ Region.ready md ops s, n ≤ j) :
    ∀ (f : Nat) (s : Array Bool) (a : Act), HeadInv md ops n s →
      (∀ j oj, ops[j]? = some oj → j ≠ i → s.getD j true = false → (∀ e ∈ oj.after, Region.binds md e = true → e.on ≠ i) → oi.apart ops oj = true) →
      i ∈ Region.ready md ops s → YieldsIn P ops C oi v a → anyT P md ops C n L f (s.setIfInBounds i true) (a.put oi.dst v) → anyT P md ops C n L (f + 1) s a := by
  intro f
  induction f with
  | zero =>
    intro s a inv _ hr hy H
    have hun := (mem_ready.1 hr).1
    refine ⟨List.ne_nil_of_mem hr, fun j hj => ?_⟩
    have hjn : j < n := Nat.lt_of_not_le fun h => tail_waits hs hc hn inv _ i rfl hin hun j h hj
    refine ⟨hjn, ?_⟩
    by_cases hji : j = i
    · rw [hji]; exact hy.qOp hi H
    · have := hdone _ _ H j (ready_mono hj hji)
      omega
  | succ f ih =>
    intro s a inv hfree hr hy H
    have hun := (mem_ready.1 hr).1
    refine ⟨List.ne_nil_of_mem hr, fun j hj => ?_⟩
    have hjn : j < n := Nat.lt_of_not_le fun h => tail_waits hs hc hn inv _ i rfl hin hun j h hj
    refine ⟨hjn, ?_⟩
    by_cases hji : j = i
    · rw [hji]; exact hy.qOp hi H
    · obtain ⟨hjun, oj, hoj, hall⟩ := mem_ready.1 hj
      have hnot : ∀ e ∈ oj.after, Region.binds md e = true → e.on ≠ i := by
        intro e he hb heq
        have h1 := hall e he hb
        rw [heq, getD_both hun] at h1
        cases h1
      have h2 := qOp_put hoj (hfree j oj hoj hji hjun hnot) (fun cs b => hsel i oi cs b hi) (fun cs b => hsel j oj cs b hoj) hy (H.2 j (ready_mono hj hji)).2
      refine qOp_mono (fun a' h3 => ih (s.setIfInBounds j true) a' (inv.set hj hjn) (fun k ok hk hki hku hno => hfree k ok hk hki ?_ hno) (ready_mono hr (Ne.symm hji)) h3.1 ?_) h2
      · by_cases hjk : j = k
        · rw [← hjk]; exact hjun
        · rwa [getD_set_ne true hjk] at hku
      · rw [Array.setIfInBounds_comm _ _ hji]
        exact h3.2

theorem anyT_lex {n g : Nat} {Lq : Act → Prop} (hsel : Region.noSelect ops = true) (hs : Region.sinkB md ops n = true) (hc : Region.chainB md ops n = true) (hn : n < ops.size) :
    ∀ (l : List Oper) (k : Nat) (s : Array Bool) (a : Act), (∀ j, j < l.length → l[j]? = ops[k + j]?) → k + l.length = n → HeadInv md ops n s → Region.lexHead md ops g l.length k s = true → wpQuiet P ops C Lq l a →
      anyT P md ops C n (fun s' a' => Region.seqB md ops g n s' = true ∧ Lq a') l.length s a := by
  intro l
  induction l with
  | nil =>
    intro k s a _ hk _ hB h
    obtain rfl : k = n := by simpa using hk
    exact ⟨hB, h⟩
  | cons o l ih =>
    intro k s a hl hk inv hB h
    have h0 : ops[k]? = some o := by have := hl 0 (Nat.succ_pos _); rw [Nat.add_zero] at this; rw [← this]; rfl
    simp only [List.length_cons, Region.lexHead, Bool.and_eq_true] at hB hk
    obtain ⟨⟨hr, hf⟩, hB'⟩ := hB
    have hr' : k ∈ Region.ready md ops s := by simpa using hr
    have hkn : k < n := by omega
    have hst : qOp P ops C k (wpQuiet P ops C Lq l) a := by unfold qOp; simp only [h0]; exact h
    obtain ⟨v, hy, hK⟩ := yieldsIn_of_qOp h0 hst
    refine anyT_first h0 (Region.noSelect_spec hsel) hs hc hn hkn (fun s' a' hL => seqB_ready hL.1) l.length s a inv (Region.free_spec h0 hf) hr' hy ?_
    refine ih (k + 1) _ _ (fun j hj => ?_) (by omega) (inv.set hr' hkn) hB' hK
    have := hl (j + 1) (by simp only [List.length_cons]; omega)
    rw [show k + 1 + j = k + (j + 1) by omega, ← this]
    rfl

/-- THE LAW. -/
theorem wp_quiet_tail {id : Nat} {Q : Exit → Act → World → Prop} {a : Act} {w : World} {l : List Oper} (n : Nat) (C : World → Prop) (hm : P.follows .mixedOrders = true) (hB : Region.lexTailB .any l.toArray n = true) (hC : C w.drew)
    (h : wpQuiet P l.toArray C (fun a' => ∀ w', C w' → wpList P l.toArray Q (l.drop n) a' w') (l.take n) a) : (Code.region id l.toArray true).wp P Q a w := by
  simp only [Region.lexTailB, Bool.and_eq_true, decide_eq_true_eq] at hB
  obtain ⟨⟨⟨⟨hsel, hn⟩, hs⟩, hc⟩, hlex⟩ := hB
  have hn' : n < l.length := by simpa using hn
  have htl : (l.take n).length = n := by rw [List.length_take]; omega
  have hdl : (l.drop n).length = l.toArray.size - n := by simp
  have inv0 : HeadInv .any l.toArray n (Array.replicate l.toArray.size false) :=
    ⟨by simp, fun j oj _ hl => (by rw [getD_replicate_false] at hl; cases hl), fun t _ ht => getD_in (by simpa using ht) (getD_replicate_false _ _)⟩
  have H := anyT_lex (md := .any) (g := l.toArray.size - n) hsel hs hc hn (l.take n) 0 _ a (fun j hj => by
    rw [htl] at hj
    simp [hj]) (by rw [htl]; omega) inv0 (by rw [htl]; exact hlex) h
  refine wp_region_any hm ?_
  have := anyT_any (Q := Q) (g := l.toArray.size - n) (fun s a' w' hw' hL => by
    have := wpAny_of_seq (md := .any) (Q' := Q) (l.drop n) n s a' w' (fun j => by simp [List.getElem?_drop]) (by rw [hdl]; exact hL.1) (hL.2 w' hw')
    rwa [hdl] at this) _ _ _ _ hC H
  rw [htl, show n + (l.toArray.size - n) = l.toArray.size by omega] at this
  exact this
/-- The same with nothing behind the head. -/
theorem wp_quiet_all {id : Nat} {Q : Exit → Act → World → Prop} {a : Act} {w : World} {l : List Oper} (C : World → Prop) (hm : P.follows .mixedOrders = true) (hB : Region.lexB .any l.toArray = true) (hC : C w.drew)
    (h : wpQuiet P l.toArray C (fun a' => ∀ w', C w' → Q .normal a' w') l a) : (Code.region id l.toArray true).wp P Q a w :=
  wp_region_quiet (C := C) hm hB hC (by simpa using h)
end

/-- The later worlds of a call: all that lay when the region began lies as it lay. -/
def Later (w : World) : Type := { w' : World // Below w.heap.size w w' }
instance {w : World} : Nonempty (Later w) := ⟨⟨w, Below.refl _ _⟩⟩
def Later.at {w : World} (e : Later w) : World := e.val
/-- The class of worlds of such a region. -/
abbrev LaterC (w : World) : World → Prop := fun w' => ∃ e : Later w, w' = e.at
theorem later_drew (w : World) : LaterC w w.drew := ⟨⟨w.drew, (Below.refl _ _).drew⟩, rfl⟩
theorem Later.below {w : World} (e : Later w) : Below w.heap.size w e.at := e.property
theorem Later.cell {w : World} {a : Addr} {v : Value} (h : w.cell? a = some v) (e : Later w) : e.at.cell? a = some v := by
  rw [e.below.cell (World.block_lt_of_cell? w _ h)]; exact h
theorem Later.free {w : World} {a : Addr} {v : Value} (h : w.cell? a = some v) (hf : w.frozen? a = false) (e : Later w) : e.at.frozen? a = false := by
  rw [e.below.frozen (World.block_lt_of_cell? w _ h)]; exact hf
theorem Later.blk {w : World} {i : Nat} {o : Obj} (h : w.heap[i]? = some o) (e : Later w) : e.at.heap[i]? = some o := blk_lives h e.below
/-- A callee that makes memory and keeps all that lay. -/
theorem later_call {P : Program} {f : FuncId} {args : Array Value} {w : World} {v : Value} (e : Later w)
    (h : Calls P f args e.at fun r w' => r = .returned v ∧ Below e.at.heap.size e.at w') : Calls P f args e.at fun r w'' => r = .returned v ∧ ∃ e' : Later w, w'' = e'.at :=
  h.mono fun _ w'' ⟨hr, hb⟩ => ⟨hr, ⟨w'', e.below.trans (hb.mono e.below.size)⟩, rfl⟩
theorem later_same {P : Program} {f : FuncId} {args : Array Value} {w : World} {v : Value} (e : Later w)
    (h : Calls P f args e.at fun r w' => r = .returned v ∧ w' = e.at) : Calls P f args e.at fun r w'' => r = .returned v ∧ ∃ e' : Later w, w'' = e'.at :=
  h.mono fun _ _ ⟨hr, hb⟩ => ⟨hr, e, hb⟩
/-- A whole key, read in whatever later world. -/
theorem quiet_load {a : Act} {o : Oper} {w : World} {K : Act → Prop} (g : Nat) (k : List UInt8) (hk : k.length = 16) (x : Operand) (ho : o.op = .load 23 x) (hx : a.eval x = .pointer (some ⟨g, 0, none⟩)) {t : TypeId} {fr : Nat × Nat}
    (hg : w.heap[g]? = some (.cells (kl k).toArray t fr)) (h : K (a.put o.dst (kv k))) : o.quiet Try.prog a (LaterC w) K := by
  refine ⟨kv k, ?_, h⟩
  rintro _ ⟨e, rfl⟩
  unfold Oper.quietAt execOp
  simp only [ho, hx, Instr.loadAt, Instr.sureAddr, Sem.run_bind, Sem.run_pure, Result.andThen_ok, run_loadVar_row e.at g t 23 _ fr _ (e.blk hg) Try.underlying23 rfl (by rw [kl_size hk]; exact info23)]
  exact ⟨rfl, rfl⟩
theorem fold_zeros : #[Value.int .u8 0, Value.int .u8 0, Value.int .u8 0, Value.int .u8 0, Value.int .u8 0, Value.int .u8 0, Value.int .u8 0, Value.int .u8 0, Value.int .u8 0, Value.int .u8 0, Value.int .u8 0, Value.int .u8 0, Value.int .u8 0, Value.int .u8 0, Value.int .u8 0, Value.int .u8 0] = (kl zeros).toArray := rfl
theorem eqg_wv (op : BinOp) (t : TypeId) (x y : Operand) (a : BitVec 64) (b : Value) : eqGuard op t x y (wv a) b = pure () := by
  unfold eqGuard; cases op <;> rfl
theorem eqg_bv (op : BinOp) (t : TypeId) (x y : Operand) (a : UInt8) (b : Value) : eqGuard op t x y (bv a) b = pure () := by
  unfold eqGuard; cases op <;> rfl
attribute [go_sem] eqg_wv eqg_bv
theorem run_field0 (p : BitVec 64 × BitVec 64) (w : World) : (Instr.field 65 (.agg #[wv p.1, wv p.2]) 0).run Try.prog w = .ok (wv p.1) w := by kernel_rfl
attribute [go_sem] run_field0
end Go.Proofs.Ytccojcjgknlhdaa
