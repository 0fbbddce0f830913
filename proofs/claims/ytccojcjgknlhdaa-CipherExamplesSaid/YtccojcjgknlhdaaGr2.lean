/-
  Two allocations in a region that draws its order.
-/
import Derived.Test.YtccojcjgknlhdaaK3
namespace Go.Proofs.Ytccojcjgknlhdaa
open Go.RowKit
attribute [local go_sem] fold_zeros

theorem exec_alloc {o : Oper} {a : Act} (ho : o.op = .alloc 23) (w : World) : (execOp a.eval o).run Try.prog w = .ok (.value (.pointer (some ⟨w.heap.size, 0, none⟩))) (w.alloc (.cells (kl zeros).toArray 23)) := by
  unfold execOp
  simp [ho, go_sem]
/-- Two allocations, in whatever order. -/
theorem grow_alloc2 {ops : Array Oper} {md : Region.Mode} {Q : Exit → Act → World → Prop} {G : Nat → Bool} {i k : Nat} {oi ok : Oper} {f : Nat} {s : Array Bool} {a : Act} {B : World} (t1 t2 : Tmp)
    (hi : ops[i]? = some oi) (hk : ops[k]? = some ok) (hd1 : oi.dst = some t1) (hd2 : ok.dst = some t2) (hne : t1 ≠ t2) (hik : i ≠ k) (hr : Region.ready md ops s = [i, k]) (hr1 : Region.ready md ops (s.setIfInBounds i true) = [k]) (hr2 : Region.ready md ops (s.setIfInBounds k true) = [i])
    (hg1 : oi.guard = none) (hg2 : ok.guard = none) (ho1 : oi.op = .alloc 23) (ho2 : ok.op = .alloc 23)
    (h : ∀ g1 g2 w, g1 ≠ g2 → Below B.heap.size B w → B.heap.size ≤ g1 → B.heap.size ≤ g2 → w.heap[g1]? = some (.cells (kl zeros).toArray 23 (0, 0)) → w.heap[g2]? = some (.cells (kl zeros).toArray 23 (0, 0)) →
      growT Try.prog md ops Q G f ((s.setIfInBounds i true).setIfInBounds k true) ((a.put (some t1) (.pointer (some ⟨g1, 0, none⟩))).put (some t2) (.pointer (some ⟨g2, 0, none⟩))) w) :
    growT Try.prog md ops Q G (f + 1 + 1) s a B := by
  have step : ∀ (j : Nat) (oj : Oper) (s' : Array Bool) (a' : Act) (w : World) (g : Nat), ops[j]? = some oj → Region.ready md ops s' = [j] → oj.guard = none → oj.op = .alloc 23 → w.heap[g]? = some (.cells (kl zeros).toArray 23 (0, 0)) →
      (∀ g' w', g' ≠ g → Below w.heap.size w w' → w.heap.size ≤ g' → w'.heap[g']? = some (.cells (kl zeros).toArray 23 (0, 0)) → w'.heap[g]? = some (.cells (kl zeros).toArray 23 (0, 0)) →
        growT Try.prog md ops Q G f (s'.setIfInBounds j true) (a'.put oj.dst (.pointer (some ⟨g', 0, none⟩))) w') → growT Try.prog md ops Q G (f + 1) s' a' w := by
    intro j oj s' a' w g hj hr' hg' ho' hw H
    refine grow_one hj hr' hg' fun w2 hw2 => ?_
    unfold Oper.wp
    rw [exec_alloc ho']
    have h1 := blk_lives hw hw2
    have h2 := lt_blk h1
    exact ⟨fun _ => below_alloc _ _, H _ _ (by omega) (later_trans hw2 (below_alloc _ _)) hw2.size (blk_last _ _) (blk_keep h1 _)⟩
  refine grow_two hi hk hr hg1 hg2 (fun w hw => ?_) (fun w hw => ?_)
  · unfold Oper.wp
    rw [exec_alloc ho1]
    refine ⟨fun _ => below_alloc _ _, step k ok _ _ _ w.heap.size hk hr1 hg2 ho2 (blk_last _ _) fun g' w' hgg hb hle h1 h2 => ?_⟩
    rw [hd1, hd2]
    exact h _ _ _ (Ne.symm hgg) (later_trans (later_trans hw (below_alloc _ _)) hb) hw.size (by have := hw.size; rw [World.size_alloc] at hle; omega) h2 h1
  · unfold Oper.wp
    rw [exec_alloc ho2]
    refine ⟨fun _ => below_alloc _ _, step i oi _ _ _ w.heap.size hi hr2 hg1 ho1 (blk_last _ _) fun g' w' hgg hb hle h1 h2 => ?_⟩
    rw [hd1, hd2, Array.setIfInBounds_comm _ _ (Ne.symm hik), Act.put_comm _ _ _ (by simpa using hne)]
    exact h _ _ _ hgg (later_trans (later_trans hw (below_alloc _ _)) hb) (by have := hw.size; rw [World.size_alloc] at hle; omega) hw.size h1 h2
end Go.Proofs.Ytccojcjgknlhdaa
