/-
  A call whose result is known by a law alone, in a region that draws its order.
-/
import Derived.Test.YtccojcjgknlhdaaGr2
namespace Go.Proofs.Ytccojcjgknlhdaa
open Go.RowKit

theorem grow_call {ops : Array Oper} {md : Region.Mode} {Q : Exit → Act → World → Prop} {G : Nat → Bool} {i : Nat} {oi : Oper} {f : Nat} {s : Array Bool} {a : Act} {B : World} (d : Option Tmp) (R : Value → World → Prop) {fn : FuncId} {args : Array Value}
    (hi : ops[i]? = some oi) (hd : oi.dst = d) (hr : Region.ready md ops s = [i]) (hg : oi.guard = none) (he : ∀ w, (execOp a.eval oi).run Try.prog w = .ok (.enter fn args) w)
    (hc : ∀ w, Below B.heap.size B w → Calls Try.prog fn args w fun e w' => ∃ v, e = .returned v ∧ R v w' ∧ Below w.heap.size w w')
    (h : ∀ v w, Below B.heap.size B w → R v w → growT Try.prog md ops Q G f (s.setIfInBounds i true) (a.put d v) w) : growT Try.prog md ops Q G (f + 1) s a B := by
  subst hd
  refine grow_one hi hr hg fun w hw => ?_
  unfold Oper.wp
  rw [he w]
  refine (hc w hw).mono ?_
  rintro e w' ⟨v, rfl, hR, hb⟩
  exact ⟨fun _ => hb, h v w' (later_trans hw hb) hR⟩
end Go.Proofs.Ytccojcjgknlhdaa
