/-
  A region that draws its order and makes memory in it: an operation may be taken first where it yields one value in whatever later world (all that lay lies as it lay); what remains (an allocation) is taken as it comes.
-/
import Derived.OrdersHeld
import Derived.Deep.RegionHeld
import Derived.Test.YtccojcjgknlhdaaTail
namespace Go.Proofs.Ytccojcjgknlhdaa
open Go.RowKit

section
variable {P : Program} {ops : Array Oper} {md : Region.Mode} {Q : Exit → Act → World → Prop} {G : Nat → Bool}

/-- Whatever order is picked from here on, from whatever later world; an operation that G names grows the world only. -/
def growT (P : Program) (md : Region.Mode) (ops : Array Oper) (Q : Exit → Act → World → Prop) (G : Nat → Bool) : Nat → Array Bool → Act → World → Prop
  | 0, s, a, B => Region.ready md ops s = [] ∧ ∀ w, Below B.heap.size B w → Q .normal a w
  | f + 1, s, a, B => (Region.ready md ops s = [] → ∀ w, Below B.heap.size B w → Q .normal a w) ∧
    ∀ i ∈ Region.ready md ops s, ∀ w, Below B.heap.size B w → wpOp P ops Q i (fun a' w' => (G i = true → Below w.heap.size w w') ∧ growT P md ops Q G f (s.setIfInBounds i true) a' w') a w

theorem later_trans {B w w' : World} (h : Below B.heap.size B w) (h2 : Below w.heap.size w w') : Below B.heap.size B w' := h.trans (h2.mono h.size)

theorem growT_mono : ∀ {f : Nat} {s : Array Bool} {a : Act} {B B' : World}, Below B.heap.size B B' → growT P md ops Q G f s a B → growT P md ops Q G f s a B'
  | 0, _, _, _, _, hb, h => ⟨h.1, fun w hw => h.2 w (later_trans hb hw)⟩
  | _ + 1, _, _, _, _, hb, h => ⟨fun h0 w hw => h.1 h0 w (later_trans hb hw), fun i hi w hw => h.2 i hi w (later_trans hb hw)⟩

theorem growT_sound : ∀ (f : Nat) (s : Array Bool) (a : Act) (B : World), growT P md ops Q G f s a B → wpAny P md ops Q f s a B
  | 0, _, _, _, h => ⟨h.1, h.2 _ (Below.refl _ _)⟩
  | f + 1, _, _, _, h => ⟨fun h0 => h.1 h0 _ (Below.refl _ _), fun i hi => wpOp_mono (fun a' w' h' => growT_sound f _ a' w' h'.2) (h.2 i hi _ (Below.refl _ _))⟩

/-- An outcome: the value v, and the world has grown only. -/
def GetsIn (P : Program) (w : World) (v : Value) : Result Next → Prop
  | .ok (.value u) w' => u = v ∧ Below w.heap.size w w'
  | .ok .skip w' => v = undef ∧ Below w.heap.size w w'
  | .ok (.enter f args) w' => Calls P f args w' fun e w'' => e = .returned v ∧ Below w.heap.size w w''
  | _ => False
def YieldsG (P : Program) (ops : Array Oper) (B : World) (o : Oper) (v : Value) (a : Act) : Prop :=
  (Region.wanted o (yielded ops a.tmps) = true ∧ ∀ w, Below B.heap.size B w → GetsIn P w v ((execOp a.eval o).run P w)) ∨
  (Region.wanted o (yielded ops a.tmps) = false ∧ v = undef)
theorem YieldsG.mono {B B' : World} {o : Oper} {v : Value} {a : Act} (h : YieldsG P ops B o v a) (hb : Below B.heap.size B B') : YieldsG P ops B' o v a :=
  h.imp (fun ⟨hw, hv⟩ => ⟨hw, fun w hw' => hv w (later_trans hb hw')⟩) id
theorem YieldsG.of_same {B : World} {o : Oper} {v : Value} {a a' : Act} (hy : YieldsG P ops B o v a) (he : execOp a'.eval o = execOp a.eval o)
    (hw : Region.wanted o (yielded ops a'.tmps) = Region.wanted o (yielded ops a.tmps)) : YieldsG P ops B o v a' := by
  unfold YieldsG at *
  rw [he, hw]
  exact hy
theorem YieldsG.wpOp {B : World} {i : Nat} {o : Oper} {v : Value} {a : Act} (hi : ops[i]? = some o) (hy : YieldsG P ops B o v a) {K : Act → World → Prop} {w : World} (hb : Below B.heap.size B w)
    (h : ∀ w', Below w.heap.size w w' → K (a.put o.dst v) w') : wpOp P ops Q i K a w := by
  unfold Go.wpOp
  simp only [hi]
  rcases hy with ⟨hw, hv⟩ | ⟨hw, rfl⟩
  · simp only [hw, if_true, Oper.wp]
    have h1 := hv w hb
    revert h1
    generalize (execOp a.eval o).run P w = r
    intro h1
    refine .inl ?_
    cases r with
    | ok n w' =>
      cases n <;> simp only [Oper.upon, GetsIn] at h1 ⊢
      case value u => obtain ⟨rfl, h2⟩ := h1; exact h _ h2
      case skip => obtain ⟨rfl, h2⟩ := h1; exact h _ h2
      case enter f args => exact Calls.mono h1 fun e w'' ⟨he, h2⟩ => by subst he; exact h _ h2
    | halt x w' => simp only [GetsIn] at h1
  · simp only [hw, Bool.false_eq_true, if_false]; exact h _ (Below.refl _ _)

/-- Another operation makes no difference to it. -/
theorem grow_put {j : Nat} {oi oj : Oper} {v : Value} (hj : ops[j]? = some oj) (hap : oi.apart ops oj = true) (hsi : ∀ cs b, oi.op ≠ .select cs b) (hsj : ∀ cs b, oj.op ≠ .select cs b)
    (hQ : ∀ c a w, Q (.panic c) (a.put oi.dst v) w → Q (.panic c) a w) {K : Act → World → Prop} {a : Act} {w : World} (h : wpOp P ops Q j K (a.put oi.dst v) w) :
    wpOp P ops Q j (fun a' w' => (∀ B, YieldsG P ops B oi v a → YieldsG P ops B oi v a') ∧ K (a'.put oi.dst v) w') a w := by
  obtain ⟨h1, h2, h3⟩ := Oper.apart_spec hap
  have keep : ∀ (a0 : Act), (∀ B, YieldsG P ops B oi v a → YieldsG P ops B oi v a0) → ∀ u, ∀ B, YieldsG P ops B oi v a → YieldsG P ops B oi v (a0.put oj.dst u) := fun a0 h0 u B hy =>
    (h0 B hy).of_same (execOp_put oi hsi a0 oj.dst u h3) (wanted_put oi a0 oj.dst u h3)
  have keep0 : ∀ u, ∀ B, YieldsG P ops B oi v a → YieldsG P ops B oi v (a.put oj.dst u) := keep a fun _ hy => hy
  have keepD : ∀ d, ∀ B, YieldsG P ops B oi v a → YieldsG P ops B oi v { a with defers := d :: a.defers } := fun d B hy => hy.of_same rfl rfl
  unfold wpOp at *
  simp only [hj] at *
  rw [wanted_put oj a oi.dst v h1] at h
  split
  · rename_i hw
    simp only [hw, if_true] at h
    rcases h with h | ⟨hasks, hlets⟩
    case inr => exact .inr ⟨by unfold Oper.asks at *; rw [execOp_put oj hsj a oi.dst v h1] at hasks; exact hasks, hlets⟩
    refine .inl ?_
    unfold Oper.wp at *
    rw [execOp_put oj hsj a oi.dst v h1] at h
    generalize (execOp a.eval oj).run P w = r at *
    cases r with
    | ok n w' =>
      cases n <;> simp only [Oper.upon] at h ⊢
      case value u => exact ⟨keep0 u, by rw [← Act.put_comm a v u h2]; exact h⟩
      case skip => exact ⟨keep0 _, by rw [← Act.put_comm a v undef h2]; exact h⟩
      case defer d =>
        refine ⟨keep _ (keepD d) _, ?_⟩
        rw [← Act.put_comm _ v undef h2, ← Act.put_defers]
        exact h
      case enter f args =>
        refine Calls.mono h fun e w'' he => ?_
        cases e with
        | returned u => exact ⟨keep0 u, by rw [← Act.put_comm a v u h2]; exact he⟩
        | panicked c => exact hQ _ _ _ he
        | outgrown => exact he
      case row row args => exact Rows.mono h fun u w'' he => ⟨keep0 u, by rw [← Act.put_comm a v u h2]; exact he⟩
    | halt x w' =>
      cases x <;> simp only [Oper.upon] at h ⊢
      case panic u => exact hQ _ _ _ h
  · rename_i hw
    simp only [hw] at h
    exact ⟨keep0 _, by rw [← Act.put_comm a v undef h2]; exact h⟩

theorem growT_first {i : Nat} {oi : Oper} {v : Value} (hi : ops[i]? = some oi) (hsel : ∀ (j : Nat) (o : Oper) cs b, ops[j]? = some o → o.op ≠ .select cs b)
    (hQ : ∀ c a w, Q (.panic c) (a.put oi.dst v) w → Q (.panic c) a w) :
    ∀ (f : Nat) (s : Array Bool) (a : Act) (B : World),
      (∀ j oj, ops[j]? = some oj → j ≠ i → s.getD j true = false → (∀ e ∈ oj.after, Region.binds md e = true → e.on ≠ i) → oi.apart ops oj = true) →
      ((∀ B', YieldsG P ops B' oi v a) ∨ ∀ j oj, ops[j]? = some oj → j ≠ i → s.getD j true = false → (∀ e ∈ oj.after, Region.binds md e = true → e.on ≠ i) → G j = true) →
      i ∈ Region.ready md ops s → YieldsG P ops B oi v a → growT P md ops Q G f (s.setIfInBounds i true) (a.put oi.dst v) B → growT P md ops Q G (f + 1) s a B := by
  intro f
  induction f with
  | zero =>
    intro s a B _ _ hr hy H
    refine ⟨fun h => (by rw [h] at hr; cases hr), fun j hj w hw => ?_⟩
    by_cases hji : j = i
    · subst hji; exact hy.wpOp hi hw fun w' hw' => ⟨fun _ => hw', growT_mono (later_trans hw hw') H⟩
    · have := ready_mono hj hji
      rw [H.1] at this
      cases this
  | succ f ih =>
    intro s a B hfree hk hr hy H
    refine ⟨fun h => (by rw [h] at hr; cases hr), fun j hj w hw => ?_⟩
    by_cases hji : j = i
    · subst hji; exact hy.wpOp hi hw fun w' hw' => ⟨fun _ => hw', growT_mono (later_trans hw hw') H⟩
    · have h1 := H.2 j (ready_mono hj hji) w hw
      obtain ⟨hjun, oj, hoj, hall⟩ := mem_ready.1 hj
      have hnot : ∀ e ∈ oj.after, Region.binds md e = true → e.on ≠ i := fun e he hb heq => by
        have h1 := hall e he hb
        have h0 := (mem_ready.1 hr).1
        rw [heq] at h1
        rcases Nat.lt_or_ge i s.size with h' | h'
        · simp [h'] at h0 h1; rw [h0] at h1; cases h1
        · simp [Array.getElem?_eq_none h'] at h1
      have h2 := grow_put hoj (hfree j oj hoj hji hjun hnot) (fun cs b => hsel i oi cs b hi) (fun cs b => hsel j oj cs b hoj) hQ h1
      have hun' : ∀ k, (s.setIfInBounds j true).getD k true = false → s.getD k true = false := fun k hun => by
        by_cases hjk : j = k
        · subst hjk; exact hjun
        · rw [getD_set_ne true hjk] at hun; exact hun
      refine wpOp_mono (fun a' w' h3 => ⟨h3.2.1, ih (s.setIfInBounds j true) a' w' (fun k ok hk' hki hun hno => hfree k ok hk' hki (hun' k hun) hno) ?_ (ready_mono hr (Ne.symm hji)) ?_ ?_⟩) h2
      · rcases hk with hk | hk
        · exact .inl fun B' => h3.1 B' (hk B')
        · exact .inr fun k ok hk' hki hun hno => hk k ok hk' hki (hun' k hun) hno
      · rcases hk with hk | hk
        · exact h3.1 w' (hk w')
        · exact h3.1 w' (hy.mono (later_trans hw (h3.2.1 (hk j oj hoj hji hjun hnot))))
      · rw [Array.setIfInBounds_comm _ _ hji]
        exact h3.2.2

/-- Those that might come before i and do not wait for it: does G name them all? -/
def namedB (md : Region.Mode) (ops : Array Oper) (s : Array Bool) (i : Nat) (G : Nat → Bool) : Bool :=
  (List.range ops.size).all fun j => j == i || s.getD j true || (match ops[j]? with | some oj => oj.after.any (fun e => Region.binds md e && e.on == i) | none => true) || G j
theorem namedB_spec {s : Array Bool} {i : Nat} (h : namedB md ops s i G = true) : ∀ j oj, ops[j]? = some oj → j ≠ i → s.getD j true = false → (∀ e ∈ oj.after, Region.binds md e = true → e.on ≠ i) → G j = true := by
  intro j oj hj hji hun hno
  have hjs : j < ops.size := (Array.getElem?_eq_some_iff.1 hj).1
  have h1 := List.all_eq_true.1 h j (List.mem_range.2 hjs)
  simp only [hj, hun, Bool.or_eq_true, beq_iff_eq, hji, false_or, Bool.false_eq_true] at h1
  rcases h1 with h1 | h1
  · rw [Array.any_eq_true'] at h1
    obtain ⟨e, he, h2⟩ := h1
    simp only [Bool.and_eq_true, beq_iff_eq] at h2
    exact absurd h2.2 (hno e he h2.1)
  · exact h1

/-- Take a call, a load first. -/
theorem grow_take {i : Nat} {oi : Oper} (d : Option Tmp) (v : Value) {f : Nat} {s : Array Bool} {a : Act} {B : World} (hi : ops[i]? = some oi) (hd : oi.dst = d)
    (hs : Region.noSelect ops = true) (hf : Region.free md ops s i = true) (hn : namedB md ops s i G = true) (hr : (Region.ready md ops s).contains i = true)
    (hQ : ∀ c a w, Q (.panic c) (a.put oi.dst v) w → Q (.panic c) a w) (hy : YieldsG P ops B oi v a)
    (h : growT P md ops Q G f (s.setIfInBounds i true) (a.put d v) B) : growT P md ops Q G (f + 1) s a B := by
  subst hd
  exact growT_first hi (Region.noSelect_spec hs) hQ f s a B (Region.free_spec hi hf) (.inr (namedB_spec hn)) (by simpa using hr) hy h
/-- Take first what yields its value in whatever world. -/
theorem grow_pure {i : Nat} {oi : Oper} (d : Option Tmp) (v : Value) {f : Nat} {s : Array Bool} {a : Act} {B : World} (hi : ops[i]? = some oi) (hd : oi.dst = d)
    (hs : Region.noSelect ops = true) (hf : Region.free md ops s i = true) (hr : (Region.ready md ops s).contains i = true)
    (hQ : ∀ c a w, Q (.panic c) (a.put oi.dst v) w → Q (.panic c) a w) (hg : oi.guard = none) (hy : ∀ w, (execOp a.eval oi).run P w = .ok (.value v) w)
    (h : growT P md ops Q G f (s.setIfInBounds i true) (a.put d v) B) : growT P md ops Q G (f + 1) s a B := by
  subst hd
  have hy' : ∀ B', YieldsG P ops B' oi v a := fun B' => .inl ⟨by simp [Region.wanted, hg], fun w _ => by rw [hy w]; exact ⟨rfl, Below.refl _ _⟩⟩
  exact growT_first hi (Region.noSelect_spec hs) hQ f s a B (Region.free_spec hi hf) (.inl hy') (by simpa using hr) (hy' B) h
/-- The only one that may come up: taken as it comes. -/
theorem grow_one {i : Nat} {oi : Oper} {f : Nat} {s : Array Bool} {a : Act} {B : World} (hi : ops[i]? = some oi) (hr : Region.ready md ops s = [i]) (hg : oi.guard = none)
    (h : ∀ w, Below B.heap.size B w → oi.wp P a w (fun a' w' => (G i = true → Below w.heap.size w w') ∧ growT P md ops Q G f (s.setIfInBounds i true) a' w') Q) : growT P md ops Q G (f + 1) s a B := by
  refine ⟨fun h0 => (by rw [hr] at h0; cases h0), fun j hj w hw => ?_⟩
  rw [hr] at hj
  obtain rfl : j = i := by simpa using hj
  unfold wpOp
  simp only [hi, Region.wanted, hg]
  exact .inl (h w hw)
/-- One of two. -/
theorem grow_two {i k : Nat} {oi ok : Oper} {f : Nat} {s : Array Bool} {a : Act} {B : World} (hi : ops[i]? = some oi) (hk : ops[k]? = some ok) (hr : Region.ready md ops s = [i, k]) (hg : oi.guard = none) (hg2 : ok.guard = none)
    (h : ∀ w, Below B.heap.size B w → oi.wp P a w (fun a' w' => (G i = true → Below w.heap.size w w') ∧ growT P md ops Q G f (s.setIfInBounds i true) a' w') Q)
    (h2 : ∀ w, Below B.heap.size B w → ok.wp P a w (fun a' w' => (G k = true → Below w.heap.size w w') ∧ growT P md ops Q G f (s.setIfInBounds k true) a' w') Q) : growT P md ops Q G (f + 1) s a B := by
  refine ⟨fun h0 => (by rw [hr] at h0; cases h0), fun j hj w hw => ?_⟩
  rw [hr] at hj
  simp only [List.mem_cons, List.not_mem_nil, or_false] at hj
  unfold wpOp
  rcases hj with rfl | rfl
  · simp only [hi, Region.wanted, hg]; exact .inl (h w hw)
  · simp only [hk, Region.wanted, hg2]; exact .inl (h2 w hw)
theorem grow_done {s : Array Bool} {a : Act} {B : World} (hr : Region.ready md ops s = []) (h : ∀ w, Below B.heap.size B w → Q .normal a w) : ∀ f, growT P md ops Q G f s a B
  | 0 => ⟨hr, h⟩
  | _ + 1 => ⟨fun _ => h, by rw [hr]; simp⟩
theorem wp_region_grow {id : Nat} {a : Act} {w : World} (G : Nat → Bool) (hm : P.follows .mixedOrders = true) (h : growT P .any ops Q G ops.size (Array.replicate ops.size false) a w.drew) : (Code.region id ops true).wp P Q a w :=
  wp_region_any hm (growT_sound _ _ _ _ h)
end
end Go.Proofs.Ytccojcjgknlhdaa
