/-
  A region that draws its order: an operation may be taken first although a store that changes what lies stands behind it, where the store waits for it over one operation more.
-/
import Derived.Test.YtccojcjgknlhdaaGr3
namespace Go.Proofs.Ytccojcjgknlhdaa
open Go.RowKit

section
variable {P : Program} {ops : Array Oper} {md : Region.Mode} {Q : Exit → Act → World → Prop} {G : Nat → Bool}

/-- Whatever is done, what it waits for is done. -/
def Closed (md : Region.Mode) (ops : Array Oper) (s : Array Bool) : Prop :=
  ∀ j oj, ops[j]? = some oj → s.getD j false = true → ∀ e ∈ oj.after, Region.binds md e = true → s.getD e.on false = true
theorem Closed.set {s : Array Bool} {j : Nat} (h : Closed md ops s) (hj : j ∈ Region.ready md ops s) : Closed md ops (s.setIfInBounds j true) := by
  intro k ok hk hd e he hb
  by_cases hkj : j = k
  · subst hkj
    obtain ⟨_, oj, hoj, hall⟩ := mem_ready.1 hj
    rw [hk] at hoj; cases hoj
    exact getD_set_true (hall e he hb)
  · rw [getD_set_ne false hkj] at hd
    exact getD_set_true (h k ok hk hd e he hb)
def closedB (md : Region.Mode) (ops : Array Oper) (s : Array Bool) : Bool :=
  (List.range ops.size).all fun j => !(s.getD j false) || (match ops[j]? with | some oj => oj.after.all (fun e => !(Region.binds md e) || s.getD e.on false) | none => true)
theorem closedB_spec {s : Array Bool} (h : closedB md ops s = true) : Closed md ops s := by
  intro j oj hj hd e he hb
  have hjs : j < ops.size := (Array.getElem?_eq_some_iff.1 hj).1
  have h1 := List.all_eq_true.1 h j (List.mem_range.2 hjs)
  simp only [hj, hd, Bool.not_true, Bool.false_or] at h1
  have h2 := Array.all_eq_true_iff_forall_mem.1 h1 e he
  rw [hb] at h2
  simpa using h2

/-- Nothing that j waits for waits for i. -/
def Far (md : Region.Mode) (ops : Array Oper) (i : Nat) (oj : Oper) : Prop :=
  ∀ e ∈ oj.after, Region.binds md e = true → e.on ≠ i ∧ ∀ ok, ops[e.on]? = some ok → ∀ e' ∈ ok.after, Region.binds md e' = true → e'.on ≠ i

theorem growT_first2 {i : Nat} {oi : Oper} {v : Value} (hi : ops[i]? = some oi) (hsel : ∀ (j : Nat) (o : Oper) cs b, ops[j]? = some o → o.op ≠ .select cs b)
    (hQ : ∀ c a w, Q (.panic c) (a.put oi.dst v) w → Q (.panic c) a w) :
    ∀ (f : Nat) (s : Array Bool) (a : Act) (B : World), Closed md ops s →
      (∀ j oj, ops[j]? = some oj → j ≠ i → s.getD j true = false → (∀ e ∈ oj.after, Region.binds md e = true → e.on ≠ i) → oi.apart ops oj = true) →
      (∀ j oj, ops[j]? = some oj → j ≠ i → s.getD j true = false → Far md ops i oj → G j = true) →
      i ∈ Region.ready md ops s → YieldsG P ops B oi v a → growT P md ops Q G f (s.setIfInBounds i true) (a.put oi.dst v) B → growT P md ops Q G (f + 1) s a B := by
  intro f
  induction f with
  | zero =>
    intro s a B _ _ _ hr hy H
    refine ⟨fun h => (by rw [h] at hr; cases hr), fun j hj w hw => ?_⟩
    by_cases hji : j = i
    · subst hji; exact hy.wpOp hi hw fun w' hw' => ⟨fun _ => hw', growT_mono (later_trans hw hw') H⟩
    · have := ready_mono hj hji
      rw [H.1] at this
      cases this
  | succ f ih =>
    intro s a B hcl hfree hk hr hy H
    refine ⟨fun h => (by rw [h] at hr; cases hr), fun j hj w hw => ?_⟩
    by_cases hji : j = i
    · subst hji; exact hy.wpOp hi hw fun w' hw' => ⟨fun _ => hw', growT_mono (later_trans hw hw') H⟩
    · have h1 := H.2 j (ready_mono hj hji) w hw
      obtain ⟨hjun, oj, hoj, hall⟩ := mem_ready.1 hj
      have hiun := getD_both (mem_ready.1 hr).1
      have hnot : ∀ e ∈ oj.after, Region.binds md e = true → e.on ≠ i := fun e he hb heq => by
        have h1 := hall e he hb
        rw [heq, hiun] at h1; cases h1
      have hfar : Far md ops i oj := fun e he hb => ⟨hnot e he hb, fun ok hok e' he' hb' heq => by
        have h2 := hcl e.on ok hok (hall e he hb) e' he' hb'
        rw [heq, hiun] at h2; cases h2⟩
      have h2 := grow_put hoj (hfree j oj hoj hji hjun hnot) (fun cs b => hsel i oi cs b hi) (fun cs b => hsel j oj cs b hoj) hQ h1
      have hun' : ∀ k, (s.setIfInBounds j true).getD k true = false → s.getD k true = false := fun k hun => by
        by_cases hjk : j = k
        · subst hjk; exact hjun
        · rw [getD_set_ne true hjk] at hun; exact hun
      refine wpOp_mono (fun a' w' h3 => ⟨h3.2.1, ih (s.setIfInBounds j true) a' w' (hcl.set hj) (fun k ok hk' hki hun hno => hfree k ok hk' hki (hun' k hun) hno) (fun k ok hk' hki hun hno => hk k ok hk' hki (hun' k hun) hno) (ready_mono hr (Ne.symm hji)) ?_ ?_⟩) h2
      · exact h3.1 w' (hy.mono (later_trans hw (h3.2.1 (hk j oj hoj hji hjun hfar))))
      · rw [Array.setIfInBounds_comm _ _ hji]
        exact h3.2.2

/-- Does j wait for i, or for what waits for i? -/
def waits2 (md : Region.Mode) (ops : Array Oper) (i : Nat) (oj : Oper) : Bool :=
  oj.after.any fun e => Region.binds md e && (e.on == i || (match ops[e.on]? with | some ok => ok.after.any (fun e' => Region.binds md e' && e'.on == i) | none => false))
def namedB2 (md : Region.Mode) (ops : Array Oper) (s : Array Bool) (i : Nat) (G : Nat → Bool) : Bool :=
  (List.range ops.size).all fun j => j == i || s.getD j true || (match ops[j]? with | some oj => waits2 md ops i oj | none => true) || G j
theorem namedB2_spec {s : Array Bool} {i : Nat} (h : namedB2 md ops s i G = true) : ∀ j oj, ops[j]? = some oj → j ≠ i → s.getD j true = false → Far md ops i oj → G j = true := by
  intro j oj hj hji hun hno
  have hjs : j < ops.size := (Array.getElem?_eq_some_iff.1 hj).1
  have h1 := List.all_eq_true.1 h j (List.mem_range.2 hjs)
  simp only [hj, hun, Bool.or_eq_true, beq_iff_eq, hji, false_or, Bool.false_eq_true] at h1
  rcases h1 with h1 | h1
  · unfold waits2 at h1
    rw [Array.any_eq_true'] at h1
    obtain ⟨e, he, h2⟩ := h1
    simp only [Bool.and_eq_true, Bool.or_eq_true, beq_iff_eq] at h2
    have h3 := hno e he h2.1
    rcases h2.2 with h4 | h4
    · exact absurd h4 h3.1
    · cases hk : ops[e.on]? with
      | none => rw [hk] at h4; cases h4
      | some ok =>
        rw [hk] at h4
        simp only at h4
        rw [Array.any_eq_true'] at h4
        obtain ⟨e', he', h5⟩ := h4
        simp only [Bool.and_eq_true, beq_iff_eq] at h5
        exact absurd h5.2 (h3.2 ok hk e' he' h5.1)
  · exact h1
/-- Take a call, a load first. -/
theorem grow_take2 {i : Nat} {oi : Oper} (d : Option Tmp) (v : Value) {f : Nat} {s : Array Bool} {a : Act} {B : World} (hi : ops[i]? = some oi) (hd : oi.dst = d)
    (hs : Region.noSelect ops = true) (hc : closedB md ops s = true) (hf : Region.free md ops s i = true) (hn : namedB2 md ops s i G = true) (hr : (Region.ready md ops s).contains i = true)
    (hQ : ∀ c a w, Q (.panic c) (a.put oi.dst v) w → Q (.panic c) a w) (hy : YieldsG P ops B oi v a)
    (h : growT P md ops Q G f (s.setIfInBounds i true) (a.put d v) B) : growT P md ops Q G (f + 1) s a B := by
  subst hd
  exact growT_first2 hi (Region.noSelect_spec hs) hQ f s a B (closedB_spec hc) (Region.free_spec hi hf) (namedB2_spec hn) (by simpa using hr) hy h
end
end Go.Proofs.Ytccojcjgknlhdaa
