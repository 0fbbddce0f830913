/-
  Slices: one that is read ('Sl'), one that the call owns ('Ob' of bytes, 'Ow' of words), and append.
-/
import Derived.Test.YtccojcjgknlhdaaTail
import Derived.Maps.AppendAt
import Derived.OwnWalk
namespace Go.Proofs.Ytccojcjgknlhdaa
open Go.RowKit

/-- A slice value that is read: it leads to the cells cs, or it is empty. -/
def Sl (w : World) (A : Option Addr) (n c : Nat) (cs : List Value) : Prop :=
  cs.length = n ∧ n ≤ c ∧ c ≤ maxLen ∧ (0 < c → ∃ b off, A = some ⟨b, off, none⟩) ∧ ∀ b off, A = some ⟨b, off, none⟩ → ∀ j v, cs[j]? = some v → w.cell? ⟨b, off + j, none⟩ = some v

theorem Sl.nil (w : World) : Sl w none 0 0 [] := ⟨rfl, Nat.le_refl _, by decide, fun h => absurd h (by decide), fun _ _ h => by cases h⟩
theorem Sl.lives {w w' : World} {A : Option Addr} {n c : Nat} {cs : List Value} (h : Sl w A n c cs) (hb : Below w.heap.size w w') : Sl w' A n c cs :=
  ⟨h.1, h.2.1, h.2.2.1, h.2.2.2.1, fun b off hA j v hv => by
    have := h.2.2.2.2 b off hA j v hv
    rw [hb.cell (World.block_lt_of_cell? w _ this)]; exact this⟩
theorem Sl.keep {w w' : World} {A : Option Addr} {n c : Nat} {cs : List Value} (h : Sl w A n c cs) (hk : ∀ a v, w.cell? a = some v → w'.cell? a = some v) : Sl w' A n c cs :=
  ⟨h.1, h.2.1, h.2.2.1, h.2.2.2.1, fun b off hA j v hv => hk _ _ (h.2.2.2.2 b off hA j v hv)⟩
/-- A cell of it. -/
theorem Sl.at {w : World} {A : Option Addr} {n c : Nat} {cs : List Value} (h : Sl w A n c cs) {j : Nat} {v : Value} (hv : cs[j]? = some v) :
    ∃ b off, A = some ⟨b, off, none⟩ ∧ w.cell? ⟨b, off + j, none⟩ = some v := by
  have hj : j < cs.length := (List.getElem?_eq_some_iff.1 hv).1
  have h1 := h.1
  have h2 := h.2.1
  obtain ⟨b, off, hA⟩ := h.2.2.2.1 (by omega)
  exact ⟨b, off, hA, h.2.2.2.2 b off hA j v hv⟩
/-- What lies in a block of its own, from its head on. -/
theorem Sl.of_blk {w : World} {g : Nat} {cs : Array Value} {t : TypeId} {fr : Nat × Nat} (h : w.heap[g]? = some (.cells cs t fr)) (hm : cs.size ≤ maxLen) (off n : Nat) (hn : off + n ≤ cs.size) :
    Sl w (some ⟨g, off, none⟩) n (cs.size - off) ((cs.toList.drop off).take n) :=
  ⟨by simp; omega, by omega, by omega, fun _ => ⟨g, off, rfl⟩, fun b o hA j v hv => by
    simp only [Option.some.injEq, Addr.mk.injEq, and_true] at hA
    obtain ⟨rfl, rfl⟩ := hA
    have hj : j < n := by
      have := (List.getElem?_eq_some_iff.1 hv).1
      rw [List.length_take] at this; omega
    rw [List.getElem?_take, if_pos hj, List.getElem?_drop] at hv
    rw [cell_of_row w g (off + j) cs t fr h]
    simpa using hv⟩

/-- Bytes that the call owns from block 'base' on. -/
abbrev Ob (w : World) (base : Nat) (v : Value) (l : List UInt8) : Prop := w.ownsRow base 5 1 v l.length (kl l)
/-- Words that the call owns. -/
abbrev Ow (w : World) (base : Nat) (v : Value) (l : List (BitVec 64)) : Prop := w.ownsRow base 31 1 v l.length (wl l)

theorem own_lives {w w' : World} {base e size n : Nat} {v : Value} {xs : List Value} (h : w.ownsRow base e size v n xs) (hb : Below w.heap.size w w') : w'.ownsRow base e size v n xs := by
  refine ⟨h.1, ?_⟩
  rcases h.2 with h2 | ⟨g, cap, cur, hv, hg, hh, r⟩
  · exact .inl h2
  · exact .inr ⟨g, cap, cur, hv, hg, blk_lives hh hb, r⟩
theorem own_base {w : World} {base base' e size n : Nat} {v : Value} {xs : List Value} (h : w.ownsRow base e size v n xs) (hb : base' ≤ base) : w.ownsRow base' e size v n xs := by
  refine ⟨h.1, ?_⟩
  rcases h.2 with h2 | ⟨g, cap, cur, hv, hg, r⟩
  · exact .inl h2
  · exact .inr ⟨g, cap, cur, hv, by omega, r⟩
/-- An owned slice is read. -/
theorem own_sl {w : World} {base e n : Nat} {v : Value} {xs : List Value} (h : w.ownsRow base e 1 v n xs) : ∃ A c, v = .slice A n c ∧ Sl w A n c xs := by
  rcases h.2 with ⟨rfl, rfl⟩ | ⟨g, cap, cur, rfl, hg, hh, hn, hm, hs, ht⟩
  · have : xs = [] := List.eq_nil_of_length_eq_zero (by simpa using h.1)
    subst this
    exact ⟨none, 0, rfl, Sl.nil w⟩
  · have h2 := Sl.of_blk hh (by omega) 0 n (by omega)
    simp only [List.drop_zero, Nat.sub_zero, hs, Nat.mul_one] at h2
    rw [Nat.mul_one] at ht
    rw [ht] at h2
    exact ⟨some ⟨g, 0, none⟩, cap, rfl, h2⟩
/-- A literal, just made. -/
theorem own_lit {w : World} {base e : Nat} (cs : List Value) (hb : base ≤ w.heap.size) (hm : cs.length ≤ maxLen) :
    (w.alloc (.cells cs.toArray e)).ownsRow base e 1 (.slice (some ⟨w.heap.size, 0, none⟩) cs.length cs.length) cs.length cs := by
  have := World.ownsRow_lit (base := base) (e := e) (size := 1) w cs.toArray cs.length hb hm (by simp)
  simpa using this

theorem info5 : (Try.prog.info? 5).map (fun i => (i.zero, i.size, i.bytes)) = some (some (.int .u8 0), 1, 1) := by kernel_rfl
theorem info31 : (Try.prog.info? 31).map (fun i => (i.zero, i.size, i.bytes)) = some (some (.int .u64 0), 1, 8) := by kernel_rfl

/-- What append leaves: the new slice is owned; below 'base' nothing has turned; and it lies in the old one's block or in the one just made. -/
def Apd (w w' : World) (v v' : Value) : Prop := w.grownBy w' v.ownBlock ∧ (v'.ownBlock = v.ownBlock ∨ v'.ownBlock = some w.heap.size)

theorem Apd.below {w w' : World} {v v' : Value} {base e n B : Nat} {xs : List Value} (h : Apd w w' v v') (hown : w.ownsRow base e 1 v n xs) (hB : B ≤ base) (hs : B ≤ w.heap.size) : Below B w w' :=
  (Below.refl _ _).grown h.1 hs (fun k hk => by have := (hown.lt k hk).1; omega)
/-- Another block of the call's own lives through it. -/
theorem Apd.blk {w w' : World} {v v' : Value} {g : Nat} {o : Obj} (h : Apd w w' v v') (hg : w.heap[g]? = some o) (hne : v.ownBlock ≠ some g) : w'.heap[g]? = some o := by
  rw [h.1.block g (lt_blk hg) (fun e => hne e.symm)]; exact hg

theorem run_app {t e : TypeId} {z : Value} {bytes : Nat} (ht : Try.prog.underlying t = some (.slice e)) (hi : (Try.prog.info? e).map (fun i => (i.zero, i.size, i.bytes)) = some (some z, 1, bytes)) (hz : z.cells.size = 1)
    {w : World} {base ty : Nat} {v : Value} {n m c : Nat} {A : Option Addr} {xs ys : List Value} (hown : w.ownsRow base e 1 v n xs) (hs : Sl w A m c ys) (h1 : ∀ u ∈ ys, u.oneCell' = true)
    (hlen : (n + m) * bytes ≤ 140737488355328) (hmax : n + m ≤ maxLen) (hbase : base ≤ w.heap.size) :
    ∃ v' w', (Builtin.append_ #[t, t] ty #[v, .slice A m c]).run Try.prog w = .ok v' w' ∧ w'.ownsRow base e 1 v' (n + m) (xs ++ ys) ∧ Apd w w' v v' := by
  obtain ⟨i0, hi0, hz0, hz1, hz2⟩ := info_parts hi
  by_cases hc : 0 < c
  · obtain ⟨b, off, rfl⟩ := hs.2.2.2.1 hc
    obtain ⟨v', w', hr, h2, h3, _, h5⟩ := run_append_own_at (P := Try.prog) w base t ty e i0 z 1 bytes ht hi0 hz0 hz1 hz2 hz (by decide) v n xs hown ⟨b, off, none⟩ m c ys (by rw [hs.1, Nat.mul_one])
      (fun j u hu => by rw [Addr.add_mid]; exact hs.2.2.2.2 b off rfl j u hu) h1 hmax hlen hbase
    exact ⟨v', w', hr, h2, h3, h5⟩
  · have hc0 : c = 0 := by omega
    have hm0 : m = 0 := by have := hs.2.1; omega
    subst hc0 hm0
    have hys : ys = [] := List.eq_nil_of_length_eq_zero hs.1
    subst hys
    have hrun : (Builtin.append_ #[t, t] ty #[v, .slice A 0 0]).run Try.prog w = .ok v w := by
      rcases hown.2 with ⟨rfl, rfl⟩ | ⟨g, cap, cur, rfl, _, _, hnc, _⟩
      · cases A <;> simp [Builtin.append_, run_underlying ht, sizeOf, typeInfo, hi0, Builtin.lenOf, Builtin.firstCells, loadCells, loadCellsFrom]
      · cases A <;> simp [Builtin.append_, run_underlying ht, sizeOf, typeInfo, hi0, Builtin.lenOf, Builtin.firstCells, hnc, storeCells, loadCells, loadCellsFrom]
    exact ⟨v, w, hrun, by simpa using hown, World.grownBy.refl w _, .inl rfl⟩

/-- append in a plain region. -/
theorem wl_app {t e : TypeId} {z : Value} {bytes : Nat} (ht : Try.prog.underlying t = some (.slice e)) (hi : (Try.prog.info? e).map (fun i => (i.zero, i.size, i.bytes)) = some (some z, 1, bytes)) (hz : z.cells.size = 1)
    {ops : Array Oper} {rest : List Oper} {o : Oper} {a : Act} {Q : Exit → Act → World → Prop} {w : World} {base : Nat} {v : Value} {n m c : Nat} {A : Option Addr} {xs ys : List Value} (s x : Operand) (hgd : o.guard = none)
    (ho : o.op = .call { callee := .builtin .append, args := #[s, x], argTypes := #[t, t] }) (hs : a.eval s = v) (hx : a.eval x = .slice A m c) (hown : w.ownsRow base e 1 v n xs) (hsl : Sl w A m c ys) (h1 : ∀ u ∈ ys, u.oneCell' = true)
    (hlen : (n + m) * bytes ≤ 140737488355328) (hmax : n + m ≤ maxLen) (hbase : base ≤ w.heap.size)
    (h : ∀ v' w', w'.ownsRow base e 1 v' (n + m) (xs ++ ys) → Apd w w' v v' → wpList Try.prog ops Q rest (a.put o.dst v') w') : wpList Try.prog ops Q (o :: rest) a w := by
  obtain ⟨v', w', hr, h2, h3⟩ := run_app ht hi hz (ty := o.type) hown hsl h1 hlen hmax hbase
  refine wpList_plain hgd fun K hK => ?_
  unfold Oper.wp execOp
  simp only [ho, resolve, invoke, builtin, Sem.run_bind, Sem.run_pure, Result.andThen_ok, List.map_toArray, List.map_cons, List.map_nil, hs, hx, hr]
  exact hK _ _ (h v' w' h2 h3)
theorem kl_cells (l : List UInt8) : ∀ u ∈ kl l, u.oneCell' = true := by
  intro u hu
  obtain ⟨b, _, rfl⟩ := List.mem_map.1 hu
  rfl
theorem wl_cells (l : List (BitVec 64)) : ∀ u ∈ wl l, u.oneCell' = true := by
  intro u hu
  obtain ⟨b, _, rfl⟩ := List.mem_map.1 hu
  rfl
theorem kl_get {l : List UInt8} {j : Nat} (h : j < l.length) : (kl l)[j]? = some (bv (l[j]?.getD 0)) := by simp [kl, h]
theorem wl_get {l : List (BitVec 64)} {j : Nat} (h : j < l.length) : (wl l)[j]? = some (wv (l[j]?.getD 0)) := by simp [wl, h]
theorem kl_append (a b : List UInt8) : kl (a ++ b) = kl a ++ kl b := by simp [kl]
theorem wl_append (a b : List (BitVec 64)) : wl (a ++ b) = wl a ++ wl b := by simp [wl]
end Go.Proofs.Ytccojcjgknlhdaa
