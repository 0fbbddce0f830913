/-
  The values of the walks: a byte, a word and a key as opaque values, and what Go's operations make of them.
-/
import Derived.WalkKit
import Derived.WalkSpells
import Derived.WalkLawsBesides
import Derived.Deep.MidRow
import Derived.Lib.Hide
import Derived.Test.YtccojcjgknlhdaaRows
import Derived.Test.YtccojcjgknlhdaaPlain
namespace Go.Proofs.Ytccojcjgknlhdaa

/-- A byte. -/
def bv (b : UInt8) : Value := .int .u8 (b.toNat : Int)
/-- A word of 64 bits. -/
def wv (x : BitVec 64) : Value := .int .u64 (x.toNat : Int)
/-- A number of Go's int that is not negative. -/
abbrev nv (n : Nat) : Value := .int .i64 (n : Int)
/-- A pair of words. -/
abbrev pv (p : BitVec 64 × BitVec 64) : Value := .agg #[wv p.1, wv p.2]
/-- The cells of a key, and the key. -/
def kl (k : List UInt8) : List Value := k.map bv
abbrev kv (k : List UInt8) : Value := .agg (kl k).toArray

theorem ofInt_toNat (x : BitVec 64) : BitVec.ofInt 64 (x.toNat : Int) = x := by
  rw [BitVec.ofInt_natCast, BitVec.ofNat_toNat, BitVec.setWidth_eq]
theorem ofInt_byte (b : UInt8) : BitVec.ofInt 8 (b.toNat : Int) = b.toBitVec := by
  rw [BitVec.ofInt_natCast, ← UInt8.toNat_toBitVec, BitVec.ofNat_toNat, BitVec.setWidth_eq]
theorem wrap_u64_int (n : Int) : IntKind.u64.wrap n = ((BitVec.ofInt 64 n).toNat : Int) := by
  rw [IntKind.wrap_u64, BitVec.toNat_ofInt]; omega
theorem wrap_u8_int (n : Int) : IntKind.u8.wrap n = ((BitVec.ofInt 8 n).toNat : Int) := by
  rw [IntKind.wrap_u8, BitVec.toNat_ofInt]; omega
theorem wv_ofInt (n : Int) : Value.int .u64 (IntKind.u64.wrap n) = wv (BitVec.ofInt 64 n) := by
  rw [wrap_u64_int]; rfl
theorem bv_ofInt (n : Int) : Value.int .u8 (IntKind.u8.wrap n) = bv ⟨BitVec.ofInt 8 n⟩ := by
  rw [wrap_u8_int]; rfl
theorem wv_of_bits (x : BitVec 64) : Value.int .u64 (IntKind.u64.wrap (x.toNat : Int)) = wv x := by
  rw [wv_ofInt, ofInt_toNat]
theorem bv_of_bits (x : BitVec 8) : Value.int .u8 (IntKind.u8.wrap (x.toNat : Int)) = bv ⟨x⟩ := by
  rw [bv_ofInt, BitVec.ofInt_natCast, BitVec.ofNat_toNat, BitVec.setWidth_eq]
theorem wv_inj {x y : BitVec 64} (h : wv x = wv y) : x = y := by
  simp only [wv, Value.int.injEq, Int.natCast_inj, true_and] at h
  exact BitVec.eq_of_toNat_eq h
theorem bv_inj {x y : UInt8} (h : bv x = bv y) : x = y := by
  simp only [bv, Value.int.injEq, Int.natCast_inj, true_and] at h
  exact UInt8.toNat_inj.1 h
theorem wv_zero : wv 0#64 = .int .u64 0 := rfl
theorem bv_zero : bv 0 = .int .u8 0 := rfl
theorem bv_oneCell (b : UInt8) : (bv b).oneCell' = true := rfl
theorem wv_oneCell (x : BitVec 64) : (wv x).oneCell' = true := rfl

section
variable (t : TypeId) (x y : BitVec 64) (a b : UInt8)

theorem op_xor : binOp .xor t (wv x) (wv y) = pure (wv (x ^^^ y)) := by
  have : binOp .xor t (wv x) (wv y) = pure (Value.int .u64 (IntKind.u64.wrap ((BitVec.ofInt 64 (x.toNat : Int) ^^^ BitVec.ofInt 64 (y.toNat : Int)).toNat : Int))) := rfl
  rw [this, ofInt_toNat, ofInt_toNat, wv_of_bits]
theorem op_or : binOp .or t (wv x) (wv y) = pure (wv (x ||| y)) := by
  have : binOp .or t (wv x) (wv y) = pure (Value.int .u64 (IntKind.u64.wrap ((BitVec.ofInt 64 (x.toNat : Int) ||| BitVec.ofInt 64 (y.toNat : Int)).toNat : Int))) := rfl
  rw [this, ofInt_toNat, ofInt_toNat, wv_of_bits]
theorem op_add : binOp .add t (wv x) (wv y) = pure (wv (x + y)) := by
  have : binOp .add t (wv x) (wv y) = pure (Value.int .u64 (IntKind.u64.wrap ((x.toNat : Int) + (y.toNat : Int)))) := rfl
  rw [this, wv_ofInt, BitVec.ofInt_add, ofInt_toNat, ofInt_toNat]
theorem op_sub : binOp .sub t (wv x) (wv y) = pure (wv (x - y)) := by
  have : binOp .sub t (wv x) (wv y) = pure (Value.int .u64 (IntKind.u64.wrap ((x.toNat : Int) - (y.toNat : Int)))) := rfl
  rw [this, wv_ofInt]
  congr 2
  apply BitVec.eq_of_toInt_eq
  rw [BitVec.toInt_ofInt, BitVec.toInt_sub, BitVec.toInt_eq_toNat_bmod, BitVec.toInt_eq_toNat_bmod]
  simp
theorem op_shl {k : IntKind} {n : Int} (h : 0 ≤ n) : binOp .shl t (wv x) (.int k n) = pure (wv (x <<< n.toNat)) := by
  have : binOp .shl t (wv x) (.int k n) = Op.shift .shl .u64 (x.toNat : Int) k n := rfl
  rw [this, shift_shl_any _ _ _ _ h, wv_ofInt]
  congr 2
  apply BitVec.eq_of_toNat_eq
  rw [BitVec.toNat_ofInt, BitVec.toNat_shiftLeft, Nat.shiftLeft_eq]
  have hb : IntKind.u64.bits = 64 := rfl
  rw [hb]
  by_cases hn : n.toNat ≤ 64
  · rw [Nat.min_eq_left hn]
    have e2 : (x.toNat : Int) * 2 ^ n.toNat = ((x.toNat * 2 ^ n.toNat : Nat) : Int) := by simp
    rw [e2]
    omega
  · have e1 : min n.toNat 64 = 64 := by omega
    rw [e1]
    obtain ⟨m, hm⟩ : ∃ m, n.toNat = 64 + m := ⟨n.toNat - 64, by omega⟩
    rw [hm, Nat.pow_add, ← Nat.mul_assoc, Nat.mul_right_comm, Nat.mul_mod_left]
    have : ((x.toNat : Int) * 2 ^ 64 % ((2 ^ 64 : Nat) : Int)) = 0 := by
      have : ((2 ^ 64 : Nat) : Int) = 2 ^ 64 := by simp
      rw [this]; exact Int.mul_emod_left _ _
    rw [this]; rfl
theorem op_shr {k : IntKind} {n : Int} (h : 0 ≤ n) : binOp .shr t (wv x) (.int k n) = pure (wv (x >>> n.toNat)) := by
  have : binOp .shr t (wv x) (.int k n) = Op.shift .shr .u64 (x.toNat : Int) k n := rfl
  rw [this, shift_shr_any _ _ _ _ h]
  unfold wv
  congr 2
  have hb : IntKind.u64.bits = 64 := rfl
  have e2 : (x.toNat : Int) / 2 ^ min n.toNat 64 = ((x.toNat / 2 ^ min n.toNat 64 : Nat) : Int) := by simp
  rw [hb, e2, BitVec.toNat_ushiftRight, Nat.shiftRight_eq_div_pow]
  congr 1
  by_cases hn : n.toNat ≤ 64
  · rw [Nat.min_eq_left hn]
  · have e1 : min n.toNat 64 = 64 := by omega
    have hx := x.isLt
    rw [e1, Nat.div_eq_of_lt hx, Nat.div_eq_of_lt]
    exact Nat.lt_of_lt_of_le hx (Nat.pow_le_pow_right (by decide) (by omega))
theorem op_mulc {n : Int} : binOp .mul t (.int .u64 n) (wv y) = pure (wv (BitVec.ofInt 64 n * y)) := by
  have : binOp .mul t (.int .u64 n) (wv y) = pure (Value.int .u64 (IntKind.u64.wrap (n * (y.toNat : Int)))) := rfl
  rw [this, wv_ofInt, BitVec.ofInt_mul, ofInt_toNat]
theorem op_rem (h : y ≠ 0) : binOp .rem t (wv x) (wv y) = pure (wv (x % y)) := by
  have : binOp .rem t (wv x) (wv y) = Op.intDiv .rem .u64 (x.toNat : Int) (y.toNat : Int) := rfl
  have hy : y.toNat ≠ 0 := fun e => h (BitVec.eq_of_toNat_eq (by simpa using e))
  rw [this]
  unfold Op.intDiv
  rw [if_neg (by omega)]
  simp only [wv, BitVec.toNat_umod]
  rw [Int.tmod_eq_emod_of_nonneg (by omega), Int.natCast_emod]
theorem op_remc : binOp .rem t (wv x) (.int .u64 256) = pure (wv (x % 256#64)) := op_rem t x 256#64 (by decide)
theorem op_quo (h : y ≠ 0) : binOp .quo t (wv x) (wv y) = pure (wv (x / y)) := by
  have : binOp .quo t (wv x) (wv y) = Op.intDiv .quo .u64 (x.toNat : Int) (y.toNat : Int) := rfl
  have hy : y.toNat ≠ 0 := fun e => h (BitVec.eq_of_toNat_eq (by simpa using e))
  rw [this]
  unfold Op.intDiv
  rw [if_neg (by omega)]
  simp only [wv_ofInt]
  congr 2
  rw [Int.tdiv_eq_ediv_of_nonneg (by omega), ← Int.natCast_ediv, BitVec.ofInt_natCast]
  apply BitVec.eq_of_toNat_eq
  rw [BitVec.toNat_ofNat, BitVec.toNat_udiv]
  exact Nat.mod_eq_of_lt (Nat.lt_of_le_of_lt (Nat.div_le_self _ _) x.isLt)
theorem op_quoc : binOp .quo t (wv x) (.int .u64 256) = pure (wv (x / 256#64)) := op_quo t x 256#64 (by decide)
theorem op_eql : binOp .eql t (wv x) (wv y) = pure (.bool (decide (x = y))) := by
  have : binOp .eql t (wv x) (wv y) = pure (.bool ((x.toNat : Int) == (y.toNat : Int))) := rfl
  rw [this]
  congr 2
  rw [Bool.eq_iff_iff, beq_iff_eq, decide_eq_true_eq, Int.natCast_inj]
  exact BitVec.toNat_inj
theorem op_eqlc : binOp .eql t (wv x) (.int .u64 0) = pure (.bool (decide (x = 0#64))) := op_eql t x 0#64
theorem op_lss : binOp .lss t (wv x) (wv y) = pure (.bool (decide (x < y))) := by
  have : binOp .lss t (wv x) (wv y) = pure (.bool (decide ((x.toNat : Int) < (y.toNat : Int)))) := rfl
  rw [this]
  congr 2
  rw [decide_eq_decide, BitVec.lt_def]
  omega

theorem op_bxor : binOp .xor t (bv a) (bv b) = pure (bv (a ^^^ b)) := by
  have : binOp .xor t (bv a) (bv b) = pure (Value.int .u8 (IntKind.u8.wrap ((BitVec.ofInt 8 (a.toNat : Int) ^^^ BitVec.ofInt 8 (b.toNat : Int)).toNat : Int))) := rfl
  rw [this, ofInt_byte, ofInt_byte, bv_of_bits]
  rfl
theorem op_beql : binOp .eql t (bv a) (bv b) = pure (.bool (decide (a = b))) := by
  have : binOp .eql t (bv a) (bv b) = pure (.bool ((a.toNat : Int) == (b.toNat : Int))) := rfl
  rw [this]
  congr 2
  rw [Bool.eq_iff_iff, beq_iff_eq, decide_eq_true_eq, Int.natCast_inj]
  exact UInt8.toNat_inj
end

section
variable {P : Program} (w : World)
theorem run_conv_wide {src dst : TypeId} (a : UInt8) (hs : (P.underlying src).isSome = true) (hd : P.underlying dst = some (.int .u64)) :
    (convert src dst (bv a)).run P w = .ok (wv (wide a)) w := by
  obtain ⟨d, hs'⟩ := Option.isSome_iff_exists.1 hs
  have h2 : Value.int .u64 (IntKind.u64.wrap (a.toNat : Int)) = wv (wide a) := by
    rw [wv_ofInt, wide, BitVec.ofInt_natCast, ← UInt8.toNat_toBitVec, BitVec.ofNat_toNat]
  unfold bv
  simp [convert, run_underlying hs', run_underlying hd, Conv.intToInt, h2]
theorem run_conv_low {src dst : TypeId} (x : BitVec 64) (hs : (P.underlying src).isSome = true) (hd : P.underlying dst = some (.int .u8)) :
    (convert src dst (wv x)).run P w = .ok (bv (low x)) w := by
  obtain ⟨d, hs'⟩ := Option.isSome_iff_exists.1 hs
  have h2 : Value.int .u8 (IntKind.u8.wrap (x.toNat : Int)) = bv (low x) := by
    rw [bv_ofInt, low, BitVec.ofInt_natCast, BitVec.ofNat_toNat]
  unfold wv
  simp [convert, run_underlying hs', run_underlying hd, Conv.intToInt, h2]
theorem run_conv_word {src dst : TypeId} {k : IntKind} (n : Int) (hs : (P.underlying src).isSome = true) (hd : P.underlying dst = some (.int .u64)) :
    (convert src dst (.int k n)).run P w = .ok (wv (BitVec.ofInt 64 n)) w := by
  obtain ⟨d, hs'⟩ := Option.isSome_iff_exists.1 hs
  simp [convert, run_underlying hs', run_underlying hd, Conv.intToInt, wv_ofInt]
theorem run_conv_byte {src dst : TypeId} {k : IntKind} (n : Int) (hs : (P.underlying src).isSome = true) (hd : P.underlying dst = some (.int .u8)) :
    (convert src dst (.int k n)).run P w = .ok (bv ⟨BitVec.ofInt 8 n⟩) w := by
  obtain ⟨d, hs'⟩ := Option.isSome_iff_exists.1 hs
  simp [convert, run_underlying hs', run_underlying hd, Conv.intToInt, bv_ofInt]
end

theorem cells_wv (x : BitVec 64) : Value.cells.match_1 (fun _ => Array Value) (wv x) (fun cs => cs) (fun v => #[v]) = #[wv x] := rfl
theorem cells_bv (x : UInt8) : Value.cells.match_1 (fun _ => Array Value) (bv x) (fun cs => cs) (fun v => #[v]) = #[bv x] := rfl
section
variable {P : Program} (w : World) (a : Addr) (m : Mode)
theorem run_store_wv (x : BitVec 64) : (store a (wv x) m).run P w = stored P w a (wv x) m := run_store P w a _ m rfl
theorem run_store_bv (x : UInt8) : (store a (bv x) m).run P w = stored P w a (bv x) m := run_store P w a _ m rfl
end
attribute [go_sem] op_xor op_or op_add op_sub op_shl op_shr op_mulc op_remc op_quoc op_eql op_eqlc op_lss op_bxor op_beql run_conv_wide run_conv_low
  bv_oneCell wv_oneCell cells_wv cells_bv run_store_wv run_store_bv

open Go.RowKit
theorem drawn {B : Nat} {w w' : World} (h : Below B w w') (n : Nat) : Below B w (w'.drewN n) := below_drewN h n

theorem cell_kl {w : World} {b t : Nat} {fr : Nat × Nat} {k : List UInt8} (hb : w.heap[b]? = some (.cells (kl k).toArray t fr)) {i : Nat} (hi : i < k.length) :
    w.cell? ⟨b, i, none⟩ = some (bv (k[i]?.getD 0)) := by
  simp [World.cell?, hb, kl, List.getElem?_eq_getElem hi]
theorem kl_length (k : List UInt8) : (kl k).length = k.length := by simp [kl]
theorem kl_size {k : List UInt8} (hk : k.length = 16) : (kl k).toArray.size = 16 := by simp [kl, hk]
theorem kl_one (k : List UInt8) : (kl k).toArray.all (·.oneCell') = true := by simp [kl, bv_oneCell]
theorem kl_set (k : List UInt8) (i : Nat) (b : UInt8) : (kl k).toArray.setIfInBounds i (bv b) = (kl (k.set i b)).toArray := by
  simp [kl, List.map_set]
theorem kl_zeros : (kl zeros).toArray = #[.int .u8 0, .int .u8 0, .int .u8 0, .int .u8 0, .int .u8 0, .int .u8 0, .int .u8 0, .int .u8 0, .int .u8 0, .int .u8 0, .int .u8 0, .int .u8 0, .int .u8 0, .int .u8 0, .int .u8 0, .int .u8 0] := rfl
theorem kl_inj {a b : List UInt8} (h : kl a = kl b) : a = b := by
  induction a generalizing b with
  | nil => cases b with
    | nil => rfl
    | cons y b => simp [kl] at h
  | cons x a ih => cases b with
    | nil => simp [kl] at h
    | cons y b =>
      simp only [kl, List.map_cons, List.cons.injEq] at h
      rw [bv_inj h.1, ih h.2]

theorem blk_alloc (w : World) (o : Obj) (i : Nat) : (w.alloc o).heap[i]? = if i = w.heap.size then some o else w.heap[i]? := by
  show (w.heap.push o)[i]? = _
  rw [Array.getElem?_push]
theorem blk_drew (w : World) (i : Nat) : (w.drew).heap[i]? = w.heap[i]? := rfl
theorem blk_drewN (w : World) (n i : Nat) : (w.drewN n).heap[i]? = w.heap[i]? := rfl
theorem blk_set {w : World} {g i : Nat} {cs : Array Value} {t : TypeId} {v : Value} (hg : w.heap[g]? = some (.cells cs t (0, 0))) : (w.setCell ⟨g, i, none⟩ v).heap[g]? = some (.cells (cs.setIfInBounds i v) t (0, 0)) := heap_setCell_same w g i cs t v hg
theorem blk_far {w : World} {g i k : Nat} {v : Value} (h : k ≠ g) : (w.setCell ⟨g, i, none⟩ v).heap[k]? = w.heap[k]? := heap_setCell_other w _ k v h
theorem size_set (w : World) (a : Addr) (v : Value) : (w.setCell a v).heap.size = w.heap.size := by simp [World.setCell]
theorem blk_row {w : World} {g : Nat} {cs old : Array Value} {t : TypeId} {fr : Nat × Nat} (hg : w.heap[g]? = some (.cells old t fr)) : (w.setRow g cs).heap[g]? = some (.cells cs t fr) := setRow_heap w g old cs t fr hg
theorem blk_rowfar {w : World} {g k : Nat} {cs : Array Value} (h : k ≠ g) : (w.setRow g cs).heap[k]? = w.heap[k]? := setRow_other w g k cs h
theorem below_row {B g : Nat} {a w : World} (h : Below B a w) (hg : B ≤ g) (cs : Array Value) : Below B a (w.setRow g cs) :=
  h.trans ⟨rfl, rfl, rfl, by simp [World.setRow], fun k hk => setRow_other w g k cs (by omega)⟩
/-- What is known of a block that lies whole: a cell, and that it may be written. -/
theorem cell_blk {w : World} {g i : Nat} {cs : Array Value} {t : TypeId} {v : Value} (hg : w.heap[g]? = some (.cells cs t (0, 0))) (h : cs[i]? = some v) : w.cell? ⟨g, i, none⟩ = some v := by
  simp [World.cell?, hg, h]
theorem free_blk {w : World} {g i : Nat} {cs : Array Value} {t : TypeId} (hg : w.heap[g]? = some (.cells cs t (0, 0))) : w.frozen? ⟨g, i, none⟩ = false := by
  simp [World.frozen?, hg]
theorem lt_blk {w : World} {g : Nat} {o : Obj} (hg : w.heap[g]? = some o) : g < w.heap.size := (Array.getElem?_eq_some_iff.1 hg).1

theorem blk_keep {w : World} {i : Nat} {o : Obj} (h : w.heap[i]? = some o) (o' : Obj) : (w.alloc o').heap[i]? = some o := by
  rw [blk_alloc, if_neg (Nat.ne_of_lt (lt_blk h))]; exact h
theorem blk_lives {w w' : World} {i : Nat} {o : Obj} (h : w.heap[i]? = some o) (hb : Below w.heap.size w w') : w'.heap[i]? = some o := by
  rw [hb.block _ (lt_blk h)]; exact h
theorem blk_last (w : World) (o : Obj) : (w.alloc o).heap[w.heap.size]? = some o := heap_alloc_new w o
theorem blk_last1 (w : World) (a o : Obj) : ((w.alloc a).alloc o).heap[w.heap.size + 1]? = some o := heap_alloc2_new w a o
theorem blk_last2 (w : World) (a b o : Obj) : (((w.alloc a).alloc b).alloc o).heap[w.heap.size + 1 + 1]? = some o := by
  have := heap_alloc2_new (w.alloc a) b o
  rwa [World.size_alloc] at this

theorem wv_nat {m : Nat} (h : m < 18446744073709551616) : Value.int .u64 (m : Int) = wv (BitVec.ofNat 64 m) := by
  unfold wv
  rw [BitVec.toNat_ofNat, Nat.mod_eq_of_lt h]
theorem info23 : (Try.prog.info? 23).map (·.size) = some 16 := by kernel_rfl
/-- A whole key is read. -/
theorem wl_load {ops : Array Oper} {rest : List Oper} {o : Oper} {a : Act} {w : World} {Q : Exit → Act → World → Prop} (g : Nat) (k : List UInt8) (hk : k.length = 16) (x : Operand) (hgd : o.guard = none) (ho : o.op = .load 23 x)
    (hx : a.eval x = .pointer (some ⟨g, 0, none⟩)) {t : TypeId} {fr : Nat × Nat} (hg : w.heap[g]? = some (.cells (kl k).toArray t fr))
    (h : wpList Try.prog ops Q rest (a.put o.dst (kv k)) w) : wpList Try.prog ops Q (o :: rest) a w :=
  wpList_load_row hgd 23 x ho g hx t _ fr _ hg Try.underlying23 rfl (by rw [kl_size hk]; exact info23) h
/-- A whole key is stored into a block of the call's own. -/
theorem wl_store {ops : Array Oper} {rest : List Oper} {o : Oper} {a : Act} {w : World} {Q : Exit → Act → World → Prop} (g : Nat) (k : List UInt8) (hk : k.length = 16) (x y : Operand) (hgd : o.guard = none) (ho : o.op = .store 23 x y)
    (hx : a.eval x = .pointer (some ⟨g, 0, none⟩)) (hy : a.eval y = kv k) {t : TypeId} {old : Array Value} (hg : w.heap[g]? = some (.cells old t (0, 0))) (hold : old.size = 16)
    (h : wpList Try.prog ops Q rest (a.put o.dst undef) (w.setRow g (kl k).toArray)) : wpList Try.prog ops Q (o :: rest) a w :=
  wpList_store_row hgd 23 x y ho g _ hx hy t old hg (by rw [kl_size hk]; exact info23) (by rw [kl_size hk]; exact hold) (kl_one k) h
/-- A key as a result in a cell of its own. -/
theorem res_key {fn : Func} {p : Tmp} (h : fn.results = #[.cell p 23]) (tmps : Array Value) (w : World) (g : Nat) (k : List UInt8) (hk : k.length = 16) {t : TypeId} {fr : Nat × Nat}
    (hp : tmps.getD p undef = .pointer (some ⟨g, 0, none⟩)) (hg : w.heap[g]? = some (.cells (kl k).toArray t fr)) : (results fn tmps).run Try.prog w = .ok (kv k) w :=
  results_cell_row h tmps w g t _ fr _ hp hg Try.underlying23 rfl (by rw [kl_size hk]; exact info23)
/-- A list of words as cells. -/
def wl (l : List (BitVec 64)) : List Value := l.map wv
theorem wl_length (l : List (BitVec 64)) : (wl l).length = l.length := by simp [wl]
theorem wl_set (l : List (BitVec 64)) (i : Nat) (x : BitVec 64) : (wl l).toArray.setIfInBounds i (wv x) = (wl (l.set i x)).toArray := by simp [wl, List.map_set]
theorem cell_wl {w : World} {b t : Nat} {fr : Nat × Nat} {l : List (BitVec 64)} {i : Nat} {x : BitVec 64} (hb : w.heap[b]? = some (.cells (wl l).toArray t fr)) (hi : l[i]? = some x) :
    w.cell? ⟨b, i, none⟩ = some (wv x) := by
  simp [World.cell?, hb, wl, hi]
end Go.Proofs.Ytccojcjgknlhdaa
