/-
  Texts 1: strings, the digits, what a text says.
-/
import Derived.Test.YtccojcjgknlhdaaL1
import Derived.Laws.Externs
import Derived.Lib.Bytealg
import Derived.Laws.BytesArg
import Derived.Laws.IdiomStrings
namespace Go.Proofs.Ytccojcjgknlhdaa
open Go.RowKit

/-- A number of Go's int, opaque. -/
def iv (n : Int) : Value := .int .i64 n
/-- A string, by its bytes. -/
abbrev sv (l : List UInt8) : Value := .string ⟨l.toArray⟩
/-- Where a digit stands; -1 where it is none. -/
def pos (c : UInt8) : Int := if val c < 16 then (val c : Int) else -1
theorem indexByte_idx (c : UInt8) : ∀ l : List UInt8, Lib.indexByte l c = if l.idxOf c < l.length then (l.idxOf c : Int) else -1
  | [] => by simp [Lib.indexByte]
  | b :: l => by
    unfold Lib.indexByte
    by_cases h : b = c
    · subst h; simp
    · have hb : (b == c) = false := by simpa using h
      rw [hb, indexByte_idx c l, List.idxOf_cons, hb]
      by_cases h2 : l.idxOf c < l.length
      · have h3 : ¬ ((l.idxOf c : Int) = -1) := by omega
        simp [h2, h3]
      · simp [h2]

set_option maxHeartbeats 400000 in
theorem index71 (c : UInt8) (w : World) : (callFunc 71 #[.string ⟨#[48, 49, 50, 51, 52, 53, 54, 55, 56, 57, 97, 98, 99, 100, 101, 102]⟩, bv c]).run Try.prog w = .ok (.value (iv (pos c))) w := by
  rw [run_callFunc_extern Try.func71 (by kernel_rfl) (by kernel_rfl) (by kernel_rfl) (e := Extern.BytealgIndexByte.indexByte) (by kernel_rfl)]
  unfold bv
  rw [Lib.run_indexByteString, indexByte_idx]
  simp only [Result.andThen]
  have h : ((c.toNat : Int)).toNat.toUInt8 = c := by simp
  rw [h]
  rfl
set_option maxHeartbeats 400000 in
theorem index65 (c : UInt8) (w : World) : Calls Try.prog 65 #[.string ⟨#[48, 49, 50, 51, 52, 53, 54, 55, 56, 57, 97, 98, 99, 100, 101, 102]⟩, bv c] w fun e w' => e = .returned (iv (pos c)) ∧ w' = w := by
  have h := index71 c
  go_enter Try.func65, Try.ntmps65
  go_wp2
  go_ret
  exact ⟨rfl, rfl⟩
set_option maxHeartbeats 400000 in
theorem index41 (c : UInt8) (w : World) : Calls Try.prog 41 #[.string ⟨#[48, 49, 50, 51, 52, 53, 54, 55, 56, 57, 97, 98, 99, 100, 101, 102]⟩, bv c] w fun e w' => e = .returned (iv (pos c)) ∧ w' = w := by
  go_enter Try.func41, Try.ntmps41
  go_wp2_with (go_at_call 65; refine (index65 c _).mono ?_; rintro e w1 ⟨rfl, rfl⟩)
  go_ret
  exact ⟨rfl, rfl⟩

theorem run_index_sv (s : ByteArray) (k : IntKind) (i : Int) (b : UInt8) (h0 : 0 ≤ i) (hi : s.data.toList[i.toNat]? = some b) (w : World) : (Instr.index 9 (.string s) (.int k i)).run Try.prog w = .ok (bv b) w := by
  have h1 : i.toNat < s.data.toList.length := (List.getElem?_eq_some_iff.1 hi).1
  have h2 : i < s.size := by
    have : s.size = s.data.toList.length := by rw [Array.length_toList]; rfl
    omega
  rw [run_index_string w 9 s k i Try.underlying9, dif_pos ⟨h0, h2⟩]
  have h3 : s[i.toNat]'(by omega) = b := (List.getElem?_eq_some_iff.1 hi).2
  rw [h3]; rfl
/-- A byte of a string, in a plain region. -/
theorem wl_index {ops : Array Oper} {rest : List Oper} {o : Oper} {a : Act} {w : World} {Q : Exit → Act → World → Prop} (s : ByteArray) (k : IntKind) (i : Int) (b : UInt8) (x y : Operand) (hgd : o.guard = none) (ho : o.op = .index 9 x y)
    (hx : a.eval x = .string s) (hy : a.eval y = .int k i) (h0 : 0 ≤ i) (hi : s.data.toList[i.toNat]? = some b)
    (h : wpList Try.prog ops Q rest (a.put o.dst (bv b)) w) : wpList Try.prog ops Q (o :: rest) a w := by
  refine wpList_plain hgd fun K hK => ?_
  unfold Oper.wp execOp
  simp only [ho, hx, hy, Sem.run_bind, Sem.run_pure, Result.andThen_ok, run_index_sv s k i b h0 hi]
  exact hK _ _ h
/-- A byte of a string, in a quiet head. -/
theorem quiet_index {a : Act} {o : Oper} {C : World → Prop} {K : Act → Prop} (s : ByteArray) (k : IntKind) (i : Int) (b : UInt8) (x y : Operand) (ho : o.op = .index 9 x y)
    (hx : a.eval x = .string s) (hy : a.eval y = .int k i) (h0 : 0 ≤ i) (hi : s.data.toList[i.toNat]? = some b) (h : K (a.put o.dst (bv b))) : o.quiet Try.prog a C K := by
  refine ⟨bv b, ?_, h⟩
  intro w _
  unfold Oper.quietAt execOp
  simp only [ho, hx, hy, Sem.run_bind, Sem.run_pure, Result.andThen_ok, run_index_sv s k i b h0 hi]
  exact ⟨rfl, rfl⟩

theorem val_eq (c : UInt8) (n : Nat) (hn : n < 16) (he : dig n = c) : val c = n := by
  have key : ∀ n : Fin 16, digits.idxOf (dig n) = n := by decide
  rw [← he]
  exact key ⟨n, hn⟩
theorem val_dig (n : Nat) (hn : n < 16) : val (dig n) = n := by
  have key : ∀ n : Fin 16, digits.idxOf (dig n) = n := by decide
  exact key ⟨n, hn⟩
theorem val_none (c : UInt8) (h : ∀ j, j < 16 → dig j ≠ c) : val c = 16 := by
  have hl : digits.length = 16 := rfl
  rcases Nat.lt_or_ge (digits.idxOf c) 16 with hlt | hge
  · have h1 := List.getElem_idxOf (xs := digits) (x := c) (by rw [hl]; exact hlt)
    refine absurd ?_ (h _ hlt)
    rw [dig, List.getD_eq_getElem?_getD, List.getElem?_eq_getElem (by rw [hl]; exact hlt)]
    exact h1
  · have := List.idxOf_le_length (a := c) (l := digits)
    unfold val; omega
theorem dig_get (n : Nat) (hn : n < 16) : ([48, 49, 50, 51, 52, 53, 54, 55, 56, 57, 97, 98, 99, 100, 101, 102] : List UInt8)[n]? = some (dig n) := by
  have key : ∀ n : Fin 16, ([48, 49, 50, 51, 52, 53, 54, 55, 56, 57, 97, 98, 99, 100, 101, 102] : List UInt8)[n.val]? = some (dig n) := by decide
  exact key ⟨n, hn⟩

set_option maxHeartbeats 1000000 in
theorem digit_any (c : UInt8) (w : World) : Calls Try.prog 42 #[bv c] w fun e w' => e = .returned (iv (val c)) ∧ w' = w := by
  go_enter Try.func42, Try.ntmps42
  go_wp2
  go_loopw [3] (fun i wr => ∃ n : Nat, n ≤ 16 ∧ i = .int .i64 n ∧ (∀ j, j < n → dig j ≠ c) ∧ wr = w) (fun i _ => 16 - (intOf i).toNat)
  case atStart => exact ⟨0, by omega, rfl, fun j hj => absurd hj (Nat.not_lt_zero _), rfl⟩
  case round =>
    obtain ⟨n, hn, rfl, hne, rfl⟩ := hrel
    have HN := Lib.hid hne
    clear hne
    by_cases hlt : n < 16
    · have hn0 : (0 : Int) ≤ n := by omega
      have hn1 : (n : Int) < 16 := by omega
      by_cases he : dig n = c
      · have hd : decide (dig n = c) = true := decide_eq_true he
        have hv := val_eq c n hlt he
        have HV := Lib.hid hv; have HE := Lib.hid he
        clear he hv
        go_wp2_with (refine wl_index ⟨#[48, 49, 50, 51, 52, 53, 54, 55, 56, 57, 97, 98, 99, 100, 101, 102]⟩ .i64 (n : Int) (dig n) _ _ rfl rfl rfl rfl hn0 (dig_get n hlt) ?_)
        go_ret
        rw [HV.out]
        exact ⟨rfl, rfl⟩
      · have hd : decide (dig n = c) = false := decide_eq_false he
        have HE := Lib.hid he
        clear he
        go_wp2_with (refine wl_index ⟨#[48, 49, 50, 51, 52, 53, 54, 55, 56, 57, 97, 98, 99, 100, 101, 102]⟩ .i64 (n : Int) (dig n) _ _ rfl rfl rfl rfl hn0 (dig_get n hlt) ?_)
        go_roundw
        case rel =>
          refine ⟨n + 1, by omega, by go_num, fun j hj => ?_, trivial⟩
          by_cases hjn : j = n
          · subst hjn; exact HE.out
          · exact HN.out j (by omega)
        case measure => simp [intOf]; omega
    · obtain rfl : n = 16 := by omega
      have hv := val_none c HN.out
      have HV := Lib.hid hv
      clear hv
      go_wp2
      go_ret
      rw [HV.out]
      exact ⟨rfl, rfl⟩

/-- A tuple of a key in a cell of its own and a number in a slot. -/
theorem res_key2 {fn : Func} {p q : Tmp} (h : fn.results = #[.cell p 23, .tmp q]) (tmps : Array Value) (w : World) (g : Nat) (k : List UInt8) (hk : k.length = 16) (v : Value) {t : TypeId} {fr : Nat × Nat}
    (hp : tmps.getD p undef = .pointer (some ⟨g, 0, none⟩)) (hq : tmps.getD q undef = v) (hg : w.heap[g]? = some (.cells (kl k).toArray t fr)) : (results fn tmps).run Try.prog w = .ok (.tuple #[kv k, v]) w := by
  have hp' : tmps[p]?.getD undef = .pointer (some ⟨g, 0, none⟩) := by simpa using hp
  have hq' : tmps[q]?.getD undef = v := by simpa using hq
  simp [results, h, hp', hq', asAddr, run_loadVar_row (P := Try.prog) w g t 23 (kl k).toArray fr _ hg Try.underlying23 rfl (by rw [kl_size hk]; exact info23)]

def parseTo (l : List UInt8) : Nat → List UInt8
  | 0 => zeros
  | n + 1 => (parseTo l n).set n (parseAt l n)
theorem parseTo_length (l : List UInt8) (n : Nat) : (parseTo l n).length = 16 := by
  induction n with
  | zero => rfl
  | succ n ih => simp [parseTo, ih]
theorem parseTo_all (l : List UInt8) : parseTo l 16 = parseOf l := rfl
def parseR (l : List UInt8) : List UInt8 := if isText l then parseOf l else zeros
def parseE (l : List UInt8) : Value := if isText l then .int .i64 0 else .int .i64 12
@[simp] theorem parseR_length (l : List UInt8) : (parseR l).length = 16 := by unfold parseR; split <;> simp
theorem isText_short {l : List UInt8} (h : l.length ≠ 32) : isText l = false := by simp [isText, h]
theorem isText_bad {l : List UInt8} {j : Nat} {c : UInt8} (h : l[j]? = some c) (hc : ¬ val c < 16) : isText l = false := by
  have hm : c ∈ l := List.mem_of_getElem? h
  simp only [isText, Bool.and_eq_false_iff]
  refine .inr ?_
  rw [List.all_eq_false]
  exact ⟨c, hm, by simpa using hc⟩
/-- All digits before a place are digits. -/
def GoodTo (l : List UInt8) (n : Nat) : Prop := ∀ j c, j < n → l[j]? = some c → val c < 16
theorem isText_good {l : List UInt8} (hl : l.length = 32) (h : GoodTo l 32) : isText l = true := by
  simp only [isText, hl, beq_self_eq_true, Bool.true_and, List.all_eq_true, decide_eq_true_eq]
  intro c hc
  obtain ⟨j, hj, rfl⟩ := List.getElem_of_mem hc
  exact h j _ (by omega) (List.getElem?_eq_getElem hj)
theorem GoodTo.step {l : List UInt8} {n : Nat} {c d : UInt8} (h : GoodTo l (2 * n)) (hc : l[2 * n]? = some c) (hd : l[2 * n + 1]? = some d) (vc : val c < 16) (vd : val d < 16) : GoodTo l (2 * (n + 1)) := by
  intro j x hj hx
  by_cases h1 : j < 2 * n
  · exact h j x h1 hx
  · by_cases h2 : j = 2 * n
    · subst h2; rw [hc] at hx; cases hx; exact vc
    · obtain rfl : j = 2 * n + 1 := by omega
      rw [hd] at hx; cases hx; exact vd

theorem nib_or : ∀ v u : Fin 16, bits .or .i64 (16 * (v.val : Int)) (u.val : Int) = 16 * (v.val : Int) + (u.val : Int) := by decide +kernel
theorem iv_lt (n : Int) : binOp .lss 3 (iv n) (.int .i64 0) = pure (.bool (decide (n < 0))) := rfl
theorem iv_shl (v : Nat) (hv : v < 16) : binOp .shl 3 (iv v) (.int .u64 4) = pure (iv (16 * v)) := by
  have : binOp .shl 3 (iv v) (.int .u64 4) = Op.shift .shl .i64 (v : Int) .u64 4 := rfl
  rw [this, shift_shl_any _ _ _ _ (by decide)]
  have h2 : min (4 : Int).toNat IntKind.i64.bits = 4 := by decide
  rw [h2, IntWalk.i64_in _ (by omega), iv, Int.mul_comm]
  rfl
theorem iv_or (v u : Nat) (hv : v < 16) (hu : u < 16) : binOp .or 3 (iv (16 * v)) (iv u) = pure (iv (16 * v + u)) := by
  have : binOp .or 3 (iv (16 * v)) (iv u) = pure (.int .i64 (bits .or .i64 (16 * (v : Int)) (u : Int))) := rfl
  rw [this, nib_or ⟨v, hv⟩ ⟨u, hu⟩]; rfl
theorem iv_byte (n : Nat) (w : World) : (convert 3 5 (iv n)).run Try.prog w = .ok (bv (UInt8.ofNat n)) w := by
  unfold iv
  rw [run_conv_byte w _ rfl rfl, BitVec.ofInt_natCast]
  rfl

end Go.Proofs.Ytccojcjgknlhdaa
