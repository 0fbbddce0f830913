/-
  The published key, block and encryption; known.
-/
import Derived.Test.YtccojcjgknlhdaaH3
namespace Go.Proofs.Ytccojcjgknlhdaa
open Go.RowKit
attribute [local go_sem] fold_zeros

theorem setRow_same {w : World} {g : Nat} {cs : Array Value} {t : TypeId} {fr : Nat × Nat} (hg : w.heap[g]? = some (.cells cs t fr)) : w.setRow g cs = w := by
  have h : (w.setRow g cs).heap = w.heap := by
    apply Array.ext_getElem?
    intro i
    by_cases h : i = g
    · subst h; rw [setRow_heap w i cs cs t fr hg, hg]
    · exact setRow_other w g i cs h
  have e : w.setRow g cs = { w with heap := (w.setRow g cs).heap } := rfl
  rw [e, h]
/-- A whole key stored where it lies already, in whatever later world. -/
theorem quiet_store {a : Act} {o : Oper} {w : World} {K : Act → Prop} (g : Nat) (k : List UInt8) (hk : k.length = 16) (x y : Operand) (ho : o.op = .store 23 x y) (hx : a.eval x = .pointer (some ⟨g, 0, none⟩)) (hy : a.eval y = kv k) {t : TypeId}
    (hg : w.heap[g]? = some (.cells (kl k).toArray t (0, 0))) (h : K (a.put o.dst undef)) : o.quiet Try.prog a (LaterC w) K := by
  refine ⟨undef, ?_, h⟩
  rintro _ ⟨e, rfl⟩
  unfold Oper.quietAt execOp
  simp only [ho, hx, hy, Instr.storeAt, Instr.sureAddr, Sem.run_bind, Sem.run_pure, Result.andThen_ok, run_storeVar_row (P := Try.prog) e.at g t 23 _ (kl k).toArray (e.blk hg) (by rw [kl_size hk]; exact info23) rfl (kl_one k), setRow_same (e.blk hg)]
  exact ⟨rfl, rfl⟩
/-- Three keys in cells of their own and a Bool. -/
theorem res_known {fn : Func} {p0 p1 p2 q : Tmp} (h : fn.results = #[.cell p0 23, .cell p1 23, .cell p2 23, .tmp q]) (tmps : Array Value) (w : World) (g0 g1 g2 : Nat) (k0 k1 k2 : List UInt8) (hk0 : k0.length = 16) (hk1 : k1.length = 16) (hk2 : k2.length = 16) (v : Value) {t0 t1 t2 : TypeId}
    (hp0 : tmps.getD p0 undef = .pointer (some ⟨g0, 0, none⟩)) (hp1 : tmps.getD p1 undef = .pointer (some ⟨g1, 0, none⟩)) (hp2 : tmps.getD p2 undef = .pointer (some ⟨g2, 0, none⟩)) (hq : tmps.getD q undef = v)
    (hg0 : w.heap[g0]? = some (.cells (kl k0).toArray t0 (0, 0))) (hg1 : w.heap[g1]? = some (.cells (kl k1).toArray t1 (0, 0))) (hg2 : w.heap[g2]? = some (.cells (kl k2).toArray t2 (0, 0))) :
    (results fn tmps).run Try.prog w = .ok (.tuple #[kv k0, kv k1, kv k2, v]) w := by
  have hp0' : tmps[p0]?.getD undef = .pointer (some ⟨g0, 0, none⟩) := by simpa using hp0
  have hp1' : tmps[p1]?.getD undef = .pointer (some ⟨g1, 0, none⟩) := by simpa using hp1
  have hp2' : tmps[p2]?.getD undef = .pointer (some ⟨g2, 0, none⟩) := by simpa using hp2
  have hq' : tmps[q]?.getD undef = v := by simpa using hq
  simp [results, h, hp0', hp1', hp2', hq', asAddr, run_loadVar_row (P := Try.prog) w g0 t0 23 (kl k0).toArray (0, 0) _ hg0 Try.underlying23 rfl (by rw [kl_size hk0]; exact info23),
    run_loadVar_row (P := Try.prog) w g1 t1 23 (kl k1).toArray (0, 0) _ hg1 Try.underlying23 rfl (by rw [kl_size hk1]; exact info23), run_loadVar_row (P := Try.prog) w g2 t2 23 (kl k2).toArray (0, 0) _ hg2 Try.underlying23 rfl (by rw [kl_size hk2]; exact info23)]

/-- The published key, block and encryption. -/
def pubK : List UInt8 := [0x0f, 0x0e, 0x0d, 0x0c, 0x0b, 0x0a, 0x09, 0x08, 0x07, 0x06, 0x05, 0x04, 0x03, 0x02, 0x01, 0x00]
def pubB : List UInt8 := [0x6c, 0x61, 0x76, 0x69, 0x75, 0x71, 0x65, 0x20, 0x74, 0x69, 0x20, 0x65, 0x64, 0x61, 0x6d, 0x20]
def pubC : List UInt8 := [0xa6, 0x5d, 0x98, 0x51, 0x79, 0x78, 0x32, 0x65, 0x78, 0x60, 0xfe, 0xdf, 0x5c, 0x57, 0x0d, 0x18]
theorem pubK_length : pubK.length = 16 := rfl
theorem pubB_length : pubB.length = 16 := rfl
theorem pubC_length : pubC.length = 16 := rfl
def txtK : List UInt8 := [48, 102, 48, 101, 48, 100, 48, 99, 48, 98, 48, 97, 48, 57, 48, 56, 48, 55, 48, 54, 48, 53, 48, 52, 48, 51, 48, 50, 48, 49, 48, 48]
def txtB : List UInt8 := [54, 99, 54, 49, 55, 54, 54, 57, 55, 53, 55, 49, 54, 53, 50, 48, 55, 52, 54, 57, 50, 48, 54, 53, 54, 52, 54, 49, 54, 100, 50, 48]
def txtC : List UInt8 := [97, 54, 53, 100, 57, 56, 53, 49, 55, 57, 55, 56, 51, 50, 54, 53, 55, 56, 54, 48, 102, 101, 100, 102, 53, 99, 53, 55, 48, 100, 49, 56]
theorem parse_pubK : parseR txtK = pubK ∧ parseE txtK = .int .i64 0 := ⟨by decide +kernel, rfl⟩
theorem parse_pubB : parseR txtB = pubB ∧ parseE txtB = .int .i64 0 := ⟨by decide +kernel, rfl⟩
theorem parse_pubC : parseR txtC = pubC ∧ parseE txtC = .int .i64 0 := ⟨by decide +kernel, rfl⟩
theorem enc_pub : enc pubK pubB = pubC := by decide +kernel
theorem dec_pub : dec pubK pubC = pubB := by decide +kernel
theorem text_pub : textOf pubK = txtK := by decide +kernel
theorem derive_pub : derive pubK 7 258#64 = enc pubK [7, 0, 0, 0, 0, 0, 0, 0, 0, 0, 0, 0, 0, 0, 1, 2] := by decide +kernel

set_option maxHeartbeats 2000000 in
theorem known_any (w : World) : Calls Try.prog 39 #[] w fun e w' => e = .returned (.tuple #[kv pubK, kv pubB, kv pubC, .bool true]) ∧ Below w.heap.size w w' := by
  have hP := fun s w => parse_any s w
  have c1 := fun w => parse_any ⟨#[48, 102, 48, 101, 48, 100, 48, 99, 48, 98, 48, 97, 48, 57, 48, 56, 48, 55, 48, 54, 48, 53, 48, 52, 48, 51, 48, 50, 48, 49, 48, 48]⟩ w
  have c2 := fun w => parse_any ⟨#[54, 99, 54, 49, 55, 54, 54, 57, 55, 53, 55, 49, 54, 53, 50, 48, 55, 52, 54, 57, 50, 48, 54, 53, 54, 52, 54, 49, 54, 100, 50, 48]⟩ w
  have c3 := fun w => parse_any ⟨#[97, 54, 53, 100, 57, 56, 53, 49, 55, 57, 55, 56, 51, 50, 54, 53, 55, 56, 54, 48, 102, 101, 100, 102, 53, 99, 53, 55, 48, 100, 49, 56]⟩ w
  have e1 : parseR txtK = pubK := parse_pubK.1
  have e2 : parseR txtB = pubB := parse_pubB.1
  have e3 : parseR txtC = pubC := parse_pubC.1
  have x1 : parseE txtK = .int .i64 0 := parse_pubK.2
  have x2 : parseE txtB = .int .i64 0 := parse_pubB.2
  have x3 : parseE txtC = .int .i64 0 := parse_pubC.2
  change ∀ w, Calls Try.prog 19 _ w fun e w' => e = .returned (.tuple #[kv (parseR txtK), parseE txtK]) ∧ Below w.heap.size w w' at c1
  change ∀ w, Calls Try.prog 19 _ w fun e w' => e = .returned (.tuple #[kv (parseR txtB), parseE txtB]) ∧ Below w.heap.size w w' at c2
  change ∀ w, Calls Try.prog 19 _ w fun e w' => e = .returned (.tuple #[kv (parseR txtC), parseE txtC]) ∧ Below w.heap.size w w' at c3
  rw [e1, x1] at c1
  rw [e2, x2] at c2
  rw [e3, x3] at c3
  have C1 := Lib.hid c1; have C2 := Lib.hid c2; have C3 := Lib.hid c3
  clear hP c1 c2 c3 e1 e2 e3 x1 x2 x3
  have h0 : (((w.alloc (.cells (kl zeros).toArray 23)).alloc (.cells (kl zeros).toArray 23)).alloc (.cells (kl zeros).toArray 23)).heap[w.heap.size]? = some (.cells (kl zeros).toArray 23 (0, 0)) := blk_keep (blk_keep (blk_last _ _) _) _
  have h1 : (((w.alloc (.cells (kl zeros).toArray 23)).alloc (.cells (kl zeros).toArray 23)).alloc (.cells (kl zeros).toArray 23)).heap[w.heap.size + 1]? = some (.cells (kl zeros).toArray 23 (0, 0)) := blk_keep (blk_last1 _ _ _) _
  have h2 : (((w.alloc (.cells (kl zeros).toArray 23)).alloc (.cells (kl zeros).toArray 23)).alloc (.cells (kl zeros).toArray 23)).heap[w.heap.size + 1 + 1]? = some (.cells (kl zeros).toArray 23 (0, 0)) := blk_last2 _ _ _ _
  have hb : Below w.heap.size w (((w.alloc (.cells (kl zeros).toArray 23)).alloc (.cells (kl zeros).toArray 23)).alloc (.cells (kl zeros).toArray 23)) := aft_alloc (aft_alloc (below_alloc _ _) _) _
  have H0 := Lib.hid h0; have H1 := Lib.hid h1; have H2 := Lib.hid h2; have HB := Lib.hid hb
  clear h0 h1 h2 hb
  go_enter Try.func39, Try.ntmps39
  go_wp2_with (first
    | (fail_if_success (have hh := HB1.out)
       go_at_call 19; refine (C1.out _).mono ?_; rintro e w1 ⟨rfl, hb1⟩; have HB1 := Lib.hid hb1; clear hb1)
    | (fail_if_success (have hh := HB2.out)
       go_at_call 19; refine (C2.out _).mono ?_; rintro e w2 ⟨rfl, hb2⟩; have HB2 := Lib.hid hb2; clear hb2)
    | (go_at_call 19; refine (C3.out _).mono ?_; rintro e w3 ⟨rfl, hb3⟩; have HB3 := Lib.hid hb3; clear hb3)
    | (refine wl_store w.heap.size pubK pubK_length _ _ rfl rfl rfl rfl (blk_lives H0.out HB1.out) rfl ?_
       have q0 := blk_row (cs := (kl pubK).toArray) (blk_lives H0.out HB1.out)
       have q1 : (w1.setRow w.heap.size (kl pubK).toArray).heap[w.heap.size + 1]? = some (.cells (kl zeros).toArray 23 (0, 0)) := by rw [blk_rowfar (by omega)]; exact blk_lives H1.out HB1.out
       have q2 : (w1.setRow w.heap.size (kl pubK).toArray).heap[w.heap.size + 1 + 1]? = some (.cells (kl zeros).toArray 23 (0, 0)) := by rw [blk_rowfar (by omega)]; exact blk_lives H2.out HB1.out
       have q3 := below_row (aft HB.out HB1.out) (Nat.le_refl _) (kl pubK).toArray
       have Q0 := Lib.hid q0; have Q1 := Lib.hid q1; have Q2 := Lib.hid q2; have Q3 := Lib.hid q3; clear q0 q1 q2 q3)
    | (refine wl_store (w.heap.size + 1) pubB pubB_length _ _ rfl rfl rfl rfl (blk_lives Q1.out HB2.out) rfl ?_
       have q0 : (w2.setRow (w.heap.size + 1) (kl pubB).toArray).heap[w.heap.size]? = some (.cells (kl pubK).toArray 23 (0, 0)) := by rw [blk_rowfar (by omega)]; exact blk_lives Q0.out HB2.out
       have q1 := blk_row (cs := (kl pubB).toArray) (blk_lives Q1.out HB2.out)
       have q2 : (w2.setRow (w.heap.size + 1) (kl pubB).toArray).heap[w.heap.size + 1 + 1]? = some (.cells (kl zeros).toArray 23 (0, 0)) := by rw [blk_rowfar (by omega)]; exact blk_lives Q2.out HB2.out
       have q3 := below_row (aft Q3.out HB2.out) (Nat.le_succ _) (kl pubB).toArray
       have R0 := Lib.hid q0; have R1 := Lib.hid q1; have R2 := Lib.hid q2; have R3 := Lib.hid q3; clear q0 q1 q2 q3)
    | (refine wl_store (w.heap.size + 1 + 1) pubC pubC_length _ _ rfl rfl rfl rfl (blk_lives R2.out HB3.out) rfl ?_))
  have q0 : (w3.setRow (w.heap.size + 1 + 1) (kl pubC).toArray).heap[w.heap.size]? = some (.cells (kl pubK).toArray 23 (0, 0)) := by rw [blk_rowfar (by omega)]; exact blk_lives R0.out HB3.out
  have q1 : (w3.setRow (w.heap.size + 1 + 1) (kl pubC).toArray).heap[w.heap.size + 1]? = some (.cells (kl pubB).toArray 23 (0, 0)) := by rw [blk_rowfar (by omega)]; exact blk_lives R1.out HB3.out
  have q2 := blk_row (cs := (kl pubC).toArray) (blk_lives R2.out HB3.out)
  have q3 := below_row (aft R3.out HB3.out) (show w.heap.size ≤ w.heap.size + 1 + 1 by omega) (kl pubC).toArray
  generalize w3.setRow (w.heap.size + 1 + 1) (kl pubC).toArray = W at *
  have S0 := Lib.hid q0; have S1 := Lib.hid q1; have S2 := Lib.hid q2; have S3 := Lib.hid q3
  clear q0 q1 q2 q3
  refine wp_quiet_all (LaterC W) (by kernel_rfl) (by kernel_rfl) (later_drew _) ?_
  repeat (first
    | (refine BigFrame.wpQuiet_want rfl (fun K hK => quiet_load w.heap.size pubK pubK_length _ rfl rfl S0.out (hK _ ?_)); simp only [Act.put, List.setIfInBounds_toArray, List.set_cons_succ, List.set_cons_zero])
    | (refine BigFrame.wpQuiet_want rfl (fun K hK => quiet_load (w.heap.size + 1) pubB pubB_length _ rfl rfl S1.out (hK _ ?_)); simp only [Act.put, List.setIfInBounds_toArray, List.set_cons_succ, List.set_cons_zero])
    | (refine BigFrame.wpQuiet_want rfl (fun K hK => quiet_load (w.heap.size + 1 + 1) pubC pubC_length _ rfl rfl S2.out (hK _ ?_)); simp only [Act.put, List.setIfInBounds_toArray, List.set_cons_succ, List.set_cons_zero])
    | (refine BigFrame.wpQuiet_want rfl (fun K hK => quiet_store w.heap.size pubK pubK_length _ _ rfl rfl rfl S0.out (hK _ ?_)); simp only [Act.put])
    | (refine BigFrame.wpQuiet_want rfl (fun K hK => quiet_store (w.heap.size + 1) pubB pubB_length _ _ rfl rfl rfl S1.out (hK _ ?_)); simp only [Act.put])
    | (refine BigFrame.wpQuiet_want rfl (fun K hK => quiet_store (w.heap.size + 1 + 1) pubC pubC_length _ _ rfl rfl rfl S2.out (hK _ ?_)); simp only [Act.put])
    | (go_big_quiet_step (fail)))
  refine wpQuiet_nil ?_
  rintro _ ⟨e, rfl⟩
  go_wp2
  exact bodyPost_ret (v := .tuple #[kv pubK, kv pubB, kv pubC, .bool true]) (res_known rfl _ _ w.heap.size (w.heap.size + 1) (w.heap.size + 1 + 1) _ _ _ pubK_length pubB_length pubC_length _ rfl rfl rfl rfl (e.blk S0.out) (e.blk S1.out) (e.blk S2.out)) rfl ⟨rfl, aft S3.out e.below⟩
end Go.Proofs.Ytccojcjgknlhdaa
