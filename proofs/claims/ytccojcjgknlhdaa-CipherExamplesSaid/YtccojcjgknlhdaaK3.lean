/-
  alive is true.
-/
import Derived.Test.YtccojcjgknlhdaaK2
import Derived.Test.YtccojcjgknlhdaaP2
namespace Go.Proofs.Ytccojcjgknlhdaa
open Go.RowKit
theorem alive_any (w : World) : Calls Try.prog 33 #[] w fun e w' => e = .returned (.bool true) ∧ Below w.heap.size w w' := by
  refine alive_walk pubK pubB pubC [7, 0, 0, 0, 0, 0, 0, 0, 0, 0, 0, 0, 0, 0, 1, 2] (enc pubK [7, 0, 0, 0, 0, 0, 0, 0, 0, 0, 0, 0, 0, 0, 1, 2]) (derive pubK 2 0#64) txtK pubK_length pubB_length pubC_length (enc_length _ _) (derive_length _ _ _) rfl
    (Lib.hid known_any) (Lib.hid fun w => ?_) (Lib.hid fun w => ?_) (Lib.hid fun w => ?_) (sv_neq txtK) (Lib.hid fun w => ?_) (Lib.hid fun w => ?_) (Lib.hid fun w => encrypt_any pubK _ pubK_length rfl w) (Lib.hid fun w => derive_any pubK pubK_length 2 0#64 w) w
  · have := encrypt_any pubK pubB pubK_length pubB_length w
    rw [enc_pub] at this; exact this
  · have := decrypt_any pubK pubC pubK_length pubC_length w
    rw [dec_pub] at this; exact this
  · have := text_any pubK pubK_length w
    rw [text_pub] at this; exact this
  · exact mac_any pubK pubK_length [] none 0 0 w (Sl.nil w) (by omega)
  · have := derive_any pubK pubK_length 7 258#64 w
    rw [derive_pub] at this; exact this
end Go.Proofs.Ytccojcjgknlhdaa
