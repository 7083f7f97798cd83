/-
  PosBack.
-/
import Derived.Test.YtkiomgnjjijbgaaBackA
import Derived.Test.YtkiomgnjjijbgaaBackB
import Derived.Test.YtkiomgnjjijbgaaBackC
import Derived.Test.YtkiomgnjjijbgaaBackD
import Derived.Test.YtkiomgnjjijbgaaBackE
import Derived.Test.YtkiomgnjjijbgaaBackF
import Derived.Test.YtkiomgnjjijbgaaBackG
import Derived.Test.YtkiomgnjjijbgaaBackH
namespace Go.Proofs.Ytkiomgnjjijbgaa
open Go.RowKit
set_option linter.unusedVariables false

theorem walkPosBack (a0 b0 b1 : Int) (w0 : (Lit.int .u64 a0).wf = true) (w1 : (Lit.int .u8 b0).wf = true) (w2 : (Lit.int .u64 b1).wf = true) (w : World) :
    Calls Try.prog 11 #[.int .u64 a0, .agg #[.int .u8 b0, .int .u64 b1]] w fun e w' => e = .returned (.bool true) ∧ Below w.heap.size w w' := by
  obtain ⟨p, rfl, hp⟩ := nat_of_u64 w0
  obtain ⟨k, rfl, hk⟩ := nat_of_u64 w2
  obtain ⟨h, rfl, hh⟩ := nat_of_u8 w1
  by_cases rs : Right h k
  · by_cases hb : p < 9223372036854775807
    · obtain ⟨x, y, r, e⟩ := spot_at hb
      cases x with
      | zero => exact back_yes_leaf hh hk rs r e w
      | succ x =>
        by_cases hx : x + 1 < 62
        · exact back_yes_mid hh hk rs r hx e w
        · exact back_yes_top hh hk rs r (by have := r.1; omega) e w
    · exact back_yes_no hh hk rs hp (by omega) w
  · by_cases hb : p < 9223372036854775807
    · obtain ⟨x, y, r, e⟩ := spot_at hb
      cases x with
      | zero => exact back_no_leaf hh hk rs r e w
      | succ x =>
        by_cases hx : x + 1 < 62
        · exact back_no_mid hh hk rs r hx e w
        · exact back_no_top hh hk rs r (by have := r.1; omega) e w
    · exact back_no_no hh hk rs hp (by omega) w
end Go.Proofs.Ytkiomgnjjijbgaa
