/- The walk over hoardlaw5.RingOfNothing. -/
import Derived.Test.YtapfkpkomdmibaaLaw5
set_option linter.unusedVariables false
set_option linter.unusedSimpArgs false
namespace Go.Proofs.Ytapfkpkomdmibaa
open Go.RowKit
attribute [local go_sem ↓] Go.wp_at_zero Go.wp_at_succ
set_option maxRecDepth 100000 in
theorem ringOfNothing (v i : Int) (w : World) : Calls Try.prog 6 #[.int .i64 v, .int .i64 i] w fun e w' => e = .returned (.bool true) ∧ Fr [] w w' := by
  go_enter Try.func6, Try.ntmps6
  go_wp2_with fail
  refine (popI_nil _).mono ?_
  rintro e w' ⟨rfl, rfl⟩
  go_wp2_with fail
  refine (atI_nil _ _).mono ?_
  rintro e w' ⟨rfl, rfl⟩
  go_wp2_with fail
  refine (pushI_nil _ _).mono ?_
  rintro e w' ⟨rfl, rfl⟩
  go_wp2_with fail
  refine (lenI_nil _).mono ?_
  rintro e w' ⟨rfl, rfl⟩
  go_wp2_with fail
  refine (roomI_nil _).mono ?_
  rintro e w' ⟨rfl, rfl⟩
  go_wp2_with fail
  refine (allI_nil _).mono ?_
  rintro e w1 ⟨v, rfl, hv, hf⟩
  obtain ⟨a, c, rfl⟩ := (Sl.ofOwn hv).form
  go_wp2_with fail
  refine (known5 _).mono ?_
  rintro e w2 ⟨rfl, hf2⟩
  go_wp2
  go_ret
  exact ⟨rfl, hf.same hf2⟩
end Go.Proofs.Ytapfkpkomdmibaa
