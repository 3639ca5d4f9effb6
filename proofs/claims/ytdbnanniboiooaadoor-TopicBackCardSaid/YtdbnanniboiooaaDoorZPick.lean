/- The statements' pick. -/
import Derived.Test.YtdbnanniboiooaaDoorZBase
set_option linter.unusedVariables false
set_option linter.unusedSimpArgs false
namespace Go.Proofs.YtdbnanniboiooaaDoor
open Go.RowKit Go.Proofs.Carillon Go.Lib Go.Shelf
def pickI (c n : Int) : Int := (if c < 0 then -(c + 1) else c) % n
theorem pick_any (c n : Int) (w : World) (h0 : -9223372036854775808 ≤ c) (h1 : c ≤ 9223372036854775807) (hn : 0 < n) (hn1 : n ≤ 9223372036854775807) :
    Calls Tryd.prog 25 #[.int .i64 c, .int .i64 n] w fun e w' => e = .returned (.int .i64 (pickI c n)) ∧ w' = w := by
  by_cases h : c < 0
  · have hp : pickI c n = (-(c + 1)) % n := by unfold pickI; rw [if_pos h]
    rw [hp]
    go_enter Tryd.func25, Tryd.ntmps25
    go_wp2
    go_ret
    refine ⟨?_, rfl⟩
    first | rw [Int.tmod_eq_emod_of_nonneg (by omega)] | rw [← Int.neg_tmod, Int.tmod_eq_emod_of_nonneg (by omega)]
    rfl
  · have hp : pickI c n = c % n := by unfold pickI; rw [if_neg h]
    rw [hp]
    go_enter Tryd.func25, Tryd.ntmps25
    go_wp2
    go_ret
    exact ⟨rfl, rfl⟩
end Go.Proofs.YtdbnanniboiooaaDoor
