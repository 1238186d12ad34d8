/- sheet: an amount's check; a share of 0. -/
import Derived.Test.YtgbnlemcojgijaaGreatDoorAb
namespace Go.Proofs.YtgbnlemcojgijaaGreatDoor
open Go.RowKit Go.Shelf Go.Sort

def checkE (a : Int) : Int := if a = -9223372036854775808 then 10 else 0
theorem check_any (a : Int) (w : World) : Calls Tryz.prog 51 #[.int .i64 a] w fun e w' => e = .returned (.int .i64 (checkE a)) ∧ w = w' := by
  by_cases h : a = -9223372036854775808
  · have hb : (a == -9223372036854775808) = true := beq_iff_eq.2 h
    have H : Hid (checkE a = 10) := hid (if_pos h)
    clear h
    go_enter Tryz.func51, Tryz.ntmps51
    go_wp2
    go_ret
    exact ⟨by rw [H.out]; rfl, rfl⟩
  · have hb : (a == -9223372036854775808) = false := beq_eq_false_iff_ne.2 h
    have H : Hid (checkE a = 0) := hid (if_neg h)
    clear h
    go_enter Tryz.func51, Tryz.ntmps51
    go_wp2
    go_ret
    exact ⟨by rw [H.out]; rfl, rfl⟩

theorem share_zero (b : Int) (w : World) : Calls Tryz.prog 112 #[.int .i64 b, .int .i64 0] w fun e w' => e = .returned (.string ⟨#[]⟩) ∧ w = w' := by
  go_enter Tryz.func112, Tryz.ntmps112
  go_wp2_with fail
  go_ret
  exact ⟨rfl, rfl⟩
end Go.Proofs.YtgbnlemcojgijaaGreatDoor
