/- chart: the iterator below. -/
import Derived.Test.YtgbnlemcojgijaaGreatDoorAf
namespace Go.Proofs.YtgbnlemcojgijaaGreatDoor
open Go.RowKit Go.Shelf Go.Sort

theorem below_any (A : Option Addr) (n c : Nat) (w : World) :
    Calls Tryz.prog 107 #[.slice A n c] w fun e w' => e = .returned (.func (.func 156) #[] #[.pointer (some ⟨w.heap.size, 0, none⟩)]) ∧ w' = w.alloc (.cells #[.slice A n c] 119) := by
  go_enter Tryz.func107, Tryz.ntmps107
  go_wp2
  go_ret
  exact ⟨rfl, rfl⟩
end Go.Proofs.YtgbnlemcojgijaaGreatDoor
