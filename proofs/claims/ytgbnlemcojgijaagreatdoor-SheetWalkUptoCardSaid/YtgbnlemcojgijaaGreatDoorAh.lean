/- The laws' own helpers: a few accounts. -/
import Derived.Test.YtgbnlemcojgijaaGreatDoorAg
namespace Go.Proofs.YtgbnlemcojgijaaGreatDoor
open Go.RowKit Go.Shelf Go.Sort

def fewA : List Acct := [⟨⟨#[65, 115]⟩, 1, 1, false⟩, ⟨⟨#[65, 115, 58, 66, 97, 110, 107]⟩, 1, 1, false⟩, ⟨⟨#[69, 113]⟩, 3, 1, false⟩, ⟨⟨#[69, 120]⟩, 5, 1, false⟩, ⟨⟨#[69, 120, 58, 82, 101, 110, 116]⟩, 5, 1, false⟩, ⟨⟨#[73, 110]⟩, 4, 1, false⟩, ⟨⟨#[73, 110, 58, 87, 111, 114, 107]⟩, 4, 1, false⟩, ⟨⟨#[76, 105]⟩, 2, 1, false⟩]
theorem few_ok : chartOk fewA = true := by kernel_rfl
def acctCells (l : List Acct) : Array Value := (l.flatMap fun a => [.string a.name, .int .i64 a.typ, .int .i64 a.opened, .bool a.closed]).toArray
theorem accts_of {w : World} {b : Nat} {t : TypeId} (h : w.heap[b]? = some (.cells (acctCells fewA) t)) : AcctsAt w (some ⟨b, 0, none⟩) fewA := fun _ => ⟨b, 0, rfl, fun i a hi => by
  match i, hi with
  | 0, hi | 1, hi | 2, hi | 3, hi | 4, hi | 5, hi | 6, hi | 7, hi => injection hi with hi; subst hi; exact ⟨cell_of h rfl, cell_of h rfl, cell_of h rfl, cell_of h rfl⟩
  | i + 8, hi => simp [fewA] at hi⟩
theorem few_any (w : World) : Calls Tryz.prog 9 #[] w fun e w' => e = .returned (.slice (some ⟨w.heap.size, 0, none⟩) 8 8) ∧ w' = w.alloc (.cells (acctCells fewA) 31) := by
  go_enter Tryz.func9, Tryz.ntmps9
  go_wp2_with fail
  go_ret
  exact ⟨rfl, rfl⟩
end Go.Proofs.YtgbnlemcojgijaaGreatDoor
