/- The law's helper: what must come whatever is handed in. -/
import Derived.Test.YtgbnlemcojgijaaGreatDoorU
namespace Go.Proofs.YtgbnlemcojgijaaGreatDoor
open Go.RowKit Go.Shelf Go.Sort

theorem num_any (e : Int) (w : World) : Calls Tryz.prog 13 #[.int .i64 e] w fun r w' => r = .returned (.int .i64 e) ∧ w = w' := by
  go_enter Tryz.func13, Tryz.ntmps13
  go_wp2
  go_ret
  exact ⟨rfl, rfl⟩

def firstCols : List Colm := [⟨⟨#[65]⟩, 5, 0⟩, ⟨⟨#[66, 58, 67]⟩, 0, 12⟩]
def firstText : List UInt8 := [65, 99, 99, 111, 117, 110, 116, 32, 32, 68, 101, 98, 105, 116, 32, 32, 67, 114, 101, 100, 105, 116, 10, 65, 32, 32, 32, 32, 32, 32, 32, 32, 32, 32, 48, 46, 53, 10, 66, 58, 67, 32, 32, 32, 32, 32, 32, 32, 32, 32, 32, 32, 32, 32, 32, 32, 32, 49, 46, 50, 10, 83, 117, 109, 32, 32, 32, 32, 32, 32, 32, 32, 48, 46, 53, 32, 32, 32, 32, 32, 49, 46, 50, 10]
theorem first_why : trialWhy firstCols 1 = 0 := by kernel_rfl
theorem first_text : gridL (fun c => decide (1 ≤ c)) (trialRows firstCols 1) = firstText := by kernel_rfl

set_option maxRecDepth 100000 in
theorem first_any (w : World) (hg : Gl w) : Calls Tryz.prog 15 #[] w fun e w' => e = .returned (.bool true) ∧ Below w.heap.size w w' := by
  have hb : Below w.heap.size w (w.alloc (.cells #[.string ⟨#[65]⟩, .int .i64 5, .int .i64 0, .string ⟨#[66, 58, 67]⟩, .int .i64 0, .int .i64 12] 78)) := (Below.refl _ _).alloc (Nat.le_refl _) _
  have hc := heap_alloc_new w (.cells #[.string ⟨#[65]⟩, .int .i64 5, .int .i64 0, .string ⟨#[66, 58, 67]⟩, .int .i64 0, .int .i64 12] 78)
  have hA : ColsAt (w.alloc (.cells #[.string ⟨#[65]⟩, .int .i64 5, .int .i64 0, .string ⟨#[66, 58, 67]⟩, .int .i64 0, .int .i64 12] 78)) (some ⟨w.heap.size, 0, none⟩) firstCols := fun _ => ⟨w.heap.size, 0, rfl, fun i c hi => by
    match i, hi with
    | 0, hi => injection hi with hi; subst hi; exact ⟨cell_of hc rfl, cell_of hc rfl, cell_of hc rfl⟩
    | 1, hi => injection hi with hi; subst hi; exact ⟨cell_of hc rfl, cell_of hc rfl, cell_of hc rfl⟩
    | i + 2, hi => simp [firstCols] at hi⟩
  have H := hid (Trial_any (some ⟨w.heap.size, 0, none⟩) 2 1 firstCols _ (hg.below hb) (by decide) (by intro c hc; simp [firstCols] at hc; rcases hc with rfl | rfl <;> (constructor <;> (constructor <;> decide))) hA)
  have Hb := hid hb
  clear hA hc hb hg
  go_enter Tryz.func15, Tryz.ntmps15
  go_wp2_with fail
  refine H.out.mono ?_
  rintro e w2 ⟨_, hok, hb2⟩
  obtain ⟨r, rfl, hr⟩ := hok first_why
  have hr2 : Str r firstText := by rw [← first_text]; exact hr
  obtain rfl := hr2.eq
  have Hb2 := hid hb2
  clear hok hr hr2 hb2
  go_wp2_with (first | (go_at_call 13; refine (num_any _ _).mono ?_; rintro e w3 ⟨rfl, rfl⟩))
  go_ret
  refine ⟨?_, Hb.out.trans (Hb2.out.mono Hb.out.size)⟩
  show Ending.returned (.bool (firstText == _)) = _
  unfold firstText
  rw [beq_self_eq_true]
end Go.Proofs.YtgbnlemcojgijaaGreatDoor
