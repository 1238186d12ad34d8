/- sheet: Tree's text. -/
import Derived.Test.YtgbnlemcojgijaaGreatDoorAh
namespace Go.Proofs.YtgbnlemcojgijaaGreatDoor
open Go.RowKit Go.Shelf Go.Sort

set_option maxHeartbeats 2000000 in
set_option maxRecDepth 100000 in
/-- Tree's text. -/
theorem tree1_any (B s b : Nat) (d : Int) (rows : List (List ByteArray)) (C M : Nat) (w : World) (h : Sheet w B s d 0 rows) (hb : w.cell? ⟨b, 0, none⟩ = some (.pointer (some ⟨s, 0, none⟩))) (hF : Fit C M rows) :
    Calls Tryz.prog 56 #[.pointer (some ⟨b, 0, none⟩)] w fun e w' => (∃ r, e = .returned (.string r) ∧ Str r (gridL (fun c => decide (1 ≤ c)) rows)) ∧ Below w.heap.size w w' := by
  obtain ⟨rv, prs, rfl, hS⟩ := h
  obtain ⟨A, cap, rfl⟩ := own_slice hS.rows
  have hbd : Below w.heap.size w w.drew := below_of_drewN w 1
  have hS2 := hid (hS.below hbd)
  have c1 := cell_below hbd hb
  have c2 := cell_below hbd (cell_of (i := 2) (v := .slice A prs.length cap) hS.blk rfl)
  have hrw := hid ((hS.below hbd).rowsOf rfl)
  have HF := hid hF
  have hw2 := cell_of (i := 2) (v := .slice A prs.length cap) hS.blk rfl
  have hsl := lt_of_heap hS.blk
  have hbl : b < w.heap.size := World.block_lt_of_cell? _ _ hb
  clear hS hF
  have hb1 := (Below.refl w.drew.heap.size w.drew).alloc (Nat.le_refl _) (.cells #[.int .i64 1] 3)
  have e1 := cell_below hb1 c1
  have e2 := cell_below hb1 c2
  have e3 : (w.drew.alloc (.cells #[.int .i64 1] 3)).cell? ⟨w.drew.heap.size, 0, none⟩ = some (.int .i64 (1 : Nat)) := (World.cell?_alloc_new _ _ _ 0).trans rfl
  have hG := gridBehind A cap w.drew.heap.size 1 (prs.map (·.1)) C M _ HF.out (hrw.out.below hb1) e3
  rw [List.length_map] at hG
  have HG := hid hG
  have Hb1 := hid hb1
  clear hG e3 hbd hb1
  go_enter Tryz.func56, Tryz.ntmps56
  go_wp2_with fail
  go_region_with (first
      | (go_at_call 47; refine (behind_any _ _).mono ?_; rintro e w1 ⟨rfl, rfl⟩)
      | (go_at_call 46; refine HG.out.mono ?_; rintro e w2 ⟨⟨r, rfl, hr⟩, hb2⟩))
  all_goals (go_wp2_with fail; go_ret; exact ⟨⟨r, rfl, hr⟩, (below_of_drewN w 1).trans (Hb1.out.trans (hb2.mono (by simp)))⟩)

end Go.Proofs.YtgbnlemcojgijaaGreatDoor
