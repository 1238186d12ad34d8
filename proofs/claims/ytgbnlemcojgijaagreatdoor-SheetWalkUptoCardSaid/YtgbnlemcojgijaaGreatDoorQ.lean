/- sheet: end, behind; the rows as lines; Trial's closures. -/
import Derived.Test.YtgbnlemcojgijaaGreatDoorP
namespace Go.Proofs.YtgbnlemcojgijaaGreatDoor
open Go.RowKit Go.Shelf Go.Sort

theorem behind_any (n : Int) (w : World) :
    Calls Tryz.prog 47 #[.int .i64 n] w fun e w' => e = .returned (.func (.func 99) #[] #[.pointer (some ⟨w.heap.size, 0, none⟩)]) ∧ w' = w.alloc (.cells #[.int .i64 n] 3) := by
  go_enter Tryz.func47, Tryz.ntmps47
  go_wp2
  go_ret
  exact ⟨rfl, rfl⟩
theorem behind1_any (n c : Int) (b : Nat) (w : World) (hc : w.cell? ⟨b, 0, none⟩ = some (.int .i64 n)) :
    Calls Tryz.prog 99 #[.int .i64 c, .pointer (some ⟨b, 0, none⟩)] w fun e w' => e = .returned (.bool (decide (n ≤ c))) ∧ w = w' := by
  go_enter Tryz.func99, Tryz.ntmps99
  go_wp2
  go_ret
  exact ⟨rfl, rfl⟩

theorem row_arr {w : World} {b : Nat} {cs : List Value} {t : TypeId} (h : w.heap[b]? = some (.cells cs.toArray t)) (n : Nat) : Arr w (some ⟨b, 0, none⟩) n cs := fun _ =>
  ⟨b, 0, rfl, fun j v hv => cell_of h (by simpa using hv)⟩
theorem SheetAt.rowsOf {w : World} {B s : Nat} {d why : Int} {A : Option Addr} {n c : Nat} {prs : List (List ByteArray × Nat)} (h : SheetAt w B s d why (.slice A n c) prs) (hn : n = prs.length) : RowsOf w A (prs.map (·.1)) := by
  subst hn
  refine ⟨prs.map rowV, by rw [List.length_map]; exact own_arr h.rows, fun i r hi => ?_⟩
  rw [List.getElem?_map] at hi
  obtain ⟨p, hp, rfl⟩ := Option.map_eq_some_iff.1 hi
  refine ⟨some ⟨p.2, 0, none⟩, p.1.length, by rw [List.getElem?_map, hp]; rfl, row_arr (h.cells p (List.mem_of_getElem? hp)) _⟩

/-- Rows that fit: C cells a row, M bytes a cell. -/
structure Fit (C M : Nat) (rows : List (List ByteArray)) : Prop where
  all : rows.length * (C * (M + 2) + 1) ≤ 70368744177664
  line : C * (M + 2) ≤ 70368744177664
  cols : C ≤ 1048576
  count : rows.length ≤ 2097152
  each : ∀ r ∈ rows, r.length ≤ C ∧ ∀ x ∈ r, x.size ≤ M
  cell : M ≤ 70368744177664

/-- grid(rows, behind(n)): the closure's box at block b. -/
theorem gridBehind (A : Option Addr) (cap b : Nat) (n : Nat) (rows : List (List ByteArray)) (C M : Nat) (w : World) (hF : Fit C M rows) (hr : RowsOf w A rows) (hc : w.cell? ⟨b, 0, none⟩ = some (.int .i64 n)) :
    Calls Tryz.prog 46 #[.slice A rows.length cap, .func (.func 99) #[] #[.pointer (some ⟨b, 0, none⟩)]] w fun e w' => (∃ r, e = .returned (.string r) ∧ Str r (gridL (fun c => decide (n ≤ c)) rows)) ∧ Below w.heap.size w w' :=
  grid_any A cap 99 #[.pointer (some ⟨b, 0, none⟩)] (fun c => decide (n ≤ c)) rows C M w hF.all hF.line hF.cols hF.count hF.each hF.cell hr
    (enters_of Tryz.func99 (by kernel_rfl) rfl)
    (fun W c hb _ => (behind1_any n c b W (cell_below hb hc)).mono fun e w' h => ⟨by rw [h.1]; simp, h.2⟩)

theorem end_fault (B s : Nat) (d why : Int) (rows : List (List ByteArray)) (f : Value) (w : World) (h : Sheet w B s d why rows) (h0 : why ≠ 0) :
    Calls Tryz.prog 43 #[.pointer (some ⟨s, 0, none⟩), f] w fun e w' => e = .returned (.tuple #[.string ⟨#[]⟩, .int .i64 why]) ∧ Below w.heap.size w w' := by
  have hc := h.cell1.1
  have hne : (why == 0) = false := beq_eq_false_iff_ne.2 h0
  have hne2 : (why != 0) = true := by simpa using h0
  clear h
  go_enter Tryz.func43, Tryz.ntmps43
  go_wp2_with fail
  go_quiet (fail)
  go_wp2
  go_ret2
  exact ⟨rfl, below_of_drewN _ _⟩
theorem end_ok (B s : Nat) (d : Int) (rows : List (List ByteArray)) (g : Nat) (cb : Array Value) (l : List UInt8) (w : World) (h : Sheet w B s d 0 rows) (eg : ∀ args w, (callFunc g args).run Tryz.prog w = .ok (.enter g args) w)
    (hcl : Calls Tryz.prog g cb w fun e w' => (∃ r, e = .returned (.string r) ∧ Str r l) ∧ Below w.heap.size w w') :
    Calls Tryz.prog 43 #[.pointer (some ⟨s, 0, none⟩), .func (.func g) #[] cb] w fun e w' => (∃ r, e = .returned (.tuple #[.string r, .int .i64 0]) ∧ Str r l) ∧ Below w.heap.size w w' := by
  have hc := h.cell1.1
  have H := hid hcl
  clear h hcl
  go_enter Tryz.func43, Tryz.ntmps43
  go_wp2_with (first | (refine H.out.mono ?_; rintro e w1 ⟨⟨r, rfl, hr⟩, h2⟩))
  go_ret2
  exact ⟨⟨r, rfl, hr⟩, h2⟩

set_option maxHeartbeats 2000000 in
set_option maxRecDepth 100000 in
/-- Trial's text. -/
theorem trial2_any (B s b : Nat) (d : Int) (rows : List (List ByteArray)) (C M : Nat) (w : World) (h : Sheet w B s d 0 rows) (hb : w.cell? ⟨b, 0, none⟩ = some (.pointer (some ⟨s, 0, none⟩))) (hF : Fit C M rows) :
    Calls Tryz.prog 78 #[.pointer (some ⟨b, 0, none⟩)] w fun e w' => (∃ r, e = .returned (.string r) ∧ Str r (gridL (fun c => decide (1 ≤ c)) rows)) ∧ Below w.heap.size w w' := by
  obtain ⟨rv, prs, rfl, hS⟩ := h
  obtain ⟨A, cap, rfl⟩ := own_slice hS.rows
  have hbd : Below w.heap.size w w.drew := below_of_drewN w 1
  have hS2 := hid (hS.below hbd)
  have c1 := cell_below hbd hb
  have c2 := cell_below hbd (cell_of (i := 2) (v := .slice A prs.length cap) hS.blk rfl)
  have hrw := hid ((hS.below hbd).rowsOf rfl)
  have HF := hid hF
  have hw2 := cell_of (i := 2) (v := .slice A prs.length cap) hS.blk rfl
  have hsl := lt_of_heap hS.blk
  have hbl : b < w.heap.size := World.block_lt_of_cell? _ _ hb
  clear hS hF
  have hb1 := (Below.refl w.drew.heap.size w.drew).alloc (Nat.le_refl _) (.cells #[.int .i64 1] 3)
  have e1 := cell_below hb1 c1
  have e2 := cell_below hb1 c2
  have e3 : (w.drew.alloc (.cells #[.int .i64 1] 3)).cell? ⟨w.drew.heap.size, 0, none⟩ = some (.int .i64 (1 : Nat)) := (World.cell?_alloc_new _ _ _ 0).trans rfl
  have hG := gridBehind A cap w.drew.heap.size 1 (prs.map (·.1)) C M _ HF.out (hrw.out.below hb1) e3
  rw [List.length_map] at hG
  have HG := hid hG
  have Hb1 := hid hb1
  clear hG e3 hbd hb1
  go_enter Tryz.func78, Tryz.ntmps78
  go_wp2_with fail
  go_region_with (first
      | (go_at_call 47; refine (behind_any _ _).mono ?_; rintro e w1 ⟨rfl, rfl⟩)
      | (go_at_call 46; refine HG.out.mono ?_; rintro e w2 ⟨⟨r, rfl, hr⟩, hb2⟩))
  all_goals (go_wp2_with fail; go_ret; exact ⟨⟨r, rfl, hr⟩, (below_of_drewN w 1).trans (Hb1.out.trans (hb2.mono (by simp)))⟩)

/-- Trial's side: nothing for 0. -/
def sideL (a : Int) (d : Nat) : List UInt8 := if a = 0 then [] else printL a d
theorem side_any (B s b d : Nat) (why : Int) (rows : List (List ByteArray)) (a : Int) (w : World) (hg : Gl w) (h : Sheet w B s d why rows) (hb : w.cell? ⟨b, 0, none⟩ = some (.pointer (some ⟨s, 0, none⟩))) (hd : d ≤ 6) (h0 : -9223372036854775807 ≤ a) (h1 : a ≤ 9223372036854775807) :
    Calls Tryz.prog 77 #[.int .i64 a, .pointer (some ⟨b, 0, none⟩)] w fun e w' => (∃ r, e = .returned (.string r) ∧ Str r (sideL a d)) ∧ Below w.heap.size w w' := by
  have H := hid (amount_any B s d why rows a w hg h hd h0 h1)
  clear h0 h1 h hg
  by_cases hz : a = 0
  · subst hz
    go_enter Tryz.func77, Tryz.ntmps77
    go_wp2_with fail
    go_ret
    exact ⟨⟨_, rfl, rfl⟩, Below.refl _ _⟩
  · have hne : (a == 0) = false := beq_eq_false_iff_ne.2 hz
    have Hs : Hid (sideL a d = printL a d) := hid (if_neg hz)
    go_enter Tryz.func77, Tryz.ntmps77
    go_wp2_with (first | (go_at_call 40; refine H.out.mono ?_; rintro e w1 ⟨⟨r, rfl, hr⟩, h2⟩))
    go_ret
    exact ⟨⟨r, rfl, by rw [Hs.out]; exact hr⟩, h2⟩
end Go.Proofs.YtgbnlemcojgijaaGreatDoor
