/- sheet: begin, amount, total, row, end, behind; the rows as lines. -/
import Derived.Test.YtgbnlemcojgijaaGreatDoorS
namespace Go.Proofs.YtgbnlemcojgijaaGreatDoor
open Go.RowKit Go.Shelf Go.Sort

def digitsOk (d : Int) : Bool := decide (0 ≤ d) && decide (d ≤ 6)
def beginWhy (d : Int) : Int := if digitsOk d = true then 0 else 1
def totalWhy (why e : Int) : Int := if e = 0 then why else whyOf why 11
theorem begin_any (d : Int) (w : World) :
    Calls Tryz.prog 34 #[.int .i64 d] w fun r w' => r = .returned (.pointer (some ⟨w.heap.size, 0, none⟩)) ∧ Sheet w' w.heap.size w.heap.size d (beginWhy d) [] ∧ Below w.heap.size w w' := by
  have hS : Sheet (w.alloc (.cells #[.int .i64 d, .int .i64 0, .slice none 0 0] 92)) w.heap.size w.heap.size d 0 [] :=
    ⟨.slice none 0 0, [], rfl, Nat.le_refl _, heap_alloc_new _ _, ⟨rfl, .inl ⟨rfl, rfl⟩⟩, fun p hp => by cases hp⟩
  have HS := hid hS
  by_cases h0 : d < 0
  · have Hd : Hid (beginWhy d = 1) := hid (by unfold beginWhy digitsOk; rw [decide_eq_false (show ¬ 0 ≤ d by omega)]; rfl)
    go_enter Tryz.func34, Tryz.ntmps34
    go_wp2_with (first | (go_at_call 76; refine (fail_any _ _ _ _ _ _ _ HS.out).mono ?_; rintro e w1 ⟨rfl, h1, h2⟩))
    go_ret
    exact ⟨rfl, by rw [Hd.out]; exact h1, ((Below.refl _ _).alloc (Nat.le_refl _) _).trans (h2.below)⟩
  · by_cases h6 : 6 < d
    · have Hd : Hid (beginWhy d = 1) := hid (by unfold beginWhy digitsOk; rw [decide_eq_false (show ¬ d ≤ 6 by omega), Bool.and_false]; rfl)
      go_enter Tryz.func34, Tryz.ntmps34
      go_wp2_with (first | (go_at_call 76; refine (fail_any _ _ _ _ _ _ _ HS.out).mono ?_; rintro e w1 ⟨rfl, h1, h2⟩))
      go_ret
      exact ⟨rfl, by rw [Hd.out]; exact h1, ((Below.refl _ _).alloc (Nat.le_refl _) _).trans (h2.below)⟩
    · have Hd : Hid (beginWhy d = 0) := hid (by unfold beginWhy digitsOk; rw [decide_eq_true (show 0 ≤ d by omega), decide_eq_true (show d ≤ 6 by omega)]; rfl)
      go_enter Tryz.func34, Tryz.ntmps34
      go_wp2
      go_ret
      exact ⟨rfl, by rw [Hd.out]; exact HS.out, (Below.refl _ _).alloc (Nat.le_refl _) _⟩

theorem amount_any (B s d : Nat) (why : Int) (rows : List (List ByteArray)) (a : Int) (w : World) (hg : Gl w) (h : Sheet w B s d why rows) (hd : d ≤ 6) (h0 : -9223372036854775807 ≤ a) (h1 : a ≤ 9223372036854775807) :
    Calls Tryz.prog 40 #[.pointer (some ⟨s, 0, none⟩), .int .i64 a] w fun e w' => (∃ r, e = .returned (.string r) ∧ Str r (printL a d)) ∧ Below w.heap.size w w' := by
  have hc := h.cell0
  have H := hid (Print_any a d w hg h0 h1 hd)
  clear h0 h1 h hg
  go_enter Tryz.func40, Tryz.ntmps40
  go_wp2_with (first | (go_at_call 90; refine H.out.mono ?_; rintro e w1 ⟨⟨r, rfl, hr⟩, h2⟩))
  go_ret
  exact ⟨⟨r, rfl, hr⟩, h2⟩

theorem total_any (B s : Nat) (d why : Int) (rows : List (List ByteArray)) (A : Option Addr) (c : Nat) (l : List Int) (w : World) (h : Sheet w B s d why rows) (hl : l.length * 8 ≤ 140737488351232) (hr : ∀ x ∈ l, I64 x) (ha : Arr w A l.length (l.map (Value.int .i64))) :
    Calls Tryz.prog 41 #[.pointer (some ⟨s, 0, none⟩), .slice A l.length c] w fun e w' => e = .returned (.int .i64 (sumV l)) ∧ Sheet w' B s d (totalWhy why (sumE l)) rows ∧ Stay B w w' := by
  have H := hid (Sum_any A c l w hl hr ha)
  have HS := hid h
  clear hl hr ha h
  generalize sumV l = v at *
  generalize sumE l = e0 at *
  generalize l.length = n at *
  by_cases h0 : e0 = 0
  · subst h0
    go_enter Tryz.func41, Tryz.ntmps41
    go_wp2_with (first | (go_at_call 91; refine H.out.mono ?_; rintro e w1 ⟨rfl, rfl⟩))
    go_ret
    exact ⟨rfl, HS.out, Stay.refl _ _⟩
  · have hne : (e0 == 0) = false := beq_eq_false_iff_ne.2 h0
    have Hi : Hid (totalWhy why e0 = whyOf why 11) := hid (if_neg h0)
    go_enter Tryz.func41, Tryz.ntmps41
    go_wp2_with (first | (go_at_call 91; refine H.out.mono ?_; rintro e w1 ⟨rfl, rfl⟩) | (go_at_call 76; refine (fail_any _ _ _ _ _ _ _ HS.out).mono ?_; rintro e w1 ⟨rfl, h1, h2⟩))
    go_ret
    exact ⟨rfl, by rw [Hi.out]; exact h1, h2⟩

theorem Tryz.infoStrs : (Tryz.prog.info? 36).map (fun i => (i.zero, i.size, i.bytes)) = some (some (.slice none 0 0), 1, 24) := by kernel_rfl
theorem KT.grown {w w' : World} {B n : Nat} {v : Value} {xs : List Value} (ho : w.ownsRow B 36 1 v n xs) (hg : w.grownBy w' v.ownBlock) : KT w w' :=
  ⟨hg.size, fun k cs t hk _ h2 => (hg.block k (lt_of_heap hk) (fun e => by
    obtain ⟨cur, h3⟩ := own_obj ho e.symm
    exact obj_ne hk h3 h2 rfl)).trans hk, fun k es cl hk => (hg.block k (lt_of_heap hk) (fun e => by
    obtain ⟨cur, h3⟩ := own_obj ho e.symm
    rw [hk] at h3; cases h3)).trans hk⟩
theorem rows_lift {w w' : World} {B s : Nat} {d why : Int} {rv : Value} {prs : List (List ByteArray × Nat)} (h : SheetAt w B s d why rv prs) (hg : w.grownBy w' rv.ownBlock) : w'.heap[s]? = some (.cells #[.int .i64 d, .int .i64 why, rv] 92) ∧ ∀ p ∈ prs, w'.heap[p.2]? = some (.cells (p.1.map Value.string).toArray 9) :=
  ⟨(hg.block _ (lt_of_heap h.blk) (fun e => by obtain ⟨cur, h3⟩ := own_obj h.rows e.symm; exact obj_ne h.blk h3 (by decide) rfl)).trans h.blk,
   fun p hp => (hg.block _ (lt_of_heap (h.cells p hp)) (fun e => by obtain ⟨cur, h3⟩ := own_obj h.rows e.symm; exact obj_ne (h.cells p hp) h3 (by decide) rfl)).trans (h.cells p hp)⟩

set_option maxHeartbeats 1000000 in
theorem row_any (B s : Nat) (d why : Int) (rows : List (List ByteArray)) (r : List ByteArray) (b : Nat) (w : World) (h : Sheet w B s d why rows) (hn : rows.length ≤ 4194304) (hB : B ≤ w.heap.size) (hb : w.heap[b]? = some (.cells (r.map Value.string).toArray 9)) :
    Calls Tryz.prog 39 #[.pointer (some ⟨s, 0, none⟩), .slice (some ⟨b, 0, none⟩) r.length r.length] w fun e w' => e = .returned (.tuple #[]) ∧ Sheet w' B s d why (rows ++ [r]) ∧ Stay B w w' := by
  obtain ⟨rv, prs, rfl, hS⟩ := h
  have hn2 : prs.length ≤ 4194304 := by simpa using hn
  have HS := hid hS
  have hc := cell_of (i := 2) (v := rv) hS.blk rfl
  have HO := hid hS.rows
  obtain ⟨A, cap, rfl⟩ := own_slice hS.rows
  have Hb := hid hb
  clear hS hb
  go_enter Tryz.func39, Tryz.ntmps39
  go_wp2_with (first
    | (at_builtin; refine app1 B 90 36 (.slice none 0 0) 24 Tryz.underlying90 Tryz.infoStrs HO.out (Below.refl _ _) hB (by omega) (by omega) ?_; intro v1 w1 hown1 hB1 hg1 hz1
       obtain ⟨A1, c1, rfl⟩ := own_slice hown1
       obtain ⟨hs1, hp1⟩ := rows_lift HS.out hg1
       have hf1 := froz_of (i := 2) hs1
       have hcc1 := cell_of (i := 2) (v := .slice A prs.length cap) hs1 rfl))
  go_end0
  have hst := setCell_heap (i := 2) hs1 (.slice A1 (prs.length + 1) c1)
  refine ⟨rfl, ⟨_, prs ++ [(r, b)], by simp, HS.out.base, hst, ?_, ?_⟩, hB1.trans (below_setCell HS.out.base), (KT.grown HO.out hg1).trans (KT.setCell _ hs1)⟩
  · rw [List.length_append, List.map_append]
    exact own_same hown1 fun k hk => Below.heap_setCell _ _ _ _ (fun e => by
      obtain ⟨cur, h2⟩ := own_obj hown1 hk
      exact obj_ne h2 hs1 (by decide) e)
  · intro p hp
    rcases List.mem_append.1 hp with hp | hp
    · exact (Below.heap_setCell _ _ _ _ (fun e => obj_ne (hp1 p hp) hs1 (by decide) e)).trans (hp1 p hp)
    · rw [List.mem_singleton] at hp
      subst hp
      have hbb := (hg1.block b (lt_of_heap Hb.out) (fun e => by obtain ⟨cur, h3⟩ := own_obj HO.out e.symm; exact obj_ne Hb.out h3 (by decide) rfl)).trans Hb.out
      exact (Below.heap_setCell _ _ _ _ (fun e => obj_ne hbb hs1 (by decide) e)).trans hbb
end Go.Proofs.YtgbnlemcojgijaaGreatDoor
