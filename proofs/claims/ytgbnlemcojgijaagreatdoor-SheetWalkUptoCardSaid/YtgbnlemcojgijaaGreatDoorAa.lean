/- sheet: a day, opposite types, the opposite amounts. -/
import Derived.Test.YtgbnlemcojgijaaGreatDoorZ
import Derived.Test.YtgbnlemcojgijaaGreatDoorU
namespace Go.Proofs.YtgbnlemcojgijaaGreatDoor
open Go.RowKit Go.Shelf Go.Sort

theorem sheetDay_any (n : Int) (w : World) : Calls Tryz.prog 32 #[.int .i64 n] w fun e w' => e = .returned (.bool (dayB n)) ∧ w = w' := by
  by_cases h1 : 1 ≤ n
  · have H : Hid (dayB n = decide (n ≤ 3652059)) := hid (by simp [dayB, h1])
    go_enter Tryz.func32, Tryz.ntmps32
    go_wp2
    go_ret
    exact ⟨by rw [H.out]; rfl, rfl⟩
  · have H : Hid (dayB n = false) := hid (by simp [dayB, h1])
    go_enter Tryz.func32, Tryz.ntmps32
    go_wp2
    go_ret
    exact ⟨by rw [H.out]; rfl, rfl⟩

def oppB (t : Int) : Bool := t == 4 || t == 2 || t == 3
theorem opposite_any (t : Int) (w : World) : Calls Tryz.prog 89 #[.int .i64 t] w fun e w' => e = .returned (.bool (oppB t)) ∧ w = w' := by
  cases h4 : (t == 4) with
  | true =>
    have H : Hid (oppB t = true) := hid (by unfold oppB; rw [h4]; rfl)
    go_enter Tryz.func89, Tryz.ntmps89
    go_wp2
    go_ret
    exact ⟨by rw [H.out]; rfl, rfl⟩
  | false =>
    cases h2 : (t == 2) with
    | true =>
      have H : Hid (oppB t = true) := hid (by unfold oppB; rw [h2]; simp)
      go_enter Tryz.func89, Tryz.ntmps89
      go_wp2
      go_ret
      exact ⟨by rw [H.out]; rfl, rfl⟩
    | false =>
      have H : Hid (oppB t = (t == 3)) := hid (by unfold oppB; rw [h4, h2]; rfl)
      go_enter Tryz.func89, Tryz.ntmps89
      go_wp2
      go_ret
      exact ⟨by rw [H.out]; rfl, rfl⟩

theorem Tryz.infoInt64 : (Tryz.prog.info? 2).map (fun i => (i.zero, i.size, i.bytes)) = some (some (.int .i64 0), 1, 8) := by kernel_rfl
set_option maxHeartbeats 1000000 in
theorem negative_any (A : Option Addr) (cap : Nat) (l : List Int) (w : World) (hn : l.length ≤ 4294967296) (hl : ∀ x ∈ l, -9223372036854775807 ≤ x ∧ x ≤ 9223372036854775807) (hA : Arr w A l.length (l.map (Value.int .i64))) :
    Calls Tryz.prog 38 #[.slice A l.length cap] w fun e w' => (∃ v, e = .returned v ∧ w'.ownsRow w.heap.size 2 1 v l.length ((l.map (- ·)).map (Value.int .i64))) ∧ Below w.heap.size w w' := by
  have HA := hid hA; clear hA
  have Hl := hid hl; clear hl
  go_enter Tryz.func38, Tryz.ntmps38
  go_wp2_with fail
  go_loopw [3, 5, 8] (fun v _ i W => ∃ k : Nat, k ≤ l.length ∧ i = .int .i64 k ∧ W.ownsRow w.heap.size 2 1 v k (((l.take k).map (- ·)).map (Value.int .i64)) ∧ Below w.heap.size w W) (fun _ _ i _ => l.length - (intOf i).toNat)
  case atStart => exact ⟨0, Nat.zero_le _, rfl, ⟨rfl, .inl ⟨rfl, rfl⟩⟩, Below.refl _ _⟩
  case round =>
    obtain ⟨k, hk, rfl, hown, hB⟩ := hrel
    obtain ⟨wo, rfl⟩ : ∃ wo : World, wo = wr := ⟨_, rfl⟩
    have HO := hid hown
    have hBs := hB.size
    obtain ⟨Av, cv, rfl⟩ := own_slice hown
    by_cases hlt : k < l.length
    · obtain ⟨b, off, rfl, hcell⟩ := (HA.out.below hB) (by omega)
      have hc := hcell k (.int .i64 l[k]) (by simp [List.getElem?_map, List.getElem?_eq_getElem hlt])
      have Ht := hid (List.take_succ_eq_append_getElem hlt)
      obtain ⟨hx1, hx2⟩ := Hl.out _ (List.getElem_mem hlt)
      clear hcell
      generalize l[k] = x at *
      have hwr : wrap64 (-x) = -x := by unfold wrap64; omega
      go_wp2_with (first | (at_builtin; refine app1 w.heap.size 93 2 (.int .i64 0) 8 Tryz.underlying93 Tryz.infoInt64 HO.out hB hBs (by omega) (by omega) ?_; intro v1 w1 hown1 hB1 hg1 hz1))
      exact ⟨⟨k + 1, by omega, by go_num, by rw [Ht.out, List.map_append, List.map_append]; exact hown1, hB1⟩, by simp [intOf]; omega⟩
    · have hke : k = l.length := by omega
      have hfin : wo.ownsRow w.heap.size 2 1 (.slice Av k cv) l.length ((l.map (- ·)).map (Value.int .i64)) := by
        have h := HO.out
        rw [show l.take k = l from by rw [hke, List.take_length]] at h
        rw [← hke]
        rw [hke] at h ⊢
        exact h
      have Hfin := hid hfin
      clear hfin hown
      go_wp2_with fail
      go_ret
      exact ⟨⟨_, rfl, Hfin.out⟩, hB⟩
end Go.Proofs.YtgbnlemcojgijaaGreatDoor
