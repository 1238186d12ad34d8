/- chart: nodes by name; put behind all others. -/
import Derived.Test.YtgbnlemcojgijaaGreatDoorE
namespace Go.Proofs.YtgbnlemcojgijaaGreatDoor
open Go.RowKit Go.Shelf Go.Sort

/-- A pointer to a block's beginning. -/
def ptrV (b : Nat) : Value := .pointer (some ⟨b, 0, none⟩)
def cmpS (a b : ByteArray) : Int := Lib.compareBytes (L a) (L b)

theorem compare_any (a b : ByteArray) (w : World) :
    Calls Tryz.prog 88 #[.string a, .string b] w fun e w' => e = .returned (.int .i64 (cmpS a b)) ∧ w' = w := Tryz.strings_Compare a b w

theorem order_any (p q : Nat) (a b : ByteArray) (w : World) (hp : w.cell? ⟨p, 0, none⟩ = some (.string a)) (hq : w.cell? ⟨q, 0, none⟩ = some (.string b)) :
    Calls Tryz.prog 173 #[.pointer (some ⟨p, 0, none⟩), .pointer (some ⟨q, 0, none⟩)] w fun e w' => e = .returned (.int .i64 (cmpS a b)) ∧ ∃ n, w' = w.drewN n := by
  go_enter Tryz.func173, Tryz.ntmps173
  go_wp2_with fail
  go_quiet (first | (go_at_call 88; refine Calls.quiet_of_same (compare_any _ _ _)))
  go_wp2
  go_ret
  exact ⟨rfl, nq, rfl⟩

set_option maxHeartbeats 1000000 in
theorem searchLast (A : Option Addr) (n cap q : Nat) (t : ByteArray) (ps : List (Nat × ByteArray)) (w : World) (hn : ps.length = n) (hn2 : n ≤ 1048576) (ha : Arr w A n (ps.map fun p => ptrV p.1))
    (hp : ∀ p ∈ ps, w.cell? ⟨p.1, 0, none⟩ = some (.string p.2) ∧ cmpS p.2 t < 0) (hq : w.cell? ⟨q, 0, none⟩ = some (.string t)) :
    Calls Tryz.prog 172 #[.slice A n cap, .pointer (some ⟨q, 0, none⟩), .func (.func 173) #[] #[]] w fun e w' => e = .returned (.tuple #[.int .i64 n, .bool false]) ∧ Below w.heap.size w w' := by
  have eg : ∀ args w, (callFunc 173 args).run Tryz.prog w = .ok (.enter 173 args) w := enters_of Tryz.func173 (by kernel_rfl) rfl
  have Hp := hid hp; clear hp
  go_enter Tryz.func172, Tryz.ntmps172
  go_wp2_with fail
  go_loopw [9, 10] (fun i j W => j = .int .i64 n ∧ ∃ k : Nat, k ≤ n ∧ i = .int .i64 k ∧ Below w.heap.size w W) (fun i _ _ => n - (intOf i).toNat)
  case atStart => exact ⟨rfl, 0, Nat.zero_le _, rfl, Below.refl _ _⟩
  case round =>
    obtain ⟨rfl, k, hk, rfl, hB⟩ := hrel
    obtain ⟨wo, rfl⟩ : ∃ wo : World, wo = wr := ⟨_, rfl⟩
    by_cases hlt : k < n
    · have hhn : (k + n) / 2 < n := by omega
      obtain ⟨b, off, rfl, hcell⟩ := (ha.below hB) (by omega)
      have hc := hcell ((k + n) / 2) (ptrV ps[(k + n) / 2].1) (by simp [List.getElem?_map, List.getElem?_eq_getElem (show (k + n) / 2 < ps.length by omega)])
      obtain ⟨hp1, hp2⟩ := Hp.out ps[(k + n) / 2] (List.getElem_mem _)
      have hp3 := cell_below hB hp1
      have hq3 := cell_below hB hq
      have Hc := hid (order_any ps[(k + n) / 2].1 q ps[(k + n) / 2].2 t wo hp3 hq3)
      generalize ps[(k + n) / 2] = x at *
      clear hp1 hp3 hq3 hcell
      unfold ptrV at hc
      have hcm : cmpS x.2 t < 0 := hp2
      generalize cmpS x.2 t = c at *
      go_wp2_with (first | (refine Hc.out.mono ?_; rintro e w' ⟨rfl, dn, rfl⟩))
      exact ⟨⟨rfl, (k + n) / 2 + 1, by omega, by go_num, hB.trans ((below_of_drewN _ dn).mono hB.size)⟩, by simp [intOf]; omega⟩
    · have hke : k = n := by omega
      subst hke
      have hdec : (decide ((k : Int) < (k : Int))) = false := decide_eq_false (by omega)
      go_wp2_with fail
      go_ret2
      exact ⟨rfl, hB⟩
end Go.Proofs.YtgbnlemcojgijaaGreatDoor
