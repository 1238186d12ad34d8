/- money's small functions and Sum, walked. -/
import Derived.Test.YtgbnlemcojgijaaGreatDoorB
import Derived.Laws.Externs
namespace Go.Proofs.YtgbnlemcojgijaaGreatDoor
open Go.RowKit

theorem add64_0 (x y : Int) (hx : 0 ≤ x) (hy : 0 ≤ y) (w : World) : (callFunc 137 #[.int .u64 x, .int .u64 y, .int .u64 0]).run Tryz.prog w =
    .ok (.value (.tuple #[.int .u64 ((x + y) % 18446744073709551616), .int .u64 ((x + y) / 18446744073709551616)])) w := by
  have h := run_callFunc_extern (P := Tryz.prog) (e := add64Entry) Tryz.func137 (by kernel_rfl) rfl (by kernel_rfl) (by kernel_rfl) #[.int .u64 x, .int .u64 y, .int .u64 0] w
  rw [run_add64 x y 0 hx hy (by decide) (by decide)] at h
  simpa [Result.andThen] using h

/-- An amount's range as an int64. -/
def I64 (x : Int) : Prop := -9223372036854775808 ≤ x ∧ x ≤ 9223372036854775807
def sumE (l : List Int) : Int := if l.any (fun x => x == -9223372036854775808) then 10 else if -9223372036854775807 ≤ l.sum ∧ l.sum ≤ 9223372036854775807 then 0 else 11
def sumV (l : List Int) : Int := if sumE l = 0 then l.sum else 0

theorem wrap_u64 (a : Int) : IntKind.u64.wrap a = a % 18446744073709551616 := by simp [IntKind.wrap, IntKind.bits, IntKind.signed]
theorem sum_step (h o a : Int) (k : Nat) (hk : k ≤ 140737488351232) (ho0 : 0 ≤ o) (ho1 : o < 18446744073709551616) (hr : I64 a) (h0 : -(k : Int) ≤ h) (h1 : h ≤ k) :
    ∃ g p : Int, wrap64 (h + wrap64 (a / 9223372036854775808 + wrap64 ((o + IntKind.u64.wrap a) / 18446744073709551616))) = g ∧ (o + IntKind.u64.wrap a) % 18446744073709551616 = p ∧
      0 ≤ p ∧ p < 18446744073709551616 ∧ -((k : Int) + 1) ≤ g ∧ g ≤ (k : Int) + 1 ∧ g * 18446744073709551616 + p = h * 18446744073709551616 + o + a := by
  obtain ⟨r0, r1⟩ := hr
  rw [wrap_u64]
  have e1 : a / 9223372036854775808 = 0 ∧ 0 ≤ a ∨ a / 9223372036854775808 = -1 ∧ a < 0 := by omega
  refine ⟨_, _, rfl, rfl, ?_⟩
  unfold wrap64
  rcases e1 with ⟨e, h2⟩ | ⟨e, h2⟩ <;> rw [e]
  · have e2 : a % 18446744073709551616 = a := by omega
    rw [e2]
    omega
  · have e2 : a % 18446744073709551616 = a + 18446744073709551616 := by omega
    rw [e2]
    omega
theorem sum_end (h o s : Int) (k : Nat) (hk : k ≤ 140737488351232) (ho0 : 0 ≤ o) (ho1 : o < 18446744073709551616) (h0 : -(k : Int) ≤ h) (h1 : h ≤ k) (hs : h * 18446744073709551616 + o = s) :
    (h = wrap64 o / 9223372036854775808 ∧ wrap64 o ≠ -9223372036854775808 → s = wrap64 o ∧ -9223372036854775807 ≤ s ∧ s ≤ 9223372036854775807) ∧
    (¬ (h = wrap64 o / 9223372036854775808 ∧ wrap64 o ≠ -9223372036854775808) → ¬ (-9223372036854775807 ≤ s ∧ s ≤ 9223372036854775807)) := by
  unfold wrap64
  omega

theorem sumE_of (l : List Int) (h o : Int) (hany : l.any (fun x => x == -9223372036854775808) = false)
    (hE : (h = wrap64 o / 9223372036854775808 ∧ wrap64 o ≠ -9223372036854775808 → l.sum = wrap64 o ∧ -9223372036854775807 ≤ l.sum ∧ l.sum ≤ 9223372036854775807) ∧
    (¬ (h = wrap64 o / 9223372036854775808 ∧ wrap64 o ≠ -9223372036854775808) → ¬ (-9223372036854775807 ≤ l.sum ∧ l.sum ≤ 9223372036854775807))) :
    (h = wrap64 o / 9223372036854775808 → (wrap64 o == -9223372036854775808) = false → sumE l = 0 ∧ sumV l = wrap64 o) ∧
    (¬ h = wrap64 o / 9223372036854775808 → sumE l = 11 ∧ sumV l = 0) ∧ ((wrap64 o == -9223372036854775808) = true → sumE l = 11 ∧ sumV l = 0) := by
  refine ⟨fun h1 h2 => ?_, fun h1 => ?_, fun h1 => ?_⟩
  · obtain ⟨e, b⟩ := hE.1 ⟨h1, by simpa using h2⟩
    have : sumE l = 0 := by unfold sumE; rw [hany, if_neg (by simp), if_pos b]
    exact ⟨this, by unfold sumV; rw [if_pos this, e]⟩
  · have b := hE.2 (fun h => h1 h.1)
    have : sumE l = 11 := by unfold sumE; rw [hany, if_neg (by simp), if_neg b]
    exact ⟨this, by unfold sumV; rw [if_neg (by rw [this]; decide)]⟩
  · have b := hE.2 (fun h => h.2 (by simpa using h1))
    have : sumE l = 11 := by unfold sumE; rw [hany, if_neg (by simp), if_neg b]
    exact ⟨this, by unfold sumV; rw [if_neg (by rw [this]; decide)]⟩

set_option maxHeartbeats 1000000 in
set_option maxRecDepth 100000 in
theorem Sum_any (A : Option Addr) (c : Nat) (l : List Int) (w : World) (hl : l.length * 8 ≤ 140737488351232) (hr : ∀ x ∈ l, I64 x) (ha : Arr w A l.length (l.map (Value.int .i64))) :
    Calls Tryz.prog 91 #[.slice A l.length c] w fun e w' => e = .returned (.tuple #[.int .i64 (sumV l), .int .i64 (sumE l)]) ∧ w = w' := by
  go_enter Tryz.func91, Tryz.ntmps91
  go_wp2
  go_loop [14] (fun i => ∃ k : Nat, k ≤ l.length ∧ i = .int .i64 k ∧ (l.take k).any (fun x => x == -9223372036854775808) = false) (fun i => l.length - (intOf i).toNat)
  case atStart => exact ⟨0, Nat.zero_le _, rfl, rfl⟩
  case round =>
    obtain ⟨k, hk, rfl, hany⟩ := hrel
    have Hany := hid hany; clear hany
    by_cases hlt : k < l.length
    · obtain ⟨b, off, rfl, hc⟩ := ha (by omega)
      have hx := hc k (.int .i64 l[k]) (by simp [List.getElem?_map, List.getElem?_eq_getElem hlt])
      clear hc ha
      have hrk := hr l[k] (List.getElem_mem hlt)
      by_cases hm : l[k] = -9223372036854775808
      · have hb : (l[k] == -9223372036854775808) = true := by simp [hm]
        go_wp2
        go_ret2
        refine ⟨?_, rfl⟩
        have hE : sumE l = 10 := by
          unfold sumE
          rw [if_pos (List.any_eq_true.2 ⟨l[k], List.getElem_mem hlt, hb⟩)]
        simp [sumV, hE]
      · have hb : (l[k] == -9223372036854775808) = false := by simp [hm]
        go_wp2
        refine ⟨⟨k + 1, by omega, by go_num, ?_⟩, by simp [intOf]; omega⟩
        rw [List.take_succ_eq_append_getElem hlt, List.any_append, Hany.out]
        simp [hb]
    · have Hany' : Hid (l.any (fun x => x == -9223372036854775808) = false) := hid (by have := Hany.out; rwa [List.take_of_length_le (by omega)] at this)
      clear Hany
      go_wp2
      clear hk hlt
      go_loop [4, 5, 23] (fun hi lo i => ∃ (k : Nat) (h o : Int), k ≤ l.length ∧ i = .int .i64 k ∧ hi = .int .i64 h ∧ lo = .int .u64 o ∧ 0 ≤ o ∧ o < 18446744073709551616 ∧ -(k : Int) ≤ h ∧ h ≤ k ∧ Hid (h * 18446744073709551616 + o = (l.take k).sum)) (fun _ _ i => l.length - (intOf i).toNat)
      case atStart => exact ⟨0, 0, 0, Nat.zero_le _, rfl, rfl, rfl, by decide, by decide, by decide, by decide, hid rfl⟩
      case round =>
        obtain ⟨k, h, o, hk, rfl, rfl, rfl, ho0, ho1, hh0, hh1, hs⟩ := hrel
        by_cases hlt : k < l.length
        · obtain ⟨b, off, rfl, hc⟩ := ha (by omega)
          have hx := hc k (.int .i64 l[k]) (by simp [List.getElem?_map, List.getElem?_eq_getElem hlt])
          clear hc ha
          have Hr := hid (hr l[k] (List.getElem_mem hlt))
          have Ho := hid ho1; clear ho1 hr
          have hadd := add64_0 o (IntKind.u64.wrap l[k]) ho0 (wrap_u64_nonneg _) w
          go_wp2
          obtain ⟨g, p, e1, e2, p0, p1, g0, g1, hg⟩ := sum_step h o l[k] k (by omega) ho0 Ho.out Hr.out hh0 hh1
          refine ⟨⟨k + 1, g, p, by omega, by go_num, by rw [e1], by rw [e2], p0, p1, by omega, by omega, ?_⟩, by simp [intOf]; omega⟩
          refine hid ?_
          rw [hg, hs.out, List.take_succ_eq_append_getElem hlt, List.sum_append]
          simp
        · have hE := sum_end h o l.sum k (by omega) ho0 ho1 hh0 hh1 (by have := hs.out; rwa [List.take_of_length_le (by omega)] at this)
          have Hy := hid (sumE_of l h o Hany'.out hE); clear hE
          have Ho := hid ho1; clear ho1 hr hs
          go_wp2
          all_goals go_ret2
          all_goals refine ⟨?_, rfl⟩
          · rw [(Hy.out.2.2 (by assumption)).1, (Hy.out.2.2 (by assumption)).2]; rfl
          · rw [(Hy.out.1 (by assumption) (by assumption)).1, (Hy.out.1 (by assumption) (by assumption)).2]; rfl
          · rw [(Hy.out.2.1 (by assumption)).1, (Hy.out.2.1 (by assumption)).2]; rfl
end Go.Proofs.YtgbnlemcojgijaaGreatDoor
