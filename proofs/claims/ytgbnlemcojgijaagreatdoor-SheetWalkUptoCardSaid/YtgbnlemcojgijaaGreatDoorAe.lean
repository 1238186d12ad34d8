/- The comparing closures: accounts by name. -/
import Derived.Test.YtgbnlemcojgijaaGreatDoorAd
namespace Go.Proofs.YtgbnlemcojgijaaGreatDoor
open Go.RowKit Go.Shelf Go.Sort

theorem accCmp (a b : Acct) (w : World) :
    Calls Tryz.prog 108 #[.agg #[.string a.name, .int .i64 a.typ, .int .i64 a.opened, .bool a.closed], .agg #[.string b.name, .int .i64 b.typ, .int .i64 b.opened, .bool b.closed]] w fun e w' => e = .returned (.int .i64 (cmpS a.name b.name)) ∧ ∃ q os', w' = grow (w.drewN q) os' := by
  go_enter Tryz.func108, Tryz.ntmps108
  go_wp2_with (first | (go_at_call 88; refine (compare_any _ _ _).mono ?_; rintro e w' ⟨rfl, rfl⟩))
  go_ret
  refine ⟨rfl, 0, #[.cells #[.string a.name, .int .i64 a.typ, .int .i64 a.opened, .bool a.closed] 31, .cells #[.string b.name, .int .i64 b.typ, .int .i64 b.opened, .bool b.closed] 31], ?_⟩
  rw [alloc_eq_grow, alloc_eq_grow, grow_grow]
  rfl
theorem countCmp (a b : Acct) (w : World) :
    Calls Tryz.prog 87 #[.agg #[.string a.name, .int .i64 a.typ, .int .i64 a.opened, .bool a.closed], .agg #[.string b.name, .int .i64 b.typ, .int .i64 b.opened, .bool b.closed]] w fun e w' => e = .returned (.int .i64 (cmpS a.name b.name)) ∧ ∃ q os', w' = grow (w.drewN q) os' := by
  go_enter Tryz.func87, Tryz.ntmps87
  go_wp2_with (first | (go_at_call 88; refine (compare_any _ _ _).mono ?_; rintro e w' ⟨rfl, rfl⟩))
  go_ret
  refine ⟨rfl, 0, #[.cells #[.string a.name, .int .i64 a.typ, .int .i64 a.opened, .bool a.closed] 31, .cells #[.string b.name, .int .i64 b.typ, .int .i64 b.opened, .bool b.closed] 31], ?_⟩
  rw [alloc_eq_grow, alloc_eq_grow, grow_grow]
  rfl

/-- 'name less than name' is a strict weak order. -/
theorem compareBytes_gt : ∀ (a b : List UInt8), ¬ Lib.compareBytes a b < 0 → ¬ Lib.compareBytes b a < 0 → a = b
  | [], [], _, _ => rfl
  | [], _ :: _, h, _ => absurd (by unfold Lib.compareBytes; omega) h
  | _ :: _, [], _, h => absurd (by unfold Lib.compareBytes; omega) h
  | x :: a, y :: b, h1, h2 => by
    unfold Lib.compareBytes at h1 h2
    by_cases hxy : x < y
    · rw [if_pos hxy] at h1; exact absurd (by omega) h1
    · by_cases hyx : y < x
      · rw [if_pos hyx] at h2; exact absurd (by omega) h2
      · rw [if_neg hxy, if_neg hyx] at h1
        rw [if_neg hyx, if_neg hxy] at h2
        have e : x = y := UInt8.le_antisymm (UInt8.not_lt.1 hyx) (UInt8.not_lt.1 hxy)
        rw [e, compareBytes_gt a b h1 h2]
def ltA (a b : Acct) : Bool := decide (cmpS a.name b.name < 0)
theorem cmpS_total {a b : ByteArray} (h1 : ¬ cmpS a b < 0) (h2 : ¬ cmpS b a < 0) : a = b := L_inj (compareBytes_gt _ _ h1 h2)
theorem ltA_swo : SWO ltA where
  irrefl x := by unfold ltA; rw [cmpS_self]; rfl
  trans x y z h1 h2 := by unfold ltA at *; exact decide_eq_true (cmpS_trans (of_decide_eq_true h1) (of_decide_eq_true h2))
  ntrans x y z h1 h2 := by
    unfold ltA at *
    refine decide_eq_false fun h => ?_
    have h1 := of_decide_eq_false h1
    have h2 := of_decide_eq_false h2
    by_cases hyx : cmpS y.name x.name < 0
    · by_cases hzy : cmpS z.name y.name < 0
      · have := cmpS_trans h (cmpS_trans hzy hyx)
        rw [cmpS_self] at this
        omega
      · rw [cmpS_total h2 hzy] at hyx
        have := cmpS_trans h hyx
        rw [cmpS_self] at this
        omega
    · rw [cmpS_total h1 hyx] at h
      exact h2 h
end Go.Proofs.YtgbnlemcojgijaaGreatDoor
