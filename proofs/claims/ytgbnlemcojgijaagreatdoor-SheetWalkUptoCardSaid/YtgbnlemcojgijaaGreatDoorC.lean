/- chart: parts of names, names, those above; a chart of accounts. -/
import Derived.Test.YtgbnlemcojgijaaGreatDoorF
import Derived.Test.YtgbnlemcojgijaaGreatDoorShelg
import Derived.Maps.OwnOps
import Derived.Maps.Views
namespace Go.Proofs.YtgbnlemcojgijaaGreatDoor
open Go.RowKit Go.Shelf Go.Sort

/-- A byte of a name's part; a part. -/
def okB (c : UInt8) : Bool := (65 ≤ c && c ≤ 90) || (97 ≤ c && c ≤ 122) || (48 ≤ c && c ≤ 57) || c == 45
def partL (l : List UInt8) : Bool := decide (1 ≤ l.length) && decide (l.length ≤ 16) && (65 ≤ l.headD 0 && l.headD 0 ≤ 90) && l.all okB

theorem L_get (s : ByteArray) (i : Nat) (h : i < s.size) : (L s)[i]? = some s[i] := by
  show s.data.toList[i]? = _
  rw [Array.getElem?_toList]
  exact Array.getElem?_eq_getElem (show i < s.data.size from h)
theorem okB_iff (c : UInt8) : okB c = true ↔ ((65 ≤ (c.toNat : Int) ∧ (c.toNat : Int) ≤ 90) ∨ (97 ≤ (c.toNat : Int) ∧ (c.toNat : Int) ≤ 122) ∨ (48 ≤ (c.toNat : Int) ∧ (c.toNat : Int) ≤ 57) ∨ (c.toNat : Int) = 45) := by
  have e : c = 45 ↔ (c.toNat : Int) = 45 := ⟨fun h => by subst h; rfl, fun h => UInt8.toNat_inj.1 (by show c.toNat = 45; omega)⟩
  simp only [okB, Bool.or_eq_true, Bool.and_eq_true, decide_eq_true_eq, beq_iff_eq, UInt8.le_iff_toNat_le, e]
  show (((65 ≤ c.toNat ∧ c.toNat ≤ 90) ∨ (97 ≤ c.toNat ∧ c.toNat ≤ 122)) ∨ (48 ≤ c.toNat ∧ c.toNat ≤ 57)) ∨ _ ↔ _
  omega
theorem partL_size (l : List UInt8) (h : ¬ (1 ≤ l.length ∧ l.length ≤ 16)) : partL l = false := by
  simp only [partL]
  by_cases h1 : 1 ≤ l.length
  · have h2 : ¬ l.length ≤ 16 := fun h2 => h ⟨h1, h2⟩
    simp [h2]
  · simp [h1]
theorem partL_all (l : List UInt8) (x : UInt8) (h1 : 1 ≤ l.length) (h2 : l.length ≤ 16) (hx : l[0]? = some x) : partL l = (decide (65 ≤ (x.toNat : Int)) && decide ((x.toNat : Int) ≤ 90) && l.all okB) := by
  cases l with
  | nil => simp at h1
  | cons y t =>
    simp at hx
    subst hx
    simp only [partL, h1, h2, decide_true, Bool.true_and, List.headD_cons, UInt8.le_iff_toNat_le]
    congr 1
    show (decide (65 ≤ y.toNat) && decide (y.toNat ≤ 90)) = _
    congr 1 <;> simp <;> omega
theorem take_all_succ (l : List UInt8) (p : UInt8 → Bool) (i : Nat) (x : UInt8) (hx : l[i]? = some x) (h : (l.take i).all p = true) (hp : p x = true) : (l.take (i + 1)).all p = true := by
  obtain ⟨hi, rfl⟩ := List.getElem?_eq_some_iff.1 hx
  rw [List.take_succ_eq_append_getElem hi, List.all_append, h]
  simpa using hp
theorem all_of_not (l : List UInt8) (p : UInt8 → Bool) (i : Nat) (x : UInt8) (hx : l[i]? = some x) (hp : ¬ p x = true) : l.all p = false := by
  obtain ⟨hi, rfl⟩ := List.getElem?_eq_some_iff.1 hx
  rw [Bool.eq_false_iff]
  intro h
  exact hp (List.all_eq_true.1 h _ (List.getElem_mem hi))

set_option maxHeartbeats 1000000 in
theorem part_any (s : ByteArray) (w : World) :
    Calls Tryz.prog 117 #[.string s] w fun e w' => e = .returned (.bool (partL (L s))) ∧ w = w' := by
  by_cases h1 : s.size < 1
  · have H := hid (partL_size (L s) (by rw [L_size]; omega))
    go_enter Tryz.func117, Tryz.ntmps117
    go_wp2
    go_ret
    exact ⟨by rw [H.out]; rfl, rfl⟩
  · by_cases h2 : 16 < s.size
    · have H := hid (partL_size (L s) (by rw [L_size]; omega))
      go_enter Tryz.func117, Tryz.ntmps117
      go_wp2
      go_ret
      exact ⟨by rw [H.out]; rfl, rfl⟩
    · have H := hid (partL_all (L s) s[0] (by rw [L_size]; omega) (by rw [L_size]; omega) (L_get s 0 (by omega)))
      have h0 : 0 < s.size := by omega
      by_cases h3 : (s[0].toNat : Int) < 65
      · go_enter Tryz.func117, Tryz.ntmps117
        go_wp2
        go_ret
        exact ⟨by rw [H.out]; simp; omega, rfl⟩
      · by_cases h4 : 90 < (s[0].toNat : Int)
        · go_enter Tryz.func117, Tryz.ntmps117
          go_wp2
          go_ret
          exact ⟨by rw [H.out]; simp; omega, rfl⟩
        · have H2 : Hid (partL (L s) = (L s).all okB) := hid (by rw [H.out]; simp; omega)
          clear H
          go_enter Tryz.func117, Tryz.ntmps117
          go_wp2
          go_loop [25] (fun i => ∃ k : Nat, k ≤ s.size ∧ i = .int .i64 k ∧ ((L s).take k).all okB = true) (fun i => s.size - (intOf i).toNat)
          case atStart => exact ⟨0, Nat.zero_le _, rfl, rfl⟩
          case round =>
            obtain ⟨k, hk, rfl, hall⟩ := hrel
            have Hall := hid hall; clear hall
            by_cases hlt : k < s.size
            · have Hx := hid (L_get s k hlt)
              have Hok := hid (okB_iff s[k])
              go_wp2
              all_goals first
                | (go_ret; refine ⟨?_, rfl⟩; rw [H2.out, all_of_not (L s) okB k _ Hx.out (fun hc => by have := Hok.out.1 hc; simp at *; omega)]; rfl)
                | exact ⟨⟨k + 1, by omega, by go_num, take_all_succ _ _ k _ Hx.out Hall.out (Hok.out.2 (by first | omega | (simp at *; omega)))⟩, by simp [intOf]; omega⟩
                | skip
              all_goals trace_state
            · go_wp2
              go_ret
              have hh := Hall.out
              rw [List.take_of_length_le (by rw [L_size]; omega)] at hh
              exact ⟨by rw [H2.out, hh]; rfl, rfl⟩
end Go.Proofs.YtgbnlemcojgijaaGreatDoor
