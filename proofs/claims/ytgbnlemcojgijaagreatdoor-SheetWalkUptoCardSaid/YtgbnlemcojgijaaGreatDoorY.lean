/- The laws' own helpers: an account's place, parts joined; chart.Find. -/
import Derived.Test.YtgbnlemcojgijaaGreatDoorX
import Derived.Test.YtgbnlemcojgijaaGreatDoorO
namespace Go.Proofs.YtgbnlemcojgijaaGreatDoor
open Go.RowKit Go.Shelf Go.Sort

def placeI (acc : List Acct) (s : ByteArray) : Int := match acc.findIdx? (fun a => L a.name == L s) with | some i => i | none => -1
theorem L_beq (a b : ByteArray) : (L a == L b) = (a.toList == b.toList) := by rw [ByteArray.toList_eq, ByteArray.toList_eq]; rfl

set_option maxHeartbeats 1000000 in
theorem place_any (A : Option Addr) (cap : Nat) (acc : List Acct) (s : ByteArray) (w : World) (hn : acc.length ≤ 140737488351232) (hA : AcctsAt w A acc) :
    Calls Tryz.prog 20 #[.slice A acc.length cap, .string s] w fun e w' => e = .returned (.int .i64 (placeI acc s)) ∧ w = w' := by
  have HA := hid hA; clear hA
  go_enter Tryz.func20, Tryz.ntmps20
  go_wp2_with fail
  go_loop [5] (fun i => ∃ k : Nat, k ≤ acc.length ∧ i = .int .i64 k ∧ (∀ (j : Nat) (a : Acct), j < k → acc[j]? = some a → (L a.name == L s) = false)) (fun i => acc.length - (intOf i).toNat)
  case atStart => exact ⟨0, Nat.zero_le _, rfl, fun j y h => absurd h (Nat.not_lt_zero _)⟩
  case round =>
    obtain ⟨k, hk, rfl, hall⟩ := hrel
    have Hall := hid hall; clear hall
    by_cases hlt : k < acc.length
    · obtain ⟨b, off, rfl, hcell⟩ := HA.out (by omega)
      have Hak := hid (List.getElem?_eq_getElem hlt)
      obtain ⟨c1, _, _, _⟩ := hcell k acc[k] (List.getElem?_eq_getElem hlt)
      clear hcell
      generalize acc[k] = a at *
      cases he : (a.name.toList == s.toList) with
      | true =>
        have hr : placeI acc s = k := by
          unfold placeI
          have : acc.findIdx? (fun a => L a.name == L s) = some k := List.findIdx?_eq_some_iff_getElem.2 ⟨hlt, by rw [(List.getElem?_eq_some_iff.1 Hak.out).2, L_beq]; exact he, fun j hj => by
            have := Hall.out j _ hj (List.getElem?_eq_getElem (by omega)); rw [this]; decide⟩
          rw [this]
        have Hr := hid hr; clear hr
        go_wp2_with fail
        go_ret
        exact ⟨ret_int Hr.out.symm, rfl⟩
      | false =>
        have Hf : Hid ((L a.name == L s) = false) := hid (by rw [L_beq]; exact he)
        go_wp2_with fail
        exact ⟨⟨k + 1, by omega, by go_num, fun j x hj hx => by
          by_cases hjk : j < k
          · exact Hall.out j x hjk hx
          · have hje : j = k := by omega
            subst hje
            rw [Hak.out] at hx
            injection hx with hx
            subst hx
            exact Hf.out⟩, by simp [intOf]; omega⟩
    · have hr : placeI acc s = -1 := by
        unfold placeI
        have : acc.findIdx? (fun a => L a.name == L s) = none := List.findIdx?_eq_none_iff.2 fun x hx => by
          obtain ⟨j, hj⟩ := List.getElem?_of_mem hx
          exact Hall.out j x (by have := get_lt hj; omega) hj
        rw [this]
      have Hr := hid hr; clear hr
      go_wp2_with fail
      go_ret
      exact ⟨ret_int Hr.out.symm, rfl⟩
end Go.Proofs.YtgbnlemcojgijaaGreatDoor
