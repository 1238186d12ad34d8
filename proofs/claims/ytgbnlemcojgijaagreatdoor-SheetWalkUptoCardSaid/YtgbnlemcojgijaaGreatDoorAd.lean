/- The laws' own helpers: parts joined. -/
import Derived.Test.YtgbnlemcojgijaaGreatDoorAc
namespace Go.Proofs.YtgbnlemcojgijaaGreatDoor
open Go.RowKit Go.Shelf Go.Sort

/-- The first k parts with a colon between two. -/
def joinN (ps : List ByteArray) : Nat → List UInt8
  | 0 => []
  | k + 1 => joinN ps k ++ (if 0 < k then [58] else []) ++ L (ps.getD k ⟨#[]⟩)
theorem joinN_length (ps : List ByteArray) (M : Nat) (h : ∀ p ∈ ps, p.size ≤ M) : ∀ k, k ≤ ps.length → (joinN ps k).length ≤ k * (M + 1)
  | 0, _ => by simp [joinN]
  | k + 1, hk => by
    have h1 := joinN_length ps M h k (by omega)
    have h2 : (if 0 < k then ([58] : List UInt8) else []).length ≤ 1 := by split <;> simp
    have h3 : (L (ps.getD k ⟨#[]⟩)).length ≤ M := by
      rw [List.getD_eq_getElem?_getD, List.getElem?_eq_getElem (by omega)]
      exact h _ (List.getElem_mem _)
    unfold joinN
    rw [List.length_append, List.length_append, Nat.succ_mul]
    omega

set_option maxHeartbeats 1000000 in
theorem joined_any (A : Option Addr) (cap M : Nat) (ps : List ByteArray) (w : World) (hn : ps.length * (M + 1) ≤ 1073741824) (hM : M ≤ 1073741824) (hn2 : ps.length ≤ 1073741824) (hs : ∀ p ∈ ps, p.size ≤ M) (hA : Arr w A ps.length (ps.map Value.string)) :
    Calls Tryz.prog 21 #[.slice A ps.length cap] w fun e w' => (∃ r, e = .returned (.string r) ∧ Str r (joinN ps ps.length)) ∧ w = w' := by
  have Hs := hid hs; have Hn := hid hn
  clear hs hn
  go_enter Tryz.func21, Tryz.ntmps21
  go_wp2_with fail
  go_loop [3, 4] (fun v i => ∃ (k : Nat) (r : ByteArray), k ≤ ps.length ∧ i = .int .i64 k ∧ v = .string r ∧ Str r (joinN ps k)) (fun _ i => ps.length - (intOf i).toNat)
  case atStart => exact ⟨0, ⟨#[]⟩, Nat.zero_le _, rfl, rfl, rfl⟩
  case round =>
    obtain ⟨k, r, hk, rfl, rfl, hr⟩ := hrel
    have hl := joinN_length ps M Hs.out k hk
    have hrs := hr.size
    by_cases hlt : k < ps.length
    · obtain ⟨b, off, rfl, hc⟩ := hA.str k hlt
      have hps := Hs.out _ (List.getElem_mem hlt)
      have hkm : (k + 1) * (M + 1) ≤ 1073741824 := Nat.le_trans (Nat.mul_le_mul_right _ hlt) Hn.out
      rw [Nat.succ_mul] at hkm
      have Hj : Hid (joinN ps (k + 1) = joinN ps k ++ (if 0 < k then [58] else []) ++ L ps[k]) := hid (by
        conv => lhs; unfold joinN
        rw [List.getD_eq_getElem?_getD, List.getElem?_eq_getElem hlt]; rfl)
      have hb1 : r.size + 1 + ps[k].size ≤ 1073741824 := by omega
      have Hr := hid hr
      clear hl hrs hkm hr
      generalize ps[k] = x at *
      by_cases h0 : 0 < k
      · have hgt : decide (0 < k) = true := decide_eq_true h0
        have Hj2 : Hid (Str (r ++ ⟨#[58]⟩ ++ x) (joinN ps (k + 1))) := hid (Str.mk (by rw [L_append, L_append, Hr.out, Hj.out, if_pos h0]; rfl))
        go_wp2_with fail
        exact ⟨⟨k + 1, _, by omega, by go_num, rfl, Hj2.out⟩, by simp [intOf]; omega⟩
      · have hgt : decide (0 < k) = false := decide_eq_false h0
        have Hj2 : Hid (Str (r ++ x) (joinN ps (k + 1))) := hid (Str.mk (by rw [L_append, Hr.out, Hj.out, if_neg h0, List.append_nil]))
        go_wp2_with fail
        exact ⟨⟨k + 1, _, by omega, by go_num, rfl, Hj2.out⟩, by simp [intOf]; omega⟩
    · have hke : k = ps.length := by omega
      have Hf : Hid (Str r (joinN ps ps.length)) := hid (by rw [← hke]; exact hr)
      clear hr hl hrs
      go_wp2_with fail
      go_ret
      exact ⟨⟨_, rfl, Hf.out⟩, rfl⟩
end Go.Proofs.YtgbnlemcojgijaaGreatDoor
