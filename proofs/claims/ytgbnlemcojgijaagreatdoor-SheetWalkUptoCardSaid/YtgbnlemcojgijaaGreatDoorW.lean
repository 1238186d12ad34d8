/- The laws' own helpers: a text's first word, its lines; a number modulo another. -/
import Derived.Test.YtgbnlemcojgijaaGreatDoorG
import Derived.Test.YtgbnlemcojgijaaGreatDoorC
namespace Go.Proofs.YtgbnlemcojgijaaGreatDoor
open Go.RowKit Go.Shelf Go.Sort

def wordL (l : List UInt8) : List UInt8 := l.takeWhile fun b => b != 32
theorem takeWhile_at (p : UInt8 → Bool) : ∀ (l : List UInt8) (k : Nat) (x : UInt8), (∀ j y, j < k → l[j]? = some y → p y = true) → l[k]? = some x → p x = false → l.takeWhile p = l.take k
  | [], k, x, _, h, _ => by simp at h
  | b :: l, 0, x, _, h, hp => by simp at h; subst h; simp [hp]
  | b :: l, k + 1, x, hall, h, hp => by
    have hb := hall 0 b (by omega) rfl
    rw [List.takeWhile_cons, if_pos hb, List.take_succ_cons, takeWhile_at p l k x (fun j y hj hy => hall (j + 1) y (by omega) (by simpa using hy)) (by simpa using h) hp]
theorem takeWhile_all (p : UInt8 → Bool) (l : List UInt8) (h : ∀ (j : Nat) (y : UInt8), l[j]? = some y → p y = true) : l.takeWhile p = l := by
  induction l with
  | nil => rfl
  | cons b l ih => rw [List.takeWhile_cons, if_pos (h 0 b rfl), ih fun j y hj => h (j + 1) y (by simpa using hj)]
theorem L_take (s : ByteArray) (k : Nat) : L (s.extract 0 k) = (L s).take k := by rw [L_extract]; simp

set_option maxHeartbeats 1000000 in
theorem word_any (s : ByteArray) (w : World) (hs : s.size ≤ 140737488351232) :
    Calls Tryz.prog 19 #[.string s] w fun e w' => (∃ r, e = .returned (.string r) ∧ Str r (wordL (L s))) ∧ w = w' := by
  go_enter Tryz.func19, Tryz.ntmps19
  go_wp2
  go_loop [3] (fun i => ∃ k : Nat, k ≤ s.size ∧ i = .int .i64 k ∧ (∀ (j : Nat) (y : UInt8), j < k → (L s)[j]? = some y → (y != 32) = true)) (fun i => s.size - (intOf i).toNat)
  case atStart => exact ⟨0, Nat.zero_le _, rfl, fun j y h => absurd h (Nat.not_lt_zero _)⟩
  case round =>
    obtain ⟨k, hk, rfl, hall⟩ := hrel
    have Hall := hid hall; clear hall
    by_cases hlt : k < s.size
    · have Hx := hid (L_get s k hlt)
      by_cases h32 : (s[k].toNat : Int) = 32
      · have hb : ((s[k].toNat : Int) == 32) = true := beq_iff_eq.2 h32
        have Hr : Hid (Str (s.extract 0 k) (wordL (L s))) := hid (Str.mk (by
          rw [L_take]
          refine (takeWhile_at _ _ k _ Hall.out Hx.out ?_).symm
          have e : s[k] = 32 := UInt8.toNat_inj.1 (by show s[k].toNat = 32; omega)
          rw [e]; rfl))
        clear h32
        go_wp2
        go_ret
        exact ⟨⟨_, rfl, Hr.out⟩, rfl⟩
      · have hb : ((s[k].toNat : Int) == 32) = false := beq_eq_false_iff_ne.2 h32
        have Hne := hid h32
        clear h32
        go_wp2
        exact ⟨⟨k + 1, by omega, by go_num, fun j y hj hy => by
          by_cases hjk : j < k
          · exact Hall.out j y hjk hy
          · have hje : j = k := by omega
            subst hje
            rw [Hx.out] at hy
            injection hy with hy
            subst hy
            rw [bne_iff_ne]
            intro e
            exact Hne.out (by rw [e]; rfl)⟩, by simp [intOf]; omega⟩
    · have Hr : Hid (Str s (wordL (L s))) := hid (Str.mk (takeWhile_all _ _ fun j y hy => Hall.out j y (by have := (List.getElem?_eq_some_iff.1 hy).1; rw [L_size] at this; omega) hy).symm)
      go_wp2
      go_ret
      exact ⟨⟨_, rfl, Hr.out⟩, rfl⟩

theorem tmod_facts (n : Int) (k : Nat) (hk : 0 < k) : n.tmod k < k ∧ -(k : Int) < n.tmod k ∧ (0 ≤ n.tmod k → n.tmod k = n % k) ∧ (n.tmod k < 0 → n.tmod k + k = n % k) := by
  have h1 := Int.tmod_lt_of_pos n (show (0 : Int) < k by omega)
  have h2 : -(k : Int) < n.tmod k := by
    have := Int.lt_tmod_of_pos n (show (0 : Int) < k by omega)
    exact this
  have h3 : n % k = (n.tmod k) % k := by
    have e := Int.mul_tdiv_add_tmod n k
    conv => lhs; rw [← e]
    exact Int.mul_add_emod_self_left _ _ _
  refine ⟨h1, h2, fun h => ?_, fun h => ?_⟩
  · rw [h3, Int.emod_eq_of_lt h h1]
  · rw [h3, ← Int.add_emod_right, Int.emod_eq_of_lt (by omega) (by omega)]
theorem mod_any (n : Int) (k : Nat) (w : World) (hk : 0 < k) (hk2 : k ≤ 1048576) :
    Calls Tryz.prog 10 #[.int .i64 n, .int .i64 k] w fun e w' => e = .returned (.int .i64 (n % k)) ∧ w = w' := by
  obtain ⟨h1, h2, h3, h4⟩ := tmod_facts n k hk
  have H3 := hid h3; have H4 := hid h4
  clear h3 h4
  by_cases h : n.tmod k < 0
  · have Hw : Hid (wrap64 (n.tmod k + k) = n % k) := hid (by rw [← H4.out h]; unfold wrap64; omega)
    go_enter Tryz.func10, Tryz.ntmps10
    go_wp2_with fail
    go_ret
    exact ⟨ret_int (by first | exact Hw.out | exact H4.out h), rfl⟩
  · have Hw : Hid (n.tmod k = n % k) := hid (H3.out (by omega))
    go_enter Tryz.func10, Tryz.ntmps10
    go_wp2_with fail
    go_ret
    exact ⟨ret_int Hw.out, rfl⟩
end Go.Proofs.YtgbnlemcojgijaaGreatDoor
