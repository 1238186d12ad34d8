/- A name's parts: what stands between the colons. -/
import Derived.Test.YtgbnlemcojgijaaGreatDoorAi
namespace Go.Proofs.YtgbnlemcojgijaaGreatDoor
open Go.RowKit Go.Shelf Go.Sort

def splitC : List UInt8 → List (List UInt8)
  | [] => [[]]
  | b :: l => if b = 58 then [] :: splitC l else (b :: (splitC l).headD []) :: (splitC l).tail
def joinC : List (List UInt8) → List UInt8
  | [] => []
  | p :: ps => if ps = [] then p else p ++ 58 :: joinC ps
theorem splitC_ne (l : List UInt8) : splitC l ≠ [] := by
  cases l with
  | nil => simp [splitC]
  | cons b l => unfold splitC; split <;> simp
theorem splitC_colon (l : List UInt8) : splitC (58 :: l) = [] :: splitC l := by simp [splitC]
theorem splitC_other {b : UInt8} (l : List UInt8) (h : b ≠ 58) : splitC (b :: l) = (b :: (splitC l).headD []) :: (splitC l).tail := by simp [splitC, h]
theorem splitC_append : ∀ a b : List UInt8, splitC (a ++ 58 :: b) = splitC a ++ splitC b
  | [], b => by rw [List.nil_append, splitC_colon]; rfl
  | x :: a, b => by
    have ih := splitC_append a b
    have hne := splitC_ne a
    by_cases h : x = 58
    · subst h
      rw [List.cons_append, splitC_colon, splitC_colon, ih]; rfl
    · rw [List.cons_append, splitC_other _ h, splitC_other _ h, ih]
      cases hs : splitC a with
      | nil => exact absurd hs hne
      | cons p ps => rfl
theorem splitC_one : ∀ {a : List UInt8}, (58 : UInt8) ∉ a → splitC a = [a]
  | [], _ => rfl
  | x :: a, h => by
    have h1 : x ≠ 58 := fun e => h (by subst e; exact List.mem_cons_self)
    have h2 : (58 : UInt8) ∉ a := fun e => h (List.mem_cons_of_mem _ e)
    rw [splitC_other _ h1, splitC_one h2]
    rfl
theorem joinC_cons (p : List UInt8) {ps : List (List UInt8)} (h : ps ≠ []) : joinC (p :: ps) = p ++ 58 :: joinC ps := by rw [joinC, if_neg h]
theorem joinC_one (p : List UInt8) : joinC [p] = p := rfl
theorem joinC_split : ∀ l : List UInt8, joinC (splitC l) = l
  | [] => rfl
  | x :: l => by
    have ih := joinC_split l
    have hne := splitC_ne l
    by_cases h : x = 58
    · subst h
      rw [splitC_colon, joinC_cons _ hne, ih]; rfl
    · rw [splitC_other _ h]
      cases hs : splitC l with
      | nil => exact absurd hs hne
      | cons p ps =>
        rw [hs] at ih
        show joinC ((x :: p) :: ps) = _
        by_cases hp : ps = []
        · subst hp
          rw [joinC_one] at *
          rw [ih]
        · rw [joinC_cons _ hp] at *
          rw [← ih]; rfl
theorem split_joinC : ∀ ps : List (List UInt8), ps ≠ [] → (∀ p ∈ ps, (58 : UInt8) ∉ p) → splitC (joinC ps) = ps
  | [], h, _ => absurd rfl h
  | p :: ps, _, h => by
    by_cases hp : ps = []
    · subst hp
      rw [joinC_one]
      exact splitC_one (h p List.mem_cons_self)
    · rw [joinC_cons _ hp, splitC_append, splitC_one (h p List.mem_cons_self), split_joinC ps hp fun q hq => h q (List.mem_cons_of_mem _ hq)]
      rfl
theorem splitC_inj {a b : List UInt8} (h : splitC a = splitC b) : a = b := by rw [← joinC_split a, h, joinC_split]
theorem splitC_parts : ∀ (l p : List UInt8), p ∈ splitC l → (58 : UInt8) ∉ p
  | [], p, h => by simp [splitC] at h; subst h; simp
  | x :: l, p, h => by
    by_cases hx : x = 58
    · subst hx
      rw [splitC_colon] at h
      rcases List.mem_cons.1 h with rfl | h
      · simp
      · exact splitC_parts l p h
    · rw [splitC_other _ hx] at h
      cases hs : splitC l with
      | nil => exact absurd hs (splitC_ne l)
      | cons q qs =>
        rw [hs] at h
        rcases List.mem_cons.1 h with rfl | h
        · intro hm
          rcases List.mem_cons.1 hm with e | hm
          · exact hx e.symm
          · exact splitC_parts l q (by rw [hs]; exact List.mem_cons_self) hm
        · exact splitC_parts l p (by rw [hs]; exact List.mem_cons_of_mem _ h)

/-- The library's pieces at a colon, joined. -/
theorem joinC_splitK : ∀ (k : Nat) (s : List UInt8), joinC (Lib.splitK [58] 0 k s) = s
  | 0, s => rfl
  | k + 1, s => by
    unfold Lib.splitK
    by_cases hi : Lib.index s [58] = -1
    · rw [if_pos (beq_iff_eq.2 hi)]; rfl
    · rw [if_neg (fun e => hi (beq_iff_eq.1 e))]
      have hge := Lib.index_ge s [58]
      obtain ⟨i, h⟩ : ∃ i : Nat, Lib.index s [58] = i := ⟨(Lib.index s [58]).toNat, by omega⟩
      have h2 : Lib.indexByte s 58 = i := by rw [← Lib.index_one]; exact h
      obtain ⟨hc, _⟩ := Lib.indexByte_some h2
      obtain ⟨hlt, he⟩ := List.getElem?_eq_some_iff.1 hc
      rw [h]
      have e1 : ((i : Int).toNat + 0) = i := by simp
      have e2 : ((i : Int).toNat + [(58 : UInt8)].length) = i + 1 := by simp
      rw [e1, e2]
      have hne : Lib.splitK [58] 0 k (s.drop (i + 1)) ≠ [] := by cases k <;> unfold Lib.splitK <;> (try split) <;> simp
      rw [joinC_cons _ hne, joinC_splitK k]
      rw [← he, ← List.drop_eq_getElem_cons hlt, List.take_append_drop]
theorem splitK_ne (k : Nat) (s : List UInt8) : Lib.splitK [58] 0 k s ≠ [] := by cases k <;> unfold Lib.splitK <;> (try split) <;> simp
theorem okB_colon : okB 58 = false := by decide
theorem part_colon {p : List UInt8} (h : partL p = true) : (58 : UInt8) ∉ p := fun hm => by
  unfold partL at h
  rw [Bool.and_eq_true] at h
  have := List.all_eq_true.1 h.2 58 hm
  rw [okB_colon] at this
  cases this
/-- A good name's parts. -/
theorem good_parts {s : ByteArray} (h : goodB s = true) : s.size ≤ 102 ∧ (splitC (L s)).length ≤ 6 ∧ ∀ p ∈ splitC (L s), partL p = true := by
  unfold goodB at h
  simp only [Bool.and_eq_true, decide_eq_true_eq] at h
  obtain ⟨h1, h2, h3⟩ := h
  have e : (partsB s).map L = Lib.splitK [58] 0 (Lib.countB s colon) (L s) := Lib.splitB_data colon 0 _ s
  have hp : ∀ p ∈ (partsB s).map L, partL p = true := fun p hp => by
    obtain ⟨q, hq, rfl⟩ := List.mem_map.1 hp
    exact List.all_eq_true.1 h3 q hq
  have e2 : splitC (L s) = (partsB s).map L := by
    have := joinC_splitK (Lib.countB s colon) (L s)
    rw [← e] at this
    conv => lhs; rw [← this]
    exact split_joinC _ (by rw [e]; exact splitK_ne _ _) fun p hp' => part_colon (hp p hp')
  rw [e2]
  exact ⟨h1, by rw [List.length_map]; exact h2, hp⟩
theorem L_bang (s : ByteArray) (i : Nat) (h : i < s.size) : (L s)[i]? = some (s.data[i]!) := by
  rw [L_get s i h]
  congr 1
  show s.data[i] = _
  rw [getElem!_pos s.data i h]
/-- A good name: a root, or one with a name above. -/
theorem upB_cases {s : ByteArray} (h : goodB s = true) : (Lib.lastIndexByte s 58 = -1 ∧ upB s = none ∧ splitC (L s) = [L s]) ∨
    ∃ (p : ByteArray) (x : List UInt8), Lib.lastIndexByte s 58 = p.size ∧ upB s = some p ∧ L s = L p ++ 58 :: x ∧ splitC (L s) = splitC (L p) ++ [x] ∧ p.size < s.size ∧ (L s).drop (p.size + 1) = x := by
  rcases Lib.lastIndexByte_spec s 58 with ⟨e, hn⟩ | ⟨i, hi, e, hc, hn⟩
  · refine .inl ⟨e, by unfold upB; rw [e]; rfl, splitC_one fun hm => ?_⟩
    obtain ⟨j, hj⟩ := List.getElem?_of_mem hm
    have hlt : j < s.size := get_lt hj
    rw [L_bang s j hlt] at hj
    injection hj with hj
    exact hn j hlt (by rw [hj]; rfl)
  · have hlt : i < (L s).length := hi
    have hsz : (s.extract 0 i).size = i := by rw [ByteArray.size_extract]; omega
    have hg : (L s)[i] = 58 := by
      have := L_bang s i hi
      rw [List.getElem?_eq_getElem hlt] at this
      injection this with this
      rw [this]
      exact UInt8.toNat_inj.1 (by show (s.data[i]!).toNat = 58; omega)
    have hs : L s = L (s.extract 0 i) ++ 58 :: (L s).drop (i + 1) := by
      rw [L_extract]
      simp only [List.drop_zero, Nat.sub_zero]
      rw [← hg, ← List.drop_eq_getElem_cons hlt, List.take_append_drop]
    refine .inr ⟨s.extract 0 i, (L s).drop (i + 1), by rw [hsz]; exact e, by unfold upB; rw [e, if_neg (by omega), if_pos h]; rfl, hs, ?_, by rw [hsz]; exact hi, by rw [hsz]⟩
    conv => lhs; rw [hs]
    rw [splitC_append, splitC_one (a := (L s).drop (i + 1)) fun hm => ?_]
    obtain ⟨j, hj⟩ := List.getElem?_of_mem hm
    rw [List.getElem?_drop] at hj
    have hlt : i + 1 + j < s.size := get_lt hj
    rw [L_bang s _ hlt] at hj
    injection hj with hj
    exact hn _ (by omega) hlt (by rw [hj]; rfl)
end Go.Proofs.YtgbnlemcojgijaaGreatDoor
