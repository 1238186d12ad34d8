/- Tree's rows as lines; what the lines say. -/
import Derived.Test.YtgbnlemcojgijaaGreatDoorAk
namespace Go.Proofs.YtgbnlemcojgijaaGreatDoor
open Go.RowKit Go.Shelf Go.Sort

def deepA (s : ByteArray) : Nat := (splitC (L s)).length - 1
def lastA (s : ByteArray) : List UInt8 := (splitC (L s)).getLastD []
def rowT (s : ByteArray) : List ByteArray := [mkS (List.replicate (2 * deepA s) 32 ++ lastA s), ⟨#[48]⟩, ⟨#[]⟩]
def lineT (W : Nat) (s : ByteArray) : List UInt8 := List.replicate (2 * deepA s) 32 ++ (lastA s ++ (List.replicate (W - (2 * deepA s + (lastA s).length)) 32 ++ [32, 32, 48]))

theorem lastA_part {s : ByteArray} (h : goodB s = true) : partL (lastA s) = true ∧ deepA s ≤ 5 := by
  obtain ⟨_, h6, hp⟩ := good_parts h
  refine ⟨?_, by unfold deepA; omega⟩
  unfold lastA
  have hne := splitC_ne (L s)
  rw [List.getLastD_eq_getLast?]
  cases hl : (splitC (L s)).getLast? with
  | none => exact absurd (List.getLast?_eq_none_iff.1 hl) hne
  | some x => exact hp x (List.mem_of_getLast? hl)
theorem part_facts {p : List UInt8} (h : partL p = true) : 1 ≤ p.length ∧ p.length ≤ 16 ∧ (∃ x, p[0]? = some x ∧ x ≠ 32) ∧ ∀ b ∈ p, b ≠ 32 ∧ b ≠ 10 := by
  unfold partL at h
  simp only [Bool.and_eq_true, decide_eq_true_eq] at h
  obtain ⟨⟨⟨h1, h2⟩, h3, h4⟩, h5⟩ := h
  have hall : ∀ b ∈ p, b ≠ 32 ∧ b ≠ 10 := fun b hb => by
    have := List.all_eq_true.1 h5 b hb
    constructor <;> (rintro rfl; revert this; decide)
  refine ⟨h1, h2, ?_, hall⟩
  cases p with
  | nil => simp at h1
  | cons x p => exact ⟨x, rfl, (hall x List.mem_cons_self).1⟩

theorem widthL_const {rows : List (List ByteArray)} {c v : Nat} (h : ∀ r ∈ rows, lenAt c r = v) (hne : rows ≠ []) : widthL rows c = v := by
  unfold widthL
  have key : ∀ (l : List (List ByteArray)) (n : Nat), (∀ r ∈ l, lenAt c r = v) → l.foldl (fun n r => max n (lenAt c r)) n = if l = [] then n else max n v := by
    intro l
    induction l with
    | nil => intro n _; rfl
    | cons r l ih =>
      intro n hl
      rw [List.foldl_cons, ih _ (fun r hr => hl r (List.mem_cons_of_mem _ hr)), hl r List.mem_cons_self, if_neg (List.cons_ne_nil _ _)]
      split
      · rfl
      · omega
  rw [key rows 0 h, if_neg hne]
  omega
theorem rowL_rowT (W : Nat → Nat) (s : ByteArray) (h1 : W 1 = 1) (h2 : W 2 = 0) : rowL W (fun c => decide (1 ≤ c)) (rowT s) = lineT (W 0) s ++ [10] := by
  unfold rowL
  congr 1
  have e0 : cellL W (fun c => decide (1 ≤ c)) 0 (mkS (List.replicate (2 * deepA s) 32 ++ lastA s)) = List.replicate (2 * deepA s) 32 ++ lastA s ++ List.replicate (W 0 - (2 * deepA s + (lastA s).length)) 32 := by
    unfold cellL
    simp [mkS_size]
    rw [← List.append_assoc]
    rfl
  have e1 : cellL W (fun c => decide (1 ≤ c)) 1 ⟨#[48]⟩ = [32, 32, 48] := by
    unfold cellL
    rw [h1]; rfl
  have e2 : cellL W (fun c => decide (1 ≤ c)) 2 ⟨#[]⟩ = [32, 32] := by
    unfold cellL
    rw [h2]; rfl
  have e : lineN W (fun c => decide (1 ≤ c)) (rowT s) (rowT s).length = lineT (W 0) s ++ [32, 32] := by
    show cellL W _ 0 (mkS _) ++ (cellL W _ 1 ⟨#[48]⟩ ++ (cellL W _ 2 ⟨#[]⟩ ++ [])) = _
    rw [e0, e1, e2]
    unfold lineT
    simp
  rw [e]
  have hl : (lineT (W 0) s).getLast? = some 48 := by unfold lineT; simp
  have := Lib.trimRightB_take (lineT (W 0) s ++ [32, 32]) 32 (lineT (W 0) s).length (by simp) (fun j b hj hb => by
    rw [List.getElem?_append_right hj] at hb
    generalize j - (lineT (W 0) s).length = m at hb
    match m, hb with
    | 0, hb => injection hb with hb; exact hb.symm
    | 1, hb => injection hb with hb; exact hb.symm
    | m + 2, hb => simp at hb) (fun b hp hb => by
    rw [List.getElem?_append_left (by omega), ← List.getLast?_eq_getElem?, hl] at hb
    injection hb with hb
    subst hb; decide)
  rw [this]
  simp

theorem linesGo_line : ∀ (l rest cur : List UInt8), (10 : UInt8) ∉ l → linesGo (l ++ 10 :: rest) cur = (cur ++ l) :: linesGo rest []
  | [], rest, cur, _ => by simp [linesGo]
  | x :: l, rest, cur, h => by
    have hx : x ≠ 10 := fun e => h (by subst e; exact List.mem_cons_self)
    rw [List.cons_append, linesGo, if_neg hx, linesGo_line l rest _ fun e => h (List.mem_cons_of_mem _ e)]
    simp
theorem lines_flat : ∀ ls : List (List UInt8), (∀ l ∈ ls, (10 : UInt8) ∉ l) → linesL ((ls.map (· ++ [10])).flatten) = ls
  | [], _ => rfl
  | l :: ls, h => by
    rw [List.map_cons, List.flatten_cons, List.append_assoc, List.singleton_append]
    have ih := lines_flat ls fun m hm => h m (List.mem_cons_of_mem _ hm)
    unfold linesL at ih ⊢
    rw [linesGo_line l _ _ (h l List.mem_cons_self), ih]; rfl

theorem lineT_no10 {W : Nat} {s : ByteArray} (h : goodB s = true) : (10 : UInt8) ∉ lineT W s := by
  obtain ⟨hp, _⟩ := lastA_part h
  have := (part_facts hp).2.2.2
  unfold lineT
  intro hm
  rcases List.mem_append.1 hm with hm | hm
  · have := (List.mem_replicate.1 hm).2; cases this
  · rcases List.mem_append.1 hm with hm | hm
    · exact (this 10 hm).2 rfl
    · rcases List.mem_append.1 hm with hm | hm
      · have := (List.mem_replicate.1 hm).2; cases this
      · simp at hm
/-- The lines of Tree's text. -/
theorem tree_lines (ss : List ByteArray) (h : ∀ s ∈ ss, goodB s = true) : ∃ W, linesL (gridL (fun c => decide (1 ≤ c)) (ss.map rowT)) = ss.map (lineT W) ∧ W ≤ 26 := by
  by_cases hne : ss = []
  · subst hne; exact ⟨0, rfl, by omega⟩
  · have hne2 : ss.map rowT ≠ [] := by simpa using hne
    have h1 : widthL (ss.map rowT) 1 = 1 := widthL_const (fun r hr => by obtain ⟨s, _, rfl⟩ := List.mem_map.1 hr; rfl) hne2
    have h2 : widthL (ss.map rowT) 2 = 0 := widthL_const (fun r hr => by obtain ⟨s, _, rfl⟩ := List.mem_map.1 hr; rfl) hne2
    refine ⟨widthL (ss.map rowT) 0, ?_, ?_⟩
    · unfold gridL gridN
      rw [List.take_of_length_le (Nat.le_refl _), List.map_map]
      have e : ss.map (rowL (widthL (ss.map rowT)) (fun c => decide (1 ≤ c)) ∘ rowT) = (ss.map (lineT (widthL (ss.map rowT) 0))).map (· ++ [10]) := by
        rw [List.map_map]
        exact List.map_congr_left fun s _ => rowL_rowT _ s h1 h2
      rw [e]
      exact lines_flat _ fun l hl => by obtain ⟨s, hs, rfl⟩ := List.mem_map.1 hl; exact lineT_no10 (h s hs)
    · refine widthL_le _ 0 26 fun r hr x hx => ?_
      obtain ⟨s, hs, rfl⟩ := List.mem_map.1 hr
      obtain ⟨hp, hd⟩ := lastA_part (h s hs)
      have := (part_facts hp).2.1
      simp only [rowT, List.mem_cons, List.not_mem_nil, or_false] at hx
      rcases hx with rfl | rfl | rfl
      · rw [mkS_size, List.length_append, List.length_replicate]; omega
      · decide
      · decide

/-- What a line says. -/
structure LineOk (l : List UInt8) (d : Nat) (p : List UInt8) : Prop where
  len : 2 * d + 1 < l.length
  blank : ∀ j, j < 2 * d → l[j]? = some 32
  stop : ∃ x, l[2 * d]? = some x ∧ x ≠ 32
  word : wordL (l.drop (2 * d)) = p
theorem lineT_ok {W : Nat} {s : ByteArray} (h : goodB s = true) : LineOk (lineT W s) (deepA s) (lastA s) := by
  obtain ⟨hp, _⟩ := lastA_part h
  obtain ⟨h1, h2, ⟨x, hx, hx2⟩, hall⟩ := part_facts hp
  have hdrop : (lineT W s).drop (2 * deepA s) = lastA s ++ (List.replicate (W - (2 * deepA s + (lastA s).length)) 32 ++ [32, 32, 48]) := by
    unfold lineT
    rw [List.drop_append_of_le_length (by simp), List.drop_eq_nil_of_le (by simp)]
    rfl
  refine ⟨?_, fun j hj => ?_, ⟨x, ?_, hx2⟩, ?_⟩
  · unfold lineT; simp; omega
  · unfold lineT
    rw [List.getElem?_append_left (by simpa using hj), List.getElem?_replicate, if_pos hj]
  · have := List.getElem?_drop (xs := lineT W s) (i := 2 * deepA s) (j := 0)
    rw [Nat.add_zero] at this
    rw [← this, hdrop, List.getElem?_append_left (by omega)]
    exact hx
  · rw [hdrop]
    unfold wordL
    rw [List.takeWhile_append_of_pos fun b hb => by simpa using (hall b hb).1]
    generalize W - (2 * deepA s + (lastA s).length) = m
    cases m with
    | zero => simp
    | succ m => simp [List.replicate_succ]
theorem joinN_joinC (ps : List ByteArray) : ∀ k, k ≤ ps.length → joinN ps k = joinC ((ps.take k).map L)
  | 0, _ => rfl
  | k + 1, hk => by
    have hlt : k < ps.length := by omega
    rw [joinN, joinN_joinC ps k (by omega), List.take_succ_eq_append_getElem hlt, List.map_append, List.getD_eq_getElem?_getD, List.getElem?_eq_getElem hlt]
    have key : ∀ (a : List (List UInt8)) (x : List UInt8), joinC (a ++ [x]) = joinC a ++ (if 0 < a.length then [58] else []) ++ x := by
      intro a x
      induction a with
      | nil => rfl
      | cons p a ih =>
        rw [List.cons_append, joinC_cons _ (by simp), ih]
        cases a with
        | nil => simp [joinC]
        | cons q a => rw [joinC_cons p (by simp)]; simp
    rw [List.map_singleton, key]
    simp only [List.length_map, List.length_take, Nat.min_eq_left (Nat.le_of_lt hlt)]
    rfl
/-- An account's place. -/
theorem Rising.place {acc : List Acct} (R : Rising acc) {j : Nat} (hj : j < acc.length) {s : ByteArray} (hs : L s = L (nameAt acc j)) : placeI acc s = j := by
  unfold placeI
  have : acc.findIdx? (fun a => L a.name == L s) = some j := List.findIdx?_eq_some_iff_getElem.2 ⟨hj, by rw [hs, nameAt_get (List.getElem?_eq_getElem hj)]; simp, fun i hi => by
    have hlt : i < acc.length := by omega
    intro e
    have e := eq_of_beq e
    rw [hs, nameAt_get (List.getElem?_eq_getElem hj)] at e
    have := R.rise i j _ _ hi (List.getElem?_eq_getElem hlt) (List.getElem?_eq_getElem hj)
    rw [L_inj e, cmpS_self] at this
    omega⟩
  rw [this]

/-- The tree's order, line by line. -/
def ordAt (acc : List Acct) (k : Nat) : Nat := (orderT acc).getD k 0
def prevP (acc : List Acct) (k : Nat) : List (List UInt8) := if k = 0 then [] else pathOf acc (ordAt acc (k - 1))
theorem ordAt_get {acc : List Acct} {k : Nat} (h : k < (orderT acc).length) : (orderT acc)[k]? = some (ordAt acc k) := by
  unfold ordAt
  rw [List.getD_eq_getElem?_getD, List.getElem?_eq_getElem h]; rfl
theorem Rising.ord_lt {acc : List Acct} (R : Rising acc) {k : Nat} (h : k < acc.length) : ordAt acc k < acc.length :=
  (R.order_ok.1.mem _ (List.mem_of_getElem? (ordAt_get (by rw [R.order_length]; exact h)))).1
theorem Rising.ord_inj {acc : List Acct} (R : Rising acc) {j k : Nat} (hj : j < acc.length) (hk : k < acc.length) (h : ordAt acc j = ordAt acc k) : j = k := by
  have hl := R.order_length
  have h1 := ordAt_get (acc := acc) (k := j) (by omega)
  have h2 := ordAt_get (acc := acc) (k := k) (by omega)
  rw [h] at h1
  have hn := List.pairwise_iff_getElem.1 R.order_ok.1.nodup
  obtain ⟨l1, g1⟩ := List.getElem?_eq_some_iff.1 h1
  obtain ⟨l2, g2⟩ := List.getElem?_eq_some_iff.1 h2
  rcases Nat.lt_trichotomy j k with hlt | rfl | hlt
  · exact absurd (g1.trans g2.symm) (hn j k l1 l2 hlt)
  · rfl
  · exact absurd (g2.trans g1.symm) (hn k j l2 l1 hlt)
theorem Rising.next {acc : List Acct} (R : Rising acc) {k : Nat} (h : k < acc.length) : NextP (prevP acc k) (pathOf acc (ordAt acc k)) := by
  have hl := R.order_length
  unfold prevP
  by_cases h0 : k = 0
  · subst h0
    rw [if_pos rfl]
    have h1 := ordAt_get (acc := acc) (k := 0) (by omega)
    have h2 := R.order_ok.2
    rw [List.head?_eq_getElem?, h1] at h2
    have hm : ordAt acc 0 ∈ kidsOf acc none := List.mem_of_head? h2.symm
    rw [R.root_path hm]
    exact next_kid (P := []) rfl
  · rw [if_neg h0]
    have h1 := ordAt_get (acc := acc) (k := k - 1) (by omega)
    have h2 := ordAt_get (acc := acc) (k := k) (by omega)
    exact R.order_ok.1.chn (k - 1) _ _ h1 (by rw [show k - 1 + 1 = k by omega]; exact h2)
end Go.Proofs.YtgbnlemcojgijaaGreatDoor
