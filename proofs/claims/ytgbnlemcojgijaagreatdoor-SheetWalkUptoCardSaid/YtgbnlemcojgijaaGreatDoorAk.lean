/- The tree's order: each account, then all below it. -/
import Derived.Test.YtgbnlemcojgijaaGreatDoorAj
namespace Go.Proofs.YtgbnlemcojgijaaGreatDoor
open Go.RowKit Go.Shelf Go.Sort

def preT (acc : List Acct) : Nat → Nat → List Nat
  | 0, _ => []
  | h + 1, i => i :: (kidsOf acc (some (nameAt acc i))).flatMap (preT acc h)
def orderT (acc : List Acct) : List Nat := (kidsOf acc none).flatMap (preT acc 6)
def pathOf (acc : List Acct) (i : Nat) : List (List UInt8) := splitC (L (nameAt acc i))

/-- What From grants. -/
structure Rising (acc : List Acct) : Prop where
  good : ∀ (i : Nat) (a : Acct), acc[i]? = some a → goodB a.name = true
  rise : ∀ (i j : Nat) (a b : Acct), i < j → acc[i]? = some a → acc[j]? = some b → cmpS a.name b.name < 0
  up : ∀ (i : Nat) (a : Acct) (p : ByteArray), acc[i]? = some a → upB a.name = some p → ∃ (j : Nat) (b : Acct), j < i ∧ acc[j]? = some b ∧ b.name = p
  few : acc.length ≤ 100

theorem chart_rising {acc : List Acct} (h : chartOk acc = true) : Rising acc := by
  unfold chartOk at h
  rw [Bool.and_eq_true] at h
  obtain ⟨h100, hall⟩ := h
  have hst : ∀ (i : Nat) (a : Acct), acc[i]? = some a → stepOk (acc.take i) a = true := fun i a hi => by
    have := List.all_eq_true.1 hall i (List.mem_range.2 (get_lt hi))
    rw [hi] at this
    exact this
  have hs2 : ∀ (i : Nat) (a : Acct), acc[i]? = some a → goodB a.name = true ∧ (match (acc.take i).getLast? with | none => true | some b => decide (cmpS b.name a.name < 0)) = true ∧ (match upB a.name with | none => true | some p => match findA (acc.take i) p with | none => false | some b => decide (b.typ = a.typ) && decide (b.opened ≤ a.opened) && (!b.closed || a.closed)) = true := fun i a hi => by
    have := hst i a hi
    unfold stepOk at this
    simp only [Bool.and_eq_true] at this
    exact ⟨this.1.1.1.1.1, this.1.1.1.1.2, this.2⟩
  have hnext : ∀ (i : Nat) (a b : Acct), acc[i]? = some a → acc[i + 1]? = some b → cmpS a.name b.name < 0 := fun i a b ha hb => by
    have := (hs2 (i + 1) b hb).2.1
    rw [last_take acc (i + 1) (by have := get_lt hb; omega), if_neg (by omega), Nat.add_sub_cancel, ha] at this
    simpa using this
  have hrise : ∀ (d i : Nat) (a b : Acct), acc[i]? = some a → acc[i + 1 + d]? = some b → cmpS a.name b.name < 0 := fun d => by
    induction d with
    | zero => exact fun i a b ha hb => hnext i a b ha hb
    | succ d ih =>
      intro i a b ha hb
      have hlt : i + 1 + d < acc.length := by have := get_lt hb; omega
      exact cmpS_trans (ih i a _ ha (List.getElem?_eq_getElem hlt)) (hnext _ _ b (List.getElem?_eq_getElem hlt) (by rw [show i + 1 + d + 1 = i + 1 + (d + 1) by omega]; exact hb))
  exact {
    good := fun i a ha => (hs2 i a ha).1
    rise := fun i j a b hij ha hb => hrise (j - i - 1) i a b ha (by rw [show i + 1 + (j - i - 1) = j by omega]; exact hb)
    up := fun i a p ha hp => by
      have := (hs2 i a ha).2.2
      rw [hp] at this
      cases hf : findA (acc.take i) p with
      | none => exact absurd this (by simp [hf])
      | some b =>
        unfold findA at hf
        obtain ⟨h1, _⟩ := List.find?_eq_some_iff_append.1 hf
        have hm := List.mem_of_find?_eq_some hf
        obtain ⟨j, hj⟩ := List.getElem?_of_mem hm
        have hlt := get_lt hj
        rw [List.length_take] at hlt
        refine ⟨j, b, by omega, ?_, L_inj (by simpa using h1)⟩
        rw [List.getElem?_take_of_lt (by omega)] at hj
        exact hj
    few := of_decide_eq_true h100 }

theorem nameAt_get {acc : List Acct} {i : Nat} {a : Acct} (h : acc[i]? = some a) : nameAt acc i = a.name := by unfold nameAt; rw [h]
theorem mem_kids {acc : List Acct} {p : Option ByteArray} {j : Nat} : j ∈ kidsOf acc p ↔ j < acc.length ∧ upB (nameAt acc j) = p := by
  unfold kidsOf
  rw [List.mem_filter, List.mem_range]
  constructor
  · rintro ⟨h, hd⟩
    have hd := of_decide_eq_true hd
    rw [List.getElem?_eq_getElem h] at hd
    refine ⟨h, ?_⟩
    rw [nameAt_get (List.getElem?_eq_getElem h)]
    simpa using hd
  · rintro ⟨h, hd⟩
    refine ⟨h, decide_eq_true ?_⟩
    rw [List.getElem?_eq_getElem h]
    rw [nameAt_get (List.getElem?_eq_getElem h)] at hd
    simpa using hd
theorem kids_sorted (acc : List Acct) (p : Option ByteArray) : (kidsOf acc p).Pairwise (· < ·) := List.Pairwise.filter _ List.pairwise_lt_range

section
variable {acc : List Acct} (R : Rising acc)
include R
theorem Rising.goodAt {i : Nat} (h : i < acc.length) : goodB (nameAt acc i) = true := by
  rw [nameAt_get (List.getElem?_eq_getElem h)]
  exact R.good i _ (List.getElem?_eq_getElem h)
theorem Rising.path6 {i : Nat} (h : i < acc.length) : (pathOf acc i).length ≤ 6 ∧ 1 ≤ (pathOf acc i).length := by
  refine ⟨(good_parts (R.goodAt h)).2.1, ?_⟩
  have := splitC_ne (L (nameAt acc i))
  unfold pathOf
  cases hs : splitC (L (nameAt acc i)) with
  | nil => exact absurd hs this
  | cons p ps => simp
theorem Rising.kid_path {i j : Nat} (hj : j ∈ kidsOf acc (some (nameAt acc i))) : ∃ x, pathOf acc j = pathOf acc i ++ [x] ∧ L (nameAt acc j) = L (nameAt acc i) ++ 58 :: x := by
  obtain ⟨hlt, hu⟩ := mem_kids.1 hj
  rcases upB_cases (R.goodAt hlt) with ⟨_, e, _⟩ | ⟨p, x, _, e, h1, h2, _⟩
  · rw [e] at hu; cases hu
  · rw [e] at hu
    injection hu with hu
    subst hu
    exact ⟨x, h2, h1⟩
theorem Rising.root_path {j : Nat} (hj : j ∈ kidsOf acc none) : pathOf acc j = [] ++ [L (nameAt acc j)] := by
  obtain ⟨hlt, hu⟩ := mem_kids.1 hj
  rcases upB_cases (R.goodAt hlt) with ⟨_, e, h⟩ | ⟨p, x, _, e, _⟩
  · exact h
  · rw [e] at hu; cases hu
end

/-- A list, each with the next. -/
def Chn {α : Type} (r : α → α → Prop) (l : List α) : Prop := ∀ (n : Nat) (x y : α), l[n]? = some x → l[n + 1]? = some y → r x y
theorem Chn.append {α : Type} {r : α → α → Prop} {a b : List α} (ha : Chn r a) (hb : Chn r b) (h : ∀ x y, x ∈ a → b.head? = some y → r x y) : Chn r (a ++ b) := fun n x y hx hy => by
  by_cases h1 : n + 1 < a.length
  · rw [List.getElem?_append_left (by omega)] at hx
    rw [List.getElem?_append_left h1] at hy
    exact ha n x y hx hy
  · by_cases h2 : n < a.length
    · rw [List.getElem?_append_left h2] at hx
      rw [List.getElem?_append_right (by omega), show n + 1 - a.length = 0 by omega] at hy
      exact h x y (List.mem_of_getElem? hx) (by rw [List.head?_eq_getElem?]; exact hy)
    · rw [List.getElem?_append_right (by omega)] at hx
      rw [List.getElem?_append_right (by omega), show n + 1 - a.length = (n - a.length) + 1 by omega] at hy
      exact hb _ x y hx hy

/-- What stands in the tree's order behind what. -/
def NextP (P Q : List (List UInt8)) : Prop := ∃ x, Q = P.take (Q.length - 1) ++ [x] ∧ Q.length - 1 ≤ P.length ∧ ∀ y, P[Q.length - 1]? = some y → Lib.compareBytes y x < 0
theorem next_sib {T P Q : List (List UInt8)} {x1 x2 : List UInt8} (hP : T ++ [x1] <+: P) (hQ : Q = T ++ [x2]) (h : Lib.compareBytes x1 x2 < 0) : NextP P Q := by
  obtain ⟨r, rfl⟩ := hP
  subst hQ
  have e : (T ++ [x2]).length - 1 = T.length := by simp
  refine ⟨x2, ?_, ?_, ?_⟩
  · rw [e]; simp
  · rw [e]; simp
  · rw [e]
    intro y hy
    simp at hy
    rw [← hy]; exact h
theorem next_kid {P Q : List (List UInt8)} {x : List UInt8} (hQ : Q = P ++ [x]) : NextP P Q := by
  subst hQ
  have e : (P ++ [x]).length - 1 = P.length := by simp
  refine ⟨x, ?_, ?_, ?_⟩
  · rw [e]; simp
  · rw [e]; exact Nat.le_refl _
  · rw [e]
    intro y hy
    simp at hy
def NextI (acc : List Acct) (i j : Nat) : Prop := NextP (pathOf acc i) (pathOf acc j)

theorem compare_app : ∀ (c a b : List UInt8), Lib.compareBytes (c ++ a) (c ++ b) = Lib.compareBytes a b
  | [], _, _ => rfl
  | x :: c, a, b => by
    show Lib.compareBytes (x :: (c ++ a)) (x :: (c ++ b)) = _
    rw [Lib.compareBytes, if_neg (UInt8.lt_irrefl x), if_neg (UInt8.lt_irrefl x), compare_app c a b]

/-- Siblings: one path above, the last parts rising. -/
def Sibs (acc : List Acct) (T : List (List UInt8)) (ks : List Nat) : Prop :=
  (∀ k ∈ ks, k < acc.length ∧ ∃ x, pathOf acc k = T ++ [x]) ∧ ks.Pairwise fun k l => ∃ x y, pathOf acc k = T ++ [x] ∧ pathOf acc l = T ++ [y] ∧ Lib.compareBytes x y < 0
theorem Rising.sibs_kids {acc : List Acct} (R : Rising acc) (i : Nat) : Sibs acc (pathOf acc i) (kidsOf acc (some (nameAt acc i))) := by
  refine ⟨fun k hk => ?_, ?_⟩
  · obtain ⟨x, h, _⟩ := R.kid_path hk
    exact ⟨(mem_kids.1 hk).1, x, h⟩
  · refine List.Pairwise.imp_of_mem (fun {k l} hk hl hlt => ?_) (kids_sorted acc _)
    obtain ⟨x, h1, e1⟩ := R.kid_path hk
    obtain ⟨y, h2, e2⟩ := R.kid_path hl
    have hkl := (mem_kids.1 hk).1
    have hll := (mem_kids.1 hl).1
    have := R.rise k l _ _ hlt (List.getElem?_eq_getElem hkl) (List.getElem?_eq_getElem hll)
    rw [← nameAt_get (List.getElem?_eq_getElem hkl), ← nameAt_get (List.getElem?_eq_getElem hll)] at this
    unfold cmpS at this
    rw [e1, e2, show (58 :: x) = [58] ++ x from rfl, show (58 :: y) = [58] ++ y from rfl, ← List.append_assoc, ← List.append_assoc, compare_app] at this
    exact ⟨x, y, h1, h2, this⟩
theorem Rising.sibs_roots {acc : List Acct} (R : Rising acc) : Sibs acc [] (kidsOf acc none) := by
  refine ⟨fun k hk => ⟨(mem_kids.1 hk).1, _, R.root_path hk⟩, ?_⟩
  refine List.Pairwise.imp_of_mem (fun {k l} hk hl hlt => ?_) (kids_sorted acc _)
  have hkl := (mem_kids.1 hk).1
  have hll := (mem_kids.1 hl).1
  have := R.rise k l _ _ hlt (List.getElem?_eq_getElem hkl) (List.getElem?_eq_getElem hll)
  rw [← nameAt_get (List.getElem?_eq_getElem hkl), ← nameAt_get (List.getElem?_eq_getElem hll)] at this
  exact ⟨_, _, R.root_path hk, R.root_path hl, this⟩

/-- What the walk of one account and all below it is. -/
structure PreOk (acc : List Acct) (T : List (List UInt8)) (l : List Nat) : Prop where
  chn : Chn (NextI acc) l
  mem : ∀ j ∈ l, j < acc.length ∧ T <+: pathOf acc j
  nodup : l.Nodup
theorem prefix_one {T P : List (List UInt8)} {x y : List UInt8} (h1 : T ++ [x] <+: P) (h2 : T ++ [y] <+: P) : x = y := by
  obtain ⟨r, e1⟩ := h1
  obtain ⟨s, e2⟩ := h2
  rw [← e2] at e1
  simp only [List.append_assoc] at e1
  have := List.append_cancel_left e1
  simp at this
  exact this.1
theorem sibs_pre {acc : List Acct} {T : List (List UInt8)} {f : Nat → List Nat} : ∀ ks : List Nat, Sibs acc T ks → (∀ k ∈ ks, PreOk acc (pathOf acc k) (f k) ∧ (f k).head? = some k) → PreOk acc T (ks.flatMap f) ∧ (ks.flatMap f).head? = ks.head?
  | [], _, _ => ⟨⟨fun n x y h => by simp at h, fun j h => by simp at h, by simp⟩, rfl⟩
  | k :: ks, hs, hf => by
    obtain ⟨h1, h2⟩ := hs
    rw [List.pairwise_cons] at h2
    obtain ⟨ih, ihh⟩ := sibs_pre ks ⟨fun l hl => h1 l (List.mem_cons_of_mem _ hl), h2.2⟩ fun l hl => hf l (List.mem_cons_of_mem _ hl)
    obtain ⟨hk, hkh⟩ := hf k List.mem_cons_self
    rw [List.flatMap_cons]
    refine ⟨⟨?_, ?_, ?_⟩, ?_⟩
    · refine hk.chn.append ih.chn fun x y hx hy => ?_
      rw [ihh] at hy
      have hym : y ∈ ks := List.mem_of_head? hy
      obtain ⟨x1, x2, e1, e2, hlt⟩ := h2.1 y hym
      exact next_sib (by rw [← e1]; exact (hk.mem x hx).2) e2 hlt
    · intro j hj
      rcases List.mem_append.1 hj with hj | hj
      · obtain ⟨x, e⟩ := (h1 k List.mem_cons_self).2
        exact ⟨(hk.mem j hj).1, List.IsPrefix.trans ⟨[x], e.symm⟩ (hk.mem j hj).2⟩
      · exact ih.mem j hj
    · rw [List.nodup_append]
      refine ⟨hk.nodup, ih.nodup, fun a ha b hb e => ?_⟩
      subst e
      obtain ⟨l, hl, hal⟩ := List.mem_flatMap.1 hb
      obtain ⟨x1, x2, e1, e2, hlt⟩ := h2.1 l hl
      have p1 := (hk.mem a ha).2
      have p2 := ((hf l (List.mem_cons_of_mem _ hl)).1.mem a hal).2
      rw [e1] at p1
      rw [e2] at p2
      have := prefix_one p1 p2
      subst this
      rw [show Lib.compareBytes x1 x1 = 0 from cmpS_self ⟨x1.toArray⟩] at hlt
      exact absurd hlt (by omega)
    · rw [List.head?_append, hkh]; rfl
theorem Rising.pre_ok {acc : List Acct} (R : Rising acc) : ∀ (h i : Nat), i < acc.length → 7 ≤ (pathOf acc i).length + h → PreOk acc (pathOf acc i) (preT acc h i) ∧ (preT acc h i).head? = some i
  | 0, i, hi, hh => absurd (R.path6 hi).1 (by omega)
  | h + 1, i, hi, hh => by
    have hs := R.sibs_kids i
    obtain ⟨ok, hd⟩ := sibs_pre (f := preT acc h) _ hs fun k hk => by
      obtain ⟨x, e⟩ := (hs.1 k hk).2
      exact R.pre_ok h k (hs.1 k hk).1 (by rw [e, List.length_append]; simp; omega)
    have e : preT acc (h + 1) i = [i] ++ (kidsOf acc (some (nameAt acc i))).flatMap (preT acc h) := rfl
    refine ⟨⟨?_, ?_, ?_⟩, rfl⟩
    · rw [e]
      refine Chn.append (fun n x y h1 h2 => by simp at h2) ok.chn fun x y hx hy => ?_
      rw [List.mem_singleton] at hx
      subst hx
      rw [hd] at hy
      have hym := List.mem_of_head? hy
      obtain ⟨z, ez⟩ := (hs.1 y hym).2
      exact next_kid ez
    · intro j hj
      rw [e] at hj
      rcases List.mem_append.1 hj with hj | hj
      · rw [List.mem_singleton] at hj; subst hj; exact ⟨hi, List.prefix_refl _⟩
      · exact ok.mem j hj
    · rw [e, List.nodup_append]
      refine ⟨by simp, ok.nodup, fun a ha b hb e => ?_⟩
      subst e
      rw [List.mem_singleton] at ha
      subst ha
      obtain ⟨k, hk, hak⟩ := List.mem_flatMap.1 hb
      obtain ⟨x, ex⟩ := (hs.1 k hk).2
      have hp := ((R.pre_ok h k (hs.1 k hk).1 (by rw [ex, List.length_append]; simp; omega)).1.mem a hak).2
      rw [ex] at hp
      have := hp.length_le
      rw [List.length_append, List.length_singleton] at this
      omega
theorem Rising.order_ok {acc : List Acct} (R : Rising acc) : PreOk acc [] (orderT acc) ∧ (orderT acc).head? = (kidsOf acc none).head? :=
  sibs_pre _ R.sibs_roots fun k hk => by
    obtain ⟨x, e⟩ := (R.sibs_roots.1 k hk).2
    exact R.pre_ok 6 k (R.sibs_roots.1 k hk).1 (by rw [e]; simp)
theorem Rising.pre_kid {acc : List Acct} (R : Rising acc) : ∀ (h k i j : Nat), k < acc.length → 7 ≤ (pathOf acc k).length + h → j ∈ preT acc h k → i ∈ kidsOf acc (some (nameAt acc j)) → i ∈ preT acc h k
  | 0, k, i, j, hk, hh, _, _ => absurd (R.path6 hk).1 (by omega)
  | h + 1, k, i, j, hk, hh, hj, hi => by
    have hlift : ∀ l ∈ kidsOf acc (some (nameAt acc k)), l < acc.length ∧ 7 ≤ (pathOf acc l).length + h := fun l hl => by
      obtain ⟨x, e⟩ := ((R.sibs_kids k).1 l hl).2
      exact ⟨((R.sibs_kids k).1 l hl).1, by rw [e, List.length_append]; simp; omega⟩
    rcases List.mem_cons.1 hj with rfl | hj
    · refine List.mem_cons_of_mem _ (List.mem_flatMap.2 ⟨i, hi, ?_⟩)
      have := (R.pre_ok h i (hlift i hi).1 (hlift i hi).2).2
      exact List.mem_of_head? this
    · obtain ⟨l, hl, hjl⟩ := List.mem_flatMap.1 hj
      exact List.mem_cons_of_mem _ (List.mem_flatMap.2 ⟨l, hl, R.pre_kid h l i j (hlift l hl).1 (hlift l hl).2 hjl hi⟩)
theorem Rising.order_all {acc : List Acct} (R : Rising acc) : ∀ (n i : Nat), i < n → i < acc.length → i ∈ orderT acc
  | 0, i, h, _ => absurd h (Nat.not_lt_zero _)
  | n + 1, i, hn, hi => by
    have h6 : ∀ k ∈ kidsOf acc none, k < acc.length ∧ 7 ≤ (pathOf acc k).length + 6 := fun k hk => by
      obtain ⟨x, e⟩ := (R.sibs_roots.1 k hk).2
      exact ⟨(R.sibs_roots.1 k hk).1, by rw [e]; simp⟩
    cases hu : upB (nameAt acc i) with
    | none =>
      have hk : i ∈ kidsOf acc none := mem_kids.2 ⟨hi, hu⟩
      exact List.mem_flatMap.2 ⟨i, hk, List.mem_of_head? (R.pre_ok 6 i (h6 i hk).1 (h6 i hk).2).2⟩
    | some p =>
      have hg := List.getElem?_eq_getElem hi
      rw [nameAt_get hg] at hu
      obtain ⟨j, b, hji, hj, e⟩ := R.up i _ p hg hu
      have hjo := R.order_all n j (by omega) (get_lt hj)
      obtain ⟨k, hk, hjk⟩ := List.mem_flatMap.1 hjo
      refine List.mem_flatMap.2 ⟨k, hk, R.pre_kid 6 k i j (h6 k hk).1 (h6 k hk).2 hjk (mem_kids.2 ⟨hi, ?_⟩)⟩
      rw [nameAt_get hg, hu, nameAt_get hj, e]
theorem Rising.order_perm {acc : List Acct} (R : Rising acc) : (orderT acc).Perm (List.range acc.length) :=
  (List.perm_ext_iff_of_nodup R.order_ok.1.nodup List.nodup_range).2 fun i => ⟨fun h => List.mem_range.2 (R.order_ok.1.mem i h).1, fun h => R.order_all (i + 1) i (Nat.lt_succ_self i) (List.mem_range.1 h)⟩
theorem Rising.order_length {acc : List Acct} (R : Rising acc) : (orderT acc).length = acc.length := by
  rw [R.order_perm.length_eq, List.length_range]
end Go.Proofs.YtgbnlemcojgijaaGreatDoor
