/- Accounts sorted by name. -/
import Derived.Test.YtgbnlemcojgijaaGreatDoorAn
import Derived.Shelf.SlSortCmp.NoneTotal
namespace Go.Proofs.YtgbnlemcojgijaaGreatDoor
open Go.RowKit Go.Shelf Go.Sort

instance : Inhabited Acct := ⟨zeroAcct⟩
def encA (a : Acct) : List Value := [.string a.name, .int .i64 a.typ, .int .i64 a.opened, .bool a.closed]
theorem flat_get : ∀ (l : List Acct) (i c : Nat) (a : Acct), l[i]? = some a → c < 4 → (l.flatMap encA)[i * 4 + c]? = (encA a)[c]?
  | [], i, c, a, h, _ => by simp at h
  | b :: l, 0, c, a, h, hc => by
    simp at h
    subst h
    rw [List.flatMap_cons, Nat.zero_mul, Nat.zero_add, List.getElem?_append_left (by simp [encA]; omega)]
  | b :: l, i + 1, c, a, h, hc => by
    simp at h
    rw [List.flatMap_cons, List.getElem?_append_right (by simp [encA]; omega)]
    have e : (i + 1) * 4 + c - (encA b).length = i * 4 + c := by simp [encA]; omega
    rw [e]
    exact flat_get l i c a h hc
theorem flat_length (l : List Acct) : (l.flatMap encA).length = l.length * 4 := by
  induction l with
  | nil => rfl
  | cons a l ih => rw [List.flatMap_cons, List.length_append, ih]; simp [encA]; omega
theorem holds_of {w : World} {blk : Nat} {cs : Array Value} {l : List Acct} (hb : w.heap[blk]? = some (.cells cs 31)) (hcs : cs.toList.take (l.length * 4) = l.flatMap encA) : HoldsK encA 4 w blk 0 l.toArray := by
  intro j hj
  rw [size_flatK] at hj
  have hj' : j < l.length * 4 := by simpa using hj
  refine ⟨?_, froz_of hb⟩
  rw [get_flatK _ _ _ _ hj]
  have hi : j / 4 < l.length := by omega
  have h1 := flat_get l (j / 4) (j % 4) l[j / 4] (List.getElem?_eq_getElem hi) (Nat.mod_lt _ (by decide))
  rw [show j / 4 * 4 + j % 4 = j by omega, ← hcs, List.getElem?_take_of_lt hj'] at h1
  have hc : j % 4 < (encA l[j / 4]).length := by simp [encA]; omega
  rw [List.getElem?_eq_getElem hc] at h1
  have e : (l.toArray)[j / 4]! = l[j / 4] := by simp [hi]
  rw [e, getElem!_pos (encA l[j / 4]) (j % 4) hc]
  refine cell_of hb ?_
  rw [Nat.zero_add, ← Array.getElem?_toList]
  exact h1
theorem accts_of_holds {w : World} {blk : Nat} {l : List Acct} (h : HoldsK encA 4 w blk 0 l.toArray) : AcctsAt w (some ⟨blk, 0, none⟩) l := fun _ => ⟨blk, 0, rfl, fun i a hi => by
  have hlt := get_lt hi
  have e : (l.toArray)[i]! = a := by
    have := (List.getElem?_eq_some_iff.1 hi).2
    simp [hlt, this]
  have key : ∀ c, c < 4 → w.cell? ⟨blk, 0 + i * 4 + c, none⟩ = some (encA a)[c]! := fun c hc => by
    have := (h.cell (i := i) (c := c) (by simpa using hlt) hc).1
    rw [e] at this
    exact this
  exact ⟨key 0 (by decide), key 1 (by decide), key 2 (by decide), key 3 (by decide)⟩⟩
theorem keeps_sort (w : World) (blk n : Nat) (d : Array Acct) (os : Array Obj) : Keeps (fun k => k = blk) w (sortWorldK encA 4 w blk 0 n d os) :=
  ⟨rfl, rfl, rfl, by simp [sortWorldK, putRowK, putRow, mapBlock, grow, Sort.ahead], fun k hk hne => by
    show ((w.heap.modify blk _) ++ os)[k]? = _
    rw [Array.getElem?_append_left (by simpa using hk), Array.getElem?_modify, if_neg (fun e => hne e.symm)]⟩

theorem sort_accts (gf : Nat) (eg : ∀ args w, (callFunc gf args).run Tryz.prog w = .ok (.enter gf args) w) (hc : ∀ (a b : Acct) (w : World), Calls Tryz.prog gf #[a.v, b.v] w fun e w' => e = .returned (.int .i64 (cmpS a.name b.name)) ∧ ∃ q os', w' = grow (w.drewN q) os')
    (blk cap : Nat) (l acc : List Acct) (R : Rising acc) (hp : l.Perm acc) (w : World) (cs : Array Value) (hb : w.heap[blk]? = some (.cells cs 31)) (hcs : cs.toList.take (l.length * 4) = l.flatMap encA) :
    Calls Tryz.prog 86 #[.slice (some ⟨blk, 0, none⟩) l.length cap, .func (.func gf) #[] #[]] w fun e w' => e = .returned (.tuple #[]) ∧ AcctsAt w' (some ⟨blk, 0, none⟩) acc ∧ Keeps (fun k => k = blk) w w' := by
  have hH := holds_of hb hcs
  have h := AnyQ.slices_SortFunc (α := Acct) Tryz.laysSortF 4 Tryz.isAgg31 Tryz.sizeOf31 encA (fun _ => rfl) (fun x v hv => by
      simp only [encA, List.mem_cons, List.not_mem_nil, or_false] at hv
      rcases hv with rfl | rfl | rfl | rfl <;> rfl) (fun a b => cmpS a.name b.name) ltA_swo gf #[] blk 0 cap l.toArray w eg (fun m os dk _ x y => hc x y _) hH (lt_of_heap hb) (by
      have := R.few
      rw [← hp.length_eq] at this
      simp
      omega)
  refine (show Calls Tryz.prog 86 _ w _ from h).mono ?_
  rintro e w' ⟨rfl, d', n, os, hperm, hs, rfl⟩
  refine ⟨rfl, ?_, keeps_sort _ _ _ _ _⟩
  obtain ⟨hsz, _, hpp⟩ := hperm
  have hsz2 : d'.size = l.length := by simpa using hsz
  have e1 : (l.toArray.extract 0 l.toArray.size).toList = l := by simp
  have e2 : (d'.extract 0 l.toArray.size).toList = d'.toList := by
    rw [← hsz]; simp
  rw [e1, e2] at hpp
  have hd : acc = d'.toList := by
    refine perm_rising ltA acc d'.toList (hp.symm.trans hpp.symm) ?_ ?_
    · rw [List.pairwise_iff_getElem]
      intro i j hi hj hij
      exact decide_eq_true (R.rise i j _ _ hij (List.getElem?_eq_getElem hi) (List.getElem?_eq_getElem hj))
    · rw [List.pairwise_iff_getElem]
      intro i j hi hj hij
      have h := hs i j (Nat.zero_le _) hij (by simp at hj ⊢; omega)
      rw [getElem!_pos d' i (by simpa using hi), getElem!_pos d' j (by simpa using hj)] at h
      exact h
  rw [hd]
  refine accts_of_holds ?_
  have hH2 : HoldsK encA 4 (putRowK encA 4 (Sort.ahead w n) blk 0 d') blk 0 d' := holdsK_putRowK _ _ _ _ _ _ _ (holdsK_ahead _ _ w n blk 0 _ hH) hsz
  have := holdsK_grow encA 4 _ os blk 0 d' (by
    have := lt_of_heap hb
    simp [putRowK, putRow, mapBlock, Sort.ahead]
    exact this) hH2
  simpa [sortWorldK] using this
theorem sort_none (cap : Nat) (f : Value) (w : World) : Calls Tryz.prog 86 #[.slice none 0 cap, f] w fun e w' => e = .returned (.tuple #[]) ∧ w = w' :=
  (show Calls Tryz.prog 86 _ w _ from AnyF.slices_SortFunc_none Tryz.laysSortF none cap f w).mono fun _ _ ⟨h1, h2⟩ => ⟨h1, h2.symm⟩
end Go.Proofs.YtgbnlemcojgijaaGreatDoor
