/- sheet: Tree: the balances, the roots sorted. -/
import Derived.Test.YtgbnlemcojgijaaGreatDoorAq
namespace Go.Proofs.YtgbnlemcojgijaaGreatDoor
open Go.RowKit Go.Shelf Go.Sort

/-- Blocks of cells are as they were. -/
structure KC (w w' : World) : Prop where
  size : w.heap.size ≤ w'.heap.size
  cells : ∀ (k : Nat) (cs : Array Value) (t : TypeId), w.heap[k]? = some (.cells cs t) → w'.heap[k]? = some (.cells cs t)
theorem KC.trans {a b c : World} (h : KC a b) (k : KC b c) : KC a c := ⟨Nat.le_trans h.size k.size, fun i cs t hi => k.cells i cs t (h.cells i cs t hi)⟩
theorem KC.below {w w' : World} (h : Below w.heap.size w w') : KC w w' := ⟨h.size, fun k _ _ hk => (h.block k (lt_of_heap hk)).trans hk⟩
theorem KC.grown {w w' : World} {b n : Nat} {f : List UInt8 → Option Value} (hm : MapIs w b n f) (hg : w.grownBy w' (some b)) : KC w w' :=
  ⟨hg.size, fun k cs t hk => (hg.block k (lt_of_heap hk) (fun e => by injection e with e; exact obj_ne_map hk hm e)).trans hk⟩
theorem KC.own {w w' : World} {base : Nat} {e : TypeId} {size n : Nat} {v : Value} {xs : List Value} (h : KC w w') (ho : w.ownsRow base e size v n xs) : w'.ownsRow base e size v n xs :=
  own_same ho fun k hk => by
    obtain ⟨cur, hc⟩ := own_obj ho hk
    rw [h.cells k cur e hc, hc]
theorem KC.sheet {w w' : World} {B s : Nat} {d why : Int} {rows : List (List ByteArray)} (h : KC w w') (hS : Sheet w B s d why rows) : Sheet w' B s d why rows := by
  obtain ⟨rv, prs, e, hS⟩ := hS
  exact ⟨rv, prs, e, hS.base, h.cells _ _ _ hS.blk, h.own hS.rows, fun p hp => h.cells _ _ _ (hS.cells p hp)⟩
theorem KC.chart {w w' : World} {B c m : Nat} {acc : List Acct} {nb : Nat → Nat} {rv : Value} {kv : Nat → Value} (h : KC w w') (hC : ChartAt w B c m acc nb rv kv) (hm : w'.heap[m]? = w.heap[m]?) : ChartAt w' B c m acc nb rv kv :=
  { hC with
    chart := h.cells _ _ _ hC.chart
    map := hC.map.same hm
    node := fun i a ha => h.cells _ _ _ (hC.node i a ha)
    kids := fun i a ha => h.own (hC.kids i a ha)
    roots := h.own hC.roots }

structure BalR where
  name : ByteArray
  own : Int
  roll : Int
def BalsAt (w : World) (A : Option Addr) (l : List BalR) : Prop :=
  0 < l.length → ∃ b off, A = some ⟨b, off, none⟩ ∧ ∀ (i : Nat) (c : BalR), l[i]? = some c →
    w.cell? ⟨b, off + i * 3, none⟩ = some (.string c.name) ∧ w.cell? ⟨b, off + i * 3 + 1, none⟩ = some (.int .i64 c.own) ∧ w.cell? ⟨b, off + i * 3 + 2, none⟩ = some (.int .i64 c.roll)
theorem BalsAt.below {w w' : World} {A : Option Addr} {l : List BalR} (h : BalsAt w A l) (hb : Below w.heap.size w w') : BalsAt w' A l := fun h0 => by
  obtain ⟨b, off, e, hc⟩ := h h0
  exact ⟨b, off, e, fun i a ha => by obtain ⟨h1, h2, h3⟩ := hc i a ha; exact ⟨cell_below hb h1, cell_below hb h2, cell_below hb h3⟩⟩
def balStep (acc : List Acct) (st : Int × (List UInt8 → Option Int)) (b : BalR) : Int × (List UInt8 → Option Int) :=
  if st.1 ≠ 0 then st else match findA acc b.name with
    | none => (61, st.2)
    | some _ => if (st.2 (L b.name)).isSome = true then (70, st.2) else if b.roll = -9223372036854775808 then (10, st.2) else (0, fun s => if s = L b.name then some b.roll else st.2 s)
def balAll (acc : List Acct) (l : List BalR) : Int × (List UInt8 → Option Int) := l.foldl (balStep acc) (0, fun _ => none)
theorem bal_stuck (acc : List Acct) : ∀ (l : List BalR) (st : Int × (List UInt8 → Option Int)), st.1 ≠ 0 → l.foldl (balStep acc) st = st
  | [], _, _ => rfl
  | b :: l, st, h => by
    have : balStep acc st b = st := if_pos h
    rw [List.foldl_cons, this]
    exact bal_stuck acc l st h
theorem bal_split (acc : List Acct) {l : List BalR} {k : Nat} {b : BalR} (h : l[k]? = some b) : balAll acc l = (l.drop (k + 1)).foldl (balStep acc) (balStep acc (balAll acc (l.take k)) b) := by
  unfold balAll
  obtain ⟨hk, rfl⟩ := List.getElem?_eq_some_iff.1 h
  conv => lhs; rw [← List.take_append_drop k l, List.drop_eq_getElem_cons hk]
  rw [List.foldl_append, List.foldl_cons]
theorem bal_take (acc : List Acct) {l : List BalR} {k : Nat} {b : BalR} (h : l[k]? = some b) : balAll acc (l.take (k + 1)) = balStep acc (balAll acc (l.take k)) b := by
  obtain ⟨hk, rfl⟩ := List.getElem?_eq_some_iff.1 h
  unfold balAll
  rw [List.take_succ_eq_append_getElem hk, List.foldl_append]
  rfl
theorem toldM_put (tf : List UInt8 → Option Int) (s : List UInt8) (x : Int) : mapPut (toldM tf) s (.int .i64 x) = toldM (fun t => if t = s then some x else tf t) := by
  funext t
  unfold mapPut toldM
  by_cases h : t = s
  · simp only [if_pos h]; rfl
  · simp only [if_neg h]
theorem bal_amt (acc : List Acct) : ∀ (l : List BalR), (∀ b ∈ l, I64 b.roll) → ∀ x v, (balAll acc l).2 x = some v → Amt v := by
  intro l
  have key : ∀ (l : List BalR) (st : Int × (List UInt8 → Option Int)), (∀ b ∈ l, I64 b.roll) → (∀ x v, st.2 x = some v → Amt v) → ∀ x v, (l.foldl (balStep acc) st).2 x = some v → Amt v := by
    intro l
    induction l with
    | nil => intro st _ h; exact h
    | cons b l ih =>
      intro st hl h
      rw [List.foldl_cons]
      refine ih _ (fun c hc => hl c (List.mem_cons_of_mem _ hc)) ?_
      intro x v hv
      unfold balStep at hv
      split at hv
      · exact h x v hv
      · split at hv
        · exact h x v hv
        · split at hv
          · exact h x v hv
          · split at hv
            · exact h x v hv
            · simp only at hv
              split at hv
              · injection hv with hv
                have := hl b List.mem_cons_self
                unfold I64 at this
                subst hv
                unfold Amt
                omega
              · exact h x v hv
  exact fun h => key l _ h (fun x v hv => by cases hv)

/-- Rising texts, sorted: nothing turns. -/
theorem cmp_lt : ∀ (a b : List UInt8), Lib.compareBytes a b < 0 → a < b
  | [], [], h => absurd h (by decide)
  | [], _ :: _, _ => List.Lex.nil
  | _ :: _, [], h => absurd h (by unfold Lib.compareBytes; omega)
  | x :: a, y :: b, h => by
    unfold Lib.compareBytes at h
    by_cases hxy : x < y
    · exact List.Lex.rel hxy
    · rw [if_neg hxy] at h
      by_cases hyx : y < x
      · rw [if_pos hyx] at h; omega
      · rw [if_neg hyx] at h
        have e : x = y := UInt8.le_antisymm (UInt8.not_lt.1 hyx) (UInt8.not_lt.1 hxy)
        subst e
        exact List.Lex.cons (cmp_lt a b h)
theorem sort_rising (B : Nat) (v : Value) (ss : List ByteArray) (w : World) (hB : B ≤ w.heap.size) (hown : w.ownsRow B 9 1 v ss.length (ss.map Value.string)) (hr : ss.Pairwise fun a b => cmpS a b < 0) (hn : ss.length ≤ 1048576) :
    Calls Tryz.prog 54 #[v] w fun e w' => e = .returned (.tuple #[]) ∧ Below w.heap.size w w' := by
  rcases hown.2 with ⟨rfl, h0⟩ | ⟨g, cap, cur, rfl, hg1, hg2, _, _, _, hg3⟩
  · exact (Tryz.slices_Sort_string_none none 0 w).mono fun _ _ ⟨h1, h2⟩ => ⟨h1, by rw [h2]; exact Below.refl _ _⟩
  · have hH : Holds encStr w g 0 ((ss.map L).toArray) := fun j hj => by
      have hj' : j < ss.length := by simpa using hj
      refine ⟨?_, froz_of hg2⟩
      have e : ((ss.map L).toArray)[j]! = L ss[j] := by simp [hj']
      rw [e]
      refine cell_of hg2 ?_
      have h1 : (cur.toList.take (ss.length * 1))[j]? = some (.string ss[j]) := by rw [hg3]; simp [hj']
      rw [List.getElem?_take_of_lt (by omega)] at h1
      rw [Nat.zero_add, ← Array.getElem?_toList, h1]
      congr 1
    have hs := Tryz.slices_Sort_string g 0 cap (ss.map L) w hH (lt_of_heap hg2) (by rw [List.length_map]; omega)
    have hm : (ss.map L).mergeSort (fun x y => decide (x ≤ y)) = ss.map L := List.mergeSort_of_pairwise (by
      rw [List.pairwise_map]
      exact hr.imp fun {a b} h => decide_eq_true (List.le_of_lt (cmp_lt _ _ h)))
    rw [hm, List.length_map] at hs
    refine hs.mono ?_
    rintro e w' ⟨rfl, n, os, rfl⟩
    have e1 : putRow encStr (Sort.ahead w n) g 0 (ss.map L).toArray = Sort.ahead w n := putRow_self encStr (Sort.ahead w n) g 0 _ hH
    rw [e1]
    exact ⟨rfl, ⟨rfl, rfl, rfl, by simp [grow, Sort.ahead], fun k hk => by simp [grow, Sort.ahead]; rw [Array.getElem?_append_left hk]⟩⟩
end Go.Proofs.YtgbnlemcojgijaaGreatDoor
