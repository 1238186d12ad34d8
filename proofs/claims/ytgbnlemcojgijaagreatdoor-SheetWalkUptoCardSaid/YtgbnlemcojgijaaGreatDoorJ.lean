/- chart: a chart of accounts in memory; a new one; one account more. -/
import Derived.Test.YtgbnlemcojgijaaGreatDoorI
import Derived.StillTailTactics
namespace Go.Proofs.YtgbnlemcojgijaaGreatDoor
open Go.RowKit Go.Shelf Go.Sort

/-- An account; its value; whose accounts are right below which. -/
structure Acct where
  name : ByteArray
  typ : Int
  opened : Int
  closed : Bool
def Acct.v (a : Acct) : Value := .agg #[.string a.name, .int .i64 a.typ, .int .i64 a.opened, .bool a.closed]
def kidsOf (acc : List Acct) (p : Option ByteArray) : List Nat := (List.range acc.length).filter fun j => decide ((acc[j]?.map fun a => upB a.name) = some p)
theorem kidsOf_snoc (acc : List Acct) (a : Acct) (p : Option ByteArray) : kidsOf (acc ++ [a]) p = kidsOf acc p ++ (if upB a.name = p then [acc.length] else []) := by
  unfold kidsOf
  rw [List.length_append, List.length_singleton, List.range_succ, List.filter_append]
  congr 1
  · refine List.filter_congr fun j hj => ?_
    rw [List.getElem?_append_left (List.mem_range.1 hj)]
  · by_cases h : upB a.name = p <;> simp [h]
theorem kidsOf_lt (acc : List Acct) (p : Option ByteArray) (j : Nat) (h : j ∈ kidsOf acc p) : j < acc.length := List.mem_range.1 (List.mem_filter.1 h).1
def byName (acc : List Acct) (nb : Nat → Nat) (s : List UInt8) : Option Value := (acc.findIdx? fun a => L a.name == s).map fun i => ptrV (nb i)
theorem byName_snoc (acc : List Acct) (a : Acct) (nb : Nat → Nat) (x : Nat) (h : ∀ b ∈ acc, L b.name ≠ L a.name) : mapPut (byName acc nb) (L a.name) (ptrV x) = byName (acc ++ [a]) (fun i => if i = acc.length then x else nb i) := by
  funext s
  unfold byName
  rw [List.findIdx?_append]
  by_cases hs : s = L a.name
  · subst hs
    rw [mapPut_same]
    have hno : acc.findIdx? (fun b => L b.name == L a.name) = none := List.findIdx?_eq_none_iff.2 fun b hb => by simpa using h b hb
    rw [hno]
    simp
  · rw [mapPut_other _ _ _ _ hs]
    have h1 : ([a].findIdx? fun b => L b.name == s) = none := List.findIdx?_eq_none_iff.2 fun b hb => by
      rw [List.mem_singleton] at hb; subst hb; simpa using fun e => hs e.symm
    rw [h1]
    cases hf : acc.findIdx? (fun b => L b.name == s) with
    | none => rfl
    | some i =>
      have hi : i < acc.length := (List.findIdx?_eq_some_iff_findIdx_eq.1 hf).1
      rw [Option.map_none, Option.or_none, Option.map_some, Option.map_some]
      simp only [if_neg (Nat.ne_of_lt hi)]

/-- No name twice; the one above stands ahead. -/
structure Forest (acc : List Acct) : Prop where
  names : ∀ (i j : Nat) (a b : Acct), acc[i]? = some a → acc[j]? = some b → a.name = b.name → i = j
  up : ∀ (i : Nat) (a : Acct) (p : ByteArray), acc[i]? = some a → upB a.name = some p → ∃ (j : Nat) (b : Acct), j < i ∧ acc[j]? = some b ∧ b.name = p
theorem snoc_get {α : Type} (l : List α) (x y : α) (i : Nat) : (l ++ [x])[i]? = some y ↔ l[i]? = some y ∨ (i = l.length ∧ x = y) := by
  by_cases h : i < l.length
  · rw [List.getElem?_append_left h]
    exact ⟨.inl, fun h' => h'.elim id fun e => absurd e.1 (by omega)⟩
  · rw [List.getElem?_append_right (by omega), List.getElem?_singleton, List.getElem?_eq_none (Nat.le_of_not_lt h)]
    by_cases h2 : i - l.length = 0
    · rw [if_pos h2]
      exact ⟨fun e => .inr ⟨by omega, by simpa using e⟩, fun e => e.elim (fun c => by cases c) fun c => by rw [c.2]⟩
    · rw [if_neg h2]
      exact ⟨fun c => (by cases c), fun e => e.elim (fun c => by cases c) fun c => absurd c.1 (by omega)⟩
theorem get_lt {α : Type} {l : List α} {i : Nat} {x : α} (h : l[i]? = some x) : i < l.length := (List.getElem?_eq_some_iff.1 h).1
theorem Forest.nil : Forest [] := ⟨fun i j a b h => by simp at h, fun i a p h => by simp at h⟩
theorem Forest.snoc {acc : List Acct} {a : Acct} (h : Forest acc) (hne : ∀ b ∈ acc, b.name ≠ a.name) (hup : ∀ p, upB a.name = some p → ∃ (i : Nat) (b : Acct), acc[i]? = some b ∧ b.name = p) : Forest (acc ++ [a]) where
  names i j x y hx hy e := by
    rcases (snoc_get _ _ _ _).1 hx with hx | ⟨hi, rfl⟩ <;> rcases (snoc_get _ _ _ _).1 hy with hy | ⟨hj, rfl⟩
    · exact h.names i j x y hx hy e
    · exact absurd e (hne x (List.mem_of_getElem? hx))
    · exact absurd e.symm (hne y (List.mem_of_getElem? hy))
    · omega
  up i x p hx hp := by
    rcases (snoc_get _ _ _ _).1 hx with hx | ⟨hi, rfl⟩
    · obtain ⟨j, b, hj, hb, e⟩ := h.up i x p hx hp
      exact ⟨j, b, hj, (snoc_get _ _ _ _).2 (.inl hb), e⟩
    · obtain ⟨j, b, hb, e⟩ := hup p hp
      exact ⟨j, b, by have := get_lt hb; omega, (snoc_get _ _ _ _).2 (.inl hb), e⟩
theorem upB_lt {s p : ByteArray} (h : upB s = some p) : p.size < s.size := by
  unfold upB at h
  rcases lastIdx_le s with e | ⟨i, hi, e⟩
  · rw [e] at h; simp at h
  · rw [e] at h
    rw [if_neg (by omega)] at h
    split at h
    · injection h with h
      subst h
      rw [ByteArray.size_extract]
      omega
    · cases h
theorem Forest.kids_none {acc : List Acct} {a : Acct} (h : Forest acc) (hne : ∀ b ∈ acc, b.name ≠ a.name) : kidsOf (acc ++ [a]) (some a.name) = [] := by
  rw [kidsOf_snoc, if_neg (fun e => Nat.lt_irrefl _ (upB_lt e)), List.append_nil]
  refine List.filter_eq_nil_iff.2 fun j hj hd => ?_
  have hd := of_decide_eq_true hd
  cases hx : acc[j]? with
  | none => rw [hx] at hd; cases hd
  | some x =>
    rw [hx] at hd
    simp at hd
    obtain ⟨i, b, _, hb, e⟩ := h.up j x a.name hx hd
    exact hne b (List.mem_of_getElem? hb) e

/-- The chart at block c holds these accounts; all of it lies from block B on. -/
structure ChartAt (w : World) (B c m : Nat) (acc : List Acct) (nb : Nat → Nat) (rv : Value) (kv : Nat → Value) : Prop where
  forest : Forest acc
  base : B ≤ c ∧ B ≤ m ∧ ∀ i, i < acc.length → B ≤ nb i
  chart : w.heap[c]? = some (.cells #[.map (some m), rv] 121)
  map : MapIs w m acc.length (byName acc nb)
  node : ∀ i a, acc[i]? = some a → w.heap[nb i]? = some (.cells #[.string a.name, .int .i64 a.typ, .int .i64 a.opened, .bool a.closed, kv i] 123)
  kids : ∀ i a, acc[i]? = some a → w.ownsRow B 117 1 (kv i) (kidsOf acc (some a.name)).length ((kidsOf acc (some a.name)).map fun j => ptrV (nb j))
  roots : w.ownsRow B 117 1 rv (kidsOf acc none).length ((kidsOf acc none).map fun j => ptrV (nb j))
  apart : ∀ i j k, i < acc.length → j < acc.length → i ≠ j → (kv i).ownBlock = some k → (kv j).ownBlock ≠ some k
  apartR : ∀ i k, i < acc.length → (kv i).ownBlock = some k → rv.ownBlock ≠ some k
  inj : ∀ i j, i < acc.length → j < acc.length → nb i = nb j → i = j

theorem lt_of_heap {w : World} {b : Nat} {o : Obj} (h : w.heap[b]? = some o) : b < w.heap.size := (Array.getElem?_eq_some_iff.1 h).1
theorem ChartAt.below {w w' : World} {B c m : Nat} {acc : List Acct} {nb : Nat → Nat} {rv : Value} {kv : Nat → Value} (h : ChartAt w B c m acc nb rv kv) (hb : Below w.heap.size w w') : ChartAt w' B c m acc nb rv kv :=
  { h with
    chart := (hb.block _ (lt_of_heap h.chart)).trans h.chart
    map := h.map.below hb
    node := fun i a ha => (hb.block _ (lt_of_heap (h.node i a ha))).trans (h.node i a ha)
    kids := fun i a ha => own_below (h.kids i a ha) hb
    roots := own_below h.roots hb }
theorem own_obj {w : World} {base : Nat} {e : TypeId} {size n : Nat} {v : Value} {xs : List Value} (h : w.ownsRow base e size v n xs) {k : Nat} (hk : v.ownBlock = some k) : ∃ cur, w.heap[k]? = some (.cells cur e) := by
  rcases h.2 with ⟨rfl, _⟩ | ⟨g, cap, cur, rfl, hb, hg, _⟩
  · simp [Value.ownBlock] at hk
  · have : g = k := by simpa [Value.ownBlock] using hk
    subst this
    exact ⟨cur, hg⟩

theorem own_same {w w' : World} {base : Nat} {e : TypeId} {size n : Nat} {v : Value} {xs : List Value} (h : w.ownsRow base e size v n xs) (hb : ∀ k, v.ownBlock = some k → w'.heap[k]? = w.heap[k]?) : w'.ownsRow base e size v n xs := by
  refine ⟨h.1, ?_⟩
  rcases h.2 with h | ⟨g, cap, cur, rfl, h1, h2, h3⟩
  · exact .inl h
  · exact .inr ⟨g, cap, cur, rfl, h1, (hb g rfl).trans h2, h3⟩
theorem own_lt {w : World} {base : Nat} {e : TypeId} {size n : Nat} {v : Value} {xs : List Value} (h : w.ownsRow base e size v n xs) {k : Nat} (hk : v.ownBlock = some k) : k < w.heap.size := by
  obtain ⟨cur, hc⟩ := own_obj h hk
  exact lt_of_heap hc
theorem obj_ne {w : World} {k l : Nat} {cs ds : Array Value} {t u : TypeId} (h : w.heap[k]? = some (.cells cs t)) (h' : w.heap[l]? = some (.cells ds u)) (hne : t ≠ u) : k ≠ l := fun e => by
  subst e
  rw [h] at h'
  injection h' with h'
  injection h' with _ h2 _
  exact hne h2
theorem obj_ne_map {w : World} {k m n : Nat} {cs : Array Value} {t : TypeId} {f : List UInt8 → Option Value} (h : w.heap[k]? = some (.cells cs t)) (hm : MapIs w m n f) : k ≠ m := fun e => by
  subst e
  obtain ⟨es, cl, hb⟩ := hm.block
  rw [h] at hb
  cases hb
theorem ptrs_snoc (acc : List Acct) (a : Acct) (nb : Nat → Nat) (x : Nat) (p : Option ByteArray) :
    (kidsOf (acc ++ [a]) p).map (fun j => ptrV (if j = acc.length then x else nb j)) = (kidsOf acc p).map (fun j => ptrV (nb j)) ++ (if upB a.name = p then [ptrV x] else []) := by
  rw [kidsOf_snoc, List.map_append]
  congr 1
  · refine List.map_congr_left fun j hj => ?_
    rw [if_neg (Nat.ne_of_lt (kidsOf_lt _ _ _ hj))]
  · split <;> simp
theorem kids_length_snoc (acc : List Acct) (a : Acct) (p : Option ByteArray) : (kidsOf (acc ++ [a]) p).length = (kidsOf acc p).length + (if upB a.name = p then 1 else 0) := by
  rw [kidsOf_snoc, List.length_append]
  split <;> simp

section
variable {w W : World} {B c m : Nat} {acc : List Acct} {nb : Nat → Nat} {rv : Value} {kv : Nat → Value} {a : Acct} {x : Nat}
theorem ChartAt.kid_ne (hC : ChartAt w B c m acc nb rv kv) {i : Nat} {b : Acct} (hi : acc[i]? = some b) {k : Nat} {cs : Array Value} {t : TypeId} (h : w.heap[k]? = some (.cells cs t)) (ht : t ≠ 117) : (kv i).ownBlock ≠ some k := fun e => by
  obtain ⟨cur, h2⟩ := own_obj (hC.kids i b hi) e
  exact obj_ne h h2 ht rfl
theorem ChartAt.root_ne (hC : ChartAt w B c m acc nb rv kv) {k : Nat} {cs : Array Value} {t : TypeId} (h : w.heap[k]? = some (.cells cs t)) (ht : t ≠ 117) : rv.ownBlock ≠ some k := fun e => by
  obtain ⟨cur, h2⟩ := own_obj hC.roots e
  exact obj_ne h h2 ht rfl
theorem ChartAt.get (_ : ChartAt w B c m acc nb rv kv) {i : Nat} (h : i < acc.length) : acc[i]? = some acc[i] := List.getElem?_eq_getElem h

theorem ChartAt.grow_kid (hC : ChartAt w B c m acc nb rv kv) {i : Nat} {b : Acct} (hi : acc[i]? = some b) (hp : upB a.name = some b.name) (hne : ∀ b ∈ acc, b.name ≠ a.name)
    (hW : ∀ k, k < w.heap.size → k ≠ m → k ≠ nb i → (kv i).ownBlock ≠ some k → W.heap[k]? = w.heap[k]?)
    (hmap : MapIs W m (acc.length + 1) (mapPut (byName acc nb) (L a.name) (ptrV x))) (hx : w.heap.size ≤ x) (hB : B ≤ w.heap.size)
    (hxn : W.heap[x]? = some (.cells #[.string a.name, .int .i64 a.typ, .int .i64 a.opened, .bool a.closed, .slice none 0 0] 123))
    {v' : Value} (hnode : W.heap[nb i]? = some (.cells #[.string b.name, .int .i64 b.typ, .int .i64 b.opened, .bool b.closed, v'] 123))
    (hown : W.ownsRow B 117 1 v' ((kidsOf acc (some b.name)).length + 1) ((kidsOf acc (some b.name)).map (fun j => ptrV (nb j)) ++ [ptrV x]))
    (hat : v'.ownBlock = (kv i).ownBlock ∨ ∃ k, w.heap.size ≤ k ∧ v'.ownBlock = some k) :
    ChartAt W B c m (acc ++ [a]) (fun j => if j = acc.length then x else nb j) rv (fun j => if j = acc.length then .slice none 0 0 else if j = i then v' else kv j) := by
  have hil := get_lt hi
  have hlt : ∀ {j}, j < acc.length → nb j < w.heap.size := fun hj => lt_of_heap (hC.node _ _ (hC.get hj))
  have hkid : ∀ {j k}, j < acc.length → (kv j).ownBlock = some k → k < w.heap.size := fun hj hk => own_lt (hC.kids _ _ (hC.get hj)) hk
  -- blocks of other rows stay
  have hrow : ∀ {j k}, j < acc.length → j ≠ i → (kv j).ownBlock = some k → W.heap[k]? = w.heap[k]? := fun {j k} hj hji hk => by
    obtain ⟨cur, h2⟩ := own_obj (hC.kids _ _ (hC.get hj)) hk
    exact hW k (hkid hj hk) (obj_ne_map h2 hC.map) (obj_ne h2 (hC.node i b hi) (by decide)) (hC.apart i j k hil hj (Ne.symm hji) · hk)
  have hroot : ∀ {k}, rv.ownBlock = some k → W.heap[k]? = w.heap[k]? := fun {k} hk => by
    obtain ⟨cur, h2⟩ := own_obj hC.roots hk
    exact hW k (own_lt hC.roots hk) (obj_ne_map h2 hC.map) (obj_ne h2 (hC.node i b hi) (by decide)) (fun e => hC.apartR i k hil e hk)
  have hi2 : ¬ i = acc.length := by omega
  exact {
    forest := hC.forest.snoc hne fun p h => ⟨i, b, hi, by rw [hp] at h; injection h⟩
    base := ⟨hC.base.1, hC.base.2.1, fun j hj => by
      rw [List.length_append, List.length_singleton] at hj
      by_cases hj2 : j = acc.length
      · simp only [if_pos hj2]; omega
      · simp only [if_neg hj2]; exact hC.base.2.2 j (by omega)⟩
    chart := (hW c (lt_of_heap hC.chart) (obj_ne_map hC.chart hC.map) (obj_ne hC.chart (hC.node i b hi) (by decide)) (hC.kid_ne hi hC.chart (by decide))).trans hC.chart
    map := by
      rw [← byName_snoc acc a nb x fun b hb e => hne b hb (L_inj e), List.length_append]
      exact hmap
    node := fun j y hj => by
      rcases (snoc_get _ _ _ _).1 hj with hj | ⟨rfl, rfl⟩
      · have hjl := get_lt hj
        simp only [if_neg (Nat.ne_of_lt hjl)]
        by_cases hji : j = i
        · subst hji
          rw [hi] at hj
          injection hj with hj
          subst hj
          rw [if_pos rfl]
          exact hnode
        · rw [if_neg hji]
          have hn := hC.node j y hj
          exact (hW _ (lt_of_heap hn) (obj_ne_map hn hC.map) (fun e => hji (hC.inj j i hjl hil e)) (hC.kid_ne hi hn (by decide))).trans hn
      · simp only [if_pos rfl]
        exact hxn
    kids := fun j y hj => by
      rcases (snoc_get _ _ _ _).1 hj with hj | ⟨rfl, rfl⟩
      · have hjl := get_lt hj
        rw [ptrs_snoc, kids_length_snoc]
        simp only [if_neg (Nat.ne_of_lt hjl)]
        by_cases hji : j = i
        · subst hji
          rw [hi] at hj
          injection hj with hj
          subst hj
          rw [if_pos rfl, if_pos hp, if_pos hp]
          exact hown
        · have hnn : ¬ upB a.name = some y.name := fun e => hji (hC.forest.names j i y b hj hi (by rw [hp] at e; injection e with e; exact e.symm))
          rw [if_neg hji, if_neg hnn, if_neg hnn, List.append_nil]
          exact own_same (hC.kids j y hj) fun k hk => hrow hjl hji hk
      · rw [hC.forest.kids_none hne]
        simp only [if_pos rfl]
        exact ⟨by simp, .inl ⟨rfl, rfl⟩⟩
    roots := by
      rw [ptrs_snoc, kids_length_snoc, if_neg (by rw [hp]; simp), if_neg (by rw [hp]; simp), List.append_nil]
      exact own_same hC.roots fun k hk => hroot hk
    apart := fun j l k hj hl hjl hk hk2 => by
      rw [List.length_append, List.length_singleton] at hj hl
      by_cases hj2 : j = acc.length
      · rw [if_pos hj2] at hk; simp [Value.ownBlock] at hk
      · by_cases hl2 : l = acc.length
        · rw [if_pos hl2] at hk2; simp [Value.ownBlock] at hk2
        · rw [if_neg hj2] at hk
          rw [if_neg hl2] at hk2
          have hj3 : j < acc.length := by omega
          have hl3 : l < acc.length := by omega
          by_cases hji : j = i
          · subst hji
            rw [if_pos rfl] at hk
            rw [if_neg (Ne.symm hjl)] at hk2
            rcases hat with h | ⟨k0, h0, h⟩
            · exact hC.apart j l k hj3 hl3 hjl (h ▸ hk) hk2
            · have := hkid hl3 hk2
              rw [h] at hk; injection hk with hk; omega
          · rw [if_neg hji] at hk
            by_cases hli : l = i
            · subst hli
              rw [if_pos rfl] at hk2
              rcases hat with h | ⟨k0, h0, h⟩
              · exact hC.apart j l k hj3 hl3 hjl hk (h ▸ hk2)
              · have := hkid hj3 hk
                rw [h] at hk2; injection hk2 with hk2; omega
            · rw [if_neg hli] at hk2
              exact hC.apart j l k hj3 hl3 hjl hk hk2
    apartR := fun j k hj hk hk2 => by
      rw [List.length_append, List.length_singleton] at hj
      by_cases hj2 : j = acc.length
      · rw [if_pos hj2] at hk; simp [Value.ownBlock] at hk
      · rw [if_neg hj2] at hk
        by_cases hji : j = i
        · subst hji
          rw [if_pos rfl] at hk
          rcases hat with h | ⟨k0, h0, h⟩
          · exact hC.apartR j k (by omega) (h ▸ hk) hk2
          · have := own_lt hC.roots hk2
            rw [h] at hk; injection hk with hk; omega
        · rw [if_neg hji] at hk
          exact hC.apartR j k (by omega) hk hk2
    inj := fun j l hj hl e => by
      rw [List.length_append, List.length_singleton] at hj hl
      by_cases hj2 : j = acc.length
      · by_cases hl2 : l = acc.length
        · omega
        · rw [if_pos hj2, if_neg hl2] at e
          have := hlt (show l < acc.length by omega)
          omega
      · by_cases hl2 : l = acc.length
        · rw [if_neg hj2, if_pos hl2] at e
          have := hlt (show j < acc.length by omega)
          omega
        · rw [if_neg hj2, if_neg hl2] at e
          exact hC.inj j l (by omega) (by omega) e }

theorem ChartAt.grow_root (hC : ChartAt w B c m acc nb rv kv) (hp : upB a.name = none) (hne : ∀ b ∈ acc, b.name ≠ a.name)
    (hW : ∀ k, k < w.heap.size → k ≠ m → k ≠ c → rv.ownBlock ≠ some k → W.heap[k]? = w.heap[k]?)
    (hmap : MapIs W m (acc.length + 1) (mapPut (byName acc nb) (L a.name) (ptrV x))) (hx : w.heap.size ≤ x) (hB : B ≤ w.heap.size)
    (hxn : W.heap[x]? = some (.cells #[.string a.name, .int .i64 a.typ, .int .i64 a.opened, .bool a.closed, .slice none 0 0] 123))
    {v' : Value} (hch : W.heap[c]? = some (.cells #[.map (some m), v'] 121))
    (hown : W.ownsRow B 117 1 v' ((kidsOf acc none).length + 1) ((kidsOf acc none).map (fun j => ptrV (nb j)) ++ [ptrV x]))
    (hat : v'.ownBlock = rv.ownBlock ∨ ∃ k, w.heap.size ≤ k ∧ v'.ownBlock = some k) :
    ChartAt W B c m (acc ++ [a]) (fun j => if j = acc.length then x else nb j) v' (fun j => if j = acc.length then .slice none 0 0 else kv j) := by
  have hlt : ∀ {j}, j < acc.length → nb j < w.heap.size := fun hj => lt_of_heap (hC.node _ _ (hC.get hj))
  have hkid : ∀ {j k}, j < acc.length → (kv j).ownBlock = some k → k < w.heap.size := fun hj hk => own_lt (hC.kids _ _ (hC.get hj)) hk
  have hrow : ∀ {j k}, j < acc.length → (kv j).ownBlock = some k → W.heap[k]? = w.heap[k]? := fun {j k} hj hk => by
    obtain ⟨cur, h2⟩ := own_obj (hC.kids _ _ (hC.get hj)) hk
    exact hW k (hkid hj hk) (obj_ne_map h2 hC.map) (obj_ne h2 hC.chart (by decide)) (hC.apartR j k hj hk)
  exact {
    forest := hC.forest.snoc hne fun p h => by rw [hp] at h; cases h
    base := ⟨hC.base.1, hC.base.2.1, fun j hj => by
      rw [List.length_append, List.length_singleton] at hj
      by_cases hj2 : j = acc.length
      · simp only [if_pos hj2]; omega
      · simp only [if_neg hj2]; exact hC.base.2.2 j (by omega)⟩
    chart := hch
    map := by
      rw [← byName_snoc acc a nb x fun b hb e => hne b hb (L_inj e), List.length_append]
      exact hmap
    node := fun j y hj => by
      rcases (snoc_get _ _ _ _).1 hj with hj | ⟨rfl, rfl⟩
      · have hjl := get_lt hj
        simp only [if_neg (Nat.ne_of_lt hjl)]
        have hn := hC.node j y hj
        exact (hW _ (lt_of_heap hn) (obj_ne_map hn hC.map) (obj_ne hn hC.chart (by decide)) (hC.root_ne hn (by decide))).trans hn
      · simp only [if_pos rfl]
        exact hxn
    kids := fun j y hj => by
      rcases (snoc_get _ _ _ _).1 hj with hj | ⟨rfl, rfl⟩
      · have hjl := get_lt hj
        rw [ptrs_snoc, kids_length_snoc]
        simp only [if_neg (Nat.ne_of_lt hjl)]
        have hnn : ¬ upB a.name = some y.name := fun e => by rw [hp] at e; cases e
        rw [if_neg hnn, if_neg hnn, List.append_nil]
        exact own_same (hC.kids j y hj) fun k hk => hrow hjl hk
      · rw [hC.forest.kids_none hne]
        simp only [if_pos rfl]
        exact ⟨by simp, .inl ⟨rfl, rfl⟩⟩
    roots := by
      rw [ptrs_snoc, kids_length_snoc, if_pos hp, if_pos hp]
      exact hown
    apart := fun j l k hj hl hjl hk hk2 => by
      rw [List.length_append, List.length_singleton] at hj hl
      by_cases hj2 : j = acc.length
      · rw [if_pos hj2] at hk; simp [Value.ownBlock] at hk
      · by_cases hl2 : l = acc.length
        · rw [if_pos hl2] at hk2; simp [Value.ownBlock] at hk2
        · rw [if_neg hj2] at hk
          rw [if_neg hl2] at hk2
          exact hC.apart j l k (by omega) (by omega) hjl hk hk2
    apartR := fun j k hj hk hk2 => by
      rw [List.length_append, List.length_singleton] at hj
      by_cases hj2 : j = acc.length
      · rw [if_pos hj2] at hk; simp [Value.ownBlock] at hk
      · rw [if_neg hj2] at hk
        rcases hat with h | ⟨k0, h0, h⟩
        · exact hC.apartR j k (by omega) hk (h ▸ hk2)
        · have := hkid (show j < acc.length by omega) hk
          rw [h] at hk2; injection hk2 with hk2; omega
    inj := fun j l hj hl e => by
      rw [List.length_append, List.length_singleton] at hj hl
      by_cases hj2 : j = acc.length
      · by_cases hl2 : l = acc.length
        · omega
        · rw [if_pos hj2, if_neg hl2] at e
          have := hlt (show l < acc.length by omega)
          omega
      · by_cases hl2 : l = acc.length
        · rw [if_neg hj2, if_pos hl2] at e
          have := hlt (show j < acc.length by omega)
          omega
        · rw [if_neg hj2, if_neg hl2] at e
          exact hC.inj j l (by omega) (by omega) e }
end

theorem New_any (w : World) : Calls Tryz.prog 57 #[] w fun e w' => e = .returned (ptrV (w.heap.size + 1)) ∧ ChartAt w' w.heap.size (w.heap.size + 1) w.heap.size [] (fun _ => 0) (.slice none 0 0) (fun _ => undef) ∧ Below w.heap.size w w' := by
  have hmk := run_makeMap (P := Tryz.prog) 118 w
  go_enter Tryz.func57, Tryz.ntmps57
  go_wp2_with fail
  go_ret
  have hb : Below w.heap.size w (w.alloc (.map #[] 0)) := (Below.refl _ _).alloc (Nat.le_refl _) _
  refine ⟨rfl, ?_, hb.alloc hb.size _⟩
  exact {
    forest := Forest.nil
    base := ⟨Nat.le_succ _, Nat.le_refl _, fun i h => absurd h (Nat.not_lt_zero _)⟩
    chart := by have h := heap_alloc_new (w.alloc (.map #[] 0)) (.cells #[.map (some w.heap.size), .slice none 0 0] 121); rwa [World.size_alloc] at h
    map := ((MapIs.new w).below ((Below.refl _ _).alloc (Nat.le_refl _) _))
    node := fun i a h => by simp at h
    kids := fun i a h => by simp at h
    roots := ⟨by simp [kidsOf], .inl ⟨rfl, rfl⟩⟩
    apart := fun i j k h => absurd h (Nat.not_lt_zero _)
    apartR := fun i k h => absurd h (Nat.not_lt_zero _)
    inj := fun i j h => absurd h (Nat.not_lt_zero _) }

theorem cell_of {w : World} {b i : Nat} {cs : Array Value} {t : TypeId} {v : Value} (h : w.heap[b]? = some (.cells cs t)) (hv : cs[i]? = some v) : w.cell? ⟨b, i, none⟩ = some v := by
  simp [World.cell?, h, hv]

end Go.Proofs.YtgbnlemcojgijaaGreatDoor
