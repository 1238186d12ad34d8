/- SheetWalk: Tree's lines are the accounts, each once, in the tree's order. -/
import Derived.Test.YtgbnlemcojgijaaGreatDoorAt
import Derived.Test.YtgbnlemcojgijaaGreatDoorV
import Derived.Deep.OwnRows
import Derived.Laws.AppendOwnNone
import Derived.Laws.OwnMore
namespace Go.Proofs.YtgbnlemcojgijaaGreatDoor
open Go.RowKit Go.Shelf Go.Sort

def noTold : List UInt8 → Option Int := fun _ => none
def noShare : Int → Int → List UInt8 := fun _ _ => []
theorem rowB_rowT (s : ByteArray) : rowB 0 noTold (fun _ => []) s = rowT s := by
  unfold rowB rowT
  have : printL (toldV noTold s) 0 = [48] := by
    show printL 0 0 = [48]
    decide +kernel
  rw [this]; rfl
theorem treeRows_zero (acc : List Acct) : treeRows acc 0 noTold noShare = ((orderT acc).map (nameAt acc)).map rowT := by
  unfold treeRows orderT rowsB
  rw [List.map_map, List.map_flatMap]
  congr 1
  funext k
  exact List.map_congr_left fun j _ => rowB_rowT _
theorem share_none (x : ByteArray) : ShareOk (toldV noTold x) (noShare (toldV noTold x)) := fun b w _ _ =>
  (share_zero b w).mono fun e w' ⟨h1, h2⟩ => ⟨⟨_, h1, Str.mk L_empty⟩, by rw [← h2]; exact Below.refl _ _⟩
theorem treeErr_nil (acc : List Acct) : treeErr acc [] 0 = if chartOk acc = true then 0 else 67 := by
  have h0 : beginWhy 0 = 0 := by decide
  unfold treeErr
  rw [if_neg (fun h => h h0)]
  cases chartOk acc <;> rfl
/-- Tree at no balances, no digits. -/
theorem tree_nil (A : Option Addr) (cap : Nat) (acc : List Acct) (w : World) (hg : Gl w) (hn : acc.length ≤ 1048576) (hs : ∀ a ∈ acc, a.name.size ≤ 1048576) (hA : AcctsAt w A acc) :
    Calls Tryz.prog 17 #[.slice A acc.length cap, .slice none 0 0, .int .i64 0] w fun e w' =>
      (chartOk acc = false → e = .returned (.tuple #[.string ⟨#[]⟩, .int .i64 67])) ∧
      (chartOk acc = true → ∃ r, e = .returned (.tuple #[.string r, .int .i64 0]) ∧ Str r (gridL (fun c => decide (1 ≤ c)) (((orderT acc).map (nameAt acc)).map rowT))) ∧ Below w.heap.size w w' := by
  have h := Tree_any A cap acc none 0 [] 0 w hg hn hs hA (by decide) (fun b hb => by cases hb) (fun h => absurd h (by decide)) noShare (fun _ _ => Nat.zero_le _) share_none
  refine (show Calls Tryz.prog 17 #[.slice A acc.length cap, .slice none 0 0, .int .i64 0] w _ from h).mono ?_
  rintro e w' ⟨h1, h2, h3⟩
  rw [treeErr_nil] at h1 h2
  refine ⟨fun hc => ?_, fun hc => ?_, h3⟩
  · rw [hc] at h1; exact h1 (by decide)
  · rw [hc] at h2
    obtain ⟨r, hr, hs⟩ := h2 rfl
    refine ⟨r, hr, ?_⟩
    rw [← treeRows_zero]
    exact hs

theorem Tryz.infoBool : (Tryz.prog.info? 4).map (fun i => (i.zero, i.size, i.bytes)) = some (some (.bool false), 1, 1) := by kernel_rfl
theorem idx_at (s : ByteArray) (i : Nat) (j : Int) (x : UInt8) (v : Int) (hj : j = (i : Int)) (hv : (x.toNat : Int) = v) (h : (L s)[i]? = some x) (W : World) : (Instr.index 9 (.string s) (.int .i64 j)).run Tryz.prog W = .ok (.int .u8 v) W := by
  subst hj hv
  have hlt : i < s.size := get_lt h
  rw [run_index_string W 9 s .i64 (i : Int) Tryz.underlying9, dif_pos ⟨by omega, by omega⟩]
  rw [L_get s i hlt] at h
  injection h with h
  simp only [Int.toNat_natCast]
  rw [h]
theorem own_mono {w : World} {b b' : Nat} {e : TypeId} {size : Nat} {v : Value} {n : Nat} {xs : List Value} (h : w.ownsRow b e size v n xs) (hb : b' ≤ b) : w.ownsRow b' e size v n xs :=
  ⟨h.1, h.2.imp id fun ⟨g, cap, cur, h1, h2, h3⟩ => ⟨g, cap, cur, h1, Nat.le_trans hb h2, h3⟩⟩
/-- append([]T{}, src...): the empty box was just laid; src's elements stand. -/
theorem appE {P : Program} {ops : Array Oper} {rest : List Oper} {o : Oper} {a : Act} {Q : Exit → Act → World → Prop} {W : World} {s x : Operand} {A : Option Addr} {m c : Nat} {news : List Value} (t e : TypeId) (z : Value) (bytes : Nat)
    (ht : P.underlying t = some (.slice e)) (hinfo : (P.info? e).map (fun i => (i.zero, i.size, i.bytes)) = some (some z, 1, bytes))
    (hl : news.length = m) (hA : Arr W A m news) (hnil : A = none → c = 0) (hn : m ≤ 9223372036854775807) (hb : m * bytes ≤ 140737488355328) (h1 : ∀ u ∈ news, u.oneCell' = true)
    (h : ∀ v1 w1, w1.ownsRow W.heap.size e 1 v1 m news → Below W.heap.size W w1 → wpList P ops Q rest (a.put o.dst v1) w1)
    (hgd : o.guard = none := by rfl) (ho : o.op = .call { callee := .builtin .append, args := #[s, x], argTypes := #[t, t] } := by rfl)
    (hs : a.eval s = .slice (some ⟨W.heap.size, 0, none⟩) 0 0 := by rfl) (hx : a.eval x = .slice A m c := by rfl) (hz : z.cells.size = 1 := by rfl) :
    wpList P ops Q (o :: rest) a (W.alloc (.cells #[] e)) := by
  obtain ⟨i0, hi, hzz⟩ := Option.map_eq_some_iff.1 hinfo
  simp only [Prod.mk.injEq] at hzz
  obtain ⟨hz0, hz1, hz2⟩ := hzz
  have hb0 : Below W.heap.size W (W.alloc (.cells #[] e)) := (Below.refl _ _).alloc (Nat.le_refl _) _
  have hown : (W.alloc (.cells #[] e)).ownsRow W.heap.size e 1 (.slice (some ⟨W.heap.size, 0, none⟩) 0 0) 0 [] := World.ownsRow_lit W #[] 0 (Nat.le_refl _) (by simp [maxLen]) rfl
  by_cases h0 : m = 0
  · subst h0
    have hnw : news = [] := List.length_eq_zero_iff.1 hl
    subst hnw
    cases A with
    | none =>
      have hc := hnil rfl
      subst hc
      exact wpList_append_own_none hgd s x t ho W.heap.size e i0 1 ht hi _ 0 [] hs hown hx (h _ _ hown hb0)
    | some ad =>
      refine wpList_append_own (w := W.alloc (.cells #[] e)) hgd s x t ho W.heap.size e i0 z 1 bytes ht hi hz0 hz1 hz2 hz (by omega) _ 0 [] hs hown ad 0 c [] hx rfl (fun j u hj => by simp at hj) (fun u hu => by cases hu) (by simp [maxLen]) (by omega) (by simp) ?_
      intro v1 w1 hown1 hg _
      exact h v1 w1 hown1 (hb0.grown hg (by simp) (own_base hown))
  · obtain ⟨b, off, rfl, hcell⟩ := hA (by omega)
    refine wpList_append_own (w := W.alloc (.cells #[] e)) hgd s x t ho W.heap.size e i0 z 1 bytes ht hi hz0 hz1 hz2 hz (by omega) _ 0 [] hs hown ⟨b, off, none⟩ m c news hx (by omega) (fun j u hj => ?_) h1 (by simp only [maxLen]; omega) (by rw [Nat.zero_add]; exact hb) (by simp) ?_
    · have ha : (⟨b, off, none⟩ : Addr).add j = ⟨b, off + j, none⟩ := by unfold Addr.add; split <;> simp_all
      rw [ha]
      exact cell_below hb0 (hcell j u hj)
    intro v1 w1 hown1 hg _
    rw [Nat.zero_add, List.nil_append] at hown1
    exact h v1 w1 hown1 (hb0.grown hg (by simp) (own_base hown))

/-- The marks: which accounts have come. -/
def DoneAt (W : World) (D : Nat) (acc : List Acct) (k : Nat) : Prop := ∃ cs : Array Value, W.heap[D]? = some (.cells cs 4) ∧ cs.size = acc.length ∧ ∀ j, j < acc.length → cs[j]? = some (.bool (decide (j ∈ (orderT acc).take k)))
/-- The path: the parts of the name that came last. -/
def PathAt (W : World) (B : Nat) (v : Value) (acc : List Acct) (k : Nat) : Prop := ∃ ps : List ByteArray, ps.map L = prevP acc k ∧ W.ownsRow B 9 1 v ps.length (ps.map Value.string)

theorem KE.setCell {e : TypeId} {W : World} {D i : Nat} {cs : Array Value} (h : W.heap[D]? = some (.cells cs e)) (v : Value) : KE e W (W.setCell ⟨D, i, none⟩ v) :=
  ⟨by simp [World.setCell], fun k cs' t hk hne => (Below.heap_setCell _ _ _ _ (fun e1 => by
    have e2 : k = D := e1
    subst e2
    rw [hk] at h
    injection h with h
    injection h with _ h
    exact hne h)).trans hk, fun k es cl hk => (Below.heap_setCell _ _ _ _ (fun e1 => by
    have e2 : k = D := e1
    subst e2
    rw [hk] at h
    injection h with h
    cases h)).trans hk⟩
theorem DoneAt.below {W W' : World} {D : Nat} {acc : List Acct} {k : Nat} (h : DoneAt W D acc k) (hb : Below W.heap.size W W') : DoneAt W' D acc k := by
  obtain ⟨cs, h1, h2⟩ := h
  exact ⟨cs, (hb.block D (lt_of_heap h1)).trans h1, h2⟩
theorem DoneAt.cell {W : World} {D : Nat} {acc : List Acct} {k o : Nat} (h : DoneAt W D acc k) (ho : o < acc.length) : W.cell? ⟨D, o, none⟩ = some (.bool (decide (o ∈ (orderT acc).take k))) := by
  obtain ⟨cs, h1, h2, h3⟩ := h
  exact cell_of h1 (h3 o ho)
theorem DoneAt.frozen {W : World} {D : Nat} {acc : List Acct} {k : Nat} (h : DoneAt W D acc k) (o : Nat) : W.frozen? ⟨D, o, none⟩ = false := by
  obtain ⟨cs, h1, _⟩ := h
  simp [World.frozen?, h1]
theorem DoneAt.mark {W : World} {D : Nat} {acc : List Acct} {k : Nat} (R : Rising acc) (h : DoneAt W D acc k) (hk : k < acc.length) : DoneAt (W.setCell ⟨D, ordAt acc k, none⟩ (.bool true)) D acc (k + 1) := by
  obtain ⟨cs, h1, h2, h3⟩ := h
  refine ⟨_, setCell_heap h1 _, by rw [Array.size_setIfInBounds, h2], fun j hj => ?_⟩
  have e : (orderT acc).take (k + 1) = (orderT acc).take k ++ [ordAt acc k] := by
    rw [List.take_add_one, ordAt_get (by rw [R.order_length]; exact hk)]; rfl
  rw [Array.getElem?_setIfInBounds, e]
  by_cases hjk : ordAt acc k = j
  · subst hjk
    rw [if_pos rfl, if_pos (by rw [h2]; exact hj)]
    simp
  · rw [if_neg hjk, h3 j hj]
    have : (j ∈ (orderT acc).take k ++ [ordAt acc k]) ↔ j ∈ (orderT acc).take k := by
      simp [Ne.symm hjk]
    simp only [this]
theorem Rising.fresh {acc : List Acct} (R : Rising acc) {k : Nat} (hk : k < acc.length) : decide (ordAt acc k ∈ (orderT acc).take k) = false := by
  refine decide_eq_false fun hm => ?_
  obtain ⟨j, hj⟩ := List.getElem?_of_mem hm
  have hjl : j < ((orderT acc).take k).length := by
    obtain ⟨h, _⟩ := List.getElem?_eq_some_iff.1 hj
    exact h
  rw [List.length_take] at hjl
  rw [List.getElem?_take, if_pos (by omega)] at hj
  have h2 := ordAt_get (acc := acc) (k := j) (by omega)
  rw [h2] at hj
  injection hj with hj
  have := R.ord_inj (j := j) (k := k) (by omega) hk hj
  omega
/-- The parts so far, the new one behind them: the account's own. -/
theorem path_parts {acc : List Acct} (R : Rising acc) {o : Nat} (ho : o < acc.length) {qs : List ByteArray} (h : qs.map L = pathOf acc o) : qs.length ≤ 6 ∧ (∀ q ∈ qs, q.size ≤ 16) ∧ joinN qs qs.length = L (nameAt acc o) := by
  obtain ⟨_, h6, hp⟩ := good_parts (R.goodAt ho)
  have hl : qs.length = (pathOf acc o).length := by rw [← h, List.length_map]
  refine ⟨by rw [hl]; exact h6, fun q hq => ?_, ?_⟩
  · have hm : L q ∈ pathOf acc o := by rw [← h]; exact List.mem_map_of_mem hq
    exact (part_facts (hp _ hm)).2.1
  · rw [joinN_joinC qs _ (Nat.le_refl _), List.take_length, h]
    exact joinC_split _

end Go.Proofs.YtgbnlemcojgijaaGreatDoor
