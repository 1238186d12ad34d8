/- Maps with texts as keys, as functions; a chart of accounts in memory. -/
import Derived.Test.YtgbnlemcojgijaaGreatDoorD
import Derived.Maps.OwnOps
import Derived.Maps.Views
namespace Go.Proofs.YtgbnlemcojgijaaGreatDoor
open Go.RowKit Go.Shelf Go.Sort

/-- The map at block b, of at most n entries, holds just what f says. -/
def vR (v : Value) : Option (DataW Value × List MemPlace) := some (.held v, [])
def MapIs (w : World) (b n : Nat) (f : List UInt8 → Option Value) : Prop :=
  ∃ D : DataW Value, w.ownsMap Tryz.prog 9 vR b n D ∧ Maps.IsMap D ∧ ∀ s z, D.atKey (.string s) z = match f s with | some v => .held v | none => z
theorem strKeyed : Maps.Keyed Tryz.prog 9 := Maps.string_keyed Tryz.underlying9
theorem strKey (s : ByteArray) (hs : s.size ≤ maxLen) : keyOf Tryz.prog 9 (.string s) = some (.string (L s)) := WideMaps.keyOf_string_mk Tryz.underlying9 hs
theorem MapIs.new (w : World) : MapIs (w.alloc (.map #[] 0)) w.heap.size 0 fun _ => none :=
  ⟨.map [], World.ownsMap_made w _ _ _, Maps.isMap_empty, fun _ _ => rfl⟩
theorem MapIs.lt {w : World} {b n : Nat} {f : List UInt8 → Option Value} (h : MapIs w b n f) : b < w.heap.size := h.elim fun _ h => h.1.lt
theorem MapIs.kept {w w' : World} {b n : Nat} {f : List UInt8 → Option Value} {row : Option Nat} (h : MapIs w b n f) (hg : w.grownBy w' row) (hne : some b ≠ row) : MapIs w' b n f := by
  obtain ⟨D, h1, h2, h3⟩ := h
  exact ⟨D, h1.kept hg hne, h2, h3⟩
theorem MapIs.same {w w' : World} {b n : Nat} {f : List UInt8 → Option Value} (h : MapIs w b n f) (hb : w'.heap[b]? = w.heap[b]?) : MapIs w' b n f := by
  obtain ⟨D, ⟨es, clock, e1, e2⟩, h2, h3⟩ := h
  exact ⟨D, ⟨es, clock, hb.trans e1, e2⟩, h2, h3⟩
theorem MapIs.below {w w' : World} {b n : Nat} {f : List UInt8 → Option Value} (h : MapIs w b n f) (hb : Below w.heap.size w w') : MapIs w' b n f := h.same (hb.block _ h.lt)
theorem MapIs.block {w : World} {b n : Nat} {f : List UInt8 → Option Value} (h : MapIs w b n f) : ∃ es clock, w.heap[b]? = some (.map es clock) := by
  obtain ⟨D, ⟨es, clock, e1, e2⟩, h2, h3⟩ := h
  exact ⟨es, clock, e1⟩
theorem MapIs.look {w : World} {b n : Nat} {f : List UInt8 → Option Value} (h : MapIs w b n f) {t e : TypeId} (ht : Tryz.prog.underlying t = some (.map 9 e)) {z : Value} (hz : (zeroValue e).run Tryz.prog w = .ok z w) (s : ByteArray) (hs : s.size ≤ maxLen) :
    (Instr.lookup t (.map (some b)) (.string s) false).run Tryz.prog w = .ok ((f (L s)).getD z) w := by
  obtain ⟨D, h1, _, h3⟩ := h
  obtain ⟨v, ps, hrun, hv⟩ := h1.lookup strKeyed ht hz (zd := .held z) (zp := []) rfl (strKey s hs)
  rw [hrun]
  simp only [vR, Option.some.injEq, Prod.mk.injEq] at hv
  have h4 := h3 (L s) (.held z)
  rw [← hv.1] at h4
  cases hf : f (L s) with
  | none => rw [hf] at h4; simp at h4; rw [h4]; rfl
  | some x => rw [hf] at h4; simp at h4; rw [h4]; rfl
theorem MapIs.look2 {w : World} {b n : Nat} {f : List UInt8 → Option Value} (h : MapIs w b n f) {t e : TypeId} (ht : Tryz.prog.underlying t = some (.map 9 e)) {z : Value} (hz : (zeroValue e).run Tryz.prog w = .ok z w) (s : ByteArray) (hs : s.size ≤ maxLen) :
    (Instr.lookup t (.map (some b)) (.string s) true).run Tryz.prog w = .ok (.tuple #[(f (L s)).getD z, .bool (f (L s)).isSome]) w := by
  obtain ⟨D, ⟨es, clock, hb, F, _, rfl⟩, _, h3⟩ := h
  rcases Maps.fit_look true strKeyed ht hz hb F (strKey s hs) with ⟨hrun, _, hat⟩ | ⟨e0, y, _, _, hrun, hRv, hat, _⟩
  · have h4 := h3 (L s) .nil
    have h5 := h3 (L s) (.held z)
    rw [hat] at h4 h5
    cases hf : f (L s) with
    | none => rw [hrun]; rfl
    | some x => rw [hf] at h4; cases h4
  · have h4 := h3 (L s) .nil
    rw [hat] at h4
    simp only [vR, Option.some.injEq] at hRv
    subst hRv
    cases hf : f (L s) with
    | none => rw [hf] at h4; cases h4
    | some x => rw [hf] at h4; simp at h4; rw [hrun, h4]; rfl
def mapPut (f : List UInt8 → Option Value) (s : List UInt8) (v : Value) : List UInt8 → Option Value := fun t => if t = s then some v else f t
theorem mapPut_same (f : List UInt8 → Option Value) (s : List UInt8) (v : Value) : mapPut f s v s = some v := if_pos rfl
theorem mapPut_other (f : List UInt8 → Option Value) (s t : List UInt8) (v : Value) (h : t ≠ s) : mapPut f s v t = f t := if_neg h
/-- m[k] = v at the operation. -/
theorem mapStore {w : World} {ops : Array Oper} {rest : List Oper} {o : Oper} {a : Act} {Q : Exit → Act → World → Prop} {m x y : Operand} {t e : TypeId} (b n : Nat) (f : List UInt8 → Option Value) (s : ByteArray) (v : Value)
    (ht : Tryz.prog.underlying t = some (.map 9 e)) (hm : MapIs w b n f) (hn : n < maxLen) (hs : s.size ≤ maxLen)
    (hK : ∀ w', MapIs w' b (n + 1) (mapPut f (L s) v) → w.grownBy w' (some b) → wpList Tryz.prog ops Q rest (a.put o.dst undef) w')
    (hg : o.guard = none := by rfl) (hop : o.op = Op.mapUpdate t m x y := by rfl) (h1 : a.eval m = .map (some b) := by rfl) (h2 : a.eval x = .string s := by rfl) (h3 : a.eval y = v := by rfl) :
    wpList Tryz.prog ops Q (o :: rest) a w := by
  obtain ⟨D, hown, hD, hat⟩ := hm
  refine wpList_mapUpdate_own w hg m x y t hop 9 e strKeyed ht vR b n D h1 hown hn (.string s) v (.string (L s)) h2 h3 (strKey s hs) (.held v) [] rfl fun w' r1 r2 => hK w' ⟨_, r1, hD.put _ _, fun u z => ?_⟩ r2
  by_cases hu : u = L s
  · subst hu
    rw [mapPut_same, Maps.atKey_put_same hD (strKeyed.key (strKey s hs))]
  · rw [mapPut_other _ _ _ _ hu, Maps.atKey_put_other (fun hc => hu (by injection hc))]
    exact hat u z
end Go.Proofs.YtgbnlemcojgijaaGreatDoor
