/- sheet: a sheet in memory; its parts. -/
import Derived.Test.YtgbnlemcojgijaaGreatDoorL
import Derived.Test.YtgbnlemcojgijaaGreatDoorG
import Derived.Test.YtgbnlemcojgijaaGreatDoorM
namespace Go.Proofs.YtgbnlemcojgijaaGreatDoor
open Go.RowKit Go.Shelf Go.Sort

/-- Blocks of other types than a sheet's and a row's list are as they were. -/
structure KT (w w' : World) : Prop where
  size : w.heap.size ≤ w'.heap.size
  cells : ∀ (k : Nat) (cs : Array Value) (t : TypeId), w.heap[k]? = some (.cells cs t) → t ≠ 92 → t ≠ 36 → w'.heap[k]? = some (.cells cs t)
  map : ∀ (k : Nat) (es : Array MapEntry) (cl : Nat), w.heap[k]? = some (.map es cl) → w'.heap[k]? = some (.map es cl)
theorem KT.refl (w : World) : KT w w := ⟨Nat.le_refl _, fun _ _ _ h _ _ => h, fun _ _ _ h => h⟩
theorem KT.trans {a b c : World} (h : KT a b) (k : KT b c) : KT a c :=
  ⟨Nat.le_trans h.size k.size, fun i cs t hi h1 h2 => k.cells i cs t (h.cells i cs t hi h1 h2) h1 h2, fun i es cl hi => k.map i es cl (h.map i es cl hi)⟩
theorem KT.below {w w' : World} (h : Below w.heap.size w w') : KT w w' :=
  ⟨h.size, fun k _ _ hk _ _ => (h.block k (lt_of_heap hk)).trans hk, fun k _ _ hk => (h.block k (lt_of_heap hk)).trans hk⟩
theorem KT.map_is {w w' : World} {b n : Nat} {f : List UInt8 → Option Value} (h : KT w w') (hm : MapIs w b n f) : MapIs w' b n f := by
  obtain ⟨es, cl, hb⟩ := hm.block
  exact hm.same ((h.map b es cl hb).trans hb.symm)
theorem KT.own {w w' : World} {base : Nat} {e : TypeId} {size n : Nat} {v : Value} {xs : List Value} (h : KT w w') (ho : w.ownsRow base e size v n xs) (h1 : e ≠ 92) (h2 : e ≠ 36) : w'.ownsRow base e size v n xs :=
  own_same ho fun k hk => by
    obtain ⟨cur, hc⟩ := own_obj ho hk
    rw [h.cells k cur e hc h1 h2, hc]
theorem KT.chart {w w' : World} {B c m : Nat} {acc : List Acct} {nb : Nat → Nat} {rv : Value} {kv : Nat → Value} (h : KT w w') (hC : ChartAt w B c m acc nb rv kv) : ChartAt w' B c m acc nb rv kv :=
  { hC with
    chart := h.cells _ _ _ hC.chart (by decide) (by decide)
    map := h.map_is hC.map
    node := fun i a ha => h.cells _ _ _ (hC.node i a ha) (by decide) (by decide)
    kids := fun i a ha => h.own (hC.kids i a ha) (by decide) (by decide)
    roots := h.own hC.roots (by decide) (by decide) }

/-- The sheet at block s: digits d, first fault why, these rows; all of it lies from block B on. -/
def rowV (p : List ByteArray × Nat) : Value := .slice (some ⟨p.2, 0, none⟩) p.1.length p.1.length
structure SheetAt (w : World) (B s : Nat) (d why : Int) (rv : Value) (prs : List (List ByteArray × Nat)) : Prop where
  base : B ≤ s
  blk : w.heap[s]? = some (.cells #[.int .i64 d, .int .i64 why, rv] 92)
  rows : w.ownsRow B 36 1 rv prs.length (prs.map rowV)
  cells : ∀ p ∈ prs, w.heap[p.2]? = some (.cells (p.1.map Value.string).toArray 9)
def Sheet (w : World) (B s : Nat) (d why : Int) (rows : List (List ByteArray)) : Prop := ∃ rv prs, rows = prs.map (·.1) ∧ SheetAt w B s d why rv prs
theorem SheetAt.below {w w' : World} {B s : Nat} {d why : Int} {rv : Value} {prs : List (List ByteArray × Nat)} (h : SheetAt w B s d why rv prs) (hb : Below w.heap.size w w') : SheetAt w' B s d why rv prs :=
  ⟨h.base, (hb.block _ (lt_of_heap h.blk)).trans h.blk, own_below h.rows hb, fun p hp => (hb.block _ (lt_of_heap (h.cells p hp))).trans (h.cells p hp)⟩
theorem Sheet.below {w w' : World} {B s : Nat} {d why : Int} {rows : List (List ByteArray)} (h : Sheet w B s d why rows) (hb : Below w.heap.size w w') : Sheet w' B s d why rows := by
  obtain ⟨rv, prs, e, h⟩ := h
  exact ⟨rv, prs, e, h.below hb⟩
theorem Sheet.lt {w : World} {B s : Nat} {d why : Int} {rows : List (List ByteArray)} (h : Sheet w B s d why rows) : B ≤ s ∧ s < w.heap.size := by
  obtain ⟨rv, prs, e, h⟩ := h
  exact ⟨h.base, lt_of_heap h.blk⟩
theorem Sheet.cell0 {w : World} {B s : Nat} {d why : Int} {rows : List (List ByteArray)} (h : Sheet w B s d why rows) : w.cell? ⟨s, 0, none⟩ = some (.int .i64 d) := by
  obtain ⟨rv, prs, e, h⟩ := h
  exact cell_of h.blk rfl
theorem Sheet.cell1 {w : World} {B s : Nat} {d why : Int} {rows : List (List ByteArray)} (h : Sheet w B s d why rows) : w.cell? ⟨s, 1, none⟩ = some (.int .i64 why) ∧ w.frozen? ⟨s, 1, none⟩ = false := by
  obtain ⟨rv, prs, e, h⟩ := h
  exact ⟨cell_of h.blk rfl, froz_of h.blk⟩
theorem KT.setCell {w : World} {s i : Nat} {cs : Array Value} (v : Value) (h : w.heap[s]? = some (.cells cs 92)) : KT w (w.setCell ⟨s, i, none⟩ v) :=
  ⟨by simp [World.setCell], fun k _ _ hk h1 _ => (Below.heap_setCell _ _ _ _ (fun e => obj_ne hk h h1 e)).trans hk, fun k es cl hk => (Below.heap_setCell _ _ _ _ (fun e => by have e : k = s := e; subst e; rw [h] at hk; cases hk)).trans hk⟩
theorem SheetAt.setWhy {w : World} {B s : Nat} {d why : Int} {rv : Value} {prs : List (List ByteArray × Nat)} (h : SheetAt w B s d why rv prs) (e : Int) : SheetAt (w.setCell ⟨s, 1, none⟩ (.int .i64 e)) B s d e rv prs :=
  ⟨h.base, setCell_heap h.blk _, own_same h.rows fun k hk => Below.heap_setCell _ _ _ _ (fun e => by
    obtain ⟨cur, h2⟩ := own_obj h.rows hk
    exact obj_ne h2 h.blk (by decide) e), fun p hp => (Below.heap_setCell _ _ _ _ (fun e => obj_ne (h.cells p hp) h.blk (by decide) e)).trans (h.cells p hp)⟩
theorem below_setCell {w : World} {B s i : Nat} {v : Value} (hB : B ≤ s) : Below B w (w.setCell ⟨s, i, none⟩ v) :=
  ⟨rfl, rfl, rfl, by simp [World.setCell], fun k hk => Below.heap_setCell _ _ _ _ (by show k ≠ s; omega)⟩

/-- What a call on a sheet leaves as it was. -/
structure Stay (B : Nat) (w w' : World) : Prop where
  below : Below B w w'
  kt : KT w w'
theorem Stay.refl (B : Nat) (w : World) : Stay B w w := ⟨Below.refl _ _, KT.refl _⟩
theorem Stay.trans {B : Nat} {a b c : World} (h : Stay B a b) (k : Stay B b c) : Stay B a c := ⟨h.below.trans k.below, h.kt.trans k.kt⟩
theorem Stay.of {B : Nat} {w w' : World} (h : Below w.heap.size w w') (hB : B ≤ w.heap.size) : Stay B w w' := ⟨h.mono hB, KT.below h⟩

/-- The first fault counts. -/
def whyOf (why e : Int) : Int := if why = 0 then e else why
theorem fail_any (B s : Nat) (d why e : Int) (rows : List (List ByteArray)) (w : World) (h : Sheet w B s d why rows) :
    Calls Tryz.prog 76 #[.pointer (some ⟨s, 0, none⟩), .int .i64 e] w fun r w' => r = .returned (.tuple #[]) ∧ Sheet w' B s d (whyOf why e) rows ∧ Stay B w w' := by
  obtain ⟨hc, hf⟩ := h.cell1
  have H := hid h; clear h
  by_cases h0 : why = 0
  · subst h0
    go_enter Tryz.func76, Tryz.ntmps76
    go_wp2
    go_end0
    obtain ⟨rv, prs, er, hS⟩ := H.out
    exact ⟨rfl, ⟨rv, prs, er, hS.setWhy e⟩, below_setCell hS.base, KT.setCell _ hS.blk⟩
  · have hne : (why == 0) = false := beq_eq_false_iff_ne.2 h0
    have Hw : Hid (whyOf why e = why) := hid (if_neg h0)
    go_enter Tryz.func76, Tryz.ntmps76
    go_wp2
    go_end0
    exact ⟨rfl, by rw [Hw.out]; exact H.out, Stay.refl _ _⟩
end Go.Proofs.YtgbnlemcojgijaaGreatDoor
