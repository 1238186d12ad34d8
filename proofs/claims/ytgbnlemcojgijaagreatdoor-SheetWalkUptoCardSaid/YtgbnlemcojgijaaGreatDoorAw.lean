/- What every row gives: the package variables, the accounts out of the reading; a world for the witness. -/
import Derived.Test.YtgbnlemcojgijaaGreatDoorV
import Derived.Test.YtgbnlemcojgijaaGreatDoorCards
import Derived.Test.YtgbnlemcojgijaaGreatDoorTie
import Derived.WalkKit
import Derived.ProofKit
import Derived.OpenShut
import Derived.Deep.Slices
import Derived.Deep.Fields
import Derived.ChangeSame
import Derived.Deep.DeepHandedRow
import Derived.Deep.DeepLaidRun
import Derived.Lib.LaidTab
import Derived.Lib.LaidU8
namespace Go.Proofs.YtgbnlemcojgijaaGreatDoor
open Go.ChangeShapes Go.WideShapes Go.ChangeAt Go.RowKit Go.Shelf Go.Deep

theorem own : ownKnob Tryz.prog.godebug = none := by kernel_rfl
theorem laidOut : laidOutB Tryz.prog = true := by kernel_rfl
theorem gPow : Tryz.prog.globalNamed "internal/strconv.uint64pow10" = some 6 := by kernel_rfl
theorem gPowType : (Tryz.prog.globals[6]?).map (·.type) = some 319 := by kernel_rfl
theorem powData : (Rows.laid_internal_strconv_uint64pow10 : DataW Unit) = Lib.tabData .u64 Lib.pow10Tab := by kernel_rfl
theorem pow_of {W : World} {l : List (String × DataW Unit)} (h : laidMet Tryz.prog l W) (hm : ("internal/strconv.uint64pow10", Rows.laid_internal_strconv_uint64pow10) ∈ l) : Lib.TabIs Tryz.prog W "internal/strconv.uint64pow10" .u64 Lib.pow10Tab := by
  obtain ⟨g, t, cs, fuel, p, hg, hty, hvar, hd⟩ := Lib.laidMet.reads h hm
  obtain rfl := Option.some.inj (gPow.symm.trans hg)
  obtain rfl := Option.some.inj (gPowType.symm.trans hty)
  rw [powData] at hd
  unfold Lib.TabIs
  rw [hvar, ← Lib.cells_of_tab Tryz.underlying319 Tryz.underlying167 (by kernel_rfl) (by kernel_rfl) hd]
theorem gl_of {W : World} {l : List (String × DataW Unit)} (h : laidMet Tryz.prog l W) (hm : ("internal/strconv.uint64pow10", Rows.laid_internal_strconv_uint64pow10) ∈ l) (hs : W.ShapedOpen Tryz.prog) : Gl W := by
  refine ⟨Go.Proofs.cell_of_shapedOpen_int (zero := #[.int .i64 0]) (t := 3) hs (of_decide_eq_true (by kernel_rfl)) (by kernel_rfl) rfl (by kernel_rfl) (by kernel_rfl) Tryz.underlying3, pow_of h hm, ?_⟩
  have hx : (((begin Tryz.prog (fun _ _ => 0) default).world.heap[10]?).bind Obj.row?).isSome = true := by kernel_rfl
  obtain ⟨x, hx⟩ := Option.isSome_iff_exists.1 hx
  obtain ⟨cs, hc, _⟩ := hs.1 10 x.1 x.2 (of_decide_eq_true (by kernel_rfl)) hx
  have := lt_of_heap hc
  omega

/-! ### the bound -/
theorem bulk_one {H : Type} (d : DataW H) : 1 ≤ Rows.uptoBulk d := by
  cases d with
  | lit l => cases l <;> simp [Rows.uptoBulk]
  | nil => simp [Rows.uptoBulk]
  | ptr d => simp [Rows.uptoBulk]
  | slice elems spare => simp [Rows.uptoBulk]
  | agg parts => simp [Rows.uptoBulk]
  | iface t d => simp [Rows.uptoBulk]
  | map entries => simp [Rows.uptoBulk]
  | held h => simp [Rows.uptoBulk]
theorem bulk_part {H : Type} {d : DataW H} {l : List (DataW H)} (h : d ∈ l) : Rows.uptoBulk d ≤ Rows.uptoBulkAll l := by
  induction l with
  | nil => cases h
  | cons x r ih =>
    simp only [Rows.uptoBulkAll]
    cases List.mem_cons.1 h with
    | inl e => subst e; omega
    | inr e => have := ih e; omega
theorem bulk_length {H : Type} (l : List (DataW H)) : l.length ≤ Rows.uptoBulkAll l := by
  induction l with
  | nil => simp [Rows.uptoBulkAll]
  | cons x r ih => have := bulk_one x; simp only [Rows.uptoBulkAll, List.length_cons]; omega
theorem bulk_all {H : Type} {l : List (DataW H)} (hk : Rows.uptoSmall H l = true) : Rows.uptoBulkAll l ≤ 1048576 := of_decide_eq_true hk
theorem bulk_str {H : Type} (s : ByteArray) : s.size + 1 ≤ Rows.uptoBulk (DataW.lit (H := H) (.string s.data.toList)) := by
  simp only [Rows.uptoBulk]
  have e : s.data.toList.length = s.size := by rw [Array.length_toList]; rfl
  omega

section
variable {H : Type} {enc : TypeId × Value → H} {P : Program} {w : World} {base : Nat} {spare : Nat → Bool} {held : Bool}
/-- A slice of structs of one-cell fields, field by field. -/
theorem open_rows {t e : TypeId} {fs : Array Field} {fuel : Nat} {cs : List Value} {x : DataW H × List MemPlace} (ht : P.underlying t = some (.slice e)) (he : P.underlying e = some (.struct fs))
    (hone : oneCellFields P fs = true) (hC : P.cellsOf e = fs.size) (h : DataW.trod enc P w base spare held fuel t cs = some x) :
    (cs = [.slice none 0 0] ∧ x = (.nil, [])) ∨
    ∃ (a : Addr) (len cap m : Nat) (D : Nat → DataW H) (Pl : Nat → List MemPlace), cs = [.slice (some a) len cap] ∧ base ≤ a.block ∧ len ≤ cap ∧ cap ≤ maxLen ∧ m = (if spare a.block then cap else len) ∧
      x = (.slice ((List.range len).map D) ((List.range (m - len)).map fun j => D (len + j)), MemPlace.row a (m * fs.size) ++ (List.range m).flatMap Pl) ∧
      ∀ i, i < m → ∃ (ys : List (DataW H × List MemPlace)) (n : Nat), D i = .agg (ys.map (·.1)) ∧ Pl i = ys.flatMap (·.2) ∧ ys.length = fs.size ∧
        ∀ (j : Nat) (f : Field), fs[j]? = some f → ∃ (v : Value) (y : DataW H × List MemPlace), w.cell? (a.add (i * fs.size + j)) = some v ∧ ys[j]? = some y ∧ DataW.trod enc P w base spare held n f.type [v] = some y := by
  rcases open_slice ht h with h0 | ⟨a, len, cap, m, n, D, Pl, hcs, hb, hl, hm, hmm, hx, hi⟩
  · exact .inl h0
  · refine .inr ⟨a, len, cap, m, D, Pl, hcs, hb, hl, hm, hmm, by rw [hC] at hx; exact hx, fun i him => ?_⟩
    obtain ⟨cs', hc, ht'⟩ := hi i him
    rw [hC] at hc
    obtain ⟨ys, n', hn', hy, hlen, hyl, hf⟩ := DataW.trod_struct he ht'
    obtain ⟨_, hcl, hat⟩ := World.cells?_some hc
    simp only [Prod.mk.injEq] at hy
    refine ⟨ys, n', hy.1, hy.2, hyl, fun j f hj => ?_⟩
    obtain ⟨ho, hk⟩ := hone_of hone j f hj
    have hjl : j < fs.size := (Array.getElem?_eq_some_iff.1 hj).1
    have hcell := hat j hjl
    have hv : cs'[j]? = some (cs'[j]'(by omega)) := List.getElem?_eq_getElem (by omega)
    have h1 := hf j f hj
    rw [ho, hk] at h1
    have hone' : (cs'.drop j).take 1 = [cs'[j]'(by omega)] := by
      rw [List.drop_eq_getElem_cons (by omega)]
      rfl
    rw [hone'] at h1
    have hys : ys[j]? = some (ys[j]'(by omega)) := List.getElem?_eq_getElem (by omega)
    refine ⟨_, _, ?_, hys, h1.trans hys⟩
    rw [← Go.Deep.add_add, hcell, hv]
end

section
variable {H : Type} {enc : TypeId × Value → H}

set_option maxRecDepth 100000 in
theorem open_accts {W : World} {b0 : Nat} {v : Value} {d : DataW H} {p : List MemPlace} (hv : Value.okWide Tryz.prog W .any b0 26 v) (h : DataW.Trod enc Tryz.prog W 0 (fun _ => true) true 26 v d p) :
    ∃ (A : Option Addr) (cap : Nat) (acc : List Acct), v = .slice A acc.length cap ∧ AcctsAt W A acc ∧ ∀ n, Rows.uptoBulk d ≤ n → acc.length ≤ n ∧ ∀ a ∈ acc, a.name.size ≤ n := by
  obtain ⟨A, len, cap, rfl⟩ := okWide_slice Tryz.underlying26 hv
  obtain ⟨fuel, hfu⟩ := h
  rcases open_rows Tryz.underlying26 Tryz.underlying31 (by kernel_rfl) (by kernel_rfl) hfu with ⟨hc, hx⟩ | ⟨a, len', cap', m, D, Pl, hc, _, hl, _, hm, hx, hi⟩
  · simp only [Value.cells, List.cons.injEq, Value.slice.injEq, and_true] at hc
    obtain ⟨rfl, rfl, rfl⟩ := hc
    exact ⟨none, 0, [], rfl, fun h => absurd h (by decide), fun n _ => ⟨Nat.zero_le _, fun a h => nomatch h⟩⟩
  · simp only [Value.cells, List.cons.injEq, Value.slice.injEq, and_true] at hc
    obtain ⟨rfl, rfl, rfl⟩ := hc
    rw [if_pos rfl] at hm
    subst hm
    have hp : ∀ i, ∃ x : Acct, i < len → W.cell? (a.add (i * 4 + 0)) = some (.string x.name) ∧ W.cell? (a.add (i * 4 + 1)) = some (.int .i64 x.typ) ∧ W.cell? (a.add (i * 4 + 2)) = some (.int .i64 x.opened) ∧ W.cell? (a.add (i * 4 + 3)) = some (.bool x.closed) ∧ x.name.size ≤ Rows.uptoBulk (D i) := fun i => by
      by_cases hil : i < len
      · obtain ⟨ys, n, hD, _, hyl, hfld⟩ := hi i (by omega)
        obtain ⟨v0, y0, c0, e0, t0⟩ := hfld 0 _ rfl
        obtain ⟨v1, y1, c1, e1, t1⟩ := hfld 1 _ rfl
        obtain ⟨v2, y2, c2, e2, t2⟩ := hfld 2 _ rfl
        obtain ⟨v3, y3, c3, e3, t3⟩ := hfld 3 _ rfl
        obtain ⟨s, hs, rfl, _⟩ := DataW.trod_string Tryz.underlying9 t0
        obtain ⟨z1, hz1, rfl, _⟩ := DataW.trod_int (k := .i64) (by kernel_rfl) t1
        obtain ⟨z2, hz2, rfl, _⟩ := DataW.trod_int (k := .i64) (by kernel_rfl) t2
        obtain ⟨z3, hz3, rfl⟩ := DataW.trod_bool Tryz.underlying4 t3
        injection hs with hs; injection hz1 with hz1; injection hz2 with hz2; injection hz3 with hz3
        subst hs hz1 hz2 hz3
        refine ⟨⟨s, z1, z2, z3⟩, fun _ => ⟨c0, c1, c2, c3, ?_⟩⟩
        rw [hD]
        have h1 : (DataW.lit (.string s.data.toList) : DataW H) ∈ ys.map (·.1) := List.mem_map.2 ⟨_, List.mem_of_getElem? e0, rfl⟩
        have h2 := bulk_part h1
        have h3 := bulk_str (H := H) s
        simp only [Rows.uptoBulk] at h2 h3 ⊢
        show s.size ≤ _
        omega
      · exact ⟨⟨⟨#[]⟩, 0, 0, false⟩, fun h => absurd h hil⟩
    obtain ⟨f, hf⟩ := Classical.axiomOfChoice hp
    have hlen : ((List.range len).map f).length = len := by simp
    refine ⟨some a, m, (List.range len).map f, by rw [hlen], fun h0 => ?_, fun n hn => ?_⟩
    · rw [hlen] at h0
      obtain ⟨b, off, spot⟩ := a
      have hspot : spot = none := by simpa [Addr.add] using World.cell?_spot (hf 0 h0).1
      subst hspot
      refine ⟨b, off, rfl, fun i x hx => ?_⟩
      have hil : i < len := by
        obtain ⟨h, _⟩ := List.getElem?_eq_some_iff.1 hx
        simpa using h
      have e : x = f i := by
        rw [List.getElem?_map, List.getElem?_range hil] at hx
        exact (Option.some.inj hx).symm
      subst e
      have ha : ∀ j, (⟨b, off, none⟩ : Addr).add j = ⟨b, off + j, none⟩ := fun j => by unfold Addr.add; split <;> simp_all
      obtain ⟨h1, h2, h3, h4, _⟩ := hf i hil
      rw [ha] at h1 h2 h3 h4
      exact ⟨h1, h2, h3, h4⟩
    · have hd : d = .slice ((List.range len).map D) ((List.range (m - len)).map fun j => D (len + j)) := congrArg Prod.fst hx
      clear hfu
      subst hd
      have h1 := bulk_length (H := H) ((List.range len).map D)
      simp only [Rows.uptoBulk] at hn
      rw [List.length_map, List.length_range] at h1
      refine ⟨by rw [hlen]; omega, fun x hx => ?_⟩
      obtain ⟨i, hi1, rfl⟩ := List.mem_map.1 hx
      have hil := List.mem_range.1 hi1
      have h2 := (hf i hil).2.2.2.2
      have h3 := bulk_part (H := H) (List.mem_map.2 ⟨i, hi1, rfl⟩ : D i ∈ (List.range len).map D)
      omega
end

/-! ### a world for the witness -/
def lay (h : Array Obj) (g : Nat) (cs : Array Value) : Array Obj := h.modify g fun | .cells _ t fz => .cells cs t fz | o => o
def tab (k : IntKind) (l : List Int) : Array Value := (l.map fun z => Value.int k z).toArray
noncomputable def laidHeap (h0 : Array Obj) : Array Obj :=
  let h1 := lay h0 9 (tab .u8 [0, 1, 28, 2, 29, 14, 24, 3, 30, 22, 20, 15, 25, 17, 4, 8, 31, 27, 13, 23, 21, 19, 16, 7, 26, 12, 18, 6, 11, 5, 10, 9])
  let h2 := lay h1 10 (tab .u8 [0, 1, 56, 2, 57, 49, 28, 3, 61, 58, 42, 50, 38, 29, 17, 4, 62, 47, 59, 36, 45, 43, 51, 22, 53, 39, 33, 30, 24, 18, 12, 5, 63, 55, 48, 27, 60, 41, 37, 16, 46, 35, 44, 21, 52, 32, 23, 11, 54, 26, 40, 15, 34, 20, 31, 10, 25, 14, 19, 9, 13, 8, 7, 6])
  let h3 := lay h2 6 (tab .u64 Lib.pow10Tab)
  let h4 := lay h3 8 (tab .u8 [128, 191, 160, 191, 128, 159, 144, 191, 128, 143, 0, 0, 0, 0, 0, 0, 0, 0, 0, 0, 0, 0, 0, 0, 0, 0, 0, 0, 0, 0, 0, 0])
  let h5 := lay h4 7 (tab .u8 Lib.firstTab)
  let h6 := lay h5 1 (tab .i64 [31, 28, 31, 30, 31, 30, 31, 31, 30, 31, 30, 31])
  h6
noncomputable def laidWorld (os : Os) : World := { World.holding Tryz.prog os ⟨#[], #[], []⟩ with heap := laidHeap (World.holding Tryz.prog os ⟨#[], #[], []⟩).heap }
end Go.Proofs.YtgbnlemcojgijaaGreatDoor
