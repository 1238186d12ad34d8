/- grid: a column's width, rows of cells as lines. -/
import Derived.Test.YtgbnlemcojgijaaGreatDoorF
import Derived.Test.YtgbnlemcojgijaaGreatDoorK
namespace Go.Proofs.YtgbnlemcojgijaaGreatDoor
open Go.RowKit Go.Shelf Go.Sort

/-- The slice at A is rows of texts. -/
def RowsOf (w : World) (A : Option Addr) (rows : List (List ByteArray)) : Prop :=
  ∃ vs : List Value, Arr w A rows.length vs ∧ ∀ (i : Nat) (r : List ByteArray), rows[i]? = some r → ∃ (Ai : Option Addr) (ci : Nat), vs[i]? = some (.slice Ai r.length ci) ∧ Arr w Ai r.length (r.map Value.string)
theorem RowsOf.below {w w' : World} {A : Option Addr} {rows : List (List ByteArray)} (h : RowsOf w A rows) (hb : Below w.heap.size w w') : RowsOf w' A rows := by
  obtain ⟨vs, ha, hr⟩ := h
  exact ⟨vs, ha.below hb, fun i r hi => by obtain ⟨Ai, ci, h1, h2⟩ := hr i r hi; exact ⟨Ai, ci, h1, h2.below hb⟩⟩
theorem RowsOf.row {w : World} {A : Option Addr} {rows : List (List ByteArray)} (h : RowsOf w A rows) (i : Nat) (hi : i < rows.length) :
    ∃ b off Ai ci, A = some ⟨b, off, none⟩ ∧ w.cell? ⟨b, off + i, none⟩ = some (.slice Ai rows[i].length ci) ∧ Arr w Ai rows[i].length (rows[i].map Value.string) := by
  obtain ⟨vs, ha, hr⟩ := h
  obtain ⟨b, off, e, hc⟩ := ha (by omega)
  obtain ⟨Ai, ci, h1, h2⟩ := hr i rows[i] (List.getElem?_eq_getElem hi)
  exact ⟨b, off, Ai, ci, e, hc i _ h1, h2⟩
theorem Arr.str {w : World} {A : Option Addr} {r : List ByteArray} (h : Arr w A r.length (r.map Value.string)) (i : Nat) (hi : i < r.length) :
    ∃ b off, A = some ⟨b, off, none⟩ ∧ w.cell? ⟨b, off + i, none⟩ = some (.string r[i]) := by
  obtain ⟨b, off, e, hc⟩ := h (by omega)
  exact ⟨b, off, e, hc i _ (by simp [List.getElem?_map, List.getElem?_eq_getElem hi])⟩

/-- How long the cell of a column is (0 where there is none); a column's width. -/
def lenAt (c : Nat) (r : List ByteArray) : Nat := match r[c]? with | some x => x.size | none => 0
def widthL (rows : List (List ByteArray)) (c : Nat) : Nat := rows.foldl (fun n r => max n (lenAt c r)) 0
theorem lenAt_lt {c : Nat} {r : List ByteArray} (h : c < r.length) : lenAt c r = r[c].size := by simp [lenAt, List.getElem?_eq_getElem h]
theorem lenAt_ge {c : Nat} {r : List ByteArray} (h : ¬ c < r.length) : lenAt c r = 0 := by simp [lenAt, List.getElem?_eq_none (Nat.le_of_not_lt h)]
theorem widthL_snoc (rows : List (List ByteArray)) (r : List ByteArray) (c : Nat) : widthL (rows ++ [r]) c = max (widthL rows c) (lenAt c r) := by simp [widthL]
theorem widthL_take (rows : List (List ByteArray)) (k : Nat) (h : k < rows.length) (c : Nat) : widthL (rows.take (k + 1)) c = max (widthL (rows.take k) c) (lenAt c rows[k]) := by
  rw [List.take_succ_eq_append_getElem h, widthL_snoc]

set_option maxHeartbeats 1000000 in
theorem width_any (A : Option Addr) (cap col : Nat) (rows : List (List ByteArray)) (w : World) (hl : rows.length ≤ 140737488351232) (hc : col ≤ 140737488351232)
    (hs : ∀ r ∈ rows, r.length ≤ 140737488351232 ∧ ∀ x ∈ r, x.size ≤ 140737488351232) (hr : RowsOf w A rows) :
    Calls Tryz.prog 93 #[.slice A rows.length cap, .int .i64 col] w fun e w' => e = .returned (.int .i64 (widthL rows col)) ∧ w = w' := by
  go_enter Tryz.func93, Tryz.ntmps93
  go_wp2
  go_loop [5, 10] (fun m i => ∃ k : Nat, k ≤ rows.length ∧ i = .int .i64 k ∧ m = .int .i64 (widthL (rows.take k) col)) (fun _ i => rows.length - (intOf i).toNat)
  case atStart => exact ⟨0, Nat.zero_le _, rfl, rfl⟩
  case round =>
    obtain ⟨k, hk, rfl, rfl⟩ := hrel
    by_cases hlt : k < rows.length
    · obtain ⟨b, off, Ai, ci, rfl, hcell, hrow⟩ := hr.row k hlt
      obtain ⟨hs1, hs2⟩ := hs rows[k] (List.getElem_mem hlt)
      have HW := hid (widthL_take rows k hlt col)
      by_cases hin : col < rows[k].length
      · obtain ⟨b2, off2, rfl, hcell2⟩ := hrow.str col hin
        have hx := hs2 _ (List.getElem_mem hin)
        have HL := hid (lenAt_lt hin)
        clear hr hs hrow hs2
        generalize rows[k] = r at *
        go_wp2
        exact ⟨⟨k + 1, by omega, by go_num, by rw [HW.out, HL.out]; go_num⟩, by simp [intOf]; omega⟩
      · have HL := hid (lenAt_ge hin)
        clear hr hs hrow hs2
        go_wp2
        exact ⟨⟨k + 1, by omega, by go_num, by rw [HW.out, HL.out]; go_num⟩, by simp [intOf]; omega⟩
    · go_wp2
      go_ret
      exact ⟨ret_int (by rw [List.take_of_length_le (by omega)]), rfl⟩

/-- A strings.Builder at block b that holds l; all that it owns lies from block B on. -/
def Bld (B b : Nat) (l : List UInt8) (w : World) : Prop := Lib.IsBuilderF 156 5 B b (Lib.byteCells l) w
theorem Bld.new (w : World) : Bld w.heap.size w.heap.size [] (w.alloc (.cells #[.pointer none, .slice none 0 0] 156)) := Lib.IsBuilderF.of (Lib.fresh_isBuilder _ _ w)
theorem bldAt_kept {T e : TypeId} {B b : Nat} {p : Value} {bs : List Value} {w w' : World} (h : Lib.BuilderAtF T e B b p bs w) (hk : Below w.heap.size w w') : Lib.BuilderAtF T e B b p bs w' := by
  have hlt := h.lt
  obtain ⟨hB, v, hb, hown, hne⟩ := h
  exact ⟨hB, v, (hk.block b hlt).trans hb, hown.kept (row := none) ⟨hk.os, hk.tape, hk.output, hk.size, fun i hi _ => hk.block i hi⟩ (by cases hv : v.ownBlock <;> simp), hne⟩
theorem Bld.below {B b : Nat} {l : List UInt8} {w w' : World} (h : Bld B b l w) (hk : Below w.heap.size w w') : Bld B b l w' :=
  h.elim (fun h => .inl (bldAt_kept h hk)) (fun h => .inr (bldAt_kept h hk))
theorem byteCells_append (a b : List UInt8) : Lib.byteCells (a ++ b) = Lib.byteCells a ++ Lib.byteCells b := by simp [Lib.byteCells]
theorem strCells_L (s : ByteArray) : Lib.strCells s = Lib.byteCells (L s) := rfl
theorem Bld.write {B b : Nat} {l : List UInt8} {w : World} (h : Bld B b l w) (s : ByteArray) (hlen : l.length + s.size ≤ 140737488355328) (hB : B ≤ w.heap.size) :
    Calls Tryz.prog 94 #[.pointer (some ⟨b, 0, none⟩), .string s] w fun e w' => (∃ v, e = .returned v) ∧ Bld B b (l ++ L s) w' ∧ Below B w w' :=
  (Tryz.WriteString_k B b _ s w h (by simpa [Lib.byteCells] using hlen) hB).mono fun _ _ ⟨he, h1, h2, _⟩ => ⟨⟨_, he⟩, by unfold Bld; rw [byteCells_append, ← strCells_L]; exact .inr h1, h2⟩
theorem Bld.byte {B b : Nat} {l : List UInt8} {w : World} (h : Bld B b l w) (c : UInt8) (hlen : l.length + 1 ≤ 140737488355328) (hB : B ≤ w.heap.size) :
    Calls Tryz.prog 98 #[.pointer (some ⟨b, 0, none⟩), .int .u8 c.toNat] w fun e w' => (∃ v, e = .returned v) ∧ Bld B b (l ++ [c]) w' ∧ Below B w w' :=
  (Tryz.WriteByte_k B b _ _ w h (by simpa [Lib.byteCells] using hlen) hB).mono fun _ _ ⟨he, h1, h2, _⟩ => ⟨⟨_, he⟩, by unfold Bld; rw [byteCells_append]; exact .inr h1, h2⟩
theorem Bld.string {B b : Nat} {l : List UInt8} {w : World} (h : Bld B b l w) (hB : B ≤ w.heap.size) :
    Calls Tryz.prog 97 #[.pointer (some ⟨b, 0, none⟩)] w fun e w' => (∃ r, e = .returned (.string r) ∧ Str r l) ∧ Bld B b l w' ∧ Below B w w' :=
  (Tryz.Builder_String_any_k B b l w h hB).mono fun _ _ ⟨he, h1, h2, _⟩ => ⟨⟨_, he, Str.mk (L_mk l)⟩, h1, h2⟩

theorem Tryz.infoInt : (Tryz.prog.info? 3).map (fun i => (i.zero, i.size, i.bytes)) = some (some (.int .i64 0), 1, 8) := by kernel_rfl

/-- The widths of the first m columns. -/
def widthsL (rows : List (List ByteArray)) (m : Nat) : List Value := (List.range m).map fun c => .int .i64 (widthL rows c)
theorem widthsL_succ (rows : List (List ByteArray)) (m : Nat) : widthsL rows (m + 1) = widthsL rows m ++ [.int .i64 (widthL rows m)] := by simp [widthsL, List.range_succ]
theorem widthsL_length (rows : List (List ByteArray)) (m : Nat) : (widthsL rows m).length = m := by simp [widthsL]

/-- A cell, filled to its column's width, with two blanks ahead of all but the first; a line; a line without the blanks at its end; the lines. -/
def cellL (W : Nat → Nat) (rt : Nat → Bool) (c : Nat) (x : ByteArray) : List UInt8 :=
  (if 0 < c then [32, 32] else []) ++ (if rt c then List.replicate (W c - x.size) 32 ++ L x else L x ++ List.replicate (W c - x.size) 32)
def lineN (W : Nat → Nat) (rt : Nat → Bool) (r : List ByteArray) (q : Nat) : List UInt8 := ((List.range q).map fun c => cellL W rt c (r.getD c ⟨#[]⟩)).flatten
def rowL (W : Nat → Nat) (rt : Nat → Bool) (r : List ByteArray) : List UInt8 := Lib.trimRightB (lineN W rt r r.length) 32 ++ [10]
def gridN (W : Nat → Nat) (rt : Nat → Bool) (rows : List (List ByteArray)) (k : Nat) : List UInt8 := ((rows.take k).map (rowL W rt)).flatten
def gridL (rt : Nat → Bool) (rows : List (List ByteArray)) : List UInt8 := gridN (widthL rows) rt rows rows.length
theorem lineN_succ (W : Nat → Nat) (rt : Nat → Bool) (r : List ByteArray) (q : Nat) (h : q < r.length) : lineN W rt r (q + 1) = lineN W rt r q ++ cellL W rt q r[q] := by
  unfold lineN
  rw [List.range_succ, List.map_append, List.flatten_append, List.map_singleton, List.flatten_singleton, List.getD_eq_getElem?_getD, List.getElem?_eq_getElem h]
  rfl
theorem gridN_succ (W : Nat → Nat) (rt : Nat → Bool) (rows : List (List ByteArray)) (k : Nat) (h : k < rows.length) : gridN W rt rows (k + 1) = gridN W rt rows k ++ rowL W rt rows[k] := by
  unfold gridN
  rw [List.take_succ_eq_append_getElem h, List.map_append, List.flatten_append, List.map_singleton, List.flatten_singleton]
theorem widthL_le (rows : List (List ByteArray)) (c M : Nat) (h : ∀ r ∈ rows, ∀ x ∈ r, x.size ≤ M) : widthL rows c ≤ M := by
  have : ∀ (l : List (List ByteArray)) (n : Nat), n ≤ M → (∀ r ∈ l, ∀ x ∈ r, x.size ≤ M) → l.foldl (fun n r => max n (lenAt c r)) n ≤ M := by
    intro l
    induction l with
    | nil => intro n hn _; exact hn
    | cons r l ih =>
      intro n hn hl
      refine ih _ (Nat.max_le.2 ⟨hn, ?_⟩) fun r' hr' => hl r' (List.mem_cons_of_mem _ hr')
      by_cases hc : c < r.length
      · rw [lenAt_lt hc]; exact hl r (List.mem_cons_self) _ (List.getElem_mem hc)
      · rw [lenAt_ge hc]; exact Nat.zero_le _
  exact this rows 0 (Nat.zero_le _) h
theorem le_widthL (rows : List (List ByteArray)) (c : Nat) (r : List ByteArray) (hr : r ∈ rows) : lenAt c r ≤ widthL rows c := by
  have : ∀ (l : List (List ByteArray)) (n : Nat), (n ≤ l.foldl (fun n r => max n (lenAt c r)) n) ∧ (r ∈ l → lenAt c r ≤ l.foldl (fun n r => max n (lenAt c r)) n) := by
    intro l
    induction l with
    | nil => intro n; exact ⟨Nat.le_refl _, fun h => by cases h⟩
    | cons x l ih =>
      intro n
      refine ⟨Nat.le_trans (Nat.le_max_left _ _) (ih _).1, fun h => ?_⟩
      rcases List.mem_cons.1 h with rfl | h
      · exact Nat.le_trans (Nat.le_max_right _ _) (ih _).1
      · exact (ih _).2 h
  exact (this rows 0).2 hr
theorem cellL_length (W : Nat → Nat) (rt : Nat → Bool) (c : Nat) (x : ByteArray) (M : Nat) (hx : x.size ≤ M) (hw : W c ≤ M) : (cellL W rt c x).length ≤ M + 2 := by
  have h1 : (if 0 < c then ([32, 32] : List UInt8) else []).length ≤ 2 := by split <;> simp
  have h2 : (if rt c then List.replicate (W c - x.size) 32 ++ L x else L x ++ List.replicate (W c - x.size) 32).length ≤ M := by
    split <;> simp [L_size] <;> omega
  unfold cellL
  rw [List.length_append]
  omega
theorem lineN_length (W : Nat → Nat) (rt : Nat → Bool) (r : List ByteArray) (M : Nat) (hr : ∀ x ∈ r, x.size ≤ M) (hw : ∀ c, W c ≤ M) : ∀ q, q ≤ r.length → (lineN W rt r q).length ≤ q * (M + 2)
  | 0, _ => by simp [lineN]
  | q + 1, h => by
    have := lineN_length W rt r M hr hw q (by omega)
    have h2 := cellL_length W rt q r[q] M (hr _ (List.getElem_mem _)) (hw q)
    rw [lineN_succ W rt r q (by omega), List.length_append, Nat.succ_mul]
    omega
theorem trimRightB_length (l : List UInt8) (c : UInt8) : (Lib.trimRightB l c).length ≤ l.length := by
  unfold Lib.trimRightB
  have h := (List.dropWhile_sublist (l := l.reverse) (· == c)).length_le
  rw [List.length_reverse] at h ⊢
  exact h
theorem rowL_length (W : Nat → Nat) (rt : Nat → Bool) (r : List ByteArray) (C M : Nat) (hC : r.length ≤ C) (hr : ∀ x ∈ r, x.size ≤ M) (hw : ∀ c, W c ≤ M) : (rowL W rt r).length ≤ C * (M + 2) + 1 := by
  have h1 := trimRightB_length (lineN W rt r r.length) 32
  have h2 := lineN_length W rt r M hr hw r.length (Nat.le_refl _)
  have h3 : r.length * (M + 2) ≤ C * (M + 2) := Nat.mul_le_mul_right _ hC
  unfold rowL
  rw [List.length_append]
  simp
  omega
theorem gridN_length (W : Nat → Nat) (rt : Nat → Bool) (rows : List (List ByteArray)) (C M : Nat) (hs : ∀ r ∈ rows, r.length ≤ C ∧ ∀ x ∈ r, x.size ≤ M) (hw : ∀ c, W c ≤ M) : ∀ k, k ≤ rows.length → (gridN W rt rows k).length ≤ k * (C * (M + 2) + 1)
  | 0, _ => by simp [gridN]
  | k + 1, h => by
    have h1 := gridN_length W rt rows C M hs hw k (by omega)
    obtain ⟨h3, h4⟩ := hs rows[k] (List.getElem_mem _)
    have h2 := rowL_length W rt rows[k] C M h3 h4 hw
    rw [gridN_succ W rt rows k (by omega), List.length_append, Nat.succ_mul]
    omega

set_option maxHeartbeats 4000000 in
set_option maxRecDepth 100000 in
theorem grid_any (A : Option Addr) (cap g : Nat) (cb : Array Value) (rt : Nat → Bool) (rows : List (List ByteArray)) (C M : Nat) (w : World)
    (hR : rows.length * (C * (M + 2) + 1) ≤ 70368744177664) (hC : C * (M + 2) ≤ 70368744177664) (hC0 : C ≤ 1048576) (hrl : rows.length ≤ 2097152)
    (hs : ∀ r ∈ rows, r.length ≤ C ∧ ∀ x ∈ r, x.size ≤ M) (hM : M ≤ 70368744177664) (hr : RowsOf w A rows)
    (eg : ∀ args w, (callFunc g args).run Tryz.prog w = .ok (.enter g args) w)
    (hrt : ∀ (W : World) (c : Nat), Below w.heap.size w W → c < C → Calls Tryz.prog g (#[.int .i64 c] ++ cb) W fun e W' => e = .returned (.bool (rt c)) ∧ W = W') :
    Calls Tryz.prog 46 #[.slice A rows.length cap, .func (.func g) #[] cb] w fun e w' => (∃ r, e = .returned (.string r) ∧ Str r (gridL rt rows)) ∧ Below w.heap.size w w' := by
  have hs' : ∀ r ∈ rows, r.length ≤ 140737488351232 ∧ ∀ x ∈ r, x.size ≤ 140737488351232 := fun r h => ⟨by have := (hs r h).1; omega, fun x hx => by have := (hs r h).2 x hx; omega⟩
  have HR := hid hR; have HC := hid hC; have Hs := hid hs; have Hrt := hid hrt; have Hs' := hid hs'
  clear hR hC hs hrt hs'
  go_enter Tryz.func46, Tryz.ntmps46
  go_upto_block 0 with (fail)
  go_cut [5] (fun v W => ∃ m, m ≤ C ∧ W.ownsRow w.heap.size 3 1 v m (widthsL rows m) ∧ (∀ r ∈ rows, r.length ≤ m) ∧ Below w.heap.size w W)
  case first =>
    go_wp2_with fail
    go_loopw [5, 18] (fun v i W => ∃ k m : Nat, k ≤ rows.length ∧ i = .int .i64 k ∧ m ≤ C ∧ W.ownsRow w.heap.size 3 1 v m (widthsL rows m) ∧ (∀ r ∈ rows.take k, r.length ≤ m) ∧ Below w.heap.size w W) (fun _ i _ => rows.length - (intOf i).toNat)
    case atStart => exact ⟨0, 0, Nat.zero_le _, rfl, Nat.zero_le _, ⟨by simp [widthsL], .inl ⟨rfl, rfl⟩⟩, by simp, Below.refl _ _⟩
    case round =>
      obtain ⟨k, m, hk, rfl, hm, hown, hlen, hB⟩ := hrel
      obtain ⟨wo, rfl⟩ : ∃ wo : World, wo = wr := ⟨_, rfl⟩
      by_cases hlt : k < rows.length
      · obtain ⟨b, off, Ai, ci, rfl, hcell, hrow⟩ := (hr.below hB).row k hlt
        have Hrow := hid hrow; clear hrow
        have hrk : rows[k].length ≤ C := (Hs.out _ (List.getElem_mem hlt)).1
        obtain ⟨Av, cv, rfl⟩ := own_slice hown
        go_wp2_with fail
        go_loopw [5, 8] (fun v i W => ∃ q : Nat, i = .int .i64 q ∧ m ≤ q ∧ q ≤ C ∧ (m < q → q ≤ rows[k].length) ∧ W.ownsRow w.heap.size 3 1 v q (widthsL rows q) ∧ Below w.heap.size w W) (fun _ i _ => rows[k].length - (intOf i).toNat)
        case atStart => exact ⟨m, rfl, Nat.le_refl _, hm, fun h => absurd h (Nat.lt_irrefl _), hown, hB⟩
        case round =>
          obtain ⟨q, rfl, hmq, hq, hqk, hown2, hB2⟩ := hrel
          by_cases hlt2 : q < rows[k].length
          · have H2 := hid (hr.below hB2)
            obtain ⟨Av2, cv2, rfl⟩ := own_slice hown2
            have Hn := hid (widthsL_succ rows q)
            go_wp2_with (first
              | (go_at_call 93; refine (width_any _ cap q rows _ (by omega) (by omega) Hs'.out H2.out).mono ?_; rintro e w' ⟨rfl, rfl⟩)
              | (at_builtin; refine app1 w.heap.size 23 3 (.int .i64 0) 8 Tryz.underlying23 Tryz.infoInt hown2 hB2 hB2.size (by omega) (by omega) ?_; intro v1 w1 hown1 hB1 hg1 hz1))
            exact ⟨⟨q + 1, by go_num, by omega, by omega, fun _ => by omega, by rw [Hn.out]; exact hown1, hB1⟩, by simp [intOf]; omega⟩
          · go_wp2_with fail
            have ht := List.take_succ_eq_append_getElem hlt
            refine ⟨⟨k + 1, q, by omega, by go_num, hq, hown2, fun r hr' => ?_, hB2⟩, by simp [intOf]; omega⟩
            rw [ht, List.mem_append, List.mem_singleton] at hr'
            rcases hr' with h | rfl
            · exact Nat.le_trans (hlen r h) hmq
            · omega
      · go_wp2_with fail
        go_meet
        have e : rows.take k = rows := List.take_of_length_le (by omega)
        exact ⟨m, hm, hown, by rw [e] at hlen; exact hlen, hB⟩
  case rest =>
    obtain ⟨m, hm, hown, hlen, hB⟩ := hcut
    obtain ⟨Aw, cw, rfl⟩ := own_slice hown
    have Hw : Hid (∀ c, widthL rows c ≤ M) := hid fun c => widthL_le rows c M fun r h => (Hs.out r h).2
    have Hlen := hid hlen; clear hlen
    have H0 := hid (Bld.new wc)
    go_wp2_with fail
    go_loopw [39] (fun i W => ∃ k : Nat, k ≤ rows.length ∧ i = .int .i64 k ∧ Bld wc.heap.size wc.heap.size (gridN (widthL rows) rt rows k) W ∧ Below wc.heap.size wc W ∧ wc.heap.size < W.heap.size) (fun i _ => rows.length - (intOf i).toNat)
    case atStart => exact ⟨0, Nat.zero_le _, rfl, H0.out, (Below.refl _ _).alloc (Nat.le_refl _) _, by simp⟩
    case round =>
      obtain ⟨k, hk, rfl, hbld, hB2, hsz⟩ := hrel
      obtain ⟨wo, rfl⟩ : ∃ wo : World, wo = wr := ⟨_, rfl⟩
      have hBo : Below w.heap.size w wo := hB.trans (hB2.mono hB.size)
      by_cases hlt : k < rows.length
      · obtain ⟨b, off, Ai, ci, rfl, hcell, hrow⟩ := (hr.below hBo).row k hlt
        have Hrow := hid hrow; clear hrow
        obtain ⟨hrk, hrs⟩ := Hs.out _ (List.getElem_mem hlt)
        have hkm : rows[k].length ≤ m := Hlen.out _ (List.getElem_mem hlt)
        have HL := hid (fun c => le_widthL rows c rows[k] (List.getElem_mem hlt))
        have HG := hid (gridN_succ (widthL rows) rt rows k hlt)
        have HGl := hid (gridN_length (widthL rows) rt rows C M Hs.out Hw.out (k + 1) hlt)
        have Hrs := hid hrs; clear hrs
        have hk1 : k + 1 ≤ rows.length := hlt
        generalize rows[k] = r at *
        have Ho := hid (own_below hown hB2)
        go_wp2_with fail
        go_loopw [45] (fun i W => ∃ q : Nat, q ≤ r.length ∧ i = .int .i64 q ∧ Bld wo.heap.size wo.heap.size (lineN (widthL rows) rt r q) W ∧ Below wo.heap.size wo W ∧ wo.heap.size < W.heap.size) (fun i _ => r.length - (intOf i).toNat)
        case atStart => exact ⟨0, Nat.zero_le _, rfl, Bld.new wo, (Below.refl _ _).alloc (Nat.le_refl _) _, by simp⟩
        case round =>
          obtain ⟨q, hq, rfl, hbl, hB3, hsz3⟩ := hrel
          have HB3 := hid hB3; have HB2 := hid hB2
          have hlq := lineN_length (widthL rows) rt r M Hrs.out Hw.out
          have Hlq := hid hlq; clear hlq
          by_cases hlt2 : q < r.length
          · obtain ⟨bs, os, rfl, hcs⟩ := (Hrow.out.below hB3).str q hlt2
            have hxM : r[q].size ≤ M := Hrs.out _ (List.getElem_mem hlt2)
            have hxw : r[q].size ≤ widthL rows q := by have := HL.out q; rwa [lenAt_lt hlt2] at this
            have hwM := Hw.out q
            have HN := hid (lineN_succ (widthL rows) rt r q hlt2)
            have Hl1 := hid (Hlq.out q (by omega))
            have hln : (lineN (widthL rows) rt r q).length + (M + 2) ≤ 70368744177664 := by
              have h1 := Hl1.out
              have h2 : (q + 1) * (M + 2) ≤ C * (M + 2) := Nat.mul_le_mul_right _ (by omega)
              have h3 := HC.out
              rw [Nat.succ_mul] at h2
              omega
            have hW1 := Ho.out
            generalize r[q] = x at *
            go_upto_if 51 with (fail)
            go_cut [13] (fun v W => v = .int .i64 q ∧ Bld wo.heap.size wo.heap.size (lineN (widthL rows) rt r q ++ (if 0 < q then [32, 32] else [])) W ∧ Below wo.heap.size wo W ∧ wo.heap.size < W.heap.size)
            case first =>
              by_cases hq0 : 0 < q
              · go_wp2_with fail
                refine (hbl.write ⟨#[32, 32]⟩ (by show _ + 2 ≤ _; omega) (by omega)).mono ?_
                rintro e w1 ⟨⟨v, rfl⟩, hb1, hB4⟩
                have hs1 := hB4.size
                go_wp2_with fail
                go_meet
                exact ⟨rfl, by rw [if_pos hq0]; exact hb1, HB3.out.trans hB4, by omega⟩
              · go_wp2_with fail
                go_meet
                exact ⟨rfl, by rw [if_neg hq0, List.append_nil]; exact hbl, HB3.out, hsz3⟩
            case rest =>
              clear hbl hcs hsz3 hB3
              obtain ⟨rfl, hbl, hB3, hsz3⟩ := hcut
              clear HB3
              have HB3 := hid hB3
              obtain ⟨bw, ow, rfl, hcw⟩ := own_arr (own_below hW1 hB3) (by omega)
              have hcq := hcw q (.int .i64 (widthL rows q)) (by simp [widthsL, List.getElem?_map, List.getElem?_range (show q < m by omega)])
              clear hcw
              obtain ⟨cc, hcc⟩ : ∃ cc : Nat, (widthL rows q : Int) - x.size = cc := ⟨widthL rows q - x.size, by omega⟩
              have hcM : cc ≤ M := by omega
              have hcx : cc = widthL rows q - x.size := by omega
              have Hcx := hid hcx; clear hcx
              have hls : (lineN (widthL rows) rt r q ++ (if 0 < q then [32, 32] else [])).length + M ≤ 70368744177664 := by
                have : (if 0 < q then ([32, 32] : List UInt8) else []).length ≤ 2 := by split <;> simp
                rw [List.length_append]; omega
              go_wp2_with fail
              refine (Repeat_any _ cc _ (by show 1 * cc ≤ _; omega) (by omega)).mono ?_
              rintro e w2 ⟨⟨z, rfl, hz⟩, hb2⟩
              have hz' : Str z (List.replicate cc 32) := by rw [← flatten_one]; exact hz
              have hzs : z.size = cc := by rw [hz'.size]; simp
              have hs2 := hb2.size
              have hB4 : Below wo.heap.size wo w2 := HB3.out.trans (hb2.mono (by omega))
              have hBW : Below w.heap.size w w2 := hBo.trans (hB4.mono hBo.size)
              have hbl2 := hbl.below hb2
              have HN2 : Hid (lineN (widthL rows) rt r (q + 1) = lineN (widthL rows) rt r q ++ (if 0 < q then [32, 32] else []) ++ (if rt q then L z ++ L x else L x ++ L z)) := hid (by
                rw [HN.out, hz'.out, Hcx.out, List.append_assoc]; rfl)
              clear hz hz' hbl HB3 HN hcq
              by_cases hqr : rt q = true
              · rw [if_pos hqr] at HN2
                go_wp2_with (first
                  | (refine (Hrt.out _ q hBW (by omega)).mono ?_; rintro e w' ⟨rfl, rfl⟩))
                refine (hbl2.write z (by omega) (by omega)).mono ?_
                rintro e w3 ⟨⟨v, rfl⟩, hb3, hB5⟩
                have hs3 := hB5.size
                go_wp2_with fail
                refine (hb3.write x (by rw [List.length_append, L_size]; omega) (by omega)).mono ?_
                rintro e w4 ⟨⟨v4, rfl⟩, hb4, hB6⟩
                have hs4 := hB6.size
                go_wp2_with fail
                exact ⟨⟨q + 1, by omega, by go_num, by rw [HN2.out, ← List.append_assoc]; exact hb4, hB4.trans (hB5.trans hB6), by omega⟩, by simp [intOf]; omega⟩
              · rw [if_neg hqr] at HN2
                go_wp2_with (first
                  | (refine (Hrt.out _ q hBW (by omega)).mono ?_; rintro e w' ⟨rfl, rfl⟩))
                refine (hbl2.write x (by omega) (by omega)).mono ?_
                rintro e w3 ⟨⟨v, rfl⟩, hb3, hB5⟩
                have hs3 := hB5.size
                go_wp2_with fail
                refine (hb3.write z (by rw [List.length_append, L_size]; omega) (by omega)).mono ?_
                rintro e w4 ⟨⟨v4, rfl⟩, hb4, hB6⟩
                have hs4 := hB6.size
                go_wp2_with fail
                exact ⟨⟨q + 1, by omega, by go_num, by rw [HN2.out, ← List.append_assoc]; exact hb4, hB4.trans (hB5.trans hB6), by omega⟩, by simp [intOf]; omega⟩
          · have hqe : q = r.length := by omega
            subst hqe
            have hl1 := Hlq.out r.length (Nat.le_refl _)
            have hl2 : r.length * (M + 2) ≤ C * (M + 2) := Nat.mul_le_mul_right _ hrk
            have hl3 := HC.out
            have HL1 := hid hl1; have HL2 := hid hl2; have HL3 := hid hl3
            clear hl1 hl2 hl3
            go_wp2_with fail
            refine (hbl.string (by omega)).mono ?_
            rintro e w3 ⟨⟨z, rfl, hz⟩, hb3, hB5⟩
            have hs3 := hB5.size
            have hzs := hz.size
            have hzs2 : z.size ≤ 70368744177664 := by have := HL1.out; have := HL2.out; have := HL3.out; omega
            go_wp2_with fail
            refine (Tryz.strings_TrimRight_one z 32 (by decide) w3 (by omega)).mono ?_
            rintro e w4 ⟨rfl, rfl⟩
            have hB6 : Below wo.heap.size wo w4 := hB3.trans hB5
            have hbo := hbld.below hB6
            have hG1 := HGl.out
            rw [HG.out] at hG1
            have hR2 : (k + 1) * (C * (M + 2) + 1) ≤ rows.length * (C * (M + 2) + 1) := Nat.mul_le_mul_right _ hk1
            have hR3 := HR.out
            have ht : Str ⟨(Lib.trimRightB z.data.toList 32).toArray⟩ (Lib.trimRightB (lineN (widthL rows) rt r r.length) 32) := Str.mk (by rw [← hz.out]; exact L_mk _)
            have hsz6 : (gridN (widthL rows) rt rows k).length + (Lib.trimRightB (lineN (widthL rows) rt r r.length) 32).length + 1 ≤ 70368744177664 := by
              unfold rowL at hG1
              rw [List.length_append, List.length_append, List.length_singleton] at hG1
              omega
            clear hz hb3 hbl hG1 hR2 hR3
            generalize (⟨(Lib.trimRightB z.data.toList 32).toArray⟩ : ByteArray) = t at *
            have hts := ht.size
            go_wp2_with fail
            refine (hbo.write t (by omega) (by omega)).mono ?_
            rintro e w5 ⟨⟨v5, rfl⟩, hb5, hB7⟩
            have hs5 := hB7.size
            go_wp2_with fail
            refine (hb5.byte 10 (by rw [List.length_append, L_size]; omega) (by omega)).mono ?_
            rintro e w6 ⟨⟨v6, rfl⟩, hb6, hB8⟩
            have hs6 := hB8.size
            go_wp2_with fail
            exact ⟨⟨k + 1, hk1, by go_num, by rw [HG.out]; unfold rowL; rw [← ht.out, ← List.append_assoc]; exact hb6, HB2.out.trans ((hB6.mono (by omega)).trans (hB7.trans hB8)), by omega⟩, by simp [intOf]; omega⟩
      · have hke : k = rows.length := by omega
        subst hke
        go_wp2_with fail
        refine (hbld.string (by omega)).mono ?_
        rintro e w3 ⟨⟨z, rfl, hz⟩, hb3, hB5⟩
        have hs3 := hB5.size
        go_wp2_with fail
        go_ret
        exact ⟨⟨z, rfl, hz⟩, hBo.trans (hB5.mono hB.size)⟩
end Go.Proofs.YtgbnlemcojgijaaGreatDoor
