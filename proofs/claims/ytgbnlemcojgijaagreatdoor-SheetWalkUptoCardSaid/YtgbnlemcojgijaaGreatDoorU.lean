/- sheet: Trial's columns and faults. -/
import Derived.Test.YtgbnlemcojgijaaGreatDoorQ
import Derived.Test.YtgbnlemcojgijaaGreatDoorO
import Derived.Deep.AppendLies
import Derived.Deep.RegionLaw
namespace Go.Proofs.YtgbnlemcojgijaaGreatDoor
open Go.RowKit Go.Shelf Go.Sort

structure Colm where
  name : ByteArray
  debit : Int
  credit : Int
def ColsAt (w : World) (A : Option Addr) (cols : List Colm) : Prop :=
  0 < cols.length → ∃ b off, A = some ⟨b, off, none⟩ ∧ ∀ (i : Nat) (c : Colm), cols[i]? = some c →
    w.cell? ⟨b, off + i * 3, none⟩ = some (.string c.name) ∧ w.cell? ⟨b, off + i * 3 + 1, none⟩ = some (.int .i64 c.debit) ∧ w.cell? ⟨b, off + i * 3 + 2, none⟩ = some (.int .i64 c.credit)
theorem ColsAt.below {w w' : World} {A : Option Addr} {cols : List Colm} (h : ColsAt w A cols) (hb : Below w.heap.size w w') : ColsAt w' A cols := fun h0 => by
  obtain ⟨b, off, e, hc⟩ := h h0
  exact ⟨b, off, e, fun i a ha => by obtain ⟨h1, h2, h3⟩ := hc i a ha; exact ⟨cell_below hb h1, cell_below hb h2, cell_below hb h3⟩⟩
def nameWhy (why : Int) (c : Colm) : Int := if goodB c.name = true then why else whyOf why 60
def colWhy (why : Int) (c : Colm) : Int := if c.debit < 0 ∨ c.credit < 0 then whyOf (nameWhy why c) 10 else nameWhy why c
def colsWhy (why : Int) (cols : List Colm) : Int := cols.foldl colWhy why
theorem colsWhy_snoc (why : Int) {cols : List Colm} {k : Nat} {c : Colm} (h : cols[k]? = some c) : colsWhy why (cols.take (k + 1)) = colWhy (colsWhy why (cols.take k)) c := by
  rw [take_snoc h]
  unfold colsWhy
  rw [List.foldl_append]
  rfl
def debitsL (cols : List Colm) : List Int := cols.map fun c => max c.debit 0
def creditsL (cols : List Colm) : List Int := cols.map fun c => max c.credit 0

theorem debitsL_snoc {cols : List Colm} {k : Nat} {c : Colm} (h : cols[k]? = some c) : (debitsL (cols.take (k + 1))).map (Value.int .i64) = (debitsL (cols.take k)).map (Value.int .i64) ++ [.int .i64 (max c.debit 0)] := by
  rw [take_snoc h]; simp [debitsL]
theorem creditsL_snoc {cols : List Colm} {k : Nat} {c : Colm} (h : cols[k]? = some c) : (creditsL (cols.take (k + 1))).map (Value.int .i64) = (creditsL (cols.take k)).map (Value.int .i64) ++ [.int .i64 (max c.credit 0)] := by
  rw [take_snoc h]; simp [creditsL]

def trialWhy (cols : List Colm) (d : Int) : Int := totalWhy (totalWhy (colsWhy (beginWhy d) cols) (sumE (debitsL cols))) (sumE (creditsL cols))
def mkS (l : List UInt8) : ByteArray := ⟨l.toArray⟩
def headRow : List ByteArray := [⟨#[65, 99, 99, 111, 117, 110, 116]⟩, ⟨#[68, 101, 98, 105, 116]⟩, ⟨#[67, 114, 101, 100, 105, 116]⟩]
def colRow (d : Nat) (c : Colm) : List ByteArray := [c.name, mkS (sideL c.debit d), mkS (sideL c.credit d)]
def sumRow2 (a b : Int) (d : Nat) : List ByteArray := [⟨#[83, 117, 109]⟩, mkS (printL a d), mkS (printL b d)]
def sumRow (cols : List Colm) (d : Nat) : List ByteArray := [⟨#[83, 117, 109]⟩, mkS (printL (sumV (debitsL cols)) d), mkS (printL (sumV (creditsL cols)) d)]
def trialRows (cols : List Colm) (d : Nat) : List (List ByteArray) := headRow :: cols.map (colRow d) ++ [sumRow cols d]
theorem debits_I64 {cols : List Colm} (h : ∀ c ∈ cols, I64 c.debit ∧ I64 c.credit) : (∀ x ∈ debitsL cols, I64 x) ∧ ∀ x ∈ creditsL cols, I64 x := by
  constructor <;> intro x hx
  · obtain ⟨c, hc, rfl⟩ := List.mem_map.1 hx
    have := (h c hc).1
    unfold I64 at *
    omega
  · obtain ⟨c, hc, rfl⟩ := List.mem_map.1 hx
    have := (h c hc).2
    unfold I64 at *
    omega
theorem debitsL_length (cols : List Colm) : (debitsL cols).length = cols.length ∧ (creditsL cols).length = cols.length := ⟨by simp [debitsL], by simp [creditsL]⟩

theorem whyOf_zero {why e : Int} (he : e ≠ 0) : whyOf why e ≠ 0 := by
  unfold whyOf; split <;> assumption
theorem total_zero {why e : Int} (h : totalWhy why e = 0) : e = 0 ∧ why = 0 := by
  unfold totalWhy at h
  split at h
  · exact ⟨by assumption, h⟩
  · exact absurd h (whyOf_zero (by decide))
theorem nameWhy_zero {why : Int} {c : Colm} (h : nameWhy why c = 0) : goodB c.name = true ∧ why = 0 := by
  unfold nameWhy at h
  split at h
  · exact ⟨by assumption, h⟩
  · exact absurd h (whyOf_zero (by decide))
theorem colWhy_zero {why : Int} {c : Colm} (h : colWhy why c = 0) : goodB c.name = true ∧ 0 ≤ c.debit ∧ 0 ≤ c.credit ∧ why = 0 := by
  unfold colWhy at h
  split at h
  · exact absurd h (whyOf_zero (by decide))
  · obtain ⟨h1, h2⟩ := nameWhy_zero h
    exact ⟨h1, by omega, by omega, h2⟩
theorem colsWhy_zero : ∀ (cols : List Colm) (why : Int), colsWhy why cols = 0 → why = 0 ∧ ∀ c ∈ cols, goodB c.name = true ∧ 0 ≤ c.debit ∧ 0 ≤ c.credit
  | [], why, h => ⟨h, fun c hc => by cases hc⟩
  | c :: l, why, h => by
    obtain ⟨h1, h2⟩ := colsWhy_zero l (colWhy why c) h
    obtain ⟨a, b, d, e⟩ := colWhy_zero h1
    exact ⟨e, fun x hx => by rcases List.mem_cons.1 hx with rfl | hx; exact ⟨a, b, d⟩; exact h2 x hx⟩
theorem begin_zero {d : Int} (h : beginWhy d = 0) : 0 ≤ d ∧ d ≤ 6 := by
  unfold beginWhy digitsOk at h
  split at h
  · rename_i h2; simpa using h2
  · cases h
theorem trial_zero {cols : List Colm} {d : Int} (h : trialWhy cols d = 0) : (0 ≤ d ∧ d ≤ 6) ∧ (∀ c ∈ cols, goodB c.name = true ∧ 0 ≤ c.debit ∧ 0 ≤ c.credit) ∧ sumE (debitsL cols) = 0 ∧ sumE (creditsL cols) = 0 := by
  obtain ⟨h1, h2⟩ := total_zero h
  obtain ⟨h3, h4⟩ := total_zero h2
  obtain ⟨h5, h6⟩ := colsWhy_zero _ _ h4
  exact ⟨begin_zero h5, h6, h3, h1⟩

theorem sumV_bound {l : List Int} (h : sumE l = 0) : -9223372036854775807 ≤ sumV l ∧ sumV l ≤ 9223372036854775807 := by
  unfold sumV
  rw [if_pos h]
  unfold sumE at h
  split at h
  · cases h
  · split at h
    · assumption
    · cases h
theorem printL_length (a : Int) (d : Nat) (hd : d ≤ 6) (h0 : -9223372036854775807 ≤ a) (h1 : a ≤ 9223372036854775807) : (printL a d).length ≤ 40 := by
  have hn := nDigits_le20 a.natAbs (by omega)
  have hl : (Lib.decDigits a.natAbs).length ≤ 20 := by rw [Lib.decDigits_length]; exact hn
  have hp : (padL (Lib.decDigits a.natAbs) d).length ≤ 27 := by unfold padL; rw [List.length_append, List.length_replicate]; omega
  have hq : (pointL (padL (Lib.decDigits a.natAbs) d) d).length ≤ 28 := by
    unfold pointL
    split
    · omega
    · rw [List.length_append, List.length_cons, List.length_take, List.length_drop]; omega
  unfold printL
  rw [List.length_append]
  have : (if a < 0 then ([45] : List UInt8) else []).length ≤ 1 := by split <;> simp
  omega
theorem mkS_size (l : List UInt8) : (mkS l).size = l.length := rfl
theorem good_size {s : ByteArray} (h : goodB s = true) : s.size ≤ 102 := by
  unfold goodB at h
  simp only [Bool.and_eq_true, decide_eq_true_eq] at h
  exact h.1
theorem trial_fit {cols : List Colm} {d : Nat} (hd : d ≤ 6) (hn : cols.length ≤ 1048576) (hok : ∀ c ∈ cols, goodB c.name = true ∧ 0 ≤ c.debit ∧ 0 ≤ c.credit) (hi : ∀ c ∈ cols, I64 c.debit ∧ I64 c.credit) (h1 : sumE (debitsL cols) = 0) (h2 : sumE (creditsL cols) = 0) : Fit 3 128 (trialRows cols d) := by
  have hlen : (trialRows cols d).length = cols.length + 2 := by simp [trialRows]
  refine ⟨by rw [hlen]; omega, by omega, by omega, by rw [hlen]; omega, ?_, by omega⟩
  intro r hr
  have hside : ∀ a : Int, 0 ≤ a → I64 a → (mkS (sideL a d)).size ≤ 128 := fun a ha hia => by
    rw [mkS_size]
    unfold sideL
    split
    · simp
    · have := printL_length a d hd (by omega) hia.2; omega
  have hpr : ∀ l : List Int, sumE l = 0 → (mkS (printL (sumV l) d)).size ≤ 128 := fun l hl => by
    obtain ⟨a, b⟩ := sumV_bound hl
    rw [mkS_size]
    have := printL_length _ d hd a b
    omega
  unfold trialRows at hr
  rcases List.mem_append.1 hr with hr | hr
  · rcases List.mem_cons.1 hr with rfl | hr
    · exact ⟨by decide, by intro x hx; simp only [headRow, List.mem_cons, List.not_mem_nil, or_false] at hx; rcases hx with rfl | rfl | rfl <;> decide⟩
    · obtain ⟨c, hc, rfl⟩ := List.mem_map.1 hr
      obtain ⟨g, hd1, hc1⟩ := hok c hc
      obtain ⟨i1, i2⟩ := hi c hc
      refine ⟨by simp [colRow], fun x hx => ?_⟩
      simp only [colRow, List.mem_cons, List.not_mem_nil, or_false] at hx
      rcases hx with rfl | rfl | rfl
      · have := good_size g; omega
      · exact hside _ hd1 i1
      · exact hside _ hc1 i2
  · rw [List.mem_singleton] at hr
    subst hr
    refine ⟨by simp [sumRow], fun x hx => ?_⟩
    simp only [sumRow, List.mem_cons, List.not_mem_nil, or_false] at hx
    rcases hx with rfl | rfl | rfl
    · decide
    · exact hpr _ h1
    · exact hpr _ h2

/-- Blocks of other types than e are as they were. -/
structure KE (e : TypeId) (w w' : World) : Prop where
  size : w.heap.size ≤ w'.heap.size
  cells : ∀ (k : Nat) (cs : Array Value) (t : TypeId), w.heap[k]? = some (.cells cs t) → t ≠ e → w'.heap[k]? = some (.cells cs t)
  map : ∀ (k : Nat) (es : Array MapEntry) (cl : Nat), w.heap[k]? = some (.map es cl) → w'.heap[k]? = some (.map es cl)
theorem KE.trans {e : TypeId} {a b c : World} (h : KE e a b) (k : KE e b c) : KE e a c :=
  ⟨Nat.le_trans h.size k.size, fun i cs t hi h1 => k.cells i cs t (h.cells i cs t hi h1) h1, fun i es cl hi => k.map i es cl (h.map i es cl hi)⟩
theorem KE.below {e : TypeId} {w w' : World} (h : Below w.heap.size w w') : KE e w w' :=
  ⟨h.size, fun k _ _ hk _ => (h.block k (lt_of_heap hk)).trans hk, fun k _ _ hk => (h.block k (lt_of_heap hk)).trans hk⟩
theorem KE.alloc {e : TypeId} {a w : World} (h : KE e a w) (o : Obj) : KE e a (w.alloc o) := h.trans (KE.below ((Below.refl _ _).alloc (Nat.le_refl _) o))
theorem KE.grown {e : TypeId} {w w' : World} {B n z : Nat} {v : Value} {xs : List Value} (ho : w.ownsRow B e z v n xs) (hg : w.grownBy w' v.ownBlock) : KE e w w' :=
  ⟨hg.size, fun k cs t hk h2 => (hg.block k (lt_of_heap hk) (fun e => by
    obtain ⟨cur, h3⟩ := own_obj ho e.symm
    exact obj_ne hk h3 h2 rfl)).trans hk, fun k es cl hk => (hg.block k (lt_of_heap hk) (fun e => by
    obtain ⟨cur, h3⟩ := own_obj ho e.symm
    rw [hk] at h3; cases h3)).trans hk⟩
theorem KE.own {f : TypeId} {w w' : World} {base : Nat} {e : TypeId} {size n : Nat} {v : Value} {xs : List Value} (h : KE f w w') (ho : w.ownsRow base e size v n xs) (h1 : e ≠ f) : w'.ownsRow base e size v n xs :=
  own_same ho fun k hk => by
    obtain ⟨cur, hc⟩ := own_obj ho hk
    rw [h.cells k cur e hc h1, hc]
theorem KE.sheet {e : TypeId} {w w' : World} {B s : Nat} {d why : Int} {rows : List (List ByteArray)} (h : KE e w w') (hS : Sheet w B s d why rows) (h1 : 92 ≠ e) (h2 : 36 ≠ e) (h3 : 9 ≠ e) : Sheet w' B s d why rows := by
  obtain ⟨rv, prs, er, hS⟩ := hS
  exact ⟨rv, prs, er, hS.base, h.cells _ _ _ hS.blk h1, h.own hS.rows h2, fun p hp => h.cells _ _ _ (hS.cells p hp) h3⟩
theorem own_grown {w w' : World} {base : Nat} {e : TypeId} {size n : Nat} {v : Value} {xs : List Value} {row : Option Nat} (h : w.ownsRow base e size v n xs) (hg : w.grownBy w' row) (hne : ∀ g, v.ownBlock = some g → some g ≠ row) : w'.ownsRow base e size v n xs :=
  own_same h fun k hk => hg.block k (own_lt h hk) (hne k hk)
theorem news_grown {W w1 : World} {row : Option Nat} {l : List Value} {g : Nat} (h : ∀ j u, l[j]? = some u → W.cell? ((⟨g, 0, none⟩ : Addr).add j) = some u) (hg : W.grownBy w1 row) (hne : some g ≠ row) :
    ∀ j u, l[j]? = some u → w1.cell? ((⟨g, 0, none⟩ : Addr).add j) = some u := fun j u hj => grown_cell hg (h j u hj) (by
  have e : ((⟨g, 0, none⟩ : Addr).add j).block = g := by unfold Addr.add; split <;> rfl
  rw [e]; exact hne)
theorem below_drew {B : Nat} {a b : World} (h : Below B a b) : Below B a b.drew := ⟨h.os, h.tape, h.output, h.size, h.block⟩
theorem hat_ne {u v : Value} {g H : Nat} (h : u.ownBlock = some g ∨ H ≤ g) (hap : ∀ k, u.ownBlock = some k → v.ownBlock ≠ some k) (hv : ∀ k, v.ownBlock = some k → k < H) : ¬ v.ownBlock = some g := fun e => by
  rcases h with h | h
  · exact hap g h e
  · have := hv g e; omega
theorem below_grown {B : Nat} {a w w' : World} {n z : Nat} {e : TypeId} {v : Value} {xs : List Value} (h : Below B a w) (ho : w.ownsRow B e z v n xs) (hB : B ≤ w.heap.size) (hg : w.grownBy w' v.ownBlock) : Below B a w' :=
  h.grown hg hB (own_base ho)

set_option maxHeartbeats 40000000 in
set_option maxRecDepth 100000 in
theorem Trial_any (A : Option Addr) (cap : Nat) (d : Int) (cols : List Colm) (w : World) (hg : Gl w) (hn : cols.length ≤ 1048576) (hi : ∀ c ∈ cols, I64 c.debit ∧ I64 c.credit) (hA : ColsAt w A cols) :
    Calls Tryz.prog 28 #[.slice A cols.length cap, .int .i64 d] w fun e w' => (trialWhy cols d ≠ 0 → e = .returned (.tuple #[.string ⟨#[]⟩, .int .i64 (trialWhy cols d)])) ∧ (trialWhy cols d = 0 → ∃ r, e = .returned (.tuple #[.string r, .int .i64 0]) ∧ Str r (gridL (fun c => decide (1 ≤ c)) (trialRows cols d.toNat))) ∧ Below w.heap.size w w' := by
  have Hi := hid hi; clear hi
  have HA := hid hA; clear hA
  go_enter Tryz.func28, Tryz.ntmps28
  go_upto_block 0 with (first | (go_at_call 34; refine (begin_any _ _).mono ?_; rintro e w1 ⟨rfl, hS1, hb1⟩))
  go_cut [6, 8] (fun v _ W => ∃ b6, v = .pointer (some ⟨b6, 0, none⟩) ∧ w.heap.size ≤ b6 ∧ W.heap[b6]? = some (.cells #[.pointer (some ⟨w.heap.size, 0, none⟩)] 85) ∧ Sheet W w.heap.size w.heap.size d (colsWhy (beginWhy d) cols) [] ∧ Below w.heap.size w W)
  case first =>
    have hbox := heap_alloc_new w1 (.cells #[.pointer (some ⟨w.heap.size, 0, none⟩)] 85)
    have hbx1 : Below w1.heap.size w1 (w1.alloc (.cells #[.pointer (some ⟨w.heap.size, 0, none⟩)] 85)) := (Below.refl _ _).alloc (Nat.le_refl _) _
    have hB0 := hb1.trans (hbx1.mono hb1.size)
    have hS0 := hS1.below hbx1
    have hs1 := hb1.size
    go_wp2_with fail
    go_loopw [22, 8] (fun i _ W => ∃ k : Nat, k ≤ cols.length ∧ i = .int .i64 k ∧ W.heap[w1.heap.size]? = some (.cells #[.pointer (some ⟨w.heap.size, 0, none⟩)] 85) ∧ Sheet W w.heap.size w.heap.size d (colsWhy (beginWhy d) (cols.take k)) [] ∧ Below w.heap.size w W) (fun i _ _ => cols.length - (intOf i).toNat)
    case atStart => exact ⟨0, Nat.zero_le _, rfl, hbox, hS0, hB0⟩
    case round =>
      obtain ⟨k, hk, rfl, hbk, hSk, hBk⟩ := hrel
      obtain ⟨wo, rfl⟩ : ∃ wo : World, wo = wr := ⟨_, rfl⟩
      by_cases hlt : k < cols.length
      · obtain ⟨b, off, rfl, hcell⟩ := (HA.out.below hBk) (by omega)
        have Hck := hid (List.getElem?_eq_getElem hlt)
        obtain ⟨c1, c2, c3⟩ := hcell k cols[k] (List.getElem?_eq_getElem hlt)
        have Hsn := hid (colsWhy_snoc (beginWhy d) Hck.out)
        clear hcell hB0 hS0 hbx1 hbox hS1 hb1
        generalize cols[k] = c at *
        generalize colsWhy (beginWhy d) (cols.take k) = why at *
        have hba : Below wo.heap.size wo (wo.alloc (.cells #[.string c.name, .int .i64 c.debit, .int .i64 c.credit] 78)) := (Below.refl _ _).alloc (Nat.le_refl _) _
        have Hba := hid hba; clear hba
        have Hg := hid (hg.below (hBk.trans (Hba.out.mono hBk.size)))
        have hso := hBk.size
        go_upto_if 29 with (first | (go_at_call 58; refine (Good_any _ _ Hg.out).mono ?_; rintro e w2 ⟨rfl, hb2⟩))
        go_cut [8] (fun v W => v = .pointer (some ⟨wo.heap.size, 0, none⟩) ∧ W.heap[wo.heap.size]? = some (.cells #[.string c.name, .int .i64 c.debit, .int .i64 c.credit] 78) ∧ W.heap[w1.heap.size]? = some (.cells #[.pointer (some ⟨w.heap.size, 0, none⟩)] 85) ∧ Sheet W w.heap.size w.heap.size d (nameWhy why c) [] ∧ Below w.heap.size w W)
        case first =>
          have hb3 : Below wo.heap.size wo w2 := Hba.out.trans (hb2.mono Hba.out.size)
          have hx := (hb2.block wo.heap.size (by simp)).trans (heap_alloc_new wo _)
          have hbk2 := (hb3.block _ (lt_of_heap hbk)).trans hbk
          have hSk2 := hid (hSk.below hb3)
          have hBk2 := hid (hBk.trans (hb3.mono hBk.size))
          have hcb := cell_of (i := 0) hbk2 rfl
          clear hb2 hSk hb3
          cases hgd : goodB c.name with
          | true =>
            have Hw : Hid (nameWhy why c = why) := hid (if_pos hgd)
            clear hgd
            go_wp2_with fail
            go_meet
            exact ⟨rfl, hx, hbk2, by rw [Hw.out]; exact hSk2.out, hBk2.out⟩
          | false =>
            have Hw : Hid (nameWhy why c = whyOf why 60) := hid (if_neg (by rw [hgd]; decide))
            clear hgd
            go_wp2_with (first | (go_at_call 76; refine (fail_any _ _ _ _ _ _ _ hSk2.out).mono ?_; rintro e w3 ⟨rfl, hS3, hst3⟩))
            go_meet
            exact ⟨rfl, hst3.kt.cells _ _ _ hx (by decide) (by decide), hst3.kt.cells _ _ _ hbk2 (by decide) (by decide), by rw [Hw.out]; exact hS3, hBk2.out.trans hst3.below⟩
        case rest =>
          obtain ⟨rfl, hx, hbk2, hS2, hB2⟩ := hcut
          have x1 := cell_of (i := 1) (v := .int .i64 c.debit) hx rfl
          have x2 := cell_of (i := 2) (v := .int .i64 c.credit) hx rfl
          have hcb := cell_of (i := 0) (v := .pointer (some ⟨w.heap.size, 0, none⟩)) hbk2 rfl
          have HS2 := hid hS2
          clear hSk hS2
          by_cases hneg : c.debit < 0
          · have hd1 : decide (c.debit < 0) = true := decide_eq_true hneg
            have Hw : Hid (colWhy why c = whyOf (nameWhy why c) 10) := hid (if_pos (.inl hneg))
            clear hneg
            go_wp2_with (first | (go_at_call 76; refine (fail_any _ _ _ _ _ _ _ HS2.out).mono ?_; rintro e w3 ⟨rfl, hS3, hst3⟩))
            exact ⟨⟨k + 1, by omega, by go_num, hst3.kt.cells _ _ _ hbk2 (by decide) (by decide), by rw [Hsn.out, Hw.out]; exact hS3, hB2.trans hst3.below⟩, by simp [intOf]; omega⟩
          · have hd1 : decide (c.debit < 0) = false := decide_eq_false hneg
            by_cases hneg2 : c.credit < 0
            · have hd2 : decide (c.credit < 0) = true := decide_eq_true hneg2
              have Hw : Hid (colWhy why c = whyOf (nameWhy why c) 10) := hid (if_pos (.inr hneg2))
              clear hneg hneg2
              go_wp2_with (first | (go_at_call 76; refine (fail_any _ _ _ _ _ _ _ HS2.out).mono ?_; rintro e w3 ⟨rfl, hS3, hst3⟩))
              exact ⟨⟨k + 1, by omega, by go_num, hst3.kt.cells _ _ _ hbk2 (by decide) (by decide), by rw [Hsn.out, Hw.out]; exact hS3, hB2.trans hst3.below⟩, by simp [intOf]; omega⟩
            · have hd2 : decide (c.credit < 0) = false := decide_eq_false hneg2
              have Hw : Hid (colWhy why c = nameWhy why c) := hid (if_neg (fun h => h.elim hneg hneg2))
              clear hneg hneg2
              go_wp2_with fail
              exact ⟨⟨k + 1, by omega, by go_num, hbk2, by rw [Hsn.out, Hw.out]; exact HS2.out, hB2⟩, by simp [intOf]; omega⟩
      · have hke : k = cols.length := by omega
        subst hke
        go_wp2_with fail
        go_meet
        rw [List.take_length] at hSk
        exact ⟨w1.heap.size, rfl, hs1, hbk, hSk, hBk⟩
  case rest =>
    obtain ⟨b6, rfl, hb6, hbx, hS, hB⟩ := hcut
    have Hww := hid hg
    go_upto_block 2 with (fail)
    go_cut [9, 10, 12] (fun u v _ W => W.ownsRow w.heap.size 2 1 u cols.length ((debitsL cols).map (Value.int .i64)) ∧ W.ownsRow w.heap.size 2 1 v cols.length ((creditsL cols).map (Value.int .i64)) ∧ W.heap[b6]? = some (.cells #[.pointer (some ⟨w.heap.size, 0, none⟩)] 85) ∧ Sheet W w.heap.size w.heap.size d (colsWhy (beginWhy d) cols) [] ∧ Below w.heap.size w W)
    case first =>
      go_wp2_with fail
      go_loopw [45, 9, 10, 12] (fun i u v _ W => ∃ k : Nat, k ≤ cols.length ∧ i = .int .i64 k ∧ W.ownsRow w.heap.size 2 1 u k ((debitsL (cols.take k)).map (Value.int .i64)) ∧ W.ownsRow w.heap.size 2 1 v k ((creditsL (cols.take k)).map (Value.int .i64)) ∧ (∀ g, u.ownBlock = some g → v.ownBlock ≠ some g) ∧ W.heap[b6]? = some (.cells #[.pointer (some ⟨w.heap.size, 0, none⟩)] 85) ∧ Sheet W w.heap.size w.heap.size d (colsWhy (beginWhy d) cols) [] ∧ Below w.heap.size w W) (fun i _ _ _ _ => cols.length - (intOf i).toNat)
      case atStart => exact ⟨0, Nat.zero_le _, rfl, ⟨rfl, .inl ⟨rfl, rfl⟩⟩, ⟨rfl, .inl ⟨rfl, rfl⟩⟩, fun g h => by simp [Value.ownBlock] at h, hbx, hS, hB⟩
      case round =>
        obtain ⟨k, hk, rfl, hu, hv, hap, hbk, hSk, hBk⟩ := hrel
        obtain ⟨wo, rfl⟩ : ∃ wo : World, wo = wr := ⟨_, rfl⟩
        by_cases hlt : k < cols.length
        · obtain ⟨b, off, rfl, hcell⟩ := (HA.out.below hBk) (by omega)
          have Hck := hid (List.getElem?_eq_getElem hlt)
          obtain ⟨c1, c2, c3⟩ := hcell k cols[k] (List.getElem?_eq_getElem hlt)
          clear hcell hbx hS hB
          generalize cols[k] = c at *
          have hba : Below wo.heap.size wo (wo.alloc (.cells #[.string c.name, .int .i64 c.debit, .int .i64 c.credit] 78)) := (Below.refl _ _).alloc (Nat.le_refl _) _
          have Hba := hid hba; clear hba
          have hso := hBk.size
          have Hu := hid hu; have Hv := hid hv; have Hap := hid hap; have Hbk := hid hbk; have HSk := hid hSk; have HBk := hid hBk
          clear hu hv hap hbk hSk hBk
          go_upto_region 13 with (fail)
          go_cut [12] (fun v W => v = .pointer (some ⟨wo.heap.size, 0, none⟩) ∧ W.heap[wo.heap.size]? = some (.cells #[.string c.name, .int .i64 c.debit, .int .i64 c.credit] 78) ∧ Below wo.heap.size wo W)
          case first =>
            go_wp2_with fail
            go_meet
            exact ⟨rfl, heap_alloc_new wo _, Hba.out⟩
          case rest =>
            obtain ⟨rfl, hx, hbw⟩ := hcut
            have x1 := cell_of (i := 1) (v := .int .i64 c.debit) hx rfl
            have x2 := cell_of (i := 2) (v := .int .i64 c.credit) hx rfl
            have hbd : Below wc.heap.size wc wc.drew := below_of_drewN wc 1
            have hws := hbw.size
            have Ka := hid (KE.below (e := 2) ((Below.refl wc.heap.size wc).alloc (Nat.le_refl _) (.cells #[.int .i64 (max c.debit 0)] 2)))
            have K0 : Hid (KE 2 wc wc.drew) := hid (KE.below (below_of_drewN wc 1))
            have K1 : Hid (KE 2 wc ((wc.alloc (.cells #[.int .i64 (max c.debit 0)] 2)).drew)) := hid (Ka.out.trans (KE.below (below_of_drewN _ 1)))
            have K2 : Hid (KE 2 wc (wc.alloc (.cells #[.int .i64 (max c.credit 0)] 2)).drew) := hid ((KE.below ((Below.refl wc.heap.size wc).alloc (Nat.le_refl _) (.cells #[.int .i64 (max c.credit 0)] 2))).trans (KE.below (below_of_drewN _ 1)))
            have K12 : Hid (KE 2 wc (((wc.alloc (.cells #[.int .i64 (max c.debit 0)] 2)).alloc (.cells #[.int .i64 (max c.credit 0)] 2)).drew)) := hid ((Ka.out.alloc _).trans (KE.below (below_of_drewN _ 1)))
            have K21 : Hid (KE 2 wc (((wc.alloc (.cells #[.int .i64 (max c.credit 0)] 2)).alloc (.cells #[.int .i64 (max c.debit 0)] 2)).drew)) := hid (((KE.below ((Below.refl wc.heap.size wc).alloc (Nat.le_refl _) (.cells #[.int .i64 (max c.credit 0)] 2))).alloc _).trans (KE.below (below_of_drewN _ 1)))
            have hb0 : Below wc.heap.size wc (wc.alloc (.cells #[.int .i64 (max c.debit 0)] 2)) := (Below.refl _ _).alloc (Nat.le_refl _) _
            have hb02 : Below wc.heap.size wc (wc.alloc (.cells #[.int .i64 (max c.credit 0)] 2)) := (Below.refl _ _).alloc (Nat.le_refl _) _
            have hswc : w.heap.size ≤ wc.heap.size := by omega
            have hBc : Below w.heap.size w wc := HBk.out.trans (hbw.mono hso)
            have K1b : Hid (True ∧ Below w.heap.size w ((wc.alloc (.cells #[.int .i64 (max c.debit 0)] 2)).drew)) := hid ⟨trivial, hBc.trans ((below_drew hb0).mono hswc)⟩
            have K12b : Hid (True ∧ Below w.heap.size w (((wc.alloc (.cells #[.int .i64 (max c.debit 0)] 2)).alloc (.cells #[.int .i64 (max c.credit 0)] 2)).drew)) := hid ⟨trivial, hBc.trans ((below_drew (hb0.alloc hb0.size _)).mono hswc)⟩
            have K21b : Hid (True ∧ Below w.heap.size w (((wc.alloc (.cells #[.int .i64 (max c.credit 0)] 2)).alloc (.cells #[.int .i64 (max c.debit 0)] 2)).drew)) := hid ⟨trivial, hBc.trans ((below_drew (hb02.alloc hb02.size _)).mono hswc)⟩
            have HU0 := own_below Hu.out hbw
            have HV0 := own_below Hv.out hbw
            have HU1 : Hid (World.ownsRow ((wc.alloc (.cells #[.int .i64 (max c.debit 0)] 2)).drew) w.heap.size 2 1 u9 k _) := hid (HU0.alloc _)
            have HU12 : Hid (World.ownsRow (((wc.alloc (.cells #[.int .i64 (max c.debit 0)] 2)).alloc (.cells #[.int .i64 (max c.credit 0)] 2)).drew) w.heap.size 2 1 u9 k _) := hid ((HU0.alloc _).alloc _)
            have HU21 : Hid (World.ownsRow (((wc.alloc (.cells #[.int .i64 (max c.credit 0)] 2)).alloc (.cells #[.int .i64 (max c.debit 0)] 2)).drew) w.heap.size 2 1 u9 k _) := hid ((HU0.alloc _).alloc _)
            have HV1a : Hid (World.ownsRow ((wc.alloc (.cells #[.int .i64 (max c.debit 0)] 2)).drew) w.heap.size 2 1 u10 k _) := hid (HV0.alloc _)
            have HV12 : Hid (World.ownsRow (((wc.alloc (.cells #[.int .i64 (max c.debit 0)] 2)).alloc (.cells #[.int .i64 (max c.credit 0)] 2)).drew) w.heap.size 2 1 u10 k _) := hid ((HV0.alloc _).alloc _)
            have HV21 : Hid (World.ownsRow (((wc.alloc (.cells #[.int .i64 (max c.credit 0)] 2)).alloc (.cells #[.int .i64 (max c.debit 0)] 2)).drew) w.heap.size 2 1 u10 k _) := hid ((HV0.alloc _).alloc _)
            have HZ : Hid (∀ W : World, Hid (KE 2 wc W) → W.cell? ⟨wo.heap.size, 1, none⟩ = some (.int .i64 c.debit) ∧ W.cell? ⟨wo.heap.size, 2, none⟩ = some (.int .i64 c.credit)) := hid fun W hW =>
              ⟨cell_of (hW.out.cells _ _ _ hx (by decide)) rfl, cell_of (hW.out.cells _ _ _ hx (by decide)) rfl⟩
            have hnu : ∀ g, wo.heap.size ≤ g → some g ≠ u9.ownBlock := fun g hg e => by have := own_lt Hu.out e.symm; omega
            have hvl : ∀ g, u10.ownBlock = some g → g < wc.heap.size := fun g e => by have := own_lt Hv.out e; omega
            have n12 : Hid (∀ j u, [Value.int .i64 (max c.credit 0)][j]? = some u → World.cell? (((wc.alloc (.cells #[.int .i64 (max c.debit 0)] 2)).alloc (.cells #[.int .i64 (max c.credit 0)] 2)).drew) ((⟨wc.heap.size + 1, 0, none⟩ : Addr).add j) = some u) := hid fun j u h => by
              have h2 := cell_one_new (wc.alloc (.cells #[.int .i64 (max c.debit 0)] 2)) (.int .i64 (max c.credit 0)) 2 j u h
              rw [World.size_alloc] at h2
              exact h2
            have n21 : Hid (∀ j u, [Value.int .i64 (max c.debit 0)][j]? = some u → World.cell? (((wc.alloc (.cells #[.int .i64 (max c.credit 0)] 2)).alloc (.cells #[.int .i64 (max c.debit 0)] 2)).drew) ((⟨wc.heap.size + 1, 0, none⟩ : Addr).add j) = some u) := hid fun j u h => by
              have h2 := cell_one_new (wc.alloc (.cells #[.int .i64 (max c.credit 0)] 2)) (.int .i64 (max c.debit 0)) 2 j u h
              rw [World.size_alloc] at h2
              exact h2
            have n12a : Hid (∀ j u, [Value.int .i64 (max c.debit 0)][j]? = some u → World.cell? (((wc.alloc (.cells #[.int .i64 (max c.debit 0)] 2)).alloc (.cells #[.int .i64 (max c.credit 0)] 2)).drew) ((⟨wc.heap.size, 0, none⟩ : Addr).add j) = some u) := hid fun j u h => cell_below ((Below.refl (wc.alloc (.cells #[.int .i64 (max c.debit 0)] 2)).heap.size (wc.alloc (.cells #[.int .i64 (max c.debit 0)] 2))).alloc (Nat.le_refl _) (.cells #[.int .i64 (max c.credit 0)] 2)) (cell_one_new wc _ _ j u h)
            have n21a : Hid (∀ j u, [Value.int .i64 (max c.credit 0)][j]? = some u → World.cell? (((wc.alloc (.cells #[.int .i64 (max c.credit 0)] 2)).alloc (.cells #[.int .i64 (max c.debit 0)] 2)).drew) ((⟨wc.heap.size, 0, none⟩ : Addr).add j) = some u) := hid fun j u h => cell_below ((Below.refl (wc.alloc (.cells #[.int .i64 (max c.credit 0)] 2)).heap.size (wc.alloc (.cells #[.int .i64 (max c.credit 0)] 2))).alloc (Nat.le_refl _) (.cells #[.int .i64 (max c.debit 0)] 2)) (cell_one_new wc _ _ j u h)
            have n1 : Hid (∀ j u, [Value.int .i64 (max c.debit 0)][j]? = some u → World.cell? ((wc.alloc (.cells #[.int .i64 (max c.debit 0)] 2)).drew) ((⟨wc.heap.size, 0, none⟩ : Addr).add j) = some u) := hid fun j u h => cell_one_new wc _ _ j u h
            have Hx := hid hx; have Hbw := hid hbw; have HbC := hid hBc
            clear hx hbd hb0 hb02 hBc HU0 HV0 hbw
            go_wp2_with fail
            go_region_held3 (fun W => W.cell? ⟨wo.heap.size, 1, none⟩ = some (.int .i64 c.debit) ∧ W.cell? ⟨wo.heap.size, 2, none⟩ = some (.int .i64 c.credit))
              (first | exact HZ.out _ K0 | exact HZ.out _ K1 | exact HZ.out _ K2 | exact HZ.out _ K12 | exact HZ.out _ K21 | exact HZ.out _ Kw1 | exact HZ.out _ (hid (Kw1.out.alloc _)) | exact HZ.out _ Kw2)
              (first
                | (refine step_append_lies _ rfl (.tmp 49) (.tmp 53) 93 rfl w.heap.size 2 _ (.int .i64 0) 1 8 Tryz.underlying93 rfl rfl rfl rfl rfl (by decide) u9 k _ (by simp [Act.eval, Act.put]) HU1.out ⟨wc.heap.size, 0, none⟩ 1 1 [.int .i64 (max c.debit 0)] (by simp [Act.eval, Act.put]) rfl n1.out (by simp [Value.oneCell']) (by decide) (by simp only [maxLen]; omega) (by omega) (by simp <;> omega) _ rfl ?_; intro g1 cap1 w1 hown1 hg1 hat1 hlt1; have Kw1 := hid (K1.out.trans (KE.grown HU1.out hg1)); have Bw1 := hid (below_grown K1b.out.2 HU1.out (by simp <;> omega) hg1); have HV1 := hid (own_grown HV1a.out hg1 (fun g hg e => Hap.out g e.symm hg)); have Hat1 := hid (hat1.imp id (fun e => by have e2 := e; simp at e2; omega) : u9.ownBlock = some g1 ∨ wc.heap.size ≤ g1); have Hown1 := hid hown1; have Hlt1 := hid hlt1; have hsz1 : wc.heap.size ≤ w1.heap.size := Nat.le_trans (by simp <;> omega) hg1.size; clear hown1 hg1 hat1 hlt1)
                | (refine step_append_lies _ rfl (.tmp 49) (.tmp 53) 93 rfl w.heap.size 2 _ (.int .i64 0) 1 8 Tryz.underlying93 rfl rfl rfl rfl rfl (by decide) u9 k _ (by simp [Act.eval, Act.put]) HU12.out ⟨wc.heap.size, 0, none⟩ 1 1 [.int .i64 (max c.debit 0)] (by simp [Act.eval, Act.put]) rfl n12a.out (by simp [Value.oneCell']) (by decide) (by simp only [maxLen]; omega) (by omega) (by simp <;> omega) _ rfl ?_; intro g1 cap1 w1 hown1 hg1 hat1 hlt1; have Kw1 := hid (K12.out.trans (KE.grown HU12.out hg1)); have Bw1 := hid (below_grown K12b.out.2 HU12.out (by simp <;> omega) hg1); have HV1 := hid (own_grown HV12.out hg1 (fun g hg e => Hap.out g e.symm hg)); have Hat1 := hid (hat1.imp id (fun e => by have e2 := e; simp at e2; omega) : u9.ownBlock = some g1 ∨ wc.heap.size ≤ g1); have Hown1 := hid hown1; have Hlt1 := hid hlt1; have hsz1 : wc.heap.size ≤ w1.heap.size := Nat.le_trans (by simp <;> omega) hg1.size; have N2 := hid (news_grown n12.out hg1 (hnu _ (by omega))); clear hown1 hg1 hat1 hlt1)
                | (refine step_append_lies _ rfl (.tmp 49) (.tmp 53) 93 rfl w.heap.size 2 _ (.int .i64 0) 1 8 Tryz.underlying93 rfl rfl rfl rfl rfl (by decide) u9 k _ (by simp [Act.eval, Act.put]) HU21.out ⟨wc.heap.size + 1, 0, none⟩ 1 1 [.int .i64 (max c.debit 0)] (by simp [Act.eval, Act.put]) rfl n21.out (by simp [Value.oneCell']) (by decide) (by simp only [maxLen]; omega) (by omega) (by simp <;> omega) _ rfl ?_; intro g1 cap1 w1 hown1 hg1 hat1 hlt1; have Kw1 := hid (K21.out.trans (KE.grown HU21.out hg1)); have Bw1 := hid (below_grown K21b.out.2 HU21.out (by simp <;> omega) hg1); have HV1 := hid (own_grown HV21.out hg1 (fun g hg e => Hap.out g e.symm hg)); have Hat1 := hid (hat1.imp id (fun e => by have e2 := e; simp at e2; omega) : u9.ownBlock = some g1 ∨ wc.heap.size ≤ g1); have Hown1 := hid hown1; have Hlt1 := hid hlt1; have hsz1 : wc.heap.size ≤ w1.heap.size := Nat.le_trans (by simp <;> omega) hg1.size; have N2 := hid (news_grown n21a.out hg1 (hnu _ (by omega))); clear hown1 hg1 hat1 hlt1)
                | (refine step_append_lies _ rfl (.tmp 55) (.tmp 59) 93 rfl w.heap.size 2 _ (.int .i64 0) 1 8 Tryz.underlying93 rfl rfl rfl rfl rfl (by decide) u10 k _ (by simp [Act.eval, Act.put]) (HV1.out.alloc _) ⟨w1.heap.size, 0, none⟩ 1 1 [.int .i64 (max c.credit 0)] (by simp [Act.eval, Act.put]) rfl (cell_one_new _ _ _) (by simp [Value.oneCell']) (by decide) (by simp only [maxLen]; omega) (by omega) (by simp <;> omega) _ rfl ?_; intro g2 cap2 w2 hown2 hg2 hat2 hlt2; have Kw2 := hid ((Kw1.out.alloc _).trans (KE.grown (HV1.out.alloc _) hg2)); have Bw2 := hid (below_grown (Bw1.out.alloc (by omega) _) (HV1.out.alloc _) (by first | omega | (simp <;> omega)) hg2); have Hx1 := hid (own_grown (Hown1.out.alloc _) hg2 (fun g hg e => by have hge : g1 = g := (by simpa [Value.ownBlock] using hg); exact hat_ne Hat1.out Hap.out hvl (by rw [hge]; exact e.symm))); have Hat2 := hid hat2; have Hown2 := hid hown2; clear hown2 hg2 hat2 hlt2)
                | (refine step_append_lies _ rfl (.tmp 55) (.tmp 59) 93 rfl w.heap.size 2 _ (.int .i64 0) 1 8 Tryz.underlying93 rfl rfl rfl rfl rfl (by decide) u10 k _ (by simp [Act.eval, Act.put]) HV1.out ⟨wc.heap.size + 1, 0, none⟩ 1 1 [.int .i64 (max c.credit 0)] (by simp [Act.eval, Act.put]) rfl N2.out (by simp [Value.oneCell']) (by decide) (by simp only [maxLen]; omega) (by omega) (by omega) _ rfl ?_; intro g2 cap2 w2 hown2 hg2 hat2 hlt2; have Kw2 := hid (Kw1.out.trans (KE.grown HV1.out hg2)); have Bw2 := hid (below_grown Bw1.out HV1.out (by first | omega | (simp <;> omega)) hg2); have Hx1 := hid (own_grown Hown1.out hg2 (fun g hg e => by have hge : g1 = g := (by simpa [Value.ownBlock] using hg); exact hat_ne Hat1.out Hap.out hvl (by rw [hge]; exact e.symm))); have Hat2 := hid hat2; have Hown2 := hid hown2; clear hown2 hg2 hat2 hlt2)
                | (refine step_append_lies _ rfl (.tmp 55) (.tmp 59) 93 rfl w.heap.size 2 _ (.int .i64 0) 1 8 Tryz.underlying93 rfl rfl rfl rfl rfl (by decide) u10 k _ (by simp [Act.eval, Act.put]) HV1.out ⟨wc.heap.size, 0, none⟩ 1 1 [.int .i64 (max c.credit 0)] (by simp [Act.eval, Act.put]) rfl N2.out (by simp [Value.oneCell']) (by decide) (by simp only [maxLen]; omega) (by omega) (by omega) _ rfl ?_; intro g2 cap2 w2 hown2 hg2 hat2 hlt2; have Kw2 := hid (Kw1.out.trans (KE.grown HV1.out hg2)); have Bw2 := hid (below_grown Bw1.out HV1.out (by first | omega | (simp <;> omega)) hg2); have Hx1 := hid (own_grown Hown1.out hg2 (fun g hg e => by have hge : g1 = g := (by simpa [Value.ownBlock] using hg); exact hat_ne Hat1.out Hap.out hvl (by rw [hge]; exact e.symm))); have Hat2 := hid hat2; have Hown2 := hid hown2; clear hown2 hg2 hat2 hlt2))
            all_goals
              go_wp2_with fail
              have hne12 : ¬ g1 = g2 := fun e => by
                subst e
                rcases Hat2.out with h | h
                · exact hat_ne Hat1.out Hap.out hvl h
                · have hl1 := Hlt1.out
                  first | omega | (simp at h; omega)
              exact ⟨⟨k + 1, by omega, by go_num, by rw [debitsL_snoc Hck.out]; exact Hx1.out, by rw [creditsL_snoc Hck.out]; exact Hown2.out, fun g h1 h2 => hne12 (by
                have e1 : g1 = g := (by simpa [Value.ownBlock] using h1)
                have e2 : g2 = g := (by simpa [Value.ownBlock] using h2)
                rw [e1, e2]), Kw2.out.cells _ _ _ ((Hbw.out.block _ (lt_of_heap Hbk.out)).trans Hbk.out) (by decide), Kw2.out.sheet (HSk.out.below Hbw.out) (by decide) (by decide) (by decide), Bw2.out⟩, by simp [intOf]; omega⟩
        · have hke : k = cols.length := by omega
          subst hke
          go_wp2_with fail
          go_meet
          rw [List.take_length] at hu hv
          exact ⟨hu, hv, hbk, hSk, hBk⟩
    case rest =>
      clear hS hB hbx
      obtain ⟨hu, hv, hbx, hS, hB⟩ := hcut
      obtain ⟨Au, cu, rfl⟩ := own_slice hu
      obtain ⟨Av, cv, rfl⟩ := own_slice hv
      obtain ⟨hI1, hI2⟩ := debits_I64 Hi.out
      obtain ⟨hl1, hl2⟩ := debitsL_length cols
      have hbd : Below wc.heap.size wc wc.drew := below_of_drewN wc 1
      have hau := own_arr hu
      have hav := own_arr hv
      have hbx0 := (hbd.block _ (lt_of_heap hbx)).trans hbx
      have z0 := cell_of (i := 0) (v := .pointer (some ⟨w.heap.size, 0, none⟩)) hbx0 rfl
      have T1 := total_any w.heap.size w.heap.size d (colsWhy (beginWhy d) cols) [] Au cu (debitsL cols) wc.drew (hS.below hbd) (by omega) hI1 (by rw [hl1]; exact hau.below hbd)
      rw [hl1] at T1
      have H1 := hid T1
      have Hbx := hid hbx0
      have Hv2 := hid (own_below hv hbd)
      have HI2 := hid hI2
      have HB0 := hid (hB.trans (hbd.mono hB.size))
      clear T1 hu hv hau hav hS hbx hbx0 hI1 hI2 hbd hB
      go_wp2_with fail
      go_region_held3 (fun W => W.cell? ⟨b6, 0, none⟩ = some (.pointer (some ⟨w.heap.size, 0, none⟩))) (first | exact z0 | exact z2 | exact z3)
        (first
          | (go_at_call 41; refine H2.out.mono ?_; rintro e w3 ⟨rfl, hS3, hst3⟩; have hbx3 := hid (hst3.kt.cells _ _ _ hbx2.out (by decide) (by decide)); have z3 := cell_of (i := 0) (v := .pointer (some ⟨w.heap.size, 0, none⟩)) hbx3.out rfl; have HB3 := hid (HB2.out.trans hst3.below); have HS3 := hid hS3; clear hS3 hst3)
          | (go_at_call 41; refine H1.out.mono ?_; rintro e w2 ⟨rfl, hS2, hst2⟩; have hbx2 := hid (hst2.kt.cells _ _ _ Hbx.out (by decide) (by decide)); have z2 := cell_of (i := 0) (v := .pointer (some ⟨w.heap.size, 0, none⟩)) hbx2.out rfl; have T2 := total_any w.heap.size w.heap.size d _ [] Av cv (creditsL cols) w2 hS2 (by omega) HI2.out (by rw [hl2]; exact own_arr (hst2.kt.own Hv2.out (by decide) (by decide))); rw [hl2] at T2; have H2 := hid T2; have HB2 := hid (HB0.out.trans hst2.below); clear T2 hS2 hst2))
      have HW : Hid (totalWhy (totalWhy (colsWhy (beginWhy d) cols) (sumE (debitsL cols))) (sumE (creditsL cols)) = trialWhy cols d) := hid rfl
      rw [HW.out] at HS3
      clear HW H1 H2 z2
      have hc1 := HS3.out.cell1.1
      by_cases hw0 : trialWhy cols d = 0
      · have Hno : Hid (trialWhy cols d ≠ 0 → False) := hid fun h => h hw0
        rw [hw0] at HS3 hc1
        have Hw0 := hid hw0; clear hw0
        generalize hv1 : sumV (debitsL cols) = v1
        generalize hv2 : sumV (creditsL cols) = v2
        have Hv1 := hid hv1; have Hv22 := hid hv2
        clear hv1 hv2
        have Hhb := hid (heap_alloc_new w3 (.cells (headRow.map Value.string).toArray 9))
        have hb3 : Below w3.heap.size w3 (w3.alloc (.cells (headRow.map Value.string).toArray 9)) := (Below.refl _ _).alloc (Nat.le_refl _) _
        have HSh := hid (HS3.out.below hb3)
        have hbx4 := hid ((hb3.block _ (lt_of_heap hbx3.out)).trans hbx3.out)
        have HB4 := hid (HB3.out.trans (hb3.mono HB3.out.size))
        have hBs := HB3.out.size
        clear hb3
        go_wp2_with fail
        refine (row_any w.heap.size w.heap.size d 0 [] headRow w3.heap.size _ HSh.out (by simp) (by simp <;> omega) Hhb.out).mono ?_
        rintro e w4 ⟨rfl, hS4, hst4⟩
        have hbx5 := hid (hst4.kt.cells _ _ _ hbx4.out (by decide) (by decide))
        have HB5 := hid (HB4.out.trans hst4.below)
        have HS4 := hid hS4
        clear hS4 hst4 hbx3 hbx4 HB3 HB4 HSh Hhb z3
        obtain ⟨⟨hd0, hd6⟩, hok, hse1, hse2⟩ := trial_zero Hw0.out
        obtain ⟨dn, rfl⟩ : ∃ dn : Nat, d = dn := ⟨d.toNat, by omega⟩
        have hdn : dn ≤ 6 := by omega
        have Hok := hid hok; have Hse1 := hid hse1; have Hse2 := hid hse2
        clear hok hse1 hse2 hd0 hd6
        go_upto_block 4 with (fail)
        go_cut [17] (fun _ W => W.heap[b6]? = some (.cells #[.pointer (some ⟨w.heap.size, 0, none⟩)] 85) ∧ Sheet W w.heap.size w.heap.size dn 0 (headRow :: cols.map (colRow dn)) ∧ Below w.heap.size w W)
        case first =>
          go_wp2_with fail
          go_loopw [83, 17] (fun i _ W => ∃ k : Nat, k ≤ cols.length ∧ i = .int .i64 k ∧ W.heap[b6]? = some (.cells #[.pointer (some ⟨w.heap.size, 0, none⟩)] 85) ∧ Sheet W w.heap.size w.heap.size dn 0 (headRow :: (cols.take k).map (colRow dn)) ∧ Below w.heap.size w W) (fun i _ _ => cols.length - (intOf i).toNat)
          case atStart => exact ⟨0, Nat.zero_le _, rfl, hbx5.out, HS4.out, HB5.out⟩
          case round =>
            obtain ⟨k, hk, rfl, hbk, hSk, hBk⟩ := hrel
            obtain ⟨wo, rfl⟩ : ∃ wo : World, wo = wr := ⟨_, rfl⟩
            by_cases hlt : k < cols.length
            · obtain ⟨b, off, rfl, hcell⟩ := (HA.out.below hBk) (by omega)
              have Hck := hid (List.getElem?_eq_getElem hlt)
              obtain ⟨c1, c2, c3⟩ := hcell k cols[k] (List.getElem?_eq_getElem hlt)
              obtain ⟨_, hde, hcr⟩ := Hok.out _ (List.getElem_mem hlt)
              obtain ⟨⟨_, hde2⟩, ⟨_, hcr2⟩⟩ := Hi.out _ (List.getElem_mem hlt)
              clear hcell
              generalize cols[k] = c at *
              have Hbk := hid hbk; have HSk := hid hSk; have HBk := hid hBk
              have hso := hBk.size
              clear hbk hSk hBk
              go_upto_region 23 with (fail)
              go_cut [17] (fun v W => v = .pointer (some ⟨wo.heap.size, 0, none⟩) ∧ W.heap[wo.heap.size]? = some (.cells #[.string c.name, .int .i64 c.debit, .int .i64 c.credit] 78) ∧ Below wo.heap.size wo W)
              case first =>
                go_wp2_with fail
                go_meet
                exact ⟨rfl, heap_alloc_new wo _, (Below.refl _ _).alloc (Nat.le_refl _) _⟩
              case rest =>
                obtain ⟨rfl, hx, hbw⟩ := hcut
                have hbd : Below wc.heap.size wc wc.drew := below_of_drewN wc 1
                have hb2 : Below wo.heap.size wo wc.drew := hbw.trans (hbd.mono hbw.size)
                have hws := hb2.size
                have hbx6 := hid ((hb2.block _ (lt_of_heap Hbk.out)).trans Hbk.out)
                have HS6 := hid (HSk.out.below hb2)
                have HB6 := hid (HBk.out.trans (hb2.mono hso))
                have hx0 := (hbd.block _ (lt_of_heap hx)).trans hx
                have Hx0 := hid hx0
                have a0 := cell_of (i := 0) (v := .pointer (some ⟨w.heap.size, 0, none⟩)) hbx6.out rfl
                have a1 := cell_of (i := 0) (v := .string c.name) hx0 rfl
                have a2 := cell_of (i := 1) (v := .int .i64 c.debit) hx0 rfl
                have a3 := cell_of (i := 2) (v := .int .i64 c.credit) hx0 rfl
                have H1 := hid (side_any w.heap.size w.heap.size b6 dn 0 _ c.debit wc.drew (hg.below HB6.out) HS6.out a0 hdn (by omega) hde2)
                clear hx hbd hb2 hbw hx0
                go_wp2_with fail
                go_region_held3 (fun W => W.cell? ⟨b6, 0, none⟩ = some (.pointer (some ⟨w.heap.size, 0, none⟩)) ∧ W.cell? ⟨wo.heap.size, 0, none⟩ = some (.string c.name) ∧ W.cell? ⟨wo.heap.size, 1, none⟩ = some (.int .i64 c.debit) ∧ W.cell? ⟨wo.heap.size, 2, none⟩ = some (.int .i64 c.credit))
                  (first | exact ⟨a0, a1, a2, a3⟩ | exact ⟨b0, b1, b2, b3⟩ | exact ⟨c0, c1', c2', c3'⟩ | go_keep | exact ⟨d0, d1, d2, d3⟩)
                  (first
                    | (refine H3.out.mono ?_; rintro e w9 ⟨rfl, hS9, hst9⟩; have HS9 := hid hS9; have HB9 := hid (HB8.out.trans hst9.below); have hbx9 := hid (hst9.kt.cells _ _ _ hbx8.out (by decide) (by decide)); have hx9 := hid (hst9.kt.cells _ _ _ Hx8.out (by decide) (by decide)); have d0 := cell_of (i := 0) (v := .pointer (some ⟨w.heap.size, 0, none⟩)) hbx9.out rfl; have d1 := cell_of (i := 0) (v := .string c.name) hx9.out rfl; have d2 := cell_of (i := 1) (v := .int .i64 c.debit) hx9.out rfl; have d3 := cell_of (i := 2) (v := .int .i64 c.credit) hx9.out rfl; clear hS9 hst9)
                    | (refine H2.out.mono ?_; rintro e w8 ⟨⟨r2, rfl, hr2⟩, hb8⟩; obtain rfl := hr2.eq; have c0 := cell_below hb8 b0; have c1' := cell_below hb8 b1; have c2' := cell_below hb8 b2; have c3' := cell_below hb8 b3; have hs8 := hb8.size; have hal8 : Below w8.heap.size w8 (w8.alloc (.cells ((colRow dn c).map Value.string).toArray 9)) := (Below.refl _ _).alloc (Nat.le_refl _) _; have hb68 := hb8.trans (hal8.mono hs8); have HB8 := hid (HB7.out.trans (hb68.mono HB7.out.size)); have hbx8 := hid ((hb68.block _ (lt_of_heap hbx7.out)).trans hbx7.out); have Hx8 := hid ((hb68.block _ (lt_of_heap Hx7.out)).trans Hx7.out); have H3 := hid (row_any w.heap.size w.heap.size dn 0 _ (colRow dn c) w8.heap.size _ (HS7.out.below hb68) (by simp [headRow] <;> omega) HB8.out.size (heap_alloc_new w8 _)); clear hb8 hr2 hal8 hb68)
                    | (refine H1.out.mono ?_; rintro e w7 ⟨⟨r1, rfl, hr1⟩, hb7⟩; obtain rfl := hr1.eq; have b0 := cell_below hb7 a0; have b1 := cell_below hb7 a1; have b2 := cell_below hb7 a2; have b3 := cell_below hb7 a3; have hs7 := hb7.size; have hB7 := HB6.out.trans (hb7.mono HB6.out.size); have H2 := hid (side_any w.heap.size w.heap.size b6 dn 0 _ c.credit w7 (hg.below hB7) (HS6.out.below hb7) b0 hdn (by omega) hcr2); have HS7 := hid (HS6.out.below hb7); have hbx7 := hid ((hb7.block _ (lt_of_heap hbx6.out)).trans hbx6.out); have Hx7 := hid ((hb7.block _ (lt_of_heap Hx0.out)).trans Hx0.out); have HB7 := hid hB7; clear hb7 hB7 hr1))
                go_wp2_with fail
                exact ⟨⟨k + 1, by omega, by go_num, hbx9.out, by rw [take_snoc Hck.out, List.map_append, ← List.cons_append]; exact HS9.out, HB9.out⟩, by simp [intOf]; omega⟩
            · have hke : k = cols.length := by omega
              subst hke
              go_wp2_with fail
              go_meet
              rw [List.take_length] at hSk
              exact ⟨hbk, hSk, hBk⟩
        case rest =>
          clear hbx5 HS4 HB5
          obtain ⟨hbx, hS, hB⟩ := hcut
          obtain ⟨v1a, v1b⟩ := sumV_bound Hse1.out
          obtain ⟨v2a, v2b⟩ := sumV_bound Hse2.out
          rw [Hv1.out] at v1a v1b
          rw [Hv22.out] at v2a v2b
          have hbd : Below wc.heap.size wc wc.drew := below_of_drewN wc 1
          have hbx0 := hid ((hbd.block _ (lt_of_heap hbx)).trans hbx)
          have a0 := cell_of (i := 0) (v := .pointer (some ⟨w.heap.size, 0, none⟩)) hbx0.out rfl
          have HS6 := hid (hS.below hbd)
          have HB6 := hid (hB.trans (hbd.mono hB.size))
          have H1 := hid (amount_any w.heap.size w.heap.size dn 0 _ v1 wc.drew (hg.below HB6.out) HS6.out hdn v1a v1b)
          clear hbx hS hB hbd
          go_wp2_with fail
          go_region_held3 (fun W => W.cell? ⟨b6, 0, none⟩ = some (.pointer (some ⟨w.heap.size, 0, none⟩)))
            (first | exact a0 | exact b0 | exact c0 | go_keep | exact d0)
            (first
              | (go_at_call 39; refine H3.out.mono ?_; rintro e w9 ⟨rfl, hS9, hst9⟩; have HS9 := hid hS9; have HB9 := hid (HB8.out.trans hst9.below); have hbx9 := hid (hst9.kt.cells _ _ _ hbx8.out (by decide) (by decide)); have d0 := cell_of (i := 0) (v := .pointer (some ⟨w.heap.size, 0, none⟩)) hbx9.out rfl; clear hS9 hst9)
              | (go_at_call 40; refine H2.out.mono ?_; rintro e w8 ⟨⟨r2, rfl, hr2⟩, hb8⟩; obtain rfl := hr2.eq; have c0 := cell_below hb8 b0; have hs8 := hb8.size; have hal8 : Below w8.heap.size w8 (w8.alloc (.cells ((sumRow2 v1 v2 dn).map Value.string).toArray 9)) := (Below.refl _ _).alloc (Nat.le_refl _) _; have hb68 := hb8.trans (hal8.mono hs8); have HB8 := hid (HB7.out.trans (hb68.mono HB7.out.size)); have hbx8 := hid ((hb68.block _ (lt_of_heap hbx7.out)).trans hbx7.out); have H3 := hid (row_any w.heap.size w.heap.size dn 0 _ (sumRow2 v1 v2 dn) w8.heap.size _ (HS7.out.below hb68) (by simp [headRow] <;> omega) HB8.out.size (heap_alloc_new w8 _)); clear hb8 hr2 hal8 hb68)
              | (go_at_call 40; refine H1.out.mono ?_; rintro e w7 ⟨⟨r1, rfl, hr1⟩, hb7⟩; obtain rfl := hr1.eq; have b0 := cell_below hb7 a0; have hs7 := hb7.size; have hB7 := HB6.out.trans (hb7.mono HB6.out.size); have H2 := hid (amount_any w.heap.size w.heap.size dn 0 _ v2 w7 (hg.below hB7) (HS6.out.below hb7) hdn v2a v2b); have HS7 := hid (HS6.out.below hb7); have hbx7 := hid ((hb7.block _ (lt_of_heap hbx0.out)).trans hbx0.out); have HB7 := hid hB7; clear hb7 hB7 hr1))
          have HF := hid (trial_fit hdn hn Hok.out Hi.out Hse1.out Hse2.out)
          have hrows : Hid ((headRow :: cols.map (colRow dn)) ++ [(sumRow2 v1 v2 dn)] = trialRows cols dn) := hid (by unfold trialRows sumRow sumRow2; rw [Hv1.out, Hv22.out])
          rw [hrows.out] at HS9
          have HE := hid (end_ok w.heap.size w.heap.size dn _ 78 #[.pointer (some ⟨b6, 0, none⟩)] _ w9 HS9.out (enters_of Tryz.func78 (by kernel_rfl) rfl) (trial2_any w.heap.size w.heap.size b6 dn _ 3 128 w9 HS9.out d0 HF.out))
          go_wp2_with fail
          refine HE.out.mono ?_
          rintro e w10 ⟨⟨r, rfl, hr⟩, hb10⟩
          go_wp2_with fail
          go_ret2
          exact ⟨fun h => (Hno.out h).elim, fun _ => ⟨r, rfl, hr⟩, HB9.out.trans (hb10.mono HB9.out.size)⟩
      · have hne : (trialWhy cols d != 0) = true := by simpa using hw0
        have hne2 : (trialWhy cols d == 0) = false := beq_eq_false_iff_ne.2 hw0
        have Hw0 := hid hw0; clear hw0
        generalize hwe : trialWhy cols d = why at *
        have Hwe := hid hwe; clear hwe
        go_wp2_with fail
        go_quiet (fail)
        go_wp2_with fail
        go_ret2
        exact ⟨fun _ => by rw [Hwe.out]; rfl, fun h => absurd (Hwe.out.symm.trans h) Hw0.out, HB3.out.trans ((below_of_drewN _ _).mono HB3.out.size)⟩
end Go.Proofs.YtgbnlemcojgijaaGreatDoor
