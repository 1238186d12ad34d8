/- sheet: branch: an account's row, and the rows of all below it. -/
import Derived.Test.YtgbnlemcojgijaaGreatDoorAp
import Derived.Test.YtgbnlemcojgijaaGreatDoorAr
namespace Go.Proofs.YtgbnlemcojgijaaGreatDoor
open Go.RowKit Go.Shelf Go.Sort

def toldV (tf : List UInt8 → Option Int) (s : ByteArray) : Int := (tf (L s)).getD 0
def toldM (tf : List UInt8 → Option Int) (s : List UInt8) : Option Value := (tf s).map (Value.int .i64)
def rowB (d : Nat) (tf : List UInt8 → Option Int) (shf : Int → List UInt8) (s : ByteArray) : List ByteArray :=
  [mkS (List.replicate (2 * deepA s) 32 ++ lastA s), mkS (printL (toldV tf s) d), mkS (shf (toldV tf s))]
def Amt (a : Int) : Prop := -9223372036854775807 ≤ a ∧ a ≤ 9223372036854775807
theorem toldM_get (tf : List UInt8 → Option Int) (s : ByteArray) : (toldM tf (L s)).getD (.int .i64 0) = .int .i64 (toldV tf s) := by
  unfold toldM toldV
  cases tf (L s) <;> rfl
theorem last_of {s : ByteArray} (h : goodB s = true) : ∃ i : Nat, Lib.lastIndexByte s 58 = (i : Int) - 1 ∧ i ≤ s.size ∧ L (s.extract i s.size) = lastA s := by
  rcases upB_cases h with ⟨e, _, h1⟩ | ⟨p, x, e, _, _, h2, h3, h4⟩
  · refine ⟨0, by rw [e]; rfl, Nat.zero_le _, ?_⟩
    unfold lastA
    rw [h1, L_extract]
    simp [← L_size]
  · refine ⟨p.size + 1, by rw [e]; omega, h3, ?_⟩
    unfold lastA
    rw [h2, L_extract, h4, List.take_of_length_le (by rw [← h4, List.length_drop, L_size]; omega)]
    simp [List.getLastD_eq_getLast?]
theorem kid_deep {acc : List Acct} (R : Rising acc) {i j : Nat} (hj : j ∈ kidsOf acc (some (nameAt acc i))) : deepA (nameAt acc j) = deepA (nameAt acc i) + 1 := by
  obtain ⟨x, e, _⟩ := R.kid_path hj
  have h6 := R.path6 (mem_kids.1 hj).1
  have := splitC_ne (L (nameAt acc i))
  unfold deepA
  show (pathOf acc j).length - 1 = (pathOf acc i).length - 1 + 1
  rw [e, List.length_append, List.length_singleton]
  have h1 : 1 ≤ (pathOf acc i).length := by
    unfold pathOf
    cases hs : splitC (L (nameAt acc i)) with
    | nil => exact absurd hs this
    | cons p ps => simp
  omega
theorem Gl.stay {B : Nat} {w w' : World} (h : Gl w) (hb : Below B w w') (hB : 11 ≤ B) : Gl w' := by
  obtain ⟨m, hm⟩ := h.maxlen
  have hz := h.size
  exact ⟨⟨m, (hb.cell (p := ⟨0, 0, none⟩) (Nat.lt_of_lt_of_le (by decide) hB)).trans hm⟩, var?_same (g := 6) (hb.block _ (Nat.lt_of_lt_of_le (by decide) hB)) (by kernel_rfl) h.pow10, Nat.le_trans hz hb.size⟩

theorem rep2_length (n : Nat) : (List.replicate n (L ⟨#[32, 32]⟩)).flatten.length = 2 * n := by
  induction n with
  | zero => rfl
  | succ n ih => rw [List.replicate_succ, List.flatten_cons, List.length_append, ih]; show 2 + _ = _; omega
theorem rep2 (n : Nat) : (List.replicate n (L ⟨#[32, 32]⟩)).flatten = List.replicate (2 * n) 32 := by
  induction n with
  | zero => rfl
  | succ n ih => rw [List.replicate_succ, List.flatten_cons, ih, show 2 * (n + 1) = 2 * n + 1 + 1 by omega, List.replicate_succ, List.replicate_succ]; rfl
/-- What a share of a root's balance is. -/
def ShareOk (root : Int) (shf : Int → List UInt8) : Prop := ∀ (b : Int) (w : World), Amt b → Gl w →
  Calls Tryz.prog 112 #[.int .i64 b, .int .i64 root] w fun e w' => (∃ r, e = .returned (.string r) ∧ Str r (shf b)) ∧ Below w.heap.size w w'
def rowsB (acc : List Acct) (d : Nat) (tf : List UInt8 → Option Int) (shf : Int → List UInt8) (l : List Nat) : List (List ByteArray) := l.map fun i => rowB d tf shf (nameAt acc i)
def BranchOk (acc : List Acct) (Bc c m : Nat) (nb : Nat → Nat) (rv : Value) (kv : Nat → Value) (B s d : Nat) (why : Int) (mt nt : Nat) (tf : List UInt8 → Option Int) (root : Int) (shf : Int → List UInt8) (h : Nat) : Prop :=
  ∀ (j : Nat) (a : Acct) (rows : List (List ByteArray)) (w : World), acc[j]? = some a → 7 ≤ (pathOf acc j).length + h → Gl w → Sheet w B s d why rows → 11 ≤ B → B ≤ w.heap.size → ChartAt w Bc c m acc nb rv kv → MapIs w mt nt (toldM tf) →
    rows.length + (preT acc h j).length ≤ 4194304 →
    Calls Tryz.prog 55 #[.pointer (some ⟨s, 0, none⟩), .pointer (some ⟨c, 0, none⟩), .map (some mt), .string a.name, .int .i64 (deepA a.name : Nat), .int .i64 root] w fun e w' =>
      e = .returned (.tuple #[]) ∧ Sheet w' B s d why (rows ++ rowsB acc d tf shf (preT acc h j)) ∧ Stay B w w'

theorem regrown_str {f : FuncId} {args : Array Value} {w : World} {l : List UInt8} (h : ∀ W, Below w.heap.size w W → Calls Tryz.prog f args W fun e w' => (∃ r, e = .returned (.string r) ∧ Str r l) ∧ Below W.heap.size W w') (d : Nat) (os : Array Obj) :
    Calls Tryz.prog f args (grow (redrawn w d) os) fun e w'' => e = .returned (.string (mkS l)) ∧ ∃ p : Regrown, w'' = grow (redrawn w p.d) p.os :=
  Calls.regrown_of ((h _ (below_regrown w d os)).mono fun e w' ⟨⟨r, he, hr⟩, hb⟩ => ⟨by rw [he, hr.eq]; rfl, hb⟩)
theorem branch_row (B s d : Nat) (why : Int) (rows : List (List ByteArray)) (x y z : ByteArray) (w : World) (hS : Sheet w B s d why rows) (hn : rows.length ≤ 4194304) (hB : B ≤ w.heap.size) :
    Calls Tryz.prog 39 #[.pointer (some ⟨s, 0, none⟩), .slice (some ⟨w.heap.size, 0, none⟩) 3 3] (w.alloc (.cells #[.string x, .string y, .string z] 9)) fun e w' => e = .returned (.tuple #[]) ∧ Sheet w' B s d why (rows ++ [[x, y, z]]) ∧ Stay B w w' := by
  have hbl : Below w.heap.size w (w.alloc (.cells #[.string x, .string y, .string z] 9)) := (Below.refl _ _).alloc (Nat.le_refl _) _
  exact (row_any B s d why rows [x, y, z] w.heap.size _ (hS.below hbl) hn (Nat.le_trans hB hbl.size) (heap_alloc_new w _)).mono fun _ _ ⟨h1, h2, h3⟩ => ⟨h1, h2, (Stay.of hbl hB).trans h3⟩

set_option maxRecDepth 100000 in
set_option maxHeartbeats 2000000 in
theorem branch_step {acc : List Acct} (R : Rising acc) (Bc c m : Nat) (nb : Nat → Nat) (rv : Value) (kv : Nat → Value) (B s d : Nat) (hd : d ≤ 6) (why : Int) (mt nt : Nat) (tf : List UInt8 → Option Int) (htf : ∀ x, Amt (toldV tf x)) (root : Int) (shf : Int → List UInt8)
    (hsh : ShareOk root shf) (h : Nat) (ih : ∀ h', h' < h → BranchOk acc Bc c m nb rv kv B s d why mt nt tf root shf h') : BranchOk acc Bc c m nb rv kv B s d why mt nt tf root shf h := by
  intro j a rows w hj hh hg hS h11 hB hC hM hlen
  have hgood := R.good j a hj
  have hjl := get_lt hj
  obtain ⟨h', rfl⟩ : ∃ h', h = h' + 1 := ⟨h - 1, by have := R.path6 hjl; omega⟩
  have hsz : a.name.size ≤ 102 := (good_parts hgood).1
  obtain ⟨hlp, hd5⟩ := lastA_part hgood
  obtain ⟨i, hi, hil, hlast⟩ := last_of hgood
  have hLI := Tryz.strings_LastIndexByte a.name 58 (by omega) w
  rw [hi] at hLI
  have HLI := hid (hLI.mono (fun _ _ ⟨h1, h2⟩ => (⟨h1, h2.symm⟩ : _ = _ ∧ w = _)))
  have Hlast := hid hlast
  clear hLI hi hlast
  have hx : ∃ x, x = mkS (List.replicate (2 * deepA a.name) 32) := ⟨_, rfl⟩
  obtain ⟨x1, hx1⟩ := hx
  have hz1 : x1.size ≤ 10 := by rw [hx1, mkS_size, List.length_replicate]; omega
  have hz2 : (a.name.extract i a.name.size).size ≤ 102 := by rw [ByteArray.size_extract]; omega
  have HR : Hid (∀ d os, Calls Tryz.prog 95 #[.string ⟨#[32, 32]⟩, .int .i64 (deepA a.name : Nat)] (grow (redrawn w d) os) fun e w'' => e = .returned (.string x1) ∧ ∃ p : Regrown, w'' = grow (redrawn w p.d) p.os) := hid fun d os => by
    rw [hx1, ← rep2]
    exact regrown_str (fun W _ => Repeat_any ⟨#[32, 32]⟩ (deepA a.name) W (by show 2 * _ ≤ _; omega) (by omega)) d os
  obtain ⟨x2, hx2⟩ : ∃ x, x = mkS (printL (toldV tf a.name) d) := ⟨_, rfl⟩
  have HA : Hid (∀ d' os, Calls Tryz.prog 40 #[.pointer (some ⟨s, 0, none⟩), .int .i64 (toldV tf a.name)] (grow (redrawn w d') os) fun e w'' => e = .returned (.string x2) ∧ ∃ p : Regrown, w'' = grow (redrawn w p.d) p.os) := hid fun d' os => by
    rw [hx2]
    exact regrown_str (fun W hW => amount_any B s d why rows (toldV tf a.name) W (hg.below hW) (hS.below hW) hd (htf _).1 (htf _).2) d' os
  obtain ⟨x3, hx3⟩ : ∃ x, x = mkS (shf (toldV tf a.name)) := ⟨_, rfl⟩
  have HH : Hid (∀ d' os, Calls Tryz.prog 112 #[.int .i64 (toldV tf a.name), .int .i64 root] (grow (redrawn w d') os) fun e w'' => e = .returned (.string x3) ∧ ∃ p : Regrown, w'' = grow (redrawn w p.d) p.os) := hid fun d' os => by
    rw [hx3]
    exact regrown_str (fun W hW => hsh (toldV tf a.name) W (htf _) (hg.below hW)) d' os
  have hlk : ∀ (d' : Nat) (os : Array Obj), (Instr.lookup 108 (.map (some mt)) (.string a.name) false).run Tryz.prog (grow (redrawn w d') os) = .ok (.int .i64 (toldV tf a.name)) (grow (redrawn w d') os) := fun d' os => by
    have := (hM.below (below_regrown w d' os)).look Tryz.underlying108 (Tryz.zeroValue2 _) a.name (by simp only [maxLen]; omega)
    rwa [toldM_get] at this
  have hrow : rowB d tf shf a.name = [x1 ++ a.name.extract i a.name.size, x2, x3] := by
    unfold rowB
    rw [hx2, hx3, hx1]
    congr 1
    refine L_inj ?_
    rw [L_append, Hlast.out]; rfl
  have Hrow := hid hrow
  have HM := hid hM; have HC := hid hC; have HS := hid hS; have HG := hid hg
  clear hM hC hS hg hrow hx1 hx2 hx3
  go_enter Tryz.func55, Tryz.ntmps55
  go_wp2_with (first | (go_at_call 109; refine HLI.out.mono ?_; rintro e w' ⟨rfl, rfl⟩))
  refine wp_region_any (by kernel_rfl) ?_
  refine wpAny_take (i := 0) (v := .pointer (some ⟨s, 0, none⟩)) rfl (by kernel_rfl) (by kernel_rfl) (by kernel_rfl) (fun _ _ _ h => h) (yields_move rfl rfl rfl) ?_
  refine any_tail_lit (C := Later w) 1 15 (by kernel_rfl) (later_drew w) ?_ rfl
  simp only [List.take_succ_cons, List.take_zero, List.drop_succ_cons, List.drop_zero]
  simp only [go_sem, List.getElem_toArray, List.getElem_cons_zero, List.setIfInBounds_toArray, List.set_cons_succ, List.set_cons_zero]
  repeat (go_big_quiet_step (first | (go_at_call 95; exact HR.out _ _) | (go_at_call 40; exact HA.out _ _) | (go_at_call 112; exact HH.out _ _)))
  refine wpQuiet_nil ?_
  intro _ hw'
  obtain ⟨⟨nd, osq⟩, rfl⟩ := hw'
  dsimp only
  have hBw := below_regrown w nd osq
  generalize grow (redrawn w nd) osq = w2 at *
  have hS2 := HS.out.below hBw
  have hB2 := Nat.le_trans hB hBw.size
  clear hlk HR HA HH HLI
  go_wp2_with (first | (go_at_call 39; refine (branch_row B s d why rows (x1 ++ a.name.extract i a.name.size) x2 x3 w2 hS2 (by omega) hB2).mono ?_; rintro e w3 ⟨rfl, hS3, hst3⟩) | fail)
  have hst := (Stay.of hBw hB).trans hst3
  have hC3 := hst.kt.chart HC.out
  have hkl := kidsOf_length acc (some a.name)
  have hfew := R.few
  refine (Kids_any Bc c m acc nb rv kv j a w3 hC3 hj (by omega) (by
    have := (part_facts hlp).1
    have h2 : (lastA a.name).length ≤ (L a.name).length := by
      rw [← Hlast.out, L_extract]
      simp
      omega
    rw [L_size] at h2
    omega) (by omega)).mono ?_
  rintro e w4 ⟨⟨v, rfl, hown⟩, hb4⟩
  have hB3 := hst3.below.size
  have hst4 := hst.trans (Stay.of hb4 (by have := hst.below.size; omega))
  have HS4 := hid (hS3.below hb4)
  obtain ⟨A, cap, rfl⟩ := own_slice hown
  have HO := hid hown
  have Hst4 := hid hst4
  have hpre : preT acc (h' + 1) j = j :: (kidsOf acc (some a.name)).flatMap (preT acc h') := by
    show j :: (kidsOf acc (some (nameAt acc j))).flatMap (preT acc h') = _
    rw [nameAt_get hj]
  have Hpre := hid hpre
  have HR1 : Hid (rows ++ [[x1 ++ a.name.extract i a.name.size, x2, x3]] = rows ++ rowsB acc d tf shf [j]) := hid (by
    unfold rowsB
    rw [List.map_singleton, nameAt_get hj, Hrow.out])
  have hB4 : B ≤ w4.heap.size := Nat.le_trans hB hst4.below.size
  clear hst hst3 hst4 hC3 hown hb4 hS3 hS2 hBw hpre
  generalize hnk : (kidsOf acc (some a.name)).length = n at *
  have Hnk := hid hnk
  clear hnk
  go_wp2_with fail
  go_loopw [41] (fun i W => ∃ k : Nat, k ≤ n ∧ i = .int .i64 k ∧ Sheet W B s d why (rows ++ rowsB acc d tf shf (j :: ((kidsOf acc (some a.name)).take k).flatMap (preT acc h'))) ∧ Stay B w W ∧ KT w4 W) (fun i _ => n - (intOf i).toNat)
  case atStart => exact ⟨0, Nat.zero_le _, rfl, by rw [List.take_zero, List.flatMap_nil, ← HR1.out]; exact HS4.out, Hst4.out, KT.refl _⟩
  case round =>
    obtain ⟨k, hk, rfl, hSk, hstk, hkt⟩ := hrel
    obtain ⟨wo, rfl⟩ : ∃ wo : World, wo = wr := ⟨_, rfl⟩
    have Hsk := hid hSk; have Hstk := hid hstk; have Hkt := hid hkt
    clear hSk hstk hkt
    by_cases hlt : k < n
    · obtain ⟨b, off, rfl, hcell⟩ := own_arr (Hkt.out.own HO.out (by decide) (by decide)) (by omega)
      have hkk : k < (kidsOf acc (some a.name)).length := by rw [Hnk.out]; exact hlt
      obtain ⟨q, hq⟩ : ∃ q, (kidsOf acc (some a.name))[k] = q := ⟨_, rfl⟩
      have hqm : q ∈ kidsOf acc (some (nameAt acc j)) := by rw [nameAt_get hj, ← hq]; exact List.getElem_mem hkk
      have hql := (mem_kids.1 hqm).1
      have hc := hcell k (.string (nameAt acc q)) (by rw [List.map_map, List.getElem?_map, List.getElem?_eq_getElem hkk, hq]; rfl)
      have Htk : Hid ((kidsOf acc (some a.name)).take (k + 1) = (kidsOf acc (some a.name)).take k ++ [q]) := hid (by rw [List.take_succ_eq_append_getElem hkk, hq])
      have hdeep := kid_deep R hqm
      rw [nameAt_get hj] at hdeep
      obtain ⟨z, hz, _⟩ := R.kid_path hqm
      have hpl : (pathOf acc q).length = (pathOf acc j).length + 1 := by rw [hz, List.length_append, List.length_singleton]
      have hgq : acc[q]? = some (accAt acc q) := by rw [accAt_get (List.getElem?_eq_getElem hql)]; exact List.getElem?_eq_getElem hql
      have hnq : nameAt acc q = (accAt acc q).name := nameAt_get hgq
      have hroom : (rows ++ rowsB acc d tf shf (j :: ((kidsOf acc (some a.name)).take k).flatMap (preT acc h'))).length + (preT acc h' q).length ≤ 4194304 := by
        have h1 : ((j :: ((kidsOf acc (some a.name)).take (k + 1)).flatMap (preT acc h'))).length ≤ (preT acc (h' + 1) j).length := by
          rw [Hpre.out, List.length_cons, List.length_cons]
          have : (((kidsOf acc (some a.name)).take (k + 1)).flatMap (preT acc h')).length ≤ ((kidsOf acc (some a.name)).flatMap (preT acc h')).length := by
            conv => rhs; rw [← List.take_append_drop (k + 1) (kidsOf acc (some a.name)), List.flatMap_append, List.length_append]
            omega
          omega
        rw [Htk.out, List.flatMap_append, List.length_cons, List.length_append] at h1
        simp only [List.flatMap_cons, List.flatMap_nil, List.append_nil] at h1
        unfold rowsB
        rw [List.length_append, List.length_map, List.length_cons]
        omega
      have HB := hid (ih h' (Nat.lt_succ_self _) q (accAt acc q) _ wo hgq (by omega) (HG.out.stay Hstk.out.below h11) Hsk.out h11 (Nat.le_trans hB Hstk.out.below.size) (Hstk.out.kt.chart HC.out) (Hstk.out.kt.map_is HM.out) hroom)
      rw [← hnq, hdeep] at HB
      have hwr : IntKind.i64.wrap ((deepA a.name : Int) + 1) = ((deepA a.name + 1 : Nat) : Int) := by simp [IntKind.wrap, IntKind.bits, IntKind.signed]; omega
      clear hcell hz hgq hnq hroom hdeep hpl hq hkk
      go_wp2_with (first | (go_at_call 55; refine HB.out.mono ?_; rintro e w5 ⟨rfl, hS5, hst5⟩) | fail)
      refine ⟨⟨k + 1, by omega, by go_num, ?_, Hstk.out.trans hst5, Hkt.out.trans hst5.kt⟩, by simp [intOf]; omega⟩
      rw [Htk.out, List.flatMap_append]
      unfold rowsB at hS5 ⊢
      simpa using hS5
    · have hke : k = n := by omega
      have Hke := hid hke
      clear hke
      go_wp2_with fail
      go_end0
      refine ⟨rfl, ?_, Hstk.out⟩
      have h := Hsk.out
      rw [List.take_of_length_le (by rw [Hnk.out, Hke.out]; exact Nat.le_refl _), ← Hpre.out] at h
      exact h
theorem branch_any {acc : List Acct} (R : Rising acc) (Bc c m : Nat) (nb : Nat → Nat) (rv : Value) (kv : Nat → Value) (B s d : Nat) (hd : d ≤ 6) (why : Int) (mt nt : Nat) (tf : List UInt8 → Option Int) (htf : ∀ x, Amt (toldV tf x)) (root : Int) (shf : Int → List UInt8)
    (hsh : ShareOk root shf) (h : Nat) : BranchOk acc Bc c m nb rv kv B s d why mt nt tf root shf h := by
  induction h using Nat.strongRecOn with
  | _ h ih => exact branch_step R Bc c m nb rv kv B s d hd why mt nt tf htf root shf hsh h ih
end Go.Proofs.YtgbnlemcojgijaaGreatDoor
