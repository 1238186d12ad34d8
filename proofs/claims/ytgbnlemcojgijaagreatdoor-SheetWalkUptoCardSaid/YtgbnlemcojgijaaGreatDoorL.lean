/- chart: add. -/
import Derived.Test.YtgbnlemcojgijaaGreatDoorJ
import Derived.StillTailTactics
namespace Go.Proofs.YtgbnlemcojgijaaGreatDoor
open Go.RowKit Go.Shelf Go.Sort

theorem cmpS_self (a : ByteArray) : cmpS a a = 0 := by
  unfold cmpS
  generalize L a = l
  induction l with
  | nil => rfl
  | cons x l ih => unfold Lib.compareBytes; rw [if_neg (UInt8.lt_irrefl _), if_neg (UInt8.lt_irrefl _)]; exact ih

theorem kidsOf_length (acc : List Acct) (p : Option ByteArray) : (kidsOf acc p).length ≤ acc.length := by
  have h := List.length_filter_le (fun j => decide ((acc[j]?.map fun a => upB a.name) = some p)) (List.range acc.length)
  rw [List.length_range] at h
  exact h
def psOf (acc : List Acct) (nb : Nat → Nat) (p : Option ByteArray) : List (Nat × ByteArray) := (kidsOf acc p).map fun j => (nb j, match acc[j]? with | some a => a.name | none => ⟨#[]⟩)
theorem psOf_ptr (acc : List Acct) (nb : Nat → Nat) (p : Option ByteArray) : (psOf acc nb p).map (fun x => ptrV x.1) = (kidsOf acc p).map fun j => ptrV (nb j) := by
  simp [psOf, Function.comp_def]
theorem ChartAt.ps_ok {w W : World} {B c m : Nat} {acc : List Acct} {nb : Nat → Nat} {rv : Value} {kv : Nat → Value} {t : ByteArray} (hC : ChartAt w B c m acc nb rv kv) (hW : ∀ k, k < w.heap.size → k ≠ m → W.heap[k]? = w.heap[k]?)
    (hl : ∀ b ∈ acc, cmpS b.name t < 0) (p : Option ByteArray) : ∀ q ∈ psOf acc nb p, W.cell? ⟨q.1, 0, none⟩ = some (.string q.2) ∧ cmpS q.2 t < 0 := fun q hq => by
  obtain ⟨j, hj, rfl⟩ := List.mem_map.1 hq
  have hj2 := hC.get (kidsOf_lt _ _ _ hj)
  have hn := hC.node _ _ hj2
  refine ⟨cell_of ((hW _ (lt_of_heap hn) (obj_ne_map hn hC.map)).trans hn) ?_, ?_⟩
  · simp [hj2]
  · simp only [hj2]
    exact hl _ (List.getElem_mem _)

theorem froz_of {w : World} {b i : Nat} {cs : Array Value} {t : TypeId} (h : w.heap[b]? = some (.cells cs t)) : w.frozen? ⟨b, i, none⟩ = false := by simp [World.frozen?, h]
theorem setCell_heap {w : World} {b i : Nat} {cs : Array Value} {t : TypeId} (h : w.heap[b]? = some (.cells cs t)) (v : Value) : (w.setCell ⟨b, i, none⟩ v).heap[b]? = some (.cells (cs.setIfInBounds i v) t) := by
  simp [World.setCell, Array.getElem?_modify, h]

theorem byName_get {acc : List Acct} (hF : Forest acc) (nb : Nat → Nat) {i : Nat} {b : Acct} (hi : acc[i]? = some b) : byName acc nb (L b.name) = some (ptrV (nb i)) := by
  unfold byName
  cases hf : acc.findIdx? (fun a => L a.name == L b.name) with
  | none => exact absurd (List.findIdx?_eq_none_iff.1 hf b (List.mem_of_getElem? hi)) (by simp)
  | some j =>
    obtain ⟨hj, h1, _⟩ := List.findIdx?_eq_some_iff_getElem.1 hf
    have h2 := hF.names j i _ b (List.getElem?_eq_getElem hj) hi (L_inj (by simpa using h1))
    subst h2
    rfl

theorem ChartAt.kid_stay {w w4 w5 : World} {B c m : Nat} {acc : List Acct} {nb : Nat → Nat} {rv : Value} {kv : Nat → Value} (hC : ChartAt w B c m acc nb rv kv) {i : Nat} {b : Acct}
    (hg : w4.grownBy w5 (kv i).ownBlock) (hK : ∀ k, k < w.heap.size → k ≠ m → w4.heap[k]? = w.heap[k]?) (hi : acc[i]? = some b) :
    w5.heap[nb i]? = some (.cells #[.string b.name, .int .i64 b.typ, .int .i64 b.opened, .bool b.closed, kv i] 123) := by
  have hn := hC.node i b hi
  have h4 := (hK _ (lt_of_heap hn) (obj_ne_map hn hC.map)).trans hn
  exact (hg.block _ (lt_of_heap h4) (fun e => hC.kid_ne hi hn (by decide) e.symm)).trans h4
theorem ChartAt.map_stay {w w4 w5 : World} {B c m : Nat} {acc : List Acct} {nb : Nat → Nat} {rv : Value} {kv : Nat → Value} (hC : ChartAt w B c m acc nb rv kv) {i : Nat} {b : Acct}
    (hg : w4.grownBy w5 (kv i).ownBlock) (hi : acc[i]? = some b) (hm : m < w4.heap.size) : w5.heap[m]? = w4.heap[m]? :=
  hg.block _ hm (fun e => by
    obtain ⟨cur, h2⟩ := own_obj (hC.kids i b hi) e.symm
    exact obj_ne_map h2 hC.map rfl)

theorem cell_setFar {w : World} {b i : Nat} {v u : Value} {p : Addr} (hc : w.cell? p = some u) (hne : p.block ≠ b) : (w.setCell ⟨b, i, none⟩ v).cell? p = some u :=
  (World.cell?_of_block (w := w) (Below.heap_setCell w ⟨b, i, none⟩ v p.block hne)).trans hc

set_option maxHeartbeats 1000000 in
set_option maxRecDepth 100000 in
theorem add_any (B c m : Nat) (acc : List Acct) (nb : Nat → Nat) (rv : Value) (kv : Nat → Value) (a : Acct) (w : World) (hg : Gl w) (hB : 11 ≤ B) (hC : ChartAt w B c m acc nb rv kv)
    (hn : acc.length ≤ 1048575) (hs : a.name.size ≤ 140737488351232) (hless : ∀ b ∈ acc, cmpS b.name a.name < 0) (hup : ∀ p, upB a.name = some p → ∃ (i : Nat) (b : Acct), acc[i]? = some b ∧ b.name = p) :
    Calls Tryz.prog 60 #[.pointer (some ⟨c, 0, none⟩), .agg #[.string a.name, .int .i64 a.typ, .int .i64 a.opened, .bool a.closed]] w fun e w' => e = .returned (.tuple #[]) ∧ ∃ nb' rv' kv', ChartAt w' B c m (acc ++ [a]) nb' rv' kv' ∧ Below B w w' := by
  have Hup := hid hup; have Hless := hid hless; have HC := hid hC
  have Hm := hid hC.map
  have hch := hC.chart
  clear hup hless hC
  go_enter Tryz.func60, Tryz.ntmps60
  go_upto_region 1 with (fail)
  go_cut [3, 4, 7, 8, 9] (fun v u _ _ _ W => v = .pointer (some ⟨w.heap.size, 0, none⟩) ∧ u = .pointer (some ⟨w.heap.size + 1, 0, none⟩) ∧ Below w.heap.size w W ∧ W.cell? ⟨w.heap.size, 0, none⟩ = some (.string a.name) ∧ W.heap.size = w.heap.size + 2 ∧ W.heap[w.heap.size + 1]? = some (.cells #[.string a.name, .int .i64 a.typ, .int .i64 a.opened, .bool a.closed, .slice none 0 0] 123))
  case first =>
    go_wp2_with fail
    go_meet
    have hb : Below w.heap.size w (w.alloc (.cells #[.string a.name, .int .i64 a.typ, .int .i64 a.opened, .bool a.closed] 31)) := (Below.refl _ _).alloc (Nat.le_refl _) _
    refine ⟨rfl, rfl, hb.alloc hb.size _, ?_, by simp, ?_⟩
    · rw [World.cell?_alloc_lt _ _ _ (by simp)]; simp
    · have h := heap_alloc_new (w.alloc (.cells #[.string a.name, .int .i64 a.typ, .int .i64 a.opened, .bool a.closed] 31)) (.cells #[.string a.name, .int .i64 a.typ, .int .i64 a.opened, .bool a.closed, .slice none 0 0] 123)
      rwa [World.size_alloc] at h
  case rest =>
    obtain ⟨rfl, rfl, hb1, hc0, hsz, hnode⟩ := hcut
    have hcc := cell_of (i := 0) (v := .map (some m)) ((hb1.block _ (lt_of_heap hch)).trans hch) rfl
    have hcr := cell_of (i := 1) (v := rv) ((hb1.block _ (lt_of_heap hch)).trans hch) rfl
    have Hnode := hid hnode; clear hnode hch
    have HC1 := hid (HC.out.below hb1)
    go_wp2_with fail
    go_still_tail 7, (by kernel_rfl)
    change wpList _ _ _ _ _ wc.drew
    have hbd : Below wc.heap.size wc wc.drew := below_of_drewN wc 1
    replace hb1 := hb1.trans (hbd.mono hb1.size)
    have HC2 := hid (HC1.out.below hbd)
    have Hn2 : Hid (wc.drew.heap[w.heap.size + 1]? = _) := Hnode
    replace hc0 := cell_below hbd hc0
    replace hcc := cell_below hbd hcc
    replace hcr := cell_below hbd hcr
    have hsz2 : wc.drew.heap.size = w.heap.size + 2 := hsz
    clear HC1 Hnode hsz hbd
    generalize wc.drew = w2 at *
    refine mapStore m acc.length (byName acc nb) a.name (ptrV (w.heap.size + 1)) Tryz.underlying118 HC2.out.map (by simp only [maxLen]; omega) (by simp only [maxLen]; omega) ?_
    intro w3 hmap hgrow
    have Hm3 := hid hmap
    have hbw : Below w.heap.size w w2 := hb1
    have hmlt := HC.out.map.lt
    have hg3 : Gl w3 := hg.keeps (S := fun k => k = m) (w' := w3) ⟨hgrow.os.trans hb1.os, hgrow.tape.trans hb1.tape, hgrow.output.trans hb1.output, by have := hgrow.size; omega, fun k hk hkm => (hgrow.block k (by omega) (fun e => hkm (Option.some.inj e))).trans (hb1.block k hk)⟩ (fun k e => by have := HC.out.base.2.1; omega)
    have hn3 : Hid (w3.heap[w.heap.size + 1]? = _) := hid ((hgrow.block _ (by omega) (fun e => by injection e; omega)).trans Hn2.out)
    replace hc0 := grown_cell hgrow hc0 (fun e => by injection e with e; have e : w.heap.size = m := e; omega)
    replace hcc := grown_cell hgrow hcc (fun e => obj_ne_map HC.out.chart HC.out.map (by injection e))
    replace hcr := grown_cell hgrow hcr (fun e => obj_ne_map HC.out.chart HC.out.map (by injection e))
    have hsz3 := hgrow.size
    have HP := hid (Parent_any a.name w3 hg3 hs)
    have HK3 : Hid (∀ k, k < w.heap.size → k ≠ m → w3.heap[k]? = w.heap[k]?) := hid fun k hk hkm => (hgrow.block k (by omega) (fun e => hkm (Option.some.inj e))).trans (hb1.block k hk)
    have hne : Hid (∀ b ∈ acc, b.name ≠ a.name) := hid fun b hb e => by
      have := Hless.out b hb
      rw [e] at this
      exact absurd this (by rw [cmpS_self]; omega)
    clear hmap HC2 Hn2 hb1
    have Hg := hid hgrow; clear hgrow
    cases hu : upB a.name with
    | none =>
      rw [hu] at HP
      have HP2 : Hid (Calls _ _ _ _ fun e w' => e = .returned (.tuple #[.string ⟨#[]⟩, .bool false]) ∧ Below w3.heap.size w3 w') := HP
      have Hu := hid hu; clear hu
      go_wp2_with fail
      refine HP2.out.mono ?_
      rintro e w4 ⟨rfl, hb4⟩
      have hs4 := hb4.size
      replace hc0 := cell_below hb4 hc0
      replace hcc := cell_below hb4 hcc
      replace hcr := cell_below hb4 hcr
      have hn4 : Hid (w4.heap[w.heap.size + 1]? = _) := hid ((hb4.block _ (lt_of_heap hn3.out)).trans hn3.out)
      have hcn := hid (cell_of (i := 0) hn4.out rfl)
      have HK4 : Hid (∀ k, k < w.heap.size → k ≠ m → w4.heap[k]? = w.heap[k]?) := hid fun k hk hkm => (hb4.block k (by omega)).trans (HK3.out k hk hkm)
      have Hm4 := hid (Hm3.out.below hb4)
      have HB4 := hid hb4
      have Hput := hid (putLast B rv (kidsOf acc none).length (w.heap.size + 1) a.name (psOf acc nb none) w4 (by simp [psOf]) (by have := kidsOf_length acc none; omega) (by have := HC.out.base.1; have := lt_of_heap HC.out.chart; omega)
        (by rw [psOf_ptr]; exact own_same HC.out.roots fun k hk => HK4.out k (own_lt HC.out.roots hk) (by obtain ⟨cur, h2⟩ := own_obj HC.out.roots hk; exact obj_ne_map h2 HC.out.map))
        (HC.out.ps_ok (fun k hk hkm => HK4.out k hk hkm) Hless.out none) hcn.out)
      rw [psOf_ptr] at Hput
      clear hn3 HK3 Hm3 hb4 hg3
      go_wp2_with fail
      refine Hput.out.mono ?_
      rintro e w5 ⟨v', rfl, hown5, hg5, hat5⟩
      obtain ⟨A', c', rfl⟩ := own_slice hown5
      have Hown5 := hid hown5; have Hat5 := hid hat5; have Hg5 := hid hg5
      have hch5 : Hid (w5.heap[c]? = some (.cells #[.map (some m), rv] 121)) := hid ((hg5.block c (by have := lt_of_heap HC.out.chart; omega) (fun e => HC.out.root_ne HC.out.chart (by decide) e.symm)).trans ((HK4.out c (lt_of_heap HC.out.chart) (obj_ne_map HC.out.chart HC.out.map)).trans HC.out.chart))
      have hcr5 := cell_of (i := 1) (v := rv) hch5.out rfl
      have hfr5 := froz_of (i := 1) hch5.out
      clear hown5 hat5 hg5
      go_wp2_with fail
      go_end0
      have hown5 := Hown5.out; have hat5 := Hat5.out; have hg5 := Hg5.out
      have hBw : B ≤ w.heap.size := by have := HC.out.base.1; have := lt_of_heap HC.out.chart; omega
      have hcw := lt_of_heap HC.out.chart
      have hW : ∀ k, k < w.heap.size → k ≠ m → k ≠ c → rv.ownBlock ≠ some k → (w5.setCell ⟨c, 1, none⟩ (.slice A' ((kidsOf acc none).length + 1) c')).heap[k]? = w.heap[k]? := fun k hk hkm hkc hkr =>
        (Below.heap_setCell _ _ _ _ hkc).trans ((hg5.block k (by omega) (fun e => hkr e.symm)).trans (HK4.out k hk hkm))
      have hxs : (w5.setCell ⟨c, 1, none⟩ (.slice A' ((kidsOf acc none).length + 1) c')).heap.size = w5.heap.size := by simp [World.setCell]
      refine ⟨rfl, _, _, _, HC.out.grow_root (a := a) (x := w.heap.size + 1) (v' := .slice A' ((kidsOf acc none).length + 1) c') Hu.out hne.out hW ?_ (by omega) hBw ?_ ?_ ?_ ?_, ?_⟩
      · exact Hm4.out.same ((Below.heap_setCell _ _ _ _ (fun e => obj_ne_map HC.out.chart HC.out.map e.symm)).trans (hg5.block m (by omega) (fun e => by
          obtain ⟨cur, h2⟩ := own_obj HC.out.roots e.symm
          exact obj_ne_map h2 HC.out.map rfl)))
      · refine (Below.heap_setCell _ _ _ _ (by show w.heap.size + 1 ≠ c; omega)).trans ((hg5.block _ (lt_of_heap hn4.out) (fun e => ?_)).trans hn4.out)
        have := own_lt HC.out.roots e.symm
        omega
      · exact setCell_heap hch5.out _
      · exact own_same hown5 fun k hk => Below.heap_setCell _ _ _ _ (fun e => by
          obtain ⟨cur, h2⟩ := own_obj hown5 hk
          exact obj_ne h2 hch5.out (by decide) e)
      · exact hat5.imp id fun ⟨k, hk, e⟩ => ⟨k, by omega, e⟩
      · refine ⟨hg5.os.trans (HB4.out.os.trans (Hg.out.os.trans hbw.os)), hg5.tape.trans (HB4.out.tape.trans (Hg.out.tape.trans hbw.tape)), hg5.output.trans (HB4.out.output.trans (Hg.out.output.trans hbw.output)), ?_, fun k hk => ?_⟩
        · rw [hxs]; have := hg5.size; omega
        · exact hW k (by omega) (by have := HC.out.base.2.1; omega) (by have := HC.out.base.1; omega) (fun e => by have := own_base HC.out.roots k e; omega)
    | some p =>
      rw [hu] at HP
      have HP2 : Hid (Calls _ _ _ _ fun e w' => e = .returned (.tuple #[.string p, .bool true]) ∧ Below w3.heap.size w3 w') := HP
      obtain ⟨i, b, hib, rfl⟩ := Hup.out p hu
      have Hu := hid hu; have Hib := hid hib; clear hu hib
      have hbs : b.name.size < a.name.size := upB_lt Hu.out
      go_wp2_with fail
      refine HP2.out.mono ?_
      rintro e w4 ⟨rfl, hb4⟩
      replace hcc := cell_below hb4 hcc
      have hb4d : Below w3.heap.size w3 w4.drew := hb4.trans ((below_of_drewN w4 1).mono hb4.size)
      have hs4 : w3.heap.size ≤ w4.drew.heap.size := hb4d.size
      have hnod := HC.out.node i b Hib.out
      have hnm := obj_ne_map hnod HC.out.map
      have hn4 : Hid (w4.drew.heap[w.heap.size + 1]? = _) := hid ((hb4d.block _ (lt_of_heap hn3.out)).trans hn3.out)
      have hcn := hid (cell_of (i := 0) hn4.out rfl)
      have HK4 : Hid (∀ k, k < w.heap.size → k ≠ m → w4.drew.heap[k]? = w.heap[k]?) := hid fun k hk hkm => (hb4d.block k (by omega)).trans (HK3.out k hk hkm)
      have Hm4 := hid (Hm3.out.below hb4d)
      have HB4 := hid hb4d
      have hlook : ∀ W : World, W.heap[m]? = w4.drew.heap[m]? → (Instr.lookup 118 (.map (some m)) (.string b.name) false).run Tryz.prog W = .ok (.pointer (some ⟨nb i, 0, none⟩)) W := fun W hW => by
        have h := (Hm4.out.same hW).look Tryz.underlying118 (Tryz.zeroValue117 W) b.name (by simp only [maxLen]; omega)
        rw [mapPut_other _ _ _ _ (fun e => hne.out b (List.mem_of_getElem? Hib.out) (L_inj e)), byName_get HC.out.forest nb Hib.out] at h
        exact h
      have Hlook := hid hlook
      have hl4 := hlook w4.drew rfl
      have hk4 := HK4.out (nb i) (lt_of_heap hnod) hnm
      have hck := cell_of (i := 4) (v := kv i) (hk4.trans hnod) rfl
      have Hput := hid (putLast B (kv i) (kidsOf acc (some b.name)).length (w.heap.size + 1) a.name (psOf acc nb (some b.name)) w4.drew (by simp [psOf]) (by have := kidsOf_length acc (some b.name); omega) (by have := HC.out.base.1; have := lt_of_heap HC.out.chart; omega)
        (by rw [psOf_ptr]; exact own_same (HC.out.kids i b Hib.out) fun k hk => HK4.out k (own_lt (HC.out.kids i b Hib.out) hk) (by obtain ⟨cur, h2⟩ := own_obj (HC.out.kids i b Hib.out) hk; exact obj_ne_map h2 HC.out.map))
        (HC.out.ps_ok (fun k hk hkm => HK4.out k hk hkm) Hless.out (some b.name)) hcn.out)
      rw [psOf_ptr] at Hput
      have hccd : w4.drew.cell? ⟨c, 0, none⟩ = some (.map (some m)) := hcc
      clear hn3 HK3 Hm3 hb4 hg3 hlook hk4 hb4d HP HP2
      have Hnod := hid hnod; clear hnod
      go_wp2_with fail
      have hcni : c ≠ nb i := obj_ne HC.out.chart Hnod.out (by decide)
      have Hfin : Hid (∀ (w5 : World) (A' : Option Addr) (c' : Nat), w5.ownsRow B 117 1 (.slice A' ((kidsOf acc (some b.name)).length + 1) c') ((kidsOf acc (some b.name)).length + 1) ((kidsOf acc (some b.name)).map (fun j => ptrV (nb j)) ++ [ptrV (w.heap.size + 1)]) →
          w4.drew.grownBy w5 (kv i).ownBlock → ((Value.slice A' ((kidsOf acc (some b.name)).length + 1) c').ownBlock = (kv i).ownBlock ∨ ∃ k, w4.drew.heap.size ≤ k ∧ (Value.slice A' ((kidsOf acc (some b.name)).length + 1) c').ownBlock = some k) →
          ∃ nb' rv' kv', ChartAt (w5.setCell ⟨nb i, 4, none⟩ (.slice A' ((kidsOf acc (some b.name)).length + 1) c')) B c m (acc ++ [a]) nb' rv' kv' ∧ Below B w (w5.setCell ⟨nb i, 4, none⟩ (.slice A' ((kidsOf acc (some b.name)).length + 1) c'))) := hid fun w5 A' c' hown5 hg5 hat5 => by
        have hil := get_lt Hib.out
        have hBw : B ≤ w.heap.size := by have := HC.out.base.1; have := lt_of_heap HC.out.chart; omega
        have hn5 := HC.out.kid_stay hg5 HK4.out Hib.out
        have hW : ∀ k, k < w.heap.size → k ≠ m → k ≠ nb i → (kv i).ownBlock ≠ some k → (w5.setCell ⟨nb i, 4, none⟩ (.slice A' ((kidsOf acc (some b.name)).length + 1) c')).heap[k]? = w.heap[k]? := fun k hk hkm hkc hkr =>
          (Below.heap_setCell _ _ _ _ hkc).trans ((hg5.block k (by omega) (fun e => hkr e.symm)).trans (HK4.out k hk hkm))
        have hxs : (w5.setCell ⟨nb i, 4, none⟩ (.slice A' ((kidsOf acc (some b.name)).length + 1) c')).heap.size = w5.heap.size := by simp [World.setCell]
        have hnlt := lt_of_heap Hnod.out
        refine ⟨_, _, _, HC.out.grow_kid (a := a) (x := w.heap.size + 1) (v' := .slice A' ((kidsOf acc (some b.name)).length + 1) c') Hib.out Hu.out hne.out hW ?_ (by omega) hBw ?_ ?_ ?_ ?_, ?_⟩
        · exact Hm4.out.same ((Below.heap_setCell _ _ _ _ (Ne.symm hnm)).trans (HC.out.map_stay hg5 Hib.out (by omega)))
        · refine (Below.heap_setCell _ _ _ _ (by show w.heap.size + 1 ≠ nb i; omega)).trans ((hg5.block _ (lt_of_heap hn4.out) (fun e => ?_)).trans hn4.out)
          have := own_lt (HC.out.kids i b Hib.out) e.symm
          omega
        · exact setCell_heap hn5 _
        · exact own_same hown5 fun k hk => Below.heap_setCell _ _ _ _ (fun e => by
            obtain ⟨cur, h2⟩ := own_obj hown5 hk
            exact obj_ne h2 hn5 (by decide) e)
        · exact hat5.imp id fun ⟨k, hk, e⟩ => ⟨k, by omega, e⟩
        · refine ⟨hg5.os.trans (HB4.out.os.trans (Hg.out.os.trans hbw.os)), hg5.tape.trans (HB4.out.tape.trans (Hg.out.tape.trans hbw.tape)), hg5.output.trans (HB4.out.output.trans (Hg.out.output.trans hbw.output)), ?_, fun k hk => ?_⟩
          · rw [hxs]; have := hg5.size; omega
          · exact hW k (by omega) (by have := HC.out.base.2.1; omega) (by have := HC.out.base.2.2 i hil; omega) (fun e => by have := own_base (HC.out.kids i b Hib.out) k e; omega)
      go_region_with
        (first | (go_at_call 118; refine Hput.out.mono ?_; rintro e w5 ⟨v', rfl, hown5, hg5, hat5⟩; obtain ⟨A', c', rfl⟩ := own_slice hown5
                  have hn5 := hid (HC.out.kid_stay hg5 HK4.out Hib.out)
                  have hcc5 := grown_cell hg5 hccd (fun e => HC.out.kid_ne Hib.out HC.out.chart (by decide) e.symm)
                  have hm5 := HC.out.map_stay hg5 Hib.out (by omega)
                  have hl5 := Hlook.out w5 hm5
                  have hfr5 := froz_of (i := 4) hn5.out
                  have hcx5 := cell_of (i := 4) (v := kv i) hn5.out rfl
                  have hcc6 := cell_setFar (b := nb i) (i := 4) (v := .slice A' ((kidsOf acc (some b.name)).length + 1) c') hcc5 hcni
                  have hl6 := Hlook.out _ ((Below.heap_setCell w5 ⟨nb i, 4, none⟩ (.slice A' ((kidsOf acc (some b.name)).length + 1) c') m (Ne.symm hnm)).trans hm5)
                  have Hown5 := hid hown5; have Hat5 := hid hat5; have Hg5 := hid hg5
                  clear hown5 hat5 hg5 hm5))
      all_goals (go_wp2_with fail; go_end0; exact ⟨rfl, Hfin.out w5 A' c' Hown5.out Hg5.out Hat5.out⟩)
end Go.Proofs.YtgbnlemcojgijaaGreatDoor
