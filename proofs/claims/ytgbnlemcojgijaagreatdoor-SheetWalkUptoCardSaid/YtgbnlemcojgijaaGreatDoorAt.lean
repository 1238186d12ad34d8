/- sheet: Tree. -/
import Derived.Test.YtgbnlemcojgijaaGreatDoorAs
namespace Go.Proofs.YtgbnlemcojgijaaGreatDoor
open Go.RowKit Go.Shelf Go.Sort

def treeErr (acc : List Acct) (bals : List BalR) (d : Int) : Int := if beginWhy d ≠ 0 then beginWhy d else if chartOk acc = false then 67 else (balAll acc bals).1
def treeRows (acc : List Acct) (d : Nat) (tf : List UInt8 → Option Int) (shf : Int → Int → List UInt8) : List (List ByteArray) :=
  (kidsOf acc none).flatMap fun k => rowsB acc d tf (shf (toldV tf (nameAt acc k))) (preT acc 6 k)
def rootsUpto (acc : List Acct) (k : Nat) : List Nat := (List.range k).filter fun j => decide (upB (nameAt acc j) = none)
theorem rootsUpto_succ (acc : List Acct) (k : Nat) : rootsUpto acc (k + 1) = rootsUpto acc k ++ (if upB (nameAt acc k) = none then [k] else []) := by
  unfold rootsUpto
  rw [List.range_succ, List.filter_append]
  congr 1
  by_cases h : upB (nameAt acc k) = none <;> simp [h]
theorem rootsUpto_all (acc : List Acct) : rootsUpto acc acc.length = kidsOf acc none := by
  unfold rootsUpto kidsOf
  refine List.filter_congr fun j hj => ?_
  have hlt := List.mem_range.1 hj
  rw [List.getElem?_eq_getElem hlt, nameAt_get (List.getElem?_eq_getElem hlt)]
  simp
theorem rootsUpto_le (acc : List Acct) (k : Nat) : (rootsUpto acc k).length ≤ k := by
  unfold rootsUpto
  exact Nat.le_trans (List.length_filter_le _ _) (by simp)
theorem bal_told (acc : List Acct) (l : List BalR) (h : ∀ b ∈ l, I64 b.roll) (x : ByteArray) : Amt (toldV (balAll acc l).2 x) := by
  unfold toldV
  cases hx : (balAll acc l).2 (L x) with
  | none => exact ⟨by decide, by decide⟩
  | some v => exact bal_amt acc l h _ v hx
theorem digits_zero {d : Int} (h : beginWhy d = 0) : ∃ n : Nat, d = n ∧ n ≤ 6 := by
  obtain ⟨h0, h6⟩ := begin_zero h
  exact ⟨d.toNat, by omega, by omega⟩

theorem roots_rise {acc : List Acct} (R : Rising acc) : ((kidsOf acc none).map (nameAt acc)).Pairwise fun a b => cmpS a b < 0 := by
  rw [List.pairwise_map]
  refine List.Pairwise.imp_of_mem (fun {k l} hk hl hlt => ?_) (kids_sorted acc none)
  have hkl := (mem_kids.1 hk).1
  have hll := (mem_kids.1 hl).1
  have := R.rise k l _ _ hlt (List.getElem?_eq_getElem hkl) (List.getElem?_eq_getElem hll)
  rwa [← nameAt_get (List.getElem?_eq_getElem hkl), ← nameAt_get (List.getElem?_eq_getElem hll)] at this
def rowsOfRoots (acc : List Acct) (d : Nat) (tf : List UInt8 → Option Int) (shf : Int → Int → List UInt8) (l : List Nat) : List (List ByteArray) :=
  l.flatMap fun k => rowsB acc d tf (shf (toldV tf (nameAt acc k))) (preT acc 6 k)
theorem rowsOfRoots_length (acc : List Acct) (d : Nat) (tf : List UInt8 → Option Int) (shf : Int → Int → List UInt8) (l : List Nat) : (rowsOfRoots acc d tf shf l).length = (l.flatMap (preT acc 6)).length := by
  unfold rowsOfRoots rowsB
  induction l with
  | nil => rfl
  | cons k l ih => rw [List.flatMap_cons, List.flatMap_cons, List.length_append, List.length_append, ih, List.length_map]
theorem tree_fit {acc : List Acct} (R : Rising acc) {d : Nat} (hd : d ≤ 6) {tf : List UInt8 → Option Int} (htf : ∀ x, Amt (toldV tf x)) {shf : Int → Int → List UInt8} (hshl : ∀ r b, (shf r b).length ≤ 40) : Fit 3 128 (rowsOfRoots acc d tf shf (kidsOf acc none)) := by
  have hlen : (rowsOfRoots acc d tf shf (kidsOf acc none)).length ≤ 100 := by
    rw [rowsOfRoots_length]
    show (orderT acc).length ≤ 100
    rw [R.order_length]; exact R.few
  refine ⟨by omega, by omega, by omega, by omega, fun r hr => ?_, by omega⟩
  obtain ⟨k, hk, hr⟩ := List.mem_flatMap.1 hr
  obtain ⟨j, hj, rfl⟩ := List.mem_map.1 hr
  have hjo : j ∈ orderT acc := List.mem_flatMap.2 ⟨k, hk, hj⟩
  have hgood := R.goodAt (R.order_ok.1.mem j hjo).1
  obtain ⟨hp, h5⟩ := lastA_part hgood
  have h16 := (part_facts hp).2.1
  have hpl := printL_length (toldV tf (nameAt acc j)) d hd (htf _).1 (htf _).2
  have hs := hshl (toldV tf (nameAt acc k)) (toldV tf (nameAt acc j))
  refine ⟨by simp [rowB], fun x hx => ?_⟩
  simp only [rowB, List.mem_cons, List.not_mem_nil, or_false] at hx
  rcases hx with rfl | rfl | rfl
  · rw [mkS_size, List.length_append, List.length_replicate]; omega
  · rw [mkS_size]; omega
  · rw [mkS_size]; omega

set_option maxHeartbeats 4000000 in
set_option maxRecDepth 100000 in
theorem Tree_any (A : Option Addr) (cap : Nat) (acc : List Acct) (A2 : Option Addr) (cap2 : Nat) (bals : List BalR) (d : Int) (w : World) (hg : Gl w) (hn : acc.length ≤ 1048576) (hs : ∀ a ∈ acc, a.name.size ≤ 1048576) (hA : AcctsAt w A acc)
    (hm : bals.length ≤ 1048576) (hbs : ∀ b ∈ bals, b.name.size ≤ 1048576 ∧ I64 b.roll) (hB : BalsAt w A2 bals) (shf : Int → Int → List UInt8) (hshl : ∀ r b, (shf r b).length ≤ 40)
    (hsh : ∀ x, ShareOk (toldV (balAll acc bals).2 x) (shf (toldV (balAll acc bals).2 x))) :
    Calls Tryz.prog 17 #[.slice A acc.length cap, .slice A2 bals.length cap2, .int .i64 d] w fun e w' =>
      (treeErr acc bals d ≠ 0 → e = .returned (.tuple #[.string ⟨#[]⟩, .int .i64 (treeErr acc bals d)])) ∧
      (treeErr acc bals d = 0 → ∃ r, e = .returned (.tuple #[.string r, .int .i64 0]) ∧ Str r (gridL (fun c => decide (1 ≤ c)) (treeRows acc d.toNat (balAll acc bals).2 shf))) ∧ Below w.heap.size w w' := by
  by_cases hb0 : beginWhy d = 0
  case neg =>
    have HE : Hid (treeErr acc bals d = beginWhy d) := hid (if_pos hb0)
    have Hb0 := hid hb0
    have hne : (beginWhy d != 0) = true := by simpa using hb0
    clear hb0 hA hB hbs hs hsh hshl
    go_enter Tryz.func17, Tryz.ntmps17
    go_wp2_with (first | (go_at_call 34; refine (begin_any _ _).mono ?_; rintro e w1 ⟨rfl, hS1, hb1⟩; have hbx : Below w1.heap.size w1 (w1.alloc (.cells #[.pointer (some ⟨w.heap.size, 0, none⟩)] 85)) := (Below.refl _ _).alloc (Nat.le_refl _) _; have hc1 := (hS1.below hbx).cell1.1; have hc2 := cell_of (i := 0) (v := .pointer (some ⟨w.heap.size, 0, none⟩)) (heap_alloc_new w1 (.cells #[.pointer (some ⟨w.heap.size, 0, none⟩)] 85)) rfl; have hB2 := hb1.trans (hbx.mono hb1.size); clear hb1 hbx hS1))
    go_quiet (fail)
    go_wp2_with fail
    go_ret2
    exact ⟨fun _ => by rw [HE.out]; rfl, fun h => absurd (HE.out.symm.trans h) Hb0.out, hB2.trans ((below_of_drewN _ _).mono hB2.size)⟩
  case pos =>
    obtain ⟨dn, rfl, hd6⟩ := digits_zero hb0
    have Hs := hid hs; have HA := hid hA; have Hbs := hid hbs; have HB := hid hB; have Hsh := hid hsh; have Hshl := hid hshl; have Hg := hid hg
    have HE : Hid (treeErr acc bals dn = if chartOk acc = false then 67 else (balAll acc bals).1) := hid (by unfold treeErr; rw [if_neg (fun h => h hb0)])
    have Hb0 := hid hb0
    clear hs hA hbs hB hsh hshl hg hb0
    go_enter Tryz.func17, Tryz.ntmps17
    go_wp2_with (first | (go_at_call 34; refine (begin_any _ _).mono ?_; rintro e w1 ⟨rfl, hS1, hb1⟩; rw [Hb0.out] at hS1; have hbx : Below w1.heap.size w1 (w1.alloc (.cells #[.pointer (some ⟨w.heap.size, 0, none⟩)] 85)) := (Below.refl _ _).alloc (Nat.le_refl _) _; have hc1 := (hS1.below hbx).cell1.1))
    have hS2 := hS1.below hbx
    have hB2 := hb1.trans (hbx.mono hb1.size)
    have hX2 := heap_alloc_new w1 (.cells #[.pointer (some ⟨w.heap.size, 0, none⟩)] 85)
    have hs1 := hb1.size
    have hbx1 : w1.heap.size < (w1.alloc (.cells #[.pointer (some ⟨w.heap.size, 0, none⟩)] 85)).heap.size := by simp
    clear hc1 hS1 hbx hb1
    obtain ⟨b8, hb8⟩ : ∃ b8, w1.heap.size = b8 := ⟨_, rfl⟩
    obtain ⟨w2, hw2⟩ : ∃ w2, w1.alloc (.cells #[.pointer (some ⟨w.heap.size, 0, none⟩)] 85) = w2 := ⟨_, rfl⟩
    rw [hb8] at hX2 hs1 hbx1 ⊢
    rw [hw2] at hS2 hB2 hX2 hbx1 ⊢
    clear hb8 hw2
    have hF := From_any A cap acc w2 (Hg.out.below hB2) (by omega) (fun a ha => Nat.le_trans (Hs.out a ha) (by decide)) (HA.out.below hB2)
    refine hF.mono ?_
    rintro e w3 ⟨hyes, hno, hb3⟩
    by_cases hok : chartOk acc = true
    case neg =>
      have hok2 : chartOk acc = false := Bool.eq_false_iff.2 hok
      obtain rfl := hno hok2
      have HE2 : Hid (treeErr acc bals dn = 67) := hid (by rw [HE.out, if_pos hok2])
      have hB3 := hB2.trans (hb3.mono hB2.size)
      clear hyes hno hok hok2 hF HE
      go_wp2_with fail
      go_ret2
      exact ⟨fun _ => by rw [HE2.out]; rfl, fun h => absurd (HE2.out.symm.trans h) (by decide), hB3⟩
    case pos =>
      obtain ⟨c, m, nb, rv, kv, rfl, hC3⟩ := hyes hok
      have R := chart_rising hok
      have HE2 : Hid (treeErr acc bals dn = (balAll acc bals).1) := hid (by rw [HE.out, if_neg (by rw [hok]; decide)])
      have hS3 := hS2.below hb3
      have hX3 := (hb3.block _ hbx1).trans hX2
      have hB3 := hB2.trans (hb3.mono hB2.size)
      have hmk := run_makeMap (P := Tryz.prog) 108 w3
      have hb4 : Below w3.heap.size w3 (w3.alloc (.map #[] 0)) := (Below.refl _ _).alloc (Nat.le_refl _) _
      have HM4 : Hid (MapIs (w3.alloc (.map #[] 0)) w3.heap.size 0 (toldM fun _ => none)) := hid (MapIs.new w3)
      have HS4 := hid (hS3.below hb4)
      have HX4 := hid ((hb4.block _ (lt_of_heap hX3)).trans hX3)
      have HC4 := hid (hC3.below hb4)
      have HB4 := hid (hB3.trans (hb4.mono hB3.size))
      have hmt : m < w3.heap.size := hC3.map.lt
      have hbw : w.heap.size ≤ w3.heap.size := hB3.size
      clear hyes hno hok hF HE hS3 hX3 hB3 hb4 hC3 hS2 hX2 hB2 hb3 hbx1
      obtain ⟨mt, hmt2⟩ : ∃ mt, w3.heap.size = mt := ⟨_, rfl⟩
      have hzv : ∀ W : World, (zeroValue 2).run Tryz.prog W = .ok (.int .i64 0) W := Tryz.zeroValue2
      go_upto_block 0 with fail
      go_cut [48] (fun _ W => Hid ((balAll acc bals).1 = 0) ∧ MapIs W mt bals.length (toldM (balAll acc bals).2) ∧ Sheet W w.heap.size w.heap.size dn 0 [] ∧ W.heap[b8]? = some (.cells #[.pointer (some ⟨w.heap.size, 0, none⟩)] 85) ∧ ChartAt W w2.heap.size c m acc nb rv kv ∧ Below w.heap.size w W)
      case first =>
        rw [hmt2] at HM4 hmt hbw
        go_wp2_with fail
        go_loopw [48] (fun i W => ∃ k : Nat, k ≤ bals.length ∧ i = .int .i64 k ∧ Hid ((balAll acc (bals.take k)).1 = 0) ∧ MapIs W mt k (toldM (balAll acc (bals.take k)).2) ∧ Sheet W w.heap.size w.heap.size dn 0 [] ∧ W.heap[b8]? = some (.cells #[.pointer (some ⟨w.heap.size, 0, none⟩)] 85) ∧ ChartAt W w2.heap.size c m acc nb rv kv ∧ Below w.heap.size w W) (fun i _ => bals.length - (intOf i).toNat)
        case atStart => exact ⟨0, Nat.zero_le _, rfl, hid rfl, HM4.out, HS4.out, HX4.out, HC4.out, HB4.out⟩
        case round =>
          obtain ⟨k, hk, rfl, hz, hMk, hSk, hXk, hCk, hBk⟩ := hrel
          obtain ⟨wo, rfl⟩ : ∃ wo : World, wo = wr := ⟨_, rfl⟩
          by_cases hlt : k < bals.length
          · obtain ⟨b, off, rfl, hcell⟩ := (HB.out.below hBk) (by omega)
            obtain ⟨x, hx⟩ : ∃ x, bals[k] = x := ⟨_, rfl⟩
            have hgx : bals[k]? = some x := by rw [← hx]; exact List.getElem?_eq_getElem hlt
            obtain ⟨c1, c2, c3⟩ := hcell k x hgx
            obtain ⟨hxs, hxr⟩ := Hbs.out x (List.mem_of_getElem? hgx)
            have Hgx := hid hgx
            have Hxr := hid hxr
            clear hcell hx hgx hxr
            have HMk := hid hMk; have HSk := hid hSk; have HXk := hid hXk; have HCk := hid hCk; have HBk := hid hBk
            have hBs := hBk.size
            have hbx : Below wo.heap.size wo (wo.alloc (.cells #[.string x.name, .int .i64 x.own, .int .i64 x.roll] 61)) := (Below.refl _ _).alloc (Nat.le_refl _) _
            have hbx2 := heap_alloc_new wo (.cells #[.string x.name, .int .i64 x.own, .int .i64 x.roll] 61)
            have hF0 := Find_any w2.heap.size c m acc nb rv kv x.name _ (hCk.below hbx) (by omega)
            have hsplit := bal_split acc Hgx.out
            have hstep : ∀ st : Int × (List UInt8 → Option Int), st.1 ≠ 0 → balStep acc (balAll acc (bals.take k)) x = st → balAll acc bals = st := fun st h1 h2 => by rw [hsplit, h2, bal_stuck acc _ st h1]
            have hstep2 : balStep acc (balAll acc (bals.take k)) x = (match findA acc x.name with | none => (61, (balAll acc (bals.take k)).2) | some _ => if ((balAll acc (bals.take k)).2 (L x.name)).isSome = true then (70, (balAll acc (bals.take k)).2) else if x.roll = -9223372036854775808 then (10, (balAll acc (bals.take k)).2) else (0, fun s => if s = L x.name then some x.roll else (balAll acc (bals.take k)).2 s)) := by
              unfold balStep; rw [if_neg (fun h => h hz.out)]; cases findA acc x.name <;> rfl
            have htake := bal_take acc Hgx.out
            clear hMk hSk hXk hCk hBk hsplit
            generalize (balAll acc (bals.take k)).2 = tf at *
            have Hstep := hid hstep
            cases hf : findA acc x.name with
            | none =>
              rw [hf] at hF0 hstep2
              have he := hstep (61, tf) (show (61 : Int) ≠ 0 by decide) hstep2
              have HE3 : Hid (treeErr acc bals dn = 61) := hid (by rw [HE2.out, he])
              have HF : Hid (Calls Tryz.prog 50 #[.pointer (some ⟨c, 0, none⟩), .string x.name] (wo.alloc (.cells #[.string x.name, .int .i64 x.own, .int .i64 x.roll] 61)) fun e w' => e = .returned (.tuple #[.agg #[.string ⟨#[]⟩, .int .i64 0, .int .i64 0, .bool false], .bool false]) ∧ Below (wo.alloc (.cells #[.string x.name, .int .i64 x.own, .int .i64 x.roll] 61)).heap.size (wo.alloc (.cells #[.string x.name, .int .i64 x.own, .int .i64 x.roll] 61)) w') := hid hF0
              clear hF0 hstep2 he hstep htake hf hbx2
              go_wp2_with (first | (go_at_call 50; refine HF.out.mono ?_; rintro e w5 ⟨rfl, hb5⟩) | fail)
              go_ret2
              have hb6 : Below w5.heap.size w5 (w5.alloc (.cells #[.string ⟨#[]⟩, .int .i64 0, .int .i64 0, .bool false] 31)) := (Below.refl _ _).alloc (Nat.le_refl _) _
              exact ⟨fun _ => by rw [HE3.out]; rfl, fun h => absurd (HE3.out.symm.trans h) (by decide), HBk.out.trans ((hbx.trans ((hb5.trans (hb6.mono hb5.size)).mono hbx.size)).mono hBs)⟩
            | some fa =>
              rw [hf] at hF0 hstep2
              have HF : Hid (Calls Tryz.prog 50 #[.pointer (some ⟨c, 0, none⟩), .string x.name] (wo.alloc (.cells #[.string x.name, .int .i64 x.own, .int .i64 x.roll] 61)) fun e w' => e = .returned (.tuple #[.agg #[.string fa.name, .int .i64 fa.typ, .int .i64 fa.opened, .bool fa.closed], .bool true]) ∧ Below (wo.alloc (.cells #[.string x.name, .int .i64 x.own, .int .i64 x.roll] 61)).heap.size (wo.alloc (.cells #[.string x.name, .int .i64 x.own, .int .i64 x.roll] 61)) w') := hid hF0
              clear hF0 hf
              cases ht : tf (L x.name) with
              | some v0 =>
                have Htl : Hid (toldM tf (L x.name) = some (.int .i64 v0)) := hid (by unfold toldM; rw [ht]; rfl)
                simp only [ht] at hstep2
                have he := hstep (70, tf) (show (70 : Int) ≠ 0 by decide) hstep2
                have HE3 : Hid (treeErr acc bals dn = 70) := hid (by rw [HE2.out, he])
                have Hbx := hid hbx
                clear hstep2 he hstep htake ht
                go_wp2_with (first | (go_at_call 50; refine HF.out.mono ?_; rintro e w5 ⟨rfl, hb5⟩; have hb6 : Below w5.heap.size w5 (w5.alloc (.cells #[.string fa.name, .int .i64 fa.typ, .int .i64 fa.opened, .bool fa.closed] 31)) := (Below.refl _ _).alloc (Nat.le_refl _) _; have hb06 := hbx.trans ((hb5.trans (hb6.mono hb5.size)).mono hbx.size); have bx0 := cell_below (hb5.trans (hb6.mono hb5.size)) (cell_of (i := 0) (v := .string x.name) hbx2 rfl); have bx2 := cell_below (hb5.trans (hb6.mono hb5.size)) (cell_of (i := 2) (v := .int .i64 x.roll) hbx2 rfl); have lk := (HMk.out.below hb06).look2 Tryz.underlying108 (hzv _) x.name (by simp only [maxLen]; omega); rw [Htl.out] at lk; have Hb06 := hid hb06; clear hb06 hb5 hb6) | fail)
                go_ret2
                exact ⟨fun _ => by rw [HE3.out]; rfl, fun h => absurd (HE3.out.symm.trans h) (by decide), HBk.out.trans (Hb06.out.mono hBs)⟩
              | none =>
                have Htl : Hid (toldM tf (L x.name) = none) := hid (by unfold toldM; rw [ht]; rfl)
                simp only [ht] at hstep2
                by_cases hr : x.roll = -9223372036854775808
                · have he := hstep (10, tf) (show (10 : Int) ≠ 0 by decide) (by rw [hstep2, if_neg (by decide), if_pos hr])
                  have HE3 : Hid (treeErr acc bals dn = 10) := hid (by rw [HE2.out, he])
                  have HCh : Hid (checkE x.roll = 10) := hid (if_pos hr)
                  clear hstep2 he hstep htake ht hr
                  go_wp2_with (first | (go_at_call 50; refine HF.out.mono ?_; rintro e w5 ⟨rfl, hb5⟩; have hb6 : Below w5.heap.size w5 (w5.alloc (.cells #[.string fa.name, .int .i64 fa.typ, .int .i64 fa.opened, .bool fa.closed] 31)) := (Below.refl _ _).alloc (Nat.le_refl _) _; have hb06 := hbx.trans ((hb5.trans (hb6.mono hb5.size)).mono hbx.size); have bx0 := cell_below (hb5.trans (hb6.mono hb5.size)) (cell_of (i := 0) (v := .string x.name) hbx2 rfl); have bx2 := cell_below (hb5.trans (hb6.mono hb5.size)) (cell_of (i := 2) (v := .int .i64 x.roll) hbx2 rfl); have lk := (HMk.out.below hb06).look2 Tryz.underlying108 (hzv _) x.name (by simp only [maxLen]; omega); rw [Htl.out] at lk; have Hb06 := hid hb06; clear hb06 hb5 hb6) | (go_at_call 51; refine (check_any _ _).mono ?_; rintro e w7 ⟨rfl, rfl⟩; rw [HCh.out]) | fail)
                  go_ret2
                  exact ⟨fun _ => by rw [HE3.out]; rfl, fun h => absurd (HE3.out.symm.trans h) (by decide), HBk.out.trans (Hb06.out.mono hBs)⟩
                · have he : balAll acc (bals.take (k + 1)) = (0, fun s => if s = L x.name then some x.roll else tf s) := by rw [htake, hstep2, if_neg (by decide), if_neg hr]
                  have He := hid he
                  have HCh : Hid (checkE x.roll = 0) := hid (if_neg hr)
                  clear hstep2 he hstep htake ht hr
                  go_wp2_with (first | (go_at_call 50; refine HF.out.mono ?_; rintro e w5 ⟨rfl, hb5⟩; have hb6 : Below w5.heap.size w5 (w5.alloc (.cells #[.string fa.name, .int .i64 fa.typ, .int .i64 fa.opened, .bool fa.closed] 31)) := (Below.refl _ _).alloc (Nat.le_refl _) _; have hb06 := hbx.trans ((hb5.trans (hb6.mono hb5.size)).mono hbx.size); have bx0 := cell_below (hb5.trans (hb6.mono hb5.size)) (cell_of (i := 0) (v := .string x.name) hbx2 rfl); have bx2 := cell_below (hb5.trans (hb6.mono hb5.size)) (cell_of (i := 2) (v := .int .i64 x.roll) hbx2 rfl); have lk := (HMk.out.below hb06).look2 Tryz.underlying108 (hzv _) x.name (by simp only [maxLen]; omega); rw [Htl.out] at lk; have Hb06 := hid hb06; clear hb06 hb5 hb6) | (go_at_call 51; refine (check_any _ _).mono ?_; rintro e w7 ⟨rfl, rfl⟩; rw [HCh.out]) | (refine mapStore mt k (toldM tf) x.name (.int .i64 x.roll) Tryz.underlying108 (HMk.out.below Hb06.out) (by simp only [maxLen]; omega) (by simp only [maxLen]; omega) ?_; intro w8 hmap8 hgrow8))
                  rw [toldM_put] at hmap8
                  have hkc := (KC.below Hb06.out).trans (KC.grown (HMk.out.below Hb06.out) hgrow8)
                  have hb8 := HBk.out.trans (Hb06.out.mono hBs)
                  have hm8 : w8.heap[m]? = wo.heap[m]? := (hgrow8.block m (Nat.lt_of_lt_of_le HCk.out.map.lt Hb06.out.size) (fun e => by injection e with e; omega)).trans (Hb06.out.block m HCk.out.map.lt)
                  exact ⟨⟨k + 1, by omega, by go_num, hid (by rw [He.out]), by rw [He.out]; exact hmap8, hkc.sheet HSk.out, hkc.cells _ _ _ HXk.out, hkc.chart HCk.out hm8, hb8.grown hgrow8 hb8.size (fun i e => by injection e with e; omega)⟩, by simp [intOf]; omega⟩
          · have hke : k = bals.length := by omega
            subst hke
            rw [List.take_of_length_le (Nat.le_refl _)] at hz hMk
            have HMk := hid hMk
            clear hMk
            go_wp2_with fail
            go_meet
            exact ⟨hz, HMk.out, hSk, hXk, hCk, hBk⟩
      case rest =>
        obtain ⟨hz, hM5, hS5, hX5, hC5, hB5⟩ := hcut
        have HE4 : Hid (treeErr acc bals dn = 0) := hid (by rw [HE2.out, hz.out])
        have Hamt : Hid (∀ x, Amt (toldV (balAll acc bals).2 x)) := hid (bal_told acc bals (fun b hb => (Hbs.out b hb).2))
        obtain ⟨tf, htf⟩ : ∃ tf, (balAll acc bals).2 = tf := ⟨_, rfl⟩
        rw [htf] at Hamt hM5 Hsh
        have Htf := hid htf
        clear htf
        clear hz HE2 HM4 HS4 HX4 HC4 HB4 hmk HB Hbs
        have HM5 := hid hM5; have HS5 := hid hS5; have HX5 := hid hX5; have HC5 := hid hC5; have HB5 := hid hB5
        clear hM5 hS5 hX5 hC5 hB5
        have hfew := R.few
        go_wp2_with (first | (go_at_call 52; refine (Accounts_any w2.heap.size c m acc nb rv kv R wc HC5.out).mono ?_; rintro e w6 ⟨⟨A6, cap6, rfl, hA6⟩, hb6⟩; have HA6 := hid hA6; have Hb6 := hid hb6; clear hA6 hb6) | fail)
        go_loopw [19, 84] (fun v i W => ∃ k : Nat, k ≤ acc.length ∧ i = .int .i64 k ∧ W.ownsRow w6.heap.size 9 1 v (rootsUpto acc k).length (((rootsUpto acc k).map (nameAt acc)).map Value.string) ∧ Below w6.heap.size w6 W) (fun _ i _ => acc.length - (intOf i).toNat)
        case atStart => exact ⟨0, Nat.zero_le _, rfl, ⟨rfl, .inl ⟨rfl, rfl⟩⟩, Below.refl _ _⟩
        case round =>
          obtain ⟨k, hk, rfl, hown, hBk⟩ := hrel
          obtain ⟨wo, rfl⟩ : ∃ wo : World, wo = wr := ⟨_, rfl⟩
          have HO := hid hown
          have hBs := hBk.size
          have HBk := hid hBk
          obtain ⟨Av, cv, rfl⟩ := own_slice hown
          have hrl := rootsUpto_le acc k
          by_cases hlt : k < acc.length
          · obtain ⟨b, off, rfl, hcell⟩ := (HA6.out.below hBk) (by omega)
            obtain ⟨a, ha⟩ : ∃ a, acc[k] = a := ⟨_, rfl⟩
            have hga : acc[k]? = some a := by rw [← ha]; exact List.getElem?_eq_getElem hlt
            obtain ⟨c1, c2, c3, c4⟩ := hcell k a hga
            have hsucc := rootsUpto_succ acc k
            rw [nameAt_get hga] at hsucc
            have hsz := (good_parts (R.good k a hga)).1
            have hba : Below wo.heap.size wo (wo.alloc (.cells #[.string a.name, .int .i64 a.typ, .int .i64 a.opened, .bool a.closed] 31)) := (Below.refl _ _).alloc (Nat.le_refl _) _
            have hbx := heap_alloc_new wo (.cells #[.string a.name, .int .i64 a.typ, .int .i64 a.opened, .bool a.closed] 31)
            have hgl := Hg.out.below (HB5.out.trans ((Hb6.out.trans ((hBk.trans (hba.mono hBs)).mono Hb6.out.size)).mono HB5.out.size))
            have hP := Parent_any a.name _ hgl (by omega)
            have Hga := hid hga
            clear hcell ha hga hown hBk hgl
            cases hu : upB a.name with
            | none =>
              rw [hu] at hP
              rw [hu, if_pos rfl] at hsucc
              have HP := hid hP
              have Hsucc := hid hsucc
              have Hba := hid hba
              clear hP hsucc hu hba
              go_wp2_with (first | (go_at_call 53; refine HP.out.mono ?_; rintro e w7 ⟨rfl, hb7⟩; have hx7 := cell_below hb7 (cell_of (i := 0) (v := .string a.name) hbx rfl); have hb07 := Hba.out.trans (hb7.mono Hba.out.size); have HO7 := hid (own_below HO.out hb07); have hB7 := HBk.out.trans (hb07.mono hBs); have hBs7 := hB7.size; have HB7 := hid hB7; clear hb7 hb07 hB7) | (at_builtin; refine app1 w6.heap.size 36 9 (.string ⟨#[]⟩) 16 Tryz.underlying36 Tryz.infoStr HO7.out HB7.out hBs7 (by omega) (by omega) ?_; intro v1 w8 hown8 hB8 hg8 hz8) | fail)
              refine ⟨⟨k + 1, by omega, by go_num, ?_, hB8⟩, by simp [intOf]; omega⟩
              rw [Hsucc.out, List.length_append, List.map_append, List.map_append, List.map_singleton, List.map_singleton, nameAt_get Hga.out]
              exact hown8
            | some p =>
              rw [hu] at hP
              rw [hu, if_neg (by simp), List.append_nil] at hsucc
              have HP := hid hP
              have Hsucc := hid hsucc
              have Hba := hid hba
              clear hP hsucc hu hba
              go_wp2_with (first | (go_at_call 53; refine HP.out.mono ?_; rintro e w7 ⟨rfl, hb7⟩; have hb07 := Hba.out.trans (hb7.mono Hba.out.size); have HO7 := hid (own_below HO.out hb07); have HB7 := hid (HBk.out.trans (hb07.mono hBs)); clear hb7 hb07) | fail)
              exact ⟨⟨k + 1, by omega, by go_num, by rw [Hsucc.out]; exact HO7.out, HB7.out⟩, by simp [intOf]; omega⟩
          · have hke : k = acc.length := by omega
            subst hke
            rw [rootsUpto_all] at HO hrl
            have hlen : (kidsOf acc none).length = ((kidsOf acc none).map (nameAt acc)).length := by rw [List.length_map]
            have hso := hid (sort_rising w6.heap.size _ ((kidsOf acc none).map (nameAt acc)) wo hBs (by rw [← hlen]; exact HO.out) (roots_rise R) (by rw [← hlen]; omega))
            clear hown hlen
            rw [rootsUpto_all]
            obtain ⟨n, hn2⟩ : ∃ n, (kidsOf acc none).length = n := ⟨_, rfl⟩
            have Hn := hid hn2
            rw [hn2] at hso HO hrl ⊢
            clear hn2
            have hB7 := HB5.out.trans ((Hb6.out.trans (HBk.out.mono Hb6.out.size)).mono HB5.out.size)
            have h11 : 11 ≤ w.heap.size := Hg.out.size
            have hcw : Below wc.heap.size wc wo := Hb6.out.trans (HBk.out.mono Hb6.out.size)
            have HA7 := hid hcw
            have hws := hB7.size
            have HB7 := hid hB7
            clear hB7 hcw
            go_wp2_with (first | (go_at_call 54; refine hso.out.mono ?_; rintro e w9 ⟨rfl, hb9⟩) | fail)
            have hcw9 := HA7.out.trans (hb9.mono HA7.out.size)
            have HO9 := hid (own_below HO.out hb9)
            have HS9 := hid (HS5.out.below hcw9)
            have hX9 := (hcw9.block _ (lt_of_heap HX5.out)).trans HX5.out
            have HX9 := hid hX9
            have HC9 := hid (HC5.out.below hcw9)
            have HM9 := hid (HM5.out.below hcw9)
            have HB9 := hid (HB7.out.trans (hb9.mono hws))
            have hG9 := hid (Hg.out.below HB9.out)
            clear hso hb9 HO hcw9 hX9 HS5 HX5 HC5 HM5
            go_loopw [106] (fun i W => ∃ k : Nat, k ≤ n ∧ i = .int .i64 k ∧ Sheet W w.heap.size w.heap.size dn 0 (rowsOfRoots acc dn tf shf ((kidsOf acc none).take k)) ∧ Stay w.heap.size w9 W) (fun i _ => n - (intOf i).toNat)
            case atStart => exact ⟨0, Nat.zero_le _, rfl, HS9.out, Stay.refl _ _⟩
            case round =>
              obtain ⟨k, hk, rfl, hSk, hstk⟩ := hrel
              obtain ⟨wp, rfl⟩ : ∃ wp : World, wp = wr := ⟨_, rfl⟩
              have HSk := hid hSk; have Hstk := hid hstk
              have hXk := hstk.kt.cells _ _ _ HX9.out (by decide) (by decide)
              have hbk := cell_of (i := 0) (v := .pointer (some ⟨w.heap.size, 0, none⟩)) hXk rfl
              have HMk := hid (hstk.kt.map_is HM9.out)
              have HCk := hid (hstk.kt.chart HC9.out)
              have HGk := hid (hG9.out.stay hstk.below h11)
              have hBk2 := HB9.out.trans hstk.below
              have hsk2 := hBk2.size
              have HBk2 := hid hBk2
              clear hSk hXk hBk2
              by_cases hlt : k < n
              · obtain ⟨b, off, rfl, hcell⟩ := own_arr (hstk.kt.own HO9.out (by decide) (by decide)) (by omega)
                have hkk : k < (kidsOf acc none).length := by rw [Hn.out]; exact hlt
                obtain ⟨q, hq⟩ : ∃ q, (kidsOf acc none)[k] = q := ⟨_, rfl⟩
                have hqm : q ∈ kidsOf acc none := by rw [← hq]; exact List.getElem_mem hkk
                have hql := (mem_kids.1 hqm).1
                have hc := hcell k (.string (nameAt acc q)) (by rw [List.map_map, List.getElem?_map, List.getElem?_eq_getElem hkk, hq]; rfl)
                have Htk : Hid ((kidsOf acc none).take (k + 1) = (kidsOf acc none).take k ++ [q]) := hid (by rw [List.take_succ_eq_append_getElem hkk, hq])
                have hgq : acc[q]? = some (accAt acc q) := by rw [accAt_get (List.getElem?_eq_getElem hql)]; exact List.getElem?_eq_getElem hql
                have hnq : nameAt acc q = (accAt acc q).name := nameAt_get hgq
                have hpl : (pathOf acc q).length = 1 := by rw [R.root_path hqm]; rfl
                have hroom : (rowsOfRoots acc dn tf shf ((kidsOf acc none).take k)).length + (preT acc 6 q).length ≤ 4194304 := by
                  rw [rowsOfRoots_length]
                  have h1 : (((kidsOf acc none).take (k + 1)).flatMap (preT acc 6)).length ≤ (orderT acc).length := by
                    unfold orderT
                    conv => rhs; rw [← List.take_append_drop (k + 1) (kidsOf acc none), List.flatMap_append, List.length_append]
                    omega
                  rw [Htk.out, List.flatMap_append, List.length_append, R.order_length] at h1
                  simp only [List.flatMap_cons, List.flatMap_nil, List.append_nil] at h1
                  omega
                have hd0 : deepA (nameAt acc q) = 0 := by
                  show (pathOf acc q).length - 1 = 0
                  rw [hpl]
                have lk := HMk.out.look Tryz.underlying108 (hzv _) (nameAt acc q) (by
                  have := (good_parts (R.goodAt hql)).1
                  simp only [maxLen]; omega)
                rw [toldM_get] at lk
                have HBr := hid (branch_any R w2.heap.size c m nb rv kv w.heap.size w.heap.size dn hd6 0 mt bals.length tf Hamt.out (toldV tf (nameAt acc q)) (shf (toldV tf (nameAt acc q))) (Hsh.out _) 6 q (accAt acc q) _ wp hgq (by omega) HGk.out HSk.out h11 hsk2 HCk.out HMk.out hroom)
                rw [← hnq, hd0] at HBr
                clear hcell hgq hnq hpl hroom hd0 hkk hq
                go_wp2_with (first | (go_at_call 55; refine HBr.out.mono ?_; rintro e w10 ⟨rfl, hS10, hst10⟩) | fail)
                refine ⟨⟨k + 1, by omega, by go_num, ?_, Hstk.out.trans hst10⟩, by simp [intOf]; omega⟩
                rw [Htk.out]
                unfold rowsOfRoots at hS10 ⊢
                simpa using hS10
              · have hke : k = n := by omega
                subst hke
                have hS11 := HSk.out
                rw [List.take_of_length_le (by rw [Hn.out]; exact Nat.le_refl _)] at hS11
                have HE := hid (end_ok w.heap.size w.heap.size dn _ 56 #[.pointer (some ⟨b8, 0, none⟩)] _ wp hS11 (enters_of Tryz.func56 (by kernel_rfl) rfl) (tree1_any w.heap.size w.heap.size b8 dn _ 3 128 wp hS11 hbk (tree_fit R hd6 Hamt.out Hshl.out)))
                clear hS11
                go_wp2_with (first | (go_at_call 43; refine HE.out.mono ?_; rintro e w12 ⟨⟨r, rfl, hr⟩, hb12⟩) | fail)
                go_ret2
                exact ⟨fun h => absurd HE4.out h, fun _ => ⟨r, rfl, by rw [Htf.out]; exact hr⟩, HBk2.out.trans (hb12.mono hsk2)⟩
end Go.Proofs.YtgbnlemcojgijaaGreatDoor
