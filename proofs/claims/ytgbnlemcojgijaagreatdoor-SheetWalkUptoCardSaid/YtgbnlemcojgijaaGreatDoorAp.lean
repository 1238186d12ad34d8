/- chart: Accounts. -/
import Derived.Test.YtgbnlemcojgijaaGreatDoorAo
namespace Go.Proofs.YtgbnlemcojgijaaGreatDoor
open Go.RowKit Go.Shelf Go.Sort

attribute [local go_sem] Oper.semAt_some

theorem Tryz.infoAcct : (Tryz.prog.info? 31).map (fun i => (i.zero, i.size, i.bytes)) = some (some (.agg #[.string ⟨#[]⟩, .int .i64 0, .int .i64 0, .bool false]), 4, 40) := by kernel_rfl
theorem gives_order (acc : List Acct) : givesL acc 6 (kidsOf acc none) = (orderT acc).map (accAt acc) := by
  unfold givesL orderT
  rw [List.map_flatMap]
theorem gives_perm {acc : List Acct} (R : Rising acc) : (givesL acc 6 (kidsOf acc none)).Perm acc := by
  rw [gives_order]
  have h := R.order_perm.map (accAt acc)
  have e : (List.range acc.length).map (accAt acc) = acc := by
    refine List.ext_getElem (by simp) fun i h1 h2 => ?_
    rw [List.getElem_map, List.getElem_range]
    exact accAt_get (List.getElem?_eq_getElem h2)
  rwa [e] at h
theorem Turns.cell {B : Nat} {A C : World} (h : Turns B A C) {p : Addr} {v : Value} (hc : A.cell? p = some v) : C.cell? p = some v := by
  obtain ⟨o, ho, hi⟩ := cells_of_cell hc
  exact (World.cell?_of_block (by rw [ho]; exact h.block _ _ ho (.inl hi))).trans hc
theorem Turns.accts {B : Nat} {A C : World} (h : Turns B A C) {a : Option Addr} {acc : List Acct} (hA : AcctsAt A a acc) : AcctsAt C a acc := fun h0 => by
  obtain ⟨b, off, e, hc⟩ := hA h0
  exact ⟨b, off, e, fun i x hx => by obtain ⟨h1, h2, h3, h4⟩ := hc i x hx; exact ⟨h.cell h1, h.cell h2, h.cell h3, h.cell h4⟩⟩
theorem Turns.own {B : Nat} {A C : World} (h : Turns B A C) {base : Nat} {e : TypeId} {size n : Nat} {v : Value} {xs : List Value} (ho : A.ownsRow base e size v n xs) : C.ownsRow base e size v n xs :=
  own_same ho fun k hk => by
    obtain ⟨cur, hc⟩ := own_obj ho hk
    rw [hc]
    exact h.block _ _ hc (.inl rfl)
/-- The list that Accounts gathers. -/
def Gath (B0 X : Nat) (pre : List Acct) (W : World) : Prop := ∃ v, Boxed W X 26 v ∧ W.ownsRow B0 31 4 v pre.length (pre.flatMap encA)
theorem KA.grown {W w1 : World} {B0 n z : Nat} {v : Value} {xs : List Value} (ho : W.ownsRow B0 31 z v n xs) (hg : W.grownBy w1 v.ownBlock) : KA W w1 := by
  have key : ∀ (k : Nat) (o : Obj), W.heap[k]? = some o → (∀ cs, o ≠ .cells cs 31) → w1.heap[k]? = some o := fun k o hk hne => (hg.block k ((Array.getElem?_eq_some_iff.1 hk).1) (fun e => by
    obtain ⟨cur, h3⟩ := own_obj ho e.symm
    rw [hk] at h3
    injection h3 with h3
    exact hne _ h3)).trans hk
  exact ⟨hg.size, fun k cs t hk h1 _ => key k _ hk fun cs' e => by injection e with _ e _; exact h1 e, fun k es cl hk => key k _ hk (fun cs e => by cases e), fun k ds hk => key k _ hk (fun cs e => by cases e)⟩
theorem KA.setBox {W : World} {X : Nat} {v : Value} (hX : Boxed W X 26 v) (u : Value) : KA W (W.setCell ⟨X, 0, none⟩ u) := by
  have key : ∀ (k : Nat) (o : Obj), W.heap[k]? = some o → (∀ cs, o ≠ .cells cs 26) → (W.setCell ⟨X, 0, none⟩ u).heap[k]? = some o := fun k o hk hne => (Below.heap_setCell _ _ _ _ (fun e => by
    have e : k = X := e
    subst e
    have hX : W.heap[k]? = some (.cells #[v] 26 (0, 0)) := hX
    rw [hk] at hX
    injection hX with hX
    exact hne _ hX)).trans hk
  exact ⟨by simp [World.setCell], fun k cs t hk _ h2 => key k _ hk fun cs' e => by injection e with _ e _; exact h2 e, fun k es cl hk => key k _ hk (fun cs e => by cases e), fun k ds hk => key k _ hk (fun cs e => by cases e)⟩
theorem cells_new4 (W : World) (x : Acct) : ∀ (j : Nat) (u : Value), (encA x)[j]? = some u → (W.alloc (.cells #[.string x.name, .int .i64 x.typ, .int .i64 x.opened, .bool x.closed] 31)).cell? ((⟨W.heap.size, 0, none⟩ : Addr).add j) = some u := fun j u hj => by
  have ha : (⟨W.heap.size, 0, none⟩ : Addr).add j = ⟨W.heap.size, 0 + j, none⟩ := by unfold Addr.add; split <;> simp_all
  rw [ha, Nat.zero_add, World.cell?_alloc_new]
  rw [← hj]
  simp [encA]

theorem encA_one (x : Acct) : ∀ u ∈ encA x, u.oneCell' = true := fun u hu => by
  simp only [encA, List.mem_cons, List.not_mem_nil, or_false] at hu
  rcases hu with rfl | rfl | rfl | rfl <;> rfl
theorem len_max {n : Nat} (h : n ≤ 100) : n + 1 ≤ maxLen := by unfold maxLen; omega
theorem len_bytes {n : Nat} (h : n ≤ 100) : (n + 1) * 40 ≤ 140737488355328 := by omega
theorem size_alloc_le {n : Nat} {W : World} {o : Obj} (h : n ≤ W.heap.size) : n ≤ (W.alloc o).heap.size := by simp; omega
theorem leaves_one {P : Program} {fn : Func} {tmps : Array Value} {R : Ending → World → Prop} {B D : Nat} (J : World → Prop) (hJ : Stable B J) (hB : B ≤ D) {W : World} (hW : J W) (hD : W.heap[D]? = some (.deferred (some [])))
    (hend : ∀ W, J W → LeavesIn Fence.wide 0 P fn tmps R [] .returning W) : LeavesInM Fence.wide 0 P fn tmps R [markD D] .returning W :=
  leaves_marks B J hJ hend [D] W hW (by simp) fun E hE => by rw [List.mem_singleton] at hE; subst hE; exact ⟨hB, hD⟩

set_option maxRecDepth 100000 in
set_option maxHeartbeats 2000000 in
theorem Accounts_any (B c m : Nat) (acc : List Acct) (nb : Nat → Nat) (rv : Value) (kv : Nat → Value) (R : Rising acc) (w : World) (hC : ChartAt w B c m acc nb rv kv) :
    Calls Tryz.prog 52 #[.pointer (some ⟨c, 0, none⟩)] w fun e w' => (∃ A cap, e = .returned (.slice A acc.length cap) ∧ AcctsAt w' A acc) ∧ Below w.heap.size w w' := by
  refine callsIn_wide.1 (calls_marks Tryz.func52 rfl ?_)
  simp only [Tryz.ntmps52, List.size_toArray, List.length_cons, List.length_nil, Nat.reduceAdd, Nat.reduceSub, Array.replicate_succ, Array.replicate_zero, List.push_toArray, List.append_toArray, List.nil_append, List.cons_append]
  obtain ⟨A, cap, hrv⟩ := own_slice hC.roots
  have hb1 : Below w.heap.size w (w.alloc (.cells #[.slice none 0 0] 26)) := (Below.refl _ _).alloc (Nat.le_refl _) _
  have hroot := hC.chart
  rw [hrv] at hroot
  have c1 := cell_below hb1 (cell_of (i := 1) (v := .slice A (kidsOf acc none).length cap) hroot rfl)
  have hX1 : Boxed (w.alloc (.cells #[.slice none 0 0] 26)) w.heap.size 26 (.slice none 0 0) := Boxed.new _ _ _
  have hz1 : (w.alloc (.cells #[.slice none 0 0] 26)).heap.size = w.heap.size + 1 := by simp
  have HC := hid hC
  have Hrv := hid hrv
  clear hC hrv hroot
  gi_wp2_with (refine ⟨trivial, rfl, ?_⟩; gi_at_call 107; refine (callsIn_wide.2 (below_any A _ cap _)).mono ?_; rintro e w' ⟨rfl, rfl⟩)
  have hb2 : Below (w.alloc (.cells #[.slice none 0 0] 26)).heap.size (w.alloc (.cells #[.slice none 0 0] 26)) ((w.alloc (.cells #[.slice none 0 0] 26)).alloc (.cells #[.slice A (kidsOf acc none).length cap] 119)) := (Below.refl _ _).alloc (Nat.le_refl _) _
  have hX2 := hX1.alloc (.cells #[.slice A (kidsOf acc none).length cap] 119)
  have hY2 : ((w.alloc (.cells #[.slice none 0 0] 26)).alloc (.cells #[.slice A (kidsOf acc none).length cap] 119)).heap[w.heap.size + 1]? = some (.cells #[.slice A (kidsOf acc none).length cap] 119) := by rw [← hz1]; exact heap_alloc_new _ _
  have hC2 := (HC.out.below hb1).below hb2
  have hB2 : Below w.heap.size w ((w.alloc (.cells #[.slice none 0 0] 26)).alloc (.cells #[.slice A (kidsOf acc none).length cap] 119)) := hb1.trans (hb2.mono (by omega))
  have hz2 : ((w.alloc (.cells #[.slice none 0 0] 26)).alloc (.cells #[.slice A (kidsOf acc none).length cap] 119)).heap.size = w.heap.size + 2 := by simp
  obtain ⟨W2, hW2⟩ : ∃ W2, (w.alloc (.cells #[.slice none 0 0] 26)).alloc (.cells #[.slice A (kidsOf acc none).length cap] 119) = W2 := ⟨_, rfl⟩
  rw [hW2] at hb2 hX2 hY2 hC2 hB2 hz2 ⊢
  clear hW2 hb1 c1 hX1 hb2
  have Hz2 := hid hz2
  have HX2 := hid hX2
  have HY2 := hid hY2
  clear hz2 hX2 hY2
  have hk1 := hC2.roots
  rw [Hrv.out] at hk1
  have hlenT : (givesL acc 6 (kidsOf acc none)).length ≤ 100 := by rw [(gives_perm R).length_eq]; exact R.few
  obtain ⟨i0, hi, hzz⟩ := Option.map_eq_some_iff.1 Tryz.infoAcct
  simp only [Prod.mk.injEq] at hzz
  obtain ⟨hq0, hq1, hq2⟩ := hzz
  have hst : ∀ pre, Stable W2.heap.size (fun W' => Gath w.heap.size w.heap.size pre W' ∧ Below w.heap.size w W' ∧ KA W2 W') := by
    rintro pre C D ⟨⟨v, h1, h2⟩, h3, h4⟩ hT
    have := Hz2.out
    exact ⟨⟨v, hT.block _ _ h1 (.inl rfl), hT.own h2⟩, h3.trans (hT.below (by omega) (by have := h3.size; omega)), h4.turns hT (Nat.le_refl _)⟩
  refine wp_rangeAll (w := W2) (gf := 156) (lb := #[.pointer (some ⟨w.heap.size + 1, 0, none⟩)]) rfl (enters_of Tryz.func156 (by kernel_rfl) rfl) (fun x : Acct => #[.agg #[.string x.name, .int .i64 x.typ, .int .i64 x.opened, .bool x.closed]]) KA
    (fun pre W' => Gath w.heap.size w.heap.size pre W' ∧ Below w.heap.size w W' ∧ KA W2 W') (givesL acc 6 (kidsOf acc none)) [] (givesL acc 6 (kidsOf acc none)) (fun _ => rfl) hst (fun _ _ _ => KA.trans) (fun _ _ _ _ hl => KA.put hl) ?hseq
    (fun x a' W' => ∃ bx, a' = { tmps := #[.pointer (some ⟨c, 0, none⟩), undef, .slice none 0 0, .pointer (some ⟨w.heap.size, 0, none⟩), .pointer (some ⟨bx, 0, none⟩), .pointer (some ⟨c, 0, none⟩), .pointer (some ⟨c, 0, none⟩), .pointer (some ⟨c, 1, none⟩), .slice A (kidsOf acc none).length cap, .func (.func 156) #[] #[.pointer (some ⟨w.heap.size + 1, 0, none⟩)], .agg #[.string x.name, .int .i64 x.typ, .int .i64 x.opened, .bool x.closed], undef, undef, undef, undef, undef, undef, undef], defers := [] } ∧ W'.heap[bx]? = some (.cells #[.string x.name, .int .i64 x.typ, .int .i64 x.opened, .bool x.closed] 31)) ?hAx ?assign ?body ⟨⟨_, HX2.out, World.ownsRow_nil _ _ _ _⟩, hB2, KA.refl _⟩ ?done
  case hseq =>
    rintro l2 r2 W5 rfl J' hJ' hY' h0'
    have hb5 : Below W2.heap.size W2 ((W2.alloc (.deferred (some []))).alloc (.loop r2)) := ((Below.refl _ _).alloc (Nat.le_refl _) _).alloc (by simp) _
    have hK5 := KA.below hb5
    exact below1_gives R B c m nb rv kv 6 (kidsOf acc none) A cap (w.heap.size + 1) l2 J' _ [] _ (by rw [List.nil_append]; exact List.prefix_refl _) (fun i hi => by
      rw [R.root_path hi]
      exact ⟨(mem_kids.1 hi).1, by simp⟩) (Nat.le_trans (kidsOf_length _ _) (Nat.le_trans R.few (by decide))) (hK5.chart hC2) (hK5.cells _ _ _ HY2.out (by decide) (by decide)) (hK5.own hk1 (by decide) (by decide)) hJ' hY' h0'
  case hAx =>
    rintro x a' C D ⟨bx, e, hb⟩ hT
    exact ⟨bx, e, hT.block bx _ hb (.inl rfl)⟩
  case assign =>
    rintro l2 pre x W' K _ ⟨hj1, hj2, hj3⟩ hK
    gi_wp2
    have hb6 : Below W'.heap.size W' (W'.alloc (.cells #[.string x.name, .int .i64 x.typ, .int .i64 x.opened, .bool x.closed] 31)) := (Below.refl _ _).alloc (Nat.le_refl _) _
    exact hK _ _ ((KeepsOthers.alloc _ _).from _) (KA.below hb6) (hst _ _ _ ⟨hj1, hj2, hj3⟩ (Turns.alloc _ _ _)) ⟨W'.heap.size, rfl, heap_alloc_new _ _⟩
  case body =>
    rintro l2 pre x a' W' hT2 ⟨⟨v, hbv, hrow⟩, hj2, hj3⟩ ⟨bx, rfl, hbx'⟩
    have x0 := cell_of (i := 0) (v := .string x.name) hbx' rfl
    have x1 := cell_of (i := 1) (v := .int .i64 x.typ) hbx' rfl
    have x2 := cell_of (i := 2) (v := .int .i64 x.opened) hbx' rfl
    have x3 := cell_of (i := 3) (v := .bool x.closed) hbx' rfl
    have xv := hbv.cell
    have hpl : pre.length ≤ 100 := by
      have := hT2.length_le
      rw [List.length_append] at this
      omega
    have hsz := hj2.size
    obtain ⟨A', cap', rfl⟩ := own_slice hrow
    have Hbv := hid hbv
    have HT2 := hid hT2
    clear hbx' hbv hT2
    gi_wp2_with (gi_at_builtin; refine wpListIn_append_own _ rfl _ _ 26 rfl w.heap.size 31 i0 _ 4 40 Tryz.underlying26 hi hq0 hq1 hq2 rfl (by decide) _ _ _ rfl (hrow.alloc _) ⟨W'.heap.size, 0, none⟩ 1 1 (encA x) rfl rfl (cells_new4 W' x) (encA_one x) (len_max hpl) (len_bytes hpl) (size_alloc_le hsz) ?_; intro v' w1 hown' hgrow _; obtain ⟨A1, cap1, rfl⟩ := own_slice hown'; obtain ⟨hv1, hv2, hr2, hk2, hb2'⟩ := Boxed.appended Hbv.out (by decide) hrow hsz (Nat.le_refl _) hown' hgrow; have hc1 := hv1.cell; have hf1 := hv1.frozen)
    have hka : KA W' (w1.setCell ⟨w.heap.size, 0, none⟩ (.slice A1 (pre.length + 1) cap1)) := ((KA.alloc W' _).trans (KA.grown (hrow.alloc _) hgrow)).trans (KA.setBox hv1 _)
    refine ⟨hk2.from _, hka, ⟨_, hv2, ?_⟩, hj2.trans hb2', hj3.trans hka⟩
    rw [List.length_append, List.flatMap_append]
    simpa using hr2
  case done =>
    rintro W' ⟨⟨v, hbv, hrow⟩, hj2, hj3⟩ hD'
    rw [List.nil_append] at hrow
    have hlen := (gives_perm R).length_eq
    rcases hrow.2 with ⟨rfl, h0⟩ | ⟨g, cap', cur, rfl, hg1, hg2, _, _, _, hg3⟩
    · have h0' : acc.length = 0 := by omega
      have xv := hbv.cell
      have H0 := hid h0'
      clear h0 h0' hlen hrow hbv
      gi_wp2_with (refine ⟨trivial, rfl, ?_⟩; gi_at_call 86; refine (callsIn_wide.2 (sort_none 0 _ W')).mono ?_; rintro e w' ⟨rfl, rfl⟩)
      refine leaves_one (B := W2.heap.size) (fun W => AcctsAt W none acc ∧ Below w.heap.size w W) ?_ (Nat.le_refl _) ⟨fun h => absurd h (by have := H0.out; omega), hj2⟩ hD' (fun W h => ⟨_, results_tmp rfl _ _ _, ⟨none, 0, by rw [H0.out]; rfl, h.1⟩, h.2⟩)
      rintro C D ⟨h1, h2⟩ hT
      exact ⟨hT.accts h1, h2.trans (hT.below (by have := Hz2.out; omega) h2.size)⟩
    · have xv := hbv.cell
      have hs := sort_accts 108 (enters_of Tryz.func108 (by kernel_rfl) rfl) (fun a b w => accCmp a b w) g cap' (givesL acc 6 (kidsOf acc none)) acc R (gives_perm R) W' cur hg2 hg3
      rw [hlen] at hs xv
      have Hs := hid hs
      have Hbv := hid hbv
      have Hg2 := hid hg2
      have Hrow := hid hrow
      clear hs hbv hg2 hg3 hrow hlen
      gi_wp2_with (refine ⟨trivial, rfl, ?_⟩; gi_at_call 86; refine (callsIn_wide.2 Hs.out).mono ?_; rintro e w3 ⟨rfl, hA3, hK3⟩; have xv3 := hK3.cell xv (fun e => obj_ne Hbv.out Hg2.out (by decide) e))
      have hD3 : w3.heap[W2.heap.size]? = some (.deferred (some [])) := (hK3.block _ (lt_of_heap hD') (fun e => by
        have e : W2.heap.size = g := e
        rw [e, Hg2.out] at hD'
        cases hD')).trans hD'
      refine leaves_one (B := W2.heap.size) (fun W => AcctsAt W (some ⟨g, 0, none⟩) acc ∧ Below w.heap.size w W) ?_ (Nat.le_refl _) ⟨hA3, hj2.trans (hK3.belowAt hj2.size (fun i e => by subst e; exact hg1))⟩ hD3 (fun W h => ⟨_, results_tmp rfl _ _ _, ⟨some ⟨g, 0, none⟩, cap', rfl, h.1⟩, h.2⟩)
      rintro C D ⟨h1, h2⟩ hT
      exact ⟨hT.accts h1, h2.trans (hT.below (by have := Hz2.out; omega) h2.size)⟩
end Go.Proofs.YtgbnlemcojgijaaGreatDoor
