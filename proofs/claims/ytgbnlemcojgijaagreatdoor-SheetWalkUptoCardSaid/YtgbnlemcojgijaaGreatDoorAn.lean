/- chart: the iterator below, walked: it gives each account, then all below it. -/
import Derived.Test.YtgbnlemcojgijaaGreatDoorAl
import Derived.Test.YtgbnlemcojgijaaGreatDoorAm
import Derived.Shelf.Abstract
import Derived.Shelf.RegionOpen
import Derived.WalkKit
import Derived.OwnWalkIn
import Derived.TacticsInMore
import Derived.LoopNIn
import Derived.LoopIn
namespace Go.Proofs.YtgbnlemcojgijaaGreatDoor
open Go.RowKit Go.Shelf Go.Sort

attribute [local go_sem] Oper.semAt_some

/-- Lists of accounts may have turned, and records of loops: nothing else. -/
structure KA (A C : World) : Prop where
  size : A.heap.size ≤ C.heap.size
  cells : ∀ (k : Nat) (cs : Array Value) (t : TypeId), A.heap[k]? = some (.cells cs t) → t ≠ 31 → t ≠ 26 → C.heap[k]? = some (.cells cs t)
  map : ∀ (k : Nat) (es : Array MapEntry) (cl : Nat), A.heap[k]? = some (.map es cl) → C.heap[k]? = some (.map es cl)
  defd : ∀ (k : Nat) (ds : Option (List Deferred)), A.heap[k]? = some (.deferred ds) → C.heap[k]? = some (.deferred ds)
theorem KA.refl (A : World) : KA A A := ⟨Nat.le_refl _, fun _ _ _ h _ _ => h, fun _ _ _ h => h, fun _ _ h => h⟩
theorem KA.trans {A C D : World} (h : KA A C) (k : KA C D) : KA A D :=
  ⟨Nat.le_trans h.size k.size, fun i cs t hi h1 h2 => k.cells i cs t (h.cells i cs t hi h1 h2) h1 h2, fun i es cl hi => k.map i es cl (h.map i es cl hi), fun i ds hi => k.defd i ds (h.defd i ds hi)⟩
theorem KA.below {A C : World} (h : Below A.heap.size A C) : KA A C :=
  ⟨h.size, fun k _ _ hk _ _ => (h.block k (lt_of_heap hk)).trans hk, fun k _ _ hk => (h.block k (lt_of_heap hk)).trans hk, fun k _ hk => (h.block k (lt_of_heap hk)).trans hk⟩
theorem KA.alloc (A : World) (o : Obj) : KA A (A.alloc o) := KA.below ((Below.refl _ _).alloc (Nat.le_refl _) _)
theorem KA.put {A : World} {l : Nat} {r r' : Loop} (hl : A.heap[l]? = some (.loop r)) : KA A (A.putObj l (.loop r')) :=
  ⟨by simp, fun k _ _ hk _ _ => (World.putObj_heap_other (fun e => by subst e; rw [hl] at hk; cases hk)).trans hk,
   fun k _ _ hk => (World.putObj_heap_other (fun e => by subst e; rw [hl] at hk; cases hk)).trans hk,
   fun k _ hk => (World.putObj_heap_other (fun e => by subst e; rw [hl] at hk; cases hk)).trans hk⟩
theorem KA.turns {B : Nat} {A C D : World} (h : KA A C) (hT : Turns B C D) (hB : A.heap.size ≤ B) : KA A D :=
  ⟨Nat.le_trans h.size hT.size, fun k cs t hk h1 h2 => hT.block k _ (h.cells k cs t hk h1 h2) (.inl rfl), fun k es cl hk => hT.block k _ (h.map k es cl hk) (.inr (by have := lt_of_heap hk; omega)),
   fun k ds hk => hT.block k _ (h.defd k ds hk) (.inr (by have := lt_of_heap hk; omega))⟩
theorem KA.map_is {A C : World} {b n : Nat} {f : List UInt8 → Option Value} (h : KA A C) (hm : MapIs A b n f) : MapIs C b n f := by
  obtain ⟨es, cl, hb⟩ := hm.block
  exact hm.same ((h.map b es cl hb).trans hb.symm)
theorem KA.own {A C : World} {base : Nat} {e : TypeId} {size n : Nat} {v : Value} {xs : List Value} (h : KA A C) (ho : A.ownsRow base e size v n xs) (h1 : e ≠ 31) (h2 : e ≠ 26) : C.ownsRow base e size v n xs :=
  own_same ho fun k hk => by
    obtain ⟨cur, hc⟩ := own_obj ho hk
    rw [h.cells k cur e hc h1 h2, hc]
theorem KA.chart {A C : World} {B c m : Nat} {acc : List Acct} {nb : Nat → Nat} {rv : Value} {kv : Nat → Value} (h : KA A C) (hC : ChartAt A B c m acc nb rv kv) : ChartAt C B c m acc nb rv kv :=
  { hC with
    chart := h.cells _ _ _ hC.chart (by decide) (by decide)
    map := h.map_is hC.map
    node := fun i a ha => h.cells _ _ _ (hC.node i a ha) (by decide) (by decide)
    kids := fun i a ha => h.own (hC.kids i a ha) (by decide) (by decide)
    roots := h.own hC.roots (by decide) (by decide) }

def accAt (acc : List Acct) (j : Nat) : Acct := acc.getD j zeroAcct
theorem accAt_get {acc : List Acct} {j : Nat} {a : Acct} (h : acc[j]? = some a) : accAt acc j = a := by
  unfold accAt; rw [List.getD_eq_getElem?_getD, h]; rfl
def givesL (acc : List Acct) (h : Nat) (js : List Nat) : List Acct := js.flatMap fun j => (preT acc h j).map (accAt acc)
theorem givesL_snoc (acc : List Acct) (h : Nat) {js : List Nat} {k : Nat} (hk : k < js.length) : givesL acc h (js.take (k + 1)) = givesL acc h (js.take k) ++ (preT acc h js[k]).map (accAt acc) := by
  unfold givesL
  rw [List.take_succ_eq_append_getElem hk, List.flatMap_append]
  simp
theorem givesL_prefix (acc : List Acct) (h : Nat) (js : List Nat) (k : Nat) : givesL acc h (js.take k) <+: givesL acc h js := by
  unfold givesL
  conv => rhs; rw [← List.take_append_drop k js, List.flatMap_append]
  exact List.prefix_append _ _
theorem pre_succ (acc : List Acct) (h j : Nat) : (preT acc (h + 1) j).map (accAt acc) = [accAt acc j] ++ givesL acc h (kidsOf acc (some (nameAt acc j))) := by
  show (j :: _).map _ = _
  rw [List.map_cons, List.map_flatMap]
  rfl

/-- What a call of yield does. -/
def YieldsOn (l B : Nat) (T : List Acct) (J : List Acct → World → Prop) : Prop :=
  ∀ pre (x : Acct) W1, pre ++ [x] <+: T → J pre W1 → YieldAt Fence.wide 0 Tryz.prog l #[x.v] W1 fun e W' => e = .returned (.bool true) ∧ J (pre ++ [x]) W' ∧ KA W1 W' ∧ KeepsFrom B W1 W'
/-- What the iterator of accounts js gives. -/
def BelowGives (acc : List Acct) (B c m : Nat) (nb : Nat → Nat) (rv : Value) (kv : Nat → Value) (h : Nat) : Prop :=
  ∀ (js : List Nat) (A : Option Addr) (cap b l : Nat) (J : List Acct → World → Prop) (T pre0 : List Acct) (W : World), pre0 ++ givesL acc h js <+: T →
    (∀ j ∈ js, j < acc.length ∧ 7 ≤ (pathOf acc j).length + h) → js.length ≤ 1048576 → ChartAt W B c m acc nb rv kv →
    W.heap[b]? = some (.cells #[.slice A js.length cap] 119) → W.ownsRow B 117 1 (.slice A js.length cap) js.length (js.map fun j => ptrV (nb j)) →
    (∀ pre, Stable W.heap.size (J pre)) → YieldsOn l W.heap.size T J → J pre0 W →
    CallsIn Fence.wide 0 Tryz.prog 156 #[.func (.yield l) #[] #[], .pointer (some ⟨b, 0, none⟩)] W fun e W' => (∃ v, e = .returned v) ∧ J (pre0 ++ givesL acc h js) W'

set_option maxRecDepth 100000 in
set_option maxHeartbeats 2000000 in
theorem below1_step {acc : List Acct} (R : Rising acc) (B c m : Nat) (nb : Nat → Nat) (rv : Value) (kv : Nat → Value) (h : Nat) (ih : ∀ h', h' < h → BelowGives acc B c m nb rv kv h') : BelowGives acc B c m nb rv kv h := by
  intro js A cap b l J T pre0 W hT hjs hn hC hb hown hJ hY h0
  refine calls_marks Tryz.func156 rfl ?_
  simp only [Tryz.ntmps156, List.size_toArray, List.length_cons, List.length_nil, Nat.reduceAdd, Nat.reduceSub, Array.replicate_succ, Array.replicate_zero, List.push_toArray, List.append_toArray, List.nil_append, List.cons_append]
  have hbw : Below W.heap.size W (W.alloc (.cells #[.func (.yield l) #[] #[]] 184)) := (Below.refl _ _).alloc (Nat.le_refl _) _
  have hbc := cell_below hbw (cell_of (i := 0) (v := .slice A js.length cap) hb rfl)
  gi_wp2
  have hbx : (W.alloc (.cells #[.func (.yield l) #[] #[]] 184)).heap[W.heap.size]? = some (.cells #[.func (.yield l) #[] #[]] 184) := heap_alloc_new _ _
  have hC1 := hC.below hbw
  have hown1 := own_below hown hbw
  have h01 : J pre0 (W.alloc (.cells #[.func (.yield l) #[] #[]] 184)) := hJ _ _ _ h0 (Turns.alloc _ _ _)
  have hz1 : W.heap.size ≤ (W.alloc (.cells #[.func (.yield l) #[] #[]] 184)).heap.size := by simp
  obtain ⟨W1, hW1⟩ : ∃ W1, W.alloc (.cells #[.func (.yield l) #[] #[]] 184) = W1 := ⟨_, rfl⟩
  rw [hW1] at hbx hC1 hown1 h01 hz1 ⊢
  clear hbc hbw hW1 hb hC hown h0
  refine wpIn_loop (fun a' w' => ∃ (k : Nat) (u4 u5 u9 u10 u11 u12 u13 u14 u15 u16 u17 u18 u19 u20 u21 u22 u23 u24 u25 u26 u27 u28 u29 : Value) (Ds : List Nat),
      a' = { tmps := #[.func (.yield l) #[] #[], .pointer (some ⟨b, 0, none⟩), .pointer (some ⟨W.heap.size, 0, none⟩), undef, u4, u5, .slice A js.length cap, .int .i64 js.length, .int .i64 k, u9, u10, u11, u12, u13, u14, u15, u16, u17, u18, u19, u20, u21, u22, u23, u24, u25, u26, u27, u28, u29], defers := Ds.map markD } ∧
      k ≤ js.length ∧ J (pre0 ++ givesL acc h (js.take k)) w' ∧ KA W1 w' ∧ Ds.Nodup ∧ ∀ D ∈ Ds, W.heap.size ≤ D ∧ w'.heap[D]? = some (.deferred (some [])))
    (fun a' _ => js.length - (intOf (a'.tmps.getD 8 undef)).toNat) ?_ ?_
  · exact ⟨0, _, _, _, _, _, _, _, _, _, _, _, _, _, _, _, _, _, _, _, _, _, _, _, [], rfl, Nat.zero_le _, by simpa [givesL] using h01, KA.refl _, List.nodup_nil, fun D hD => by cases hD⟩
  · rintro _ wr ⟨k, u4, u5, u9, u10, u11, u12, u13, u14, u15, u16, u17, u18, u19, u20, u21, u22, u23, u24, u25, u26, u27, u28, u29, Ds, rfl, hk, hJk, hKA, hDn, hD⟩
    have hbxr := hKA.cells _ _ _ hbx (by decide) (by decide)
    have hcbx := cell_of (i := 0) (v := .func (.yield l) #[] #[]) hbxr rfl
    have hCr := hKA.chart hC1
    by_cases hlt : k < js.length
    · obtain ⟨h', rfl⟩ : ∃ h', h = h' + 1 := ⟨h - 1, by
        have h1 := hjs js[k] (List.getElem_mem hlt)
        have h2 := R.path6 h1.1
        omega⟩
      have hA := own_arr (hKA.own hown1 (by decide) (by decide))
      obtain ⟨b0, off, rfl, hcell⟩ := hA (by omega)
      have hjl := (hjs js[k] (List.getElem_mem hlt)).1
      have hc := hcell k (.pointer (some ⟨nb js[k], 0, none⟩)) (by simp [List.getElem?_map, List.getElem?_eq_getElem hlt]; rfl)
      have hnode := hCr.node js[k] _ (hCr.get hjl)
      obtain ⟨a, ha⟩ : ∃ a, acc[js[k]] = a := ⟨_, rfl⟩
      have hga : acc[js[k]]? = some a := by rw [← ha]; exact hCr.get hjl
      rw [ha] at hnode
      obtain ⟨j, hjk⟩ : ∃ j, js[k] = j := ⟨_, rfl⟩
      have Hjk := hid hjk
      rw [hjk] at hc hnode hga hjl
      clear hcell ha hjk hA
      have hdr : Below wr.heap.size wr wr.drew := below_of_drewN wr 1
      have n0 := cell_below hdr (cell_of (i := 0) (v := .string a.name) hnode rfl)
      have n1 := cell_below hdr (cell_of (i := 1) (v := .int .i64 a.typ) hnode rfl)
      have n2 := cell_below hdr (cell_of (i := 2) (v := .int .i64 a.opened) hnode rfl)
      have n3 := cell_below hdr (cell_of (i := 3) (v := .bool a.closed) hnode rfl)
      have nx := cell_below hdr hcbx
      have hnx : pre0 ++ givesL acc (h' + 1) (js.take (k + 1)) = pre0 ++ givesL acc (h' + 1) (js.take k) ++ [a] ++ givesL acc h' (kidsOf acc (some a.name)) := by
        rw [givesL_snoc acc (h' + 1) hlt, pre_succ, Hjk.out, accAt_get hga, nameAt_get hga]
        simp
      have hTk : pre0 ++ givesL acc (h' + 1) (js.take (k + 1)) <+: T := List.IsPrefix.trans ((List.prefix_append_right_inj _).2 (givesL_prefix _ _ _ _)) hT
      rw [hnx] at hTk
      have hnext := hid hnx
      have HTk := hid hTk
      clear hnx hTk
      obtain ⟨fn, tmps, assign, body, hy, hR⟩ := hY _ a wr.drew (List.IsPrefix.trans (List.prefix_append _ _) HTk.out) (hJ _ _ _ hJk (Turns.drew _ _))
      have HR := hid hR
      simp only [Acct.v] at hy
      have HD := hid hD
      have HDn := hid hDn
      have HJk := hid hJk
      have Hga := hid hga
      have Hjl := hid hjl
      clear hR hD hDn hJk hga hjl
      gi_wp2
      gi_region_with (refine ⟨rfl, HR.out.mono ?_⟩; rintro e W3 ⟨rfl, hJ3, hK3, hF3⟩)
      all_goals
        have hK := hKA.trans ((KA.below hdr).trans hK3)
        have hC3 := hK.chart hC1
        have hk3 := hC3.kids j a Hga.out
        have hnode3 := hC3.node j a Hga.out
        obtain ⟨A2, cap2, e2⟩ := own_slice hk3
        rw [e2] at hk3 hnode3
        have n4 := cell_of (i := 4) (v := .slice A2 (kidsOf acc (some a.name)).length cap2) hnode3 rfl
        have hbx3 := hK.cells _ _ _ hbx (by decide) (by decide)
        have HK := hid hK
        have Hk3 := hid hk3
        clear hK hnode3 e2 n0 n1 n2 n3 nx hy HR hc hcbx hbxr hCr hnode hk3
        gi_wp2_with (refine ⟨trivial, rfl, ?_⟩; gi_at_call 107; refine (callsIn_wide.2 (below_any A2 _ cap2 W3)).mono ?_; rintro e w' ⟨rfl, rfl⟩)
        have hb4 : Below W3.heap.size W3 (W3.alloc (.cells #[.slice A2 (kidsOf acc (some a.name)).length cap2] 119)) := (Below.refl _ _).alloc (Nat.le_refl _) _
        have hJ4 := hJ _ _ _ hJ3 (Turns.alloc _ W3 (.cells #[.slice A2 (kidsOf acc (some a.name)).length cap2] 119))
        have hx4 : (W3.alloc (.cells #[.slice A2 (kidsOf acc (some a.name)).length cap2] 119)).heap[W3.heap.size]? = some (.cells #[.slice A2 (kidsOf acc (some a.name)).length cap2] 119) := heap_alloc_new _ _
        have hz4 : (W3.alloc (.cells #[.slice A2 (kidsOf acc (some a.name)).length cap2] 119)).heap.size = W3.heap.size + 1 := by simp
        have hW3 := Nat.le_trans hz1 HK.out.size
        obtain ⟨W4, hW4⟩ : ∃ W4, W3.alloc (.cells #[.slice A2 (kidsOf acc (some a.name)).length cap2] 119) = W4 := ⟨_, rfl⟩
        rw [hW4] at hb4 hJ4 hx4 hz4 ⊢
        have hK4 := KA.below hb4
        have hC4 := hK4.chart hC3
        have hk4 := hK4.own Hk3.out (by decide) (by decide)
        have hbx4 := hK4.cells _ _ _ hbx3 (by decide) (by decide)
        refine wp_rangeAll (w := W4) (gf := 156) (lb := #[.pointer (some ⟨W3.heap.size, 0, none⟩)]) rfl (enters_of Tryz.func156 (by kernel_rfl) rfl) (fun x : Acct => #[.agg #[.string x.name, .int .i64 x.typ, .int .i64 x.opened, .bool x.closed]]) KA
          (fun pre W' => J pre W' ∧ KA W4 W') T (pre0 ++ givesL acc (h' + 1) (js.take k) ++ [a]) (givesL acc h' (kidsOf acc (some a.name))) (fun _ => rfl) ?hJ (fun _ _ _ => KA.trans) (fun _ _ _ _ hl => KA.put hl) ?hseq
          (fun x a' W' => ∃ bx, a' = { tmps := #[.func (.yield l) #[] #[], .pointer (some ⟨b, 0, none⟩), .pointer (some ⟨W.heap.size, 0, none⟩), undef, .pointer (some ⟨nb j, 0, none⟩), .pointer (some ⟨bx, 0, none⟩), .slice (some ⟨b0, off, none⟩) js.length cap, .int .i64 js.length, .int .i64 k, .bool true, .pointer (some ⟨b0, off + k, none⟩), .pointer (some ⟨nb j, 0, none⟩), .func (.yield l) #[] #[], .pointer (some ⟨nb j, 0, none⟩), .pointer (some ⟨nb j, 0, none⟩), .pointer (some ⟨nb j, 0, none⟩), .agg #[.string a.name, .int .i64 a.typ, .int .i64 a.opened, .bool a.closed], .bool true, .bool false, .pointer (some ⟨nb j, 0, none⟩), .pointer (some ⟨nb j, 0, none⟩), .pointer (some ⟨nb j, 4, none⟩), .slice A2 (kidsOf acc (some a.name)).length cap2, .func (.func 156) #[] #[.pointer (some ⟨W3.heap.size, 0, none⟩)], .agg #[.string x.name, .int .i64 x.typ, .int .i64 x.opened, .bool x.closed], u25, u26, u27, u28, u29], defers := [] } ∧ W'.heap[bx]? = some (.cells #[.string x.name, .int .i64 x.typ, .int .i64 x.opened, .bool x.closed] 31)) ?hAx ?assign ?body ⟨hJ4, KA.refl _⟩ ?done
        case hJ =>
          rintro pre A C ⟨h1, h2⟩ hT
          exact ⟨hJ pre A C h1 (hT.mono (by omega)), h2.turns hT (Nat.le_refl _)⟩
        case hseq =>
          rintro l2 r2 W5 rfl J' hJ' hY' h0'
          have hb5 : Below W4.heap.size W4 ((W4.alloc (.deferred (some []))).alloc (.loop r2)) := ((Below.refl _ _).alloc (Nat.le_refl _) _).alloc (by simp) _
          have hK5 := KA.below hb5
          exact ih h' (Nat.lt_succ_self _) (kidsOf acc (some a.name)) A2 cap2 W3.heap.size l2 J' T _ _ HTk.out (fun i hi => by
            rw [← nameAt_get Hga.out] at hi
            obtain ⟨x, ex, _⟩ := R.kid_path hi
            have := (hjs js[k] (List.getElem_mem hlt)).2
            rw [Hjk.out] at this
            exact ⟨(mem_kids.1 hi).1, by rw [ex, List.length_append, List.length_singleton]; omega⟩) (Nat.le_trans (kidsOf_length _ _) (Nat.le_trans R.few (by decide))) (hK5.chart hC4) (hK5.cells _ _ _ hx4 (by decide) (by decide)) (hK5.own hk4 (by decide) (by decide)) hJ' hY' h0'
        case hAx =>
          rintro x a' A C ⟨bx, e, hb⟩ hT
          exact ⟨bx, e, hT.block bx _ hb (.inl rfl)⟩
        case assign =>
          rintro l2 pre x W' K _ ⟨hj1, hk1⟩ hK
          gi_wp2
          have hb6 : Below W'.heap.size W' (W'.alloc (.cells #[.string x.name, .int .i64 x.typ, .int .i64 x.opened, .bool x.closed] 31)) := (Below.refl _ _).alloc (Nat.le_refl _) _
          exact hK _ _ ((KeepsOthers.alloc _ _).from _) (KA.below hb6) ⟨hJ _ _ _ hj1 (Turns.alloc _ _ _), hk1.trans (KA.below hb6)⟩ ⟨W'.heap.size, rfl, heap_alloc_new _ _⟩
        case body =>
          rintro l2 pre x a' W' hT2 ⟨hj1, hk1⟩ ⟨bx, rfl, hbx'⟩
          have x0 := cell_of (i := 0) (v := .string x.name) hbx' rfl
          have x1 := cell_of (i := 1) (v := .int .i64 x.typ) hbx' rfl
          have x2 := cell_of (i := 2) (v := .int .i64 x.opened) hbx' rfl
          have x3 := cell_of (i := 3) (v := .bool x.closed) hbx' rfl
          have xb := cell_of (i := 0) (v := .func (.yield l) #[] #[]) (hk1.cells _ _ _ hbx4 (by decide) (by decide)) rfl
          obtain ⟨fn2, tmps2, assign2, body2, hy2, hR2⟩ := hY _ x W' hT2 hj1
          have HR2 := hid hR2
          simp only [Acct.v] at hy2
          clear hR2 hbx'
          gi_wp2_with (refine ⟨rfl, HR2.out.mono ?_⟩; rintro e W6 ⟨rfl, hJ6, hK6, hF6⟩)
          exact ⟨KeepsFrom.mono hF6 (by omega), hJ6, hk1.trans hK6⟩
        case done =>
          rintro W' ⟨hj1, hk1⟩ hD'
          have hall := HK.out.trans (hK4.trans hk1)
          gi_wp2
          refine ⟨⟨k + 1, _, _, _, _, _, _, _, _, _, _, _, _, _, _, _, _, _, _, _, _, _, _, _, W4.heap.size :: Ds, rfl, by omega, by rw [hnext.out]; exact hj1, hall, List.nodup_cons.2 ⟨fun hm => ?_, HDn.out⟩, fun D hm => ?_⟩, by simp [intOf]; omega⟩
          · have h1 := (HD.out _ hm).2
            have h2 := lt_of_heap h1
            have h3 := (hdr.size)
            have h4 := hK3.size
            omega
          · rcases List.mem_cons.1 hm with rfl | hm
            · exact ⟨by omega, hD'⟩
            · obtain ⟨h1, h2⟩ := HD.out D hm
              exact ⟨h1, ((((KA.below hdr).trans hK3).trans hK4).trans hk1).defd _ _ h2⟩
    · have hke : k = js.length := by omega
      have HD := hid hD
      have HDn := hid hDn
      have HJk := hid hJk
      clear hD hDn hJk
      gi_wp2
      refine leaves_marks W.heap.size (J (pre0 ++ givesL acc h js)) (hJ _) (fun W' h2 => ⟨_, results_none rfl _ _ _, ⟨_, rfl⟩, h2⟩) Ds wr ?_ HDn.out HD.out
      have h3 := HJk.out
      rw [List.take_of_length_le (by omega)] at h3
      exact h3
theorem below1_gives {acc : List Acct} (R : Rising acc) (B c m : Nat) (nb : Nat → Nat) (rv : Value) (kv : Nat → Value) (h : Nat) : BelowGives acc B c m nb rv kv h := by
  induction h using Nat.strongRecOn with
  | _ h ih => exact below1_step R B c m nb rv kv h ih
end Go.Proofs.YtgbnlemcojgijaaGreatDoor
