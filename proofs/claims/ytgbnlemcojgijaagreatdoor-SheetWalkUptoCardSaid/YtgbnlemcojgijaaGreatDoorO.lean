/- chart: From. -/
import Derived.Test.YtgbnlemcojgijaaGreatDoorL
import Derived.Shelf.SlSortCmp.QuietGrown
namespace Go.Proofs.YtgbnlemcojgijaaGreatDoor
open Go.RowKit Go.Shelf Go.Sort

theorem less_cmp : ∀ (a b : List UInt8), Op.bytesLess a b = decide (Lib.compareBytes a b < 0)
  | [], [] => rfl
  | [], _ :: _ => rfl
  | _ :: _, [] => rfl
  | x :: a, y :: b => by
    unfold Op.bytesLess Lib.compareBytes
    by_cases h : x < y
    · simp [h]
    · by_cases h2 : y < x
      · have hne : ¬ x = y := fun e => by subst e; exact UInt8.lt_irrefl _ h2
        simp [h, h2, hne]
      · have he : x = y := UInt8.le_antisymm (UInt8.not_lt.1 h2) (UInt8.not_lt.1 h)
        subst he
        simp [less_cmp a b]
theorem less_S (a b : ByteArray) : Op.bytesLess a.toList b.toList = decide (cmpS a b < 0) := by
  rw [ByteArray.toList_eq, ByteArray.toList_eq, less_cmp]
  rfl

/-- The slice that begins at A holds these accounts. -/
def AcctsAt (w : World) (A : Option Addr) (acc : List Acct) : Prop :=
  0 < acc.length → ∃ b off, A = some ⟨b, off, none⟩ ∧ ∀ (i : Nat) (a : Acct), acc[i]? = some a →
    w.cell? ⟨b, off + i * 4, none⟩ = some (.string a.name) ∧ w.cell? ⟨b, off + i * 4 + 1, none⟩ = some (.int .i64 a.typ) ∧ w.cell? ⟨b, off + i * 4 + 2, none⟩ = some (.int .i64 a.opened) ∧ w.cell? ⟨b, off + i * 4 + 3, none⟩ = some (.bool a.closed)
theorem AcctsAt.below {w w' : World} {A : Option Addr} {acc : List Acct} (h : AcctsAt w A acc) (hb : Below w.heap.size w w') : AcctsAt w' A acc := fun h0 => by
  obtain ⟨b, off, e, hc⟩ := h h0
  exact ⟨b, off, e, fun i a ha => by obtain ⟨h1, h2, h3, h4⟩ := hc i a ha; exact ⟨cell_below hb h1, cell_below hb h2, cell_below hb h3, cell_below hb h4⟩⟩

theorem lt_of_cell {w : World} {p : Addr} {v : Value} (h : w.cell? p = some v) : p.block < w.heap.size := World.block_lt_of_cell? w p h

def findA (acc : List Acct) (p : ByteArray) : Option Acct := acc.find? fun b => L b.name == L p
/-- May this account come behind those? -/
def stepOk (pre : List Acct) (a : Acct) : Bool :=
  goodB a.name && (match pre.getLast? with | none => true | some b => decide (cmpS b.name a.name < 0)) && dayB a.opened && decide (1 ≤ a.typ) && decide (a.typ ≤ 5) &&
  (match upB a.name with
   | none => true
   | some p => match findA pre p with
     | none => false
     | some b => decide (b.typ = a.typ) && decide (b.opened ≤ a.opened) && (!b.closed || a.closed))
def chartOk (acc : List Acct) : Bool := decide (acc.length ≤ 100) && (List.range acc.length).all fun i => match acc[i]? with | some a => stepOk (acc.take i) a | none => true

theorem chartOk_no {acc : List Acct} {k : Nat} {a : Acct} (hk : acc[k]? = some a) (h : stepOk (acc.take k) a = false) : chartOk acc = false := by
  unfold chartOk
  rw [Bool.and_eq_false_iff]
  refine .inr (Bool.eq_false_iff.2 fun hall => ?_)
  have h1 := List.all_eq_true.1 hall k (List.mem_range.2 (get_lt hk))
  rw [hk] at h1
  simp only [h] at h1
  cases h1
theorem chartOk_yes {acc : List Acct} (h100 : acc.length ≤ 100) (h : ∀ (j : Nat) (a : Acct), acc[j]? = some a → stepOk (acc.take j) a = true) : chartOk acc = true := by
  unfold chartOk
  rw [decide_eq_true h100, Bool.true_and]
  refine List.all_eq_true.2 fun j hj => ?_
  cases hx : acc[j]? with
  | none => rfl
  | some a => exact h j a hx
theorem last_take (acc : List Acct) (k : Nat) (h : k ≤ acc.length) : (acc.take k).getLast? = if k = 0 then none else acc[k - 1]? := by
  rw [List.getLast?_eq_getElem?, List.length_take, Nat.min_eq_left h]
  by_cases hk : k = 0
  · subst hk; simp
  · rw [if_neg hk, List.getElem?_take_of_lt (by omega)]
theorem find_or (pre : List Acct) (nb : Nat → Nat) (p : ByteArray) : (findA pre p = none ∧ byName pre nb (L p) = none) ∨ ∃ (i : Nat) (b : Acct), pre[i]? = some b ∧ findA pre p = some b ∧ byName pre nb (L p) = some (ptrV (nb i)) ∧ b.name = p := by
  unfold findA byName
  cases hf : pre.findIdx? (fun a => L a.name == L p) with
  | none =>
    refine .inl ⟨?_, rfl⟩
    have := List.findIdx?_eq_none_iff.1 hf
    exact List.find?_eq_none.2 fun x hx => by simpa using this x hx
  | some i =>
    obtain ⟨hi, h1, h2⟩ := List.findIdx?_eq_some_iff_getElem.1 hf
    refine .inr ⟨i, pre[i], List.getElem?_eq_getElem hi, ?_, rfl, L_inj (by simpa using h1)⟩
    refine List.find?_eq_some_iff_getElem.2 ⟨h1, i, hi, rfl, fun j hj => ?_⟩
    simpa using h2 j hj
theorem take_snoc {α : Type} {l : List α} {k : Nat} {a : α} (h : l[k]? = some a) : l.take (k + 1) = l.take k ++ [a] := by
  obtain ⟨hk, rfl⟩ := List.getElem?_eq_some_iff.1 h
  exact List.take_succ_eq_append_getElem hk
def step1 (pre : List Acct) (a : Acct) : Bool := goodB a.name && (match pre.getLast? with | none => true | some b => decide (cmpS b.name a.name < 0)) && dayB a.opened && decide (1 ≤ a.typ) && decide (a.typ ≤ 5)
def step2 (pre : List Acct) (a : Acct) : Bool := match upB a.name with
   | none => true
   | some p => match findA pre p with
     | none => false
     | some b => decide (b.typ = a.typ) && decide (b.opened ≤ a.opened) && (!b.closed || a.closed)
theorem step_eq (pre : List Acct) (a : Acct) : stepOk pre a = (step1 pre a && step2 pre a) := rfl

theorem compareBytes_trans : ∀ (a b c : List UInt8), Lib.compareBytes a b < 0 → Lib.compareBytes b c < 0 → Lib.compareBytes a c < 0
  | [], [], _, h, _ => absurd h (by decide)
  | [], _ :: _, [], _, h => by unfold Lib.compareBytes at h; omega
  | [], _ :: _, _ :: _, _, _ => by unfold Lib.compareBytes; omega
  | _ :: _, [], _, h, _ => by unfold Lib.compareBytes at h; omega
  | _ :: _, _ :: _, [], _, h => by unfold Lib.compareBytes at h; omega
  | x :: a, y :: b, z :: c, h1, h2 => by
    unfold Lib.compareBytes at h1 h2 ⊢
    by_cases hxy : x < y
    · by_cases hyz : y < z
      · rw [if_pos (UInt8.lt_trans hxy hyz)]; omega
      · rw [if_neg hyz] at h2
        by_cases hzy : z < y
        · rw [if_pos hzy] at h2; omega
        · have e : y = z := UInt8.le_antisymm (UInt8.not_lt.1 hzy) (UInt8.not_lt.1 hyz)
          subst e
          rw [if_pos hxy]; omega
    · rw [if_neg hxy] at h1
      by_cases hyx : y < x
      · rw [if_pos hyx] at h1; omega
      · rw [if_neg hyx] at h1
        have e : x = y := UInt8.le_antisymm (UInt8.not_lt.1 hyx) (UInt8.not_lt.1 hxy)
        subst e
        by_cases hyz : x < z
        · rw [if_pos hyz]; omega
        · rw [if_neg hyz] at h2 ⊢
          by_cases hzy : z < x
          · rw [if_pos hzy] at h2; omega
          · rw [if_neg hzy] at h2 ⊢
            exact compareBytes_trans a b c h1 h2
theorem cmpS_trans {a b c : ByteArray} (h1 : cmpS a b < 0) (h2 : cmpS b c < 0) : cmpS a c < 0 := compareBytes_trans _ _ _ h1 h2
theorem step_last {pre : List Acct} {a b : Acct} (h : stepOk pre a = true) (hb : pre.getLast? = some b) : cmpS b.name a.name < 0 := by
  rw [step_eq, Bool.and_eq_true] at h
  have h1 := h.1
  unfold step1 at h1
  rw [hb] at h1
  simp only [Bool.and_eq_true, decide_eq_true_eq] at h1
  exact h1.1.1.1.2
theorem chartLess {acc : List Acct} {k : Nat} {a : Acct} (hpre : ∀ (j : Nat) (a : Acct), j < k → acc[j]? = some a → stepOk (acc.take j) a = true) (hk : acc[k]? = some a) (h : stepOk (acc.take k) a = true) :
    ∀ b ∈ acc.take k, cmpS b.name a.name < 0 := by
  induction k generalizing a with
  | zero => intro b hb; simp at hb
  | succ k ih =>
    have hkl := get_lt hk
    have hx := List.getElem?_eq_getElem (show k < acc.length by omega)
    have hs := hpre k _ (by omega) hx
    have hl := step_last h (by rw [last_take acc (k + 1) (by omega), if_neg (by omega)]; exact hx)
    intro b hb
    rw [take_snoc hx] at hb
    rcases List.mem_append.1 hb with hb | hb
    · exact cmpS_trans (ih (fun j y hj hy => hpre j y (by omega) hy) hx hs b hb) hl
    · rw [List.mem_singleton] at hb
      subst hb
      exact hl
theorem chartUp {pre : List Acct} {a : Acct} (h : stepOk pre a = true) : ∀ p, upB a.name = some p → ∃ (i : Nat) (b : Acct), pre[i]? = some b ∧ b.name = p := by
  intro p hp
  rw [step_eq, Bool.and_eq_true] at h
  have h2 := h.2
  unfold step2 at h2
  rw [hp] at h2
  rcases find_or pre (fun _ => 0) p with ⟨hf, _⟩ | ⟨i, b, hi, _, _, hb⟩
  · simp only [hf] at h2; cases h2
  · exact ⟨i, b, hi, hb⟩

set_option maxHeartbeats 4000000 in
set_option maxRecDepth 100000 in
theorem From_any (A : Option Addr) (cap : Nat) (acc : List Acct) (w : World) (hg : Gl w) (hn : acc.length ≤ 140737488351232) (hs : ∀ a ∈ acc, a.name.size ≤ 140737488351232) (hA : AcctsAt w A acc) :
    Calls Tryz.prog 18 #[.slice A acc.length cap] w fun e w' => (chartOk acc = true → ∃ c m nb rv kv, e = .returned (.tuple #[ptrV c, .int .i64 0]) ∧ ChartAt w' w.heap.size c m acc nb rv kv) ∧ (chartOk acc = false → e = .returned (.tuple #[.pointer none, .int .i64 67])) ∧ Below w.heap.size w w' := by
  by_cases h100 : 100 < acc.length
  · have HC : Hid (chartOk acc = false) := hid (by unfold chartOk; rw [decide_eq_false (by omega)]; rfl)
    go_enter Tryz.func18, Tryz.ntmps18
    go_wp2_with (first | (go_at_call 57; refine (New_any _).mono ?_; rintro e w1 ⟨rfl, _, hb⟩))
    go_ret2
    exact ⟨fun h => absurd h (by rw [HC.out]; decide), fun _ => rfl, hb⟩
  · have mixed : Tryz.prog.follows .mixedOrders = true := by kernel_rfl
    have Hs := hid hs; have HA := hid hA
    clear hs hA
    go_enter Tryz.func18, Tryz.ntmps18
    go_wp2_with (first | (go_at_call 57; refine (New_any _).mono ?_; rintro e w1 ⟨rfl, hC, hb⟩))
    unfold ptrV
    go_loopw [16] (fun i W => ∃ k : Nat, k ≤ acc.length ∧ i = .int .i64 k ∧ (∀ j a, j < k → acc[j]? = some a → stepOk (acc.take j) a = true) ∧ (∃ nb rv kv, ChartAt W w.heap.size (w.heap.size + 1) w.heap.size (acc.take k) nb rv kv) ∧ Below w.heap.size w W) (fun i _ => acc.length - (intOf i).toNat)
    case atStart => exact ⟨0, Nat.zero_le _, rfl, fun j a h => absurd h (Nat.not_lt_zero _), ⟨_, _, _, by rw [List.take_zero]; exact hC⟩, hb⟩
    case round =>
      obtain ⟨k, hk, rfl, hpre, ⟨nb, rv, kv, hCk⟩, hB⟩ := hrel
      obtain ⟨wo, rfl⟩ : ∃ wo : World, wo = wr := ⟨_, rfl⟩
      have Hpre := hid hpre; have HCk := hid hCk
      clear hpre hCk
      by_cases hlt : k < acc.length
      · obtain ⟨b, off, rfl, hcell⟩ := (HA.out.below hB) (by omega)
        obtain ⟨c1, c2, c3, c4⟩ := hcell k acc[k] (List.getElem?_eq_getElem hlt)
        have Hcell := hid hcell; clear hcell
        have has := Hs.out _ (List.getElem_mem hlt)
        have Hak := hid (List.getElem?_eq_getElem hlt)
        generalize acc[k] = a at *
        go_upto_region 6 with (fail)
        go_cut [5, 6] (fun u v W => u = .int .i64 k ∧ v = .pointer (some ⟨wo.heap.size, 0, none⟩) ∧ Below wo.heap.size wo W ∧ W.cell? ⟨wo.heap.size, 0, none⟩ = some (.string a.name) ∧ W.cell? ⟨wo.heap.size, 1, none⟩ = some (.int .i64 a.typ) ∧ W.cell? ⟨wo.heap.size, 2, none⟩ = some (.int .i64 a.opened) ∧ W.cell? ⟨wo.heap.size, 3, none⟩ = some (.bool a.closed))
        case first =>
          go_wp2_with fail
          go_meet
          refine ⟨rfl, rfl, (Below.refl _ _).alloc (Nat.le_refl _) _, ?_, ?_, ?_, ?_⟩ <;> simp
        case rest =>
          obtain ⟨rfl, rfl, hB2, d1, d2, d3, d4⟩ := hcut
          have hp : ∀ x, acc[k - 1]? = some x → 0 < k → wc.cell? ⟨b, off + (k - 1) * 4, none⟩ = some (.string x.name) := fun x hx _ => cell_below hB2 (Hcell.out (k - 1) x hx).1
          have Hp := hid hp; clear hp
          have Hgood : Hid (∀ n os, Calls Tryz.prog 58 #[.string a.name] (grow (wc.drewN n) os) fun e w' => e = .returned (.bool (goodB a.name)) ∧ ∃ q os', w' = grow ((grow (wc.drewN n) os).drewN q) os') := hid fun n os =>
            Good_grow a.name _ (hg.below (hB.trans ((hB2.trans ((below_grow wc n os).mono hB2.size)).mono hB.size)))
          have D1 := fun n os => cell_grown (n := n) (os := os) (lt_of_cell d1) d1
          have D2 := fun n os => cell_grown (n := n) (os := os) (lt_of_cell d2) d2
          have D3 := fun n os => cell_grown (n := n) (os := os) (lt_of_cell d3) d3
          go_upto_region 7 with (fail)
          go_cut [55] (fun v W => v = .bool (!(goodB a.name && (decide (k = 0) || (match acc[k - 1]? with | none => true | some x => decide (cmpS x.name a.name < 0))) && dayB a.opened && decide (1 ≤ a.typ) && decide (a.typ ≤ 5))) ∧ Below wc.heap.size wc W)
          case first =>
            cases hgd : goodB a.name with
            | false =>
              rw [hgd] at Hgood
              have Hgd := hid hgd; clear hgd
              refine wp_region_quiet_grown mixed (by kernel_rfl) ?_
              repeat (go_big_quiet_step (first | (go_at_call 58; exact Calls.grown_of (Hgood.out _ _))))
              refine wpQuiet_nil ?_
              intro _ hw'
              obtain ⟨⟨nq, osq⟩, hw''⟩ := hw'
              subst hw''
              go_wp2_with fail
              go_meet
              exact ⟨by rw [Hgd.out]; simp, below_grow _ _ _⟩
            | true => 
              rw [hgd] at Hgood
              have Hgd := hid hgd; clear hgd
              have Hday : Hid (∀ n os, Calls Tryz.prog 59 #[.int .i64 a.opened] (grow (wc.drewN n) os) fun e w' => e = .returned (.bool (dayB a.opened)) ∧ ∃ q os', w' = grow ((grow (wc.drewN n) os).drewN q) os') := hid fun n os =>
                (chartDay_any _ _).mono fun _ _ h => ⟨h.1, 0, #[], by rw [← h.2, grow_empty]; rfl⟩
              by_cases hk0 : k = 0
              · have hgt : decide ((0 : Int) < (k : Int)) = false := decide_eq_false (by omega)
                have Hlast : Hid ((decide (k = 0) || (match acc[k - 1]? with | none => true | some x => decide (cmpS x.name a.name < 0))) = true) := hid (by rw [decide_eq_true hk0]; rfl)
                cases hdy : dayB a.opened with
                | false =>
                  rw [hdy] at Hday
                  have Hdy := hid hdy; clear hdy
                  refine wp_region_quiet_grown mixed (by kernel_rfl) ?_
                  repeat (go_big_quiet_step (first | (go_at_call 58; exact Calls.grown_of (Hgood.out _ _)) | (go_at_call 59; exact Calls.grown_of (Hday.out _ _))))
                  refine wpQuiet_nil ?_
                  intro _ hw'
                  obtain ⟨⟨nq, osq⟩, hw''⟩ := hw'
                  subst hw''
                  go_wp2_with fail
                  go_meet
                  exact ⟨by rw [Hgd.out, Hdy.out, Hlast.out]; simp, below_grow _ _ _⟩
                | true =>
                  rw [hdy] at Hday
                  have Hdy := hid hdy; clear hdy
                  by_cases ht1 : a.typ < 1
                  · have ht2 : decide (a.typ < 1) = true := decide_eq_true ht1
                    have Ht : Hid (decide (1 ≤ a.typ) = false) := hid (decide_eq_false (by omega))
                    clear ht1
                    refine wp_region_quiet_grown mixed (by kernel_rfl) ?_
                    repeat (go_big_quiet_step (first | (go_at_call 58; exact Calls.grown_of (Hgood.out _ _)) | (go_at_call 59; exact Calls.grown_of (Hday.out _ _))))
                    refine wpQuiet_nil ?_
                    intro _ hw'
                    obtain ⟨⟨nq, osq⟩, hw''⟩ := hw'
                    subst hw''
                    go_wp2_with fail
                    go_meet
                    exact ⟨by rw [Hgd.out, Hdy.out, Hlast.out, Ht.out]; simp, below_grow _ _ _⟩
                  · have ht2 : decide (a.typ < 1) = false := decide_eq_false ht1
                    have Ht : Hid (decide (1 ≤ a.typ) = true) := hid (decide_eq_true (by omega))
                    clear ht1
                    by_cases ht3 : 5 < a.typ
                    · have ht4 : decide (5 < a.typ) = true := decide_eq_true ht3
                      have Ht5 : Hid (decide (a.typ ≤ 5) = false) := hid (decide_eq_false (by omega))
                      clear ht3
                      refine wp_region_quiet_grown mixed (by kernel_rfl) ?_
                      repeat (go_big_quiet_step (first | (go_at_call 58; exact Calls.grown_of (Hgood.out _ _)) | (go_at_call 59; exact Calls.grown_of (Hday.out _ _))))
                      refine wpQuiet_nil ?_
                      intro _ hw'
                      obtain ⟨⟨nq, osq⟩, hw''⟩ := hw'
                      subst hw''
                      go_wp2_with fail
                      go_meet
                      exact ⟨by rw [Hgd.out, Hdy.out, Hlast.out, Ht.out, Ht5.out]; simp, below_grow _ _ _⟩
                    · have ht4 : decide (5 < a.typ) = false := decide_eq_false ht3
                      have Ht5 : Hid (decide (a.typ ≤ 5) = true) := hid (decide_eq_true (by omega))
                      clear ht3
                      refine wp_region_quiet_grown mixed (by kernel_rfl) ?_
                      repeat (go_big_quiet_step (first | (go_at_call 58; exact Calls.grown_of (Hgood.out _ _)) | (go_at_call 59; exact Calls.grown_of (Hday.out _ _))))
                      refine wpQuiet_nil ?_
                      intro _ hw'
                      obtain ⟨⟨nq, osq⟩, hw''⟩ := hw'
                      subst hw''
                      go_wp2_with fail
                      go_meet
                      exact ⟨by rw [Hgd.out, Hdy.out, Hlast.out, Ht.out, Ht5.out]; simp, below_grow _ _ _⟩
              · have hgt : decide (0 < k) = true := decide_eq_true (by omega)
                have hxg := List.getElem?_eq_getElem (show k - 1 < acc.length by omega)
                have hx1 := Hp.out _ hxg (by omega)
                have hxs := Hs.out _ (List.getElem_mem (show k - 1 < acc.length by omega))
                have Hxg := hid hxg; clear hxg
                generalize acc[k - 1] = x at *
                have D4 := fun n os => cell_grown (n := n) (os := os) (lt_of_cell hx1) hx1
                have hls := less_S x.name a.name
                have hk2 : decide (k = 0) = false := decide_eq_false hk0
                by_cases hxa : cmpS x.name a.name < 0
                · rw [decide_eq_true hxa] at hls
                  have Hlast : Hid ((decide (k = 0) || (match acc[k - 1]? with | none => true | some x => decide (cmpS x.name a.name < 0))) = true) := hid (by rw [hk2, Hxg.out]; simpa using hxa)
                  clear hxa hk2
                  cases hdy : dayB a.opened with
                  | false =>
                    rw [hdy] at Hday
                    have Hdy := hid hdy; clear hdy
                    refine wp_region_quiet_grown mixed (by kernel_rfl) ?_
                    repeat (go_big_quiet_step (first | (go_at_call 58; exact Calls.grown_of (Hgood.out _ _)) | (go_at_call 59; exact Calls.grown_of (Hday.out _ _))))
                    refine wpQuiet_nil ?_
                    intro _ hw'
                    obtain ⟨⟨nq, osq⟩, hw''⟩ := hw'
                    subst hw''
                    go_wp2_with fail
                    go_meet
                    exact ⟨by rw [Hgd.out, Hdy.out, Hlast.out]; simp, below_grow _ _ _⟩
                  | true =>
                    rw [hdy] at Hday
                    have Hdy := hid hdy; clear hdy
                    by_cases ht1 : a.typ < 1
                    · have ht2 : decide (a.typ < 1) = true := decide_eq_true ht1
                      have Ht : Hid (decide (1 ≤ a.typ) = false) := hid (decide_eq_false (by omega))
                      clear ht1
                      refine wp_region_quiet_grown mixed (by kernel_rfl) ?_
                      repeat (go_big_quiet_step (first | (go_at_call 58; exact Calls.grown_of (Hgood.out _ _)) | (go_at_call 59; exact Calls.grown_of (Hday.out _ _))))
                      refine wpQuiet_nil ?_
                      intro _ hw'
                      obtain ⟨⟨nq, osq⟩, hw''⟩ := hw'
                      subst hw''
                      go_wp2_with fail
                      go_meet
                      exact ⟨by rw [Hgd.out, Hdy.out, Hlast.out, Ht.out]; simp, below_grow _ _ _⟩
                    · have ht2 : decide (a.typ < 1) = false := decide_eq_false ht1
                      have Ht : Hid (decide (1 ≤ a.typ) = true) := hid (decide_eq_true (by omega))
                      clear ht1
                      by_cases ht3 : 5 < a.typ
                      · have ht4 : decide (5 < a.typ) = true := decide_eq_true ht3
                        have Ht5 : Hid (decide (a.typ ≤ 5) = false) := hid (decide_eq_false (by omega))
                        clear ht3
                        refine wp_region_quiet_grown mixed (by kernel_rfl) ?_
                        repeat (go_big_quiet_step (first | (go_at_call 58; exact Calls.grown_of (Hgood.out _ _)) | (go_at_call 59; exact Calls.grown_of (Hday.out _ _))))
                        refine wpQuiet_nil ?_
                        intro _ hw'
                        obtain ⟨⟨nq, osq⟩, hw''⟩ := hw'
                        subst hw''
                        go_wp2_with fail
                        go_meet
                        exact ⟨by rw [Hgd.out, Hdy.out, Hlast.out, Ht.out, Ht5.out]; simp, below_grow _ _ _⟩
                      · have ht4 : decide (5 < a.typ) = false := decide_eq_false ht3
                        have Ht5 : Hid (decide (a.typ ≤ 5) = true) := hid (decide_eq_true (by omega))
                        clear ht3
                        refine wp_region_quiet_grown mixed (by kernel_rfl) ?_
                        repeat (go_big_quiet_step (first | (go_at_call 58; exact Calls.grown_of (Hgood.out _ _)) | (go_at_call 59; exact Calls.grown_of (Hday.out _ _))))
                        refine wpQuiet_nil ?_
                        intro _ hw'
                        obtain ⟨⟨nq, osq⟩, hw''⟩ := hw'
                        subst hw''
                        go_wp2_with fail
                        go_meet
                        exact ⟨by rw [Hgd.out, Hdy.out, Hlast.out, Ht.out, Ht5.out]; simp, below_grow _ _ _⟩
                · rw [decide_eq_false hxa] at hls
                  have Hlast : Hid ((decide (k = 0) || (match acc[k - 1]? with | none => true | some x => decide (cmpS x.name a.name < 0))) = false) := hid (by rw [hk2, Hxg.out]; simpa using hxa)
                  clear hxa hk2
                  refine wp_region_quiet_grown mixed (by kernel_rfl) ?_
                  repeat (go_big_quiet_step (first | (go_at_call 58; exact Calls.grown_of (Hgood.out _ _)) | (go_at_call 59; exact Calls.grown_of (Hday.out _ _))))
                  refine wpQuiet_nil ?_
                  intro _ hw'
                  obtain ⟨⟨nq, osq⟩, hw''⟩ := hw'
                  subst hw''
                  go_wp2_with fail
                  go_meet
                  exact ⟨by rw [Hgd.out, Hlast.out]; simp, below_grow _ _ _⟩
          case rest => 
            obtain ⟨rfl, hB3⟩ := hcut
            clear D1 D2 D3 Hgood Hp
            have hs1 : Hid ((goodB a.name && (decide (k = 0) || (match acc[k - 1]? with | none => true | some x => decide (cmpS x.name a.name < 0))) && dayB a.opened && decide (1 ≤ a.typ) && decide (a.typ ≤ 5)) = step1 (acc.take k) a) := hid (by
              unfold step1
              rw [last_take acc k (by omega)]
              by_cases h0 : k = 0
              · rw [if_pos h0, decide_eq_true h0]; simp
              · rw [if_neg h0, decide_eq_false h0]; simp)
            rw [hs1.out]
            clear hs1
            have hBc := hB3.size
            have hbo := hB2.size
            replace d1 := cell_below hB3 d1
            replace d2 := cell_below hB3 d2
            replace d3 := cell_below hB3 d3
            replace d4 := cell_below hB3 d4
            have hB4 : Below w.heap.size w wc := hB.trans ((hB2.trans (hB3.mono hB2.size)).mono hB.size)
            cases h1 : step1 (acc.take k) a with
            | false =>
              have Hno := hid (chartOk_no Hak.out (by rw [step_eq, h1]; rfl))
              clear h1
              go_wp2_with fail
              go_ret2
              exact ⟨fun h => absurd h (by rw [Hno.out]; decide), fun _ => rfl, hB4⟩
            | true =>
              have H1 := hid h1; clear h1
              have Hcw := hid (HCk.out.below (hB2.trans (hB3.mono hB2.size)))
              have Hg4 := hid (hg.below hB4)
              go_wp2_with fail
              refine (Parent_any a.name _ Hg4.out has).mono ?_
              rintro e w5 ⟨rfl, hb5⟩
              have hs5 := hb5.size
              replace d1 := cell_below hb5 d1
              replace d2 := cell_below hb5 d2
              replace d3 := cell_below hb5 d3
              replace d4 := cell_below hb5 d4
              have Hc5 := hid (Hcw.out.below hb5)
              have hB5 : Below w.heap.size w w5 := hB4.trans (hb5.mono hB4.size)
              have hcc := cell_of (i := 0) (v := .map (some w.heap.size)) Hc5.out.chart rfl
              clear Hcw HCk Hg4
              generalize hv7 : strOf (upB a.name) = v7
              generalize hx8 : (upB a.name).isSome = x8
              go_upto_if 62 with (fail)
              go_cut [9] (fun _ W => step2 (acc.take k) a = true ∧ Below w5.heap.size w5 W)
              case first =>
                cases hu : upB a.name with
                | none =>
                  rw [hu] at hv7 hx8
                  subst hv7 hx8
                  have H2 : Hid (step2 (acc.take k) a = true) := hid (by unfold step2; rw [hu])
                  go_wp2_with fail
                  go_meet
                  exact ⟨H2.out, Below.refl _ _⟩
                | some p =>
                  have hps : p.size < a.name.size := upB_lt hu
                  rw [hu] at hv7 hx8
                  replace hv7 : Value.string p = v7 := hv7
                  replace hx8 : true = x8 := hx8
                  subst hv7 hx8
                  have hl := (Hc5.out.map).look Tryz.underlying118 (Tryz.zeroValue117 w5) p (by simp only [maxLen]; omega)
                  rcases find_or (acc.take k) nb p with ⟨hf, hb⟩ | ⟨i, b', hi, hf, hb, _⟩
                  · rw [hb] at hl
                    have hl2 : (Instr.lookup 118 (.map (some w.heap.size)) (.string p) false).run Tryz.prog w5 = .ok (.pointer none) w5 := hl
                    have Hno := hid (chartOk_no Hak.out (by rw [step_eq]; unfold step2; rw [hu]; simp only [hf, Bool.and_false]))
                    clear hl hf hb hu
                    go_wp2_with fail
                    go_quiet (fail)
                    go_wp2_with fail
                    go_ret2
                    exact ⟨fun h => absurd h (by rw [Hno.out]; decide), fun _ => rfl, hB5.trans ((below_of_drewN _ _).mono hB5.size)⟩
                  · rw [hb] at hl
                    have hl2 : (Instr.lookup 118 (.map (some w.heap.size)) (.string p) false).run Tryz.prog w5 = .ok (.pointer (some ⟨nb i, 0, none⟩)) w5 := hl
                    have hn := Hc5.out.node i b' hi
                    have n1 := cell_of (i := 1) (v := .int .i64 b'.typ) hn rfl
                    have n2 := cell_of (i := 2) (v := .int .i64 b'.opened) hn rfl
                    have n3 := cell_of (i := 3) (v := .bool b'.closed) hn rfl
                    have H2 : Hid (step2 (acc.take k) a = (decide (b'.typ = a.typ) && decide (b'.opened ≤ a.opened) && (!b'.closed || a.closed))) := hid (by unfold step2; rw [hu]; simp only [hf])
                    have Hno : Hid (step2 (acc.take k) a = false → chartOk acc = false) := hid fun h => chartOk_no Hak.out (by rw [step_eq, h, Bool.and_false])
                    clear hl hf hb hu hn
                    by_cases e1 : b'.typ = a.typ
                    · rw [e1] at n1
                      rw [decide_eq_true e1] at H2
                      clear e1
                      by_cases e2 : b'.opened ≤ a.opened
                      · have q2 : decide (a.opened < b'.opened) = false := decide_eq_false (by omega)
                        rw [decide_eq_true e2] at H2
                        clear e2
                        cases hcl : b'.closed with
                        | false =>
                          rw [hcl] at H2 n3
                          clear hcl
                          go_wp2_with fail
                          go_quiet (fail)
                          go_wp2_with fail
                          go_meet
                          exact ⟨H2.out, below_of_drewN _ _⟩
                        | true =>
                          rw [hcl] at H2 n3
                          clear hcl
                          cases hac : a.closed with
                          | true =>
                            rw [hac] at H2 d4
                            go_wp2_with fail
                            go_quiet (fail)
                            go_wp2_with fail
                            go_meet
                            exact ⟨H2.out, below_of_drewN _ _⟩
                          | false =>
                            rw [hac] at H2 d4
                            have Hno2 := hid (Hno.out H2.out)
                            go_wp2_with fail
                            go_quiet (fail)
                            go_wp2_with fail
                            go_ret2
                            exact ⟨fun h => absurd h (by rw [Hno2.out]; decide), fun _ => rfl, hB5.trans ((below_of_drewN _ _).mono hB5.size)⟩
                      · have q2 : decide (a.opened < b'.opened) = true := decide_eq_true (by omega)
                        rw [decide_eq_false e2] at H2
                        have Hno2 := hid (Hno.out (by rw [H2.out]; rfl))
                        clear e2
                        go_wp2_with fail
                        go_quiet (fail)
                        go_wp2_with fail
                        go_ret2
                        exact ⟨fun h => absurd h (by rw [Hno2.out]; decide), fun _ => rfl, hB5.trans ((below_of_drewN _ _).mono hB5.size)⟩
                    · have q1 : (b'.typ == a.typ) = false := beq_eq_false_iff_ne.2 e1
                      have q2 : (b'.typ != a.typ) = true := by simpa using e1
                      rw [decide_eq_false e1] at H2
                      have Hno2 := hid (Hno.out (by rw [H2.out]; rfl))
                      clear e1
                      go_wp2_with fail
                      go_quiet (fail)
                      go_wp2_with fail
                      go_ret2
                      exact ⟨fun h => absurd h (by rw [Hno2.out]; decide), fun _ => rfl, hB5.trans ((below_of_drewN _ _).mono hB5.size)⟩
              case rest =>
                obtain ⟨h2, hB6⟩ := hcut
                have hstep : stepOk (acc.take k) a = true := by rw [step_eq, H1.out, h2]; rfl
                have Hc6 := hid (Hc5.out.below hB6)
                have hs6 := hB6.size
                replace d1 := cell_below hB6 d1
                replace d2 := cell_below hB6 d2
                replace d3 := cell_below hB6 d3
                replace d4 := cell_below hB6 d4
                have hB7 : Below w.heap.size w wc := hB5.trans (hB6.mono hB5.size)
                have Hadd := hid (add_any w.heap.size (w.heap.size + 1) w.heap.size (acc.take k) nb rv kv a wc (hg.below hB7) hg.size Hc6.out (by rw [List.length_take]; omega) has (chartLess Hpre.out Hak.out hstep) (chartUp hstep))
                go_wp2_with fail
                refine Hadd.out.mono ?_
                rintro e w7 ⟨rfl, nb', rv', kv', hC7, hB8⟩
                go_wp2_with fail
                exact ⟨⟨k + 1, by omega, by go_num, fun j x hj hx => by
                  by_cases hjk : j < k
                  · exact Hpre.out j x hjk hx
                  · have hje : j = k := by omega
                    subst hje
                    rw [Hak.out] at hx
                    injection hx with hx
                    subst hx
                    exact hstep, ⟨nb', rv', kv', by rw [take_snoc Hak.out]; exact hC7⟩, hB7.trans hB8⟩, by simp [intOf]; omega⟩
      · have hke : k = acc.length := by omega
        subst hke
        go_wp2_with fail
        go_ret2
        have hok := chartOk_yes (by omega) fun j x hx => Hpre.out j x (get_lt hx) hx
        refine ⟨fun _ => ⟨w.heap.size + 1, w.heap.size, nb, rv, kv, rfl, ?_⟩, fun h => absurd h (by rw [hok]; decide), hB⟩
        have := HCk.out
        rwa [List.take_length] at this
end Go.Proofs.YtgbnlemcojgijaaGreatDoor
