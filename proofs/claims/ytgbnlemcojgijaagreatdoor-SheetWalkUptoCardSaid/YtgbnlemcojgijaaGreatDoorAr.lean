/- A region that draws its order: some moves may come at any time; operations that read, and calls that lay blocks, in whatever order; then operations in their own order. -/
import Derived.Test.YtgbnlemcojgijaaGreatDoorB
import Derived.Lib.QuietBelow
import Derived.StillTailTactics
namespace Go.Proofs.YtgbnlemcojgijaaGreatDoor
open Go.RowKit Go.Sort

section
variable {P : Program} {ops : Array Oper} {md : Region.Mode} {C : World → Prop}
/-- Each of the first n, but those of es, is waited for by a later one up to n. -/
def sinkE (md : Region.Mode) (ops : Array Oper) (es : List Nat) (n : Nat) : Bool :=
  (List.range n).all fun i => es.contains i || (List.range (n + 1)).any fun j => decide (i < j) && Region.waitsFor md ops j i
theorem waitsE {es : List Nat} {n : Nat} {listed : Array Bool} (hs : sinkE md ops es n = true) (hc : Region.chainB md ops n = true) (hn : n < ops.size) (inv : HeadInv md ops n listed) (hes : ∀ e ∈ es, listed.getD e true = true) :
    ∀ (d i : Nat), n - i = d → i < n → listed.getD i true = false → ∀ t, n ≤ t → t ∉ Region.ready md ops listed := by
  intro d
  induction d using Nat.strongRecOn with
  | _ d ih =>
    intro i hd hi hun t ht hr
    obtain ⟨_, ot, hot, hall⟩ := mem_ready.1 hr
    have htlt : t < ops.size := (Array.getElem?_eq_some_iff.1 hot).1
    have waits : ∀ (o : Oper) (k : Nat), ops[t]? = some o → (∃ e ∈ o.after, Region.binds md e = true ∧ e.on = k) → listed.getD k true = false → False := fun o k ho ⟨e, he, hb, hon⟩ hk => by
      rw [hot] at ho
      injection ho with ho
      subst ho
      have h2 := hall e he hb
      rw [hon, getD_both hk] at h2
      cases h2
    by_cases htn : t = n
    · subst htn
      have h1 := List.all_eq_true.1 hs i (List.mem_range.2 hi)
      rw [Bool.or_eq_true] at h1
      rcases h1 with h1 | h1
      · have := hes i (by simpa using h1)
        rw [hun] at this
        cases this
      · obtain ⟨j, hj, hj2⟩ := List.any_eq_true.1 h1
        simp only [Bool.and_eq_true, decide_eq_true_eq] at hj2
        obtain ⟨oj, hoj, e, he, hb, hon⟩ := Region.waitsFor_spec hj2.2
        have hjle : j ≤ t := by have := List.mem_range.1 hj; omega
        by_cases hjt : j = t
        · subst hjt
          exact waits oj i hoj ⟨e, he, hb, hon⟩ hun
        · cases hl : listed.getD j false with
          | true =>
            have h2 := inv.closed j oj hoj hl e he hb
            rw [hon, getD_both hun] at h2
            cases h2
          | false => exact ih (t - j) (by omega) j rfl (by omega) (getD_in (by rw [inv.size]; omega) hl) t (Nat.le_refl _) hr
    · have h1 := List.all_eq_true.1 hc t (List.mem_range.2 htlt)
      simp only [Bool.or_eq_true, decide_eq_true_eq] at h1
      rcases h1 with h1 | h1
      · omega
      · obtain ⟨o', ho', e, he, hb, hon⟩ := Region.waitsFor_spec h1
        exact waits o' (t - 1) ho' ⟨e, he, hb, hon⟩ (inv.tail (t - 1) (by omega) (by omega))

/-- Whatever order the first n operations come up in; then what L asks. -/
def qHead (P : Program) (md : Region.Mode) (ops : Array Oper) (C : World → Prop) (n : Nat) (L : Array Bool → Act → Prop) : Nat → Array Bool → Act → Prop
  | 0, listed, a => L listed a
  | f + 1, listed, a => Region.ready md ops listed ≠ [] ∧ ∀ i ∈ Region.ready md ops listed, i < n ∧ qOp P ops C i (qHead P md ops C n L f (listed.setIfInBounds i true)) a
theorem qHead_any {n g : Nat} {L : Array Bool → Act → Prop} {Q' : Exit → Act → World → Prop} (hL : ∀ listed a w, C w → L listed a → wpAny P md ops Q' g listed a w) :
    ∀ (f : Nat) (listed : Array Bool) (a : Act) (w : World), C w → qHead P md ops C n L f listed a → wpAny P md ops Q' (f + g) listed a w
  | 0, listed, a, w, hw, h => by rw [Nat.zero_add]; exact hL _ _ _ hw h
  | f + 1, listed, a, w, hw, h => by
    rw [show f + 1 + g = (f + g) + 1 by omega]
    exact ⟨fun h0 => absurd h0 h.1, fun i hi => wpOp_of_qOp hw (fun a' w' hw' h' => qHead_any hL f _ a' w' hw' h') (h.2 i hi).2⟩
theorem listed_set {es : List Nat} {listed : Array Bool} (h : ∀ e ∈ es, listed.getD e true = true) (i : Nat) : ∀ e ∈ es, (listed.setIfInBounds i true).getD e true = true := fun e he => by
  by_cases hi : i = e
  · subst hi
    by_cases hs : i < listed.size
    · simp [hs]
    · simp [hs]
  · rw [getD_set_ne true hi]; exact h e he
theorem qHead_first {es : List Nat} {n i : Nat} {oi : Oper} {v : Value} {L : Array Bool → Act → Prop} (hi : ops[i]? = some oi) (hsel : ∀ (j : Nat) (o : Oper) cs b, ops[j]? = some o → o.op ≠ .select cs b)
    (hs : sinkE md ops es n = true) (hc : Region.chainB md ops n = true) (hn : n < ops.size) (hin : i < n) (hdone : ∀ listed a, L listed a → ∀ j ∈ Region.ready md ops listed, n ≤ j) :
    ∀ (f : Nat) (listed : Array Bool) (a : Act), HeadInv md ops n listed → (∀ e ∈ es, listed.getD e true = true) →
      (∀ j oj, ops[j]? = some oj → j ≠ i → listed.getD j true = false → (∀ e ∈ oj.after, Region.binds md e = true → e.on ≠ i) → oi.apart ops oj = true) →
      i ∈ Region.ready md ops listed → YieldsIn P ops C oi v a → qHead P md ops C n L f (listed.setIfInBounds i true) (a.put oi.dst v) → qHead P md ops C n L (f + 1) listed a := by
  intro f
  induction f with
  | zero =>
    intro listed a inv hes _ hr hy H
    have hun := (mem_ready.1 hr).1
    refine ⟨fun h => (by rw [h] at hr; cases hr), fun j hj => ?_⟩
    have hjn : j < n := Nat.lt_of_not_le fun h => absurd hj (waitsE hs hc hn inv hes _ i rfl hin hun j h)
    refine ⟨hjn, ?_⟩
    by_cases hji : j = i
    · subst hji; exact hy.qOp hi H
    · exact absurd (hdone _ _ H j (ready_mono hj hji)) (by omega)
  | succ f ih =>
    intro listed a inv hes hfree hr hy H
    have hun := (mem_ready.1 hr).1
    refine ⟨fun h => (by rw [h] at hr; cases hr), fun j hj => ?_⟩
    have hjn : j < n := Nat.lt_of_not_le fun h => absurd hj (waitsE hs hc hn inv hes _ i rfl hin hun j h)
    refine ⟨hjn, ?_⟩
    by_cases hji : j = i
    · subst hji; exact hy.qOp hi H
    · have h1 := (H.2 j (ready_mono hj hji)).2
      obtain ⟨hjun, oj, hoj, hall⟩ := mem_ready.1 hj
      have hnot : ∀ e ∈ oj.after, Region.binds md e = true → e.on ≠ i := fun e he hb heq => by
        have h2 := hall e he hb
        rw [heq, getD_both hun] at h2
        cases h2
      have h2 := qOp_put hoj (hfree j oj hoj hji hjun hnot) (fun cs b => hsel i oi cs b hi) (fun cs b => hsel j oj cs b hoj) hy h1
      refine qOp_mono (fun a' h3 => ih (listed.setIfInBounds j true) a' (inv.set hj hjn) (listed_set hes j) (fun k ok hk hki hku hno => hfree k ok hk hki ?_ hno) (ready_mono hr (Ne.symm hji)) h3.1 ?_) h2
      · by_cases hjk : j = k
        · subst hjk; exact hjun
        · rw [getD_set_ne true hjk] at hku; exact hku
      · rw [Array.setIfInBounds_comm _ _ hji]
        exact h3.2
/-- The operations hd, in this order, may each be taken next; then those from n on come one behind the other. -/
def lexE (md : Region.Mode) (ops : Array Oper) (g n : Nat) : List Nat → Array Bool → Bool
  | [], listed => Region.seqB md ops g n listed
  | k :: ks, listed => decide (k < n) && (Region.ready md ops listed).contains k && Region.free md ops listed k && lexE md ops g n ks (listed.setIfInBounds k true)
theorem qHead_lex {es : List Nat} {n g : Nat} {Lq : Act → Prop} (hsel : Region.noSelect ops = true) (hs : sinkE md ops es n = true) (hc : Region.chainB md ops n = true) (hn : n < ops.size) :
    ∀ (hd : List Nat) (l : List Oper) (listed : Array Bool) (a : Act), hd.map (fun k => ops[k]?) = l.map some → HeadInv md ops n listed → (∀ e ∈ es, listed.getD e true = true) →
    lexE md ops g n hd listed = true → wpQuiet P ops C Lq l a → qHead P md ops C n (fun listed' a' => Region.seqB md ops g n listed' = true ∧ Lq a') hd.length listed a
  | [], [], listed, a, _, _, _, hB, h => ⟨by simpa [lexE] using hB, h⟩
  | [], _ :: _, _, _, hl, _, _, _, _ => by simp at hl
  | _ :: _, [], _, _, hl, _, _, _, _ => by simp at hl
  | k :: ks, o :: l, listed, a, hl, inv, hes, hB, h => by
    simp only [List.map_cons, List.cons.injEq] at hl
    obtain ⟨h0, hl⟩ := hl
    simp only [lexE, Bool.and_eq_true, decide_eq_true_eq] at hB
    obtain ⟨⟨⟨hkn, hr⟩, hf⟩, hB'⟩ := hB
    have hr' : k ∈ Region.ready md ops listed := by simpa using hr
    have hst : qOp P ops C k (wpQuiet P ops C Lq l) a := by unfold qOp; simp only [h0]; exact h
    obtain ⟨v, hy, hK⟩ := yieldsIn_of_qOp h0 hst
    exact qHead_first h0 (Region.noSelect_spec hsel) hs hc hn hkn (fun listed' a' hL => seqB_ready hL.1) ks.length listed a inv hes (Region.free_spec h0 hf) hr' hy
      (qHead_lex hsel hs hc hn ks l _ _ hl (inv.set hr' hkn) (listed_set hes k) hB' hK)
def headB (md : Region.Mode) (ops : Array Oper) (n : Nat) (listed : Array Bool) : Bool :=
  decide (listed.size = ops.size) && ((List.range ops.size).all fun j => (!listed.getD j false || match ops[j]? with | some o => o.after.all fun e => !Region.binds md e || listed.getD e.on false | none => true) && (decide (j < n) || !listed.getD j true))
theorem headB_inv {n : Nat} {listed : Array Bool} (h : headB md ops n listed = true) : HeadInv md ops n listed := by
  unfold headB at h
  simp only [Bool.and_eq_true, decide_eq_true_eq] at h
  obtain ⟨h1, h2⟩ := h
  refine ⟨h1, fun j oj hj hl e he hb => ?_, fun t ht htl => ?_⟩
  · have := (Bool.and_eq_true _ _ ▸ (List.all_eq_true.1 h2 j (List.mem_range.2 (Array.getElem?_eq_some_iff.1 hj).1))).1
    rw [hl, hj] at this
    simp only [Bool.not_true, Bool.false_or] at this
    have := Array.all_eq_true_iff_forall_mem.1 this e he
    rw [hb] at this
    simpa using this
  · have := (Bool.and_eq_true _ _ ▸ (List.all_eq_true.1 h2 t (List.mem_range.2 htl))).2
    rw [decide_eq_false (by omega)] at this
    simpa using this
def tailE (md : Region.Mode) (ops : Array Oper) (es hd : List Nat) (n : Nat) (listed : Array Bool) : Bool :=
  Region.noSelect ops && decide (n < ops.size) && sinkE md ops es n && Region.chainB md ops n && headB md ops n listed && (es.all fun e => listed.getD e true) && lexE md ops (ops.size - n) n hd listed
theorem any_tail {Q : Exit → Act → World → Prop} (es hd : List Nat) (n : Nat) (tl : List Oper) (htl : ops.toList.drop n = tl) {listed : Array Bool} {a : Act} {w : World} (l : List Oper) (hl : hd.map (fun k => ops[k]?) = l.map some) (hB : tailE .any ops es hd n listed = true) (hC : C w)
    (h : wpQuiet P ops C (fun a' => ∀ w', C w' → wpList P ops Q tl a' w') l a) {f : Nat} (hf : f = hd.length + (ops.size - n)) : wpAny P .any ops Q f listed a w := by
  subst hf
  simp only [tailE, Bool.and_eq_true, decide_eq_true_eq] at hB
  obtain ⟨⟨⟨⟨⟨⟨hsel, hn⟩, hs⟩, hc⟩, hinv⟩, hes⟩, hlex⟩ := hB
  have H := qHead_lex (md := .any) (C := C) (g := ops.size - n) hsel hs hc hn hd l listed a hl (headB_inv hinv) (fun e he => List.all_eq_true.1 hes e he) hlex h
  refine qHead_any (Q' := Q) (g := ops.size - n) (fun listed' a' w' hw' hL => ?_) _ _ _ _ hC H
  have hlen : tl.length = ops.size - n := by rw [← htl, List.length_drop, Array.length_toList]
  have := wpAny_of_seq (md := .any) (Q' := Q) tl n listed' a' w' (fun j => by rw [← htl, List.getElem?_drop, Array.getElem?_toList]) (by rw [hlen]; exact hL.1) (hL.2 w' hw')
  rwa [hlen] at this
end
theorem range_ops (l : List Oper) (m n : Nat) (hn : n ≤ l.length) : (List.range' m (n - m)).map (fun k => l.toArray[k]?) = ((l.take n).drop m).map some := by
  refine List.ext_getElem (by simp; omega) fun i h1 h2 => ?_
  simp only [List.length_map, List.length_range'] at h1
  simp only [List.getElem_map, List.getElem_range', List.getElem_drop, List.getElem_take, Nat.one_mul]
  rw [List.getElem?_toArray, List.getElem?_eq_getElem (by omega)]
/-- .. where the early ones are the first m. -/
theorem any_tail_lit {P : Program} {l0 : List Oper} {Q : Exit → Act → World → Prop} {C : World → Prop} (m n : Nat) {listed : Array Bool} {a : Act} {w : World} (hB : tailE .any l0.toArray (List.range m) (List.range' m (n - m)) n listed = true) (hC : C w)
    (h : wpQuiet P l0.toArray C (fun a' => ∀ w', C w' → wpList P l0.toArray Q (l0.drop n) a' w') ((l0.take n).drop m) a) {f : Nat} (hf : f = (n - m) + (l0.length - n)) : wpAny P .any l0.toArray Q f listed a w := by
  have hn : n < l0.length := by
    simp only [tailE, Bool.and_eq_true, decide_eq_true_eq] at hB
    simpa using hB.1.1.1.1.1.2
  exact any_tail (List.range m) (List.range' m (n - m)) n (l0.drop n) rfl ((l0.take n).drop m) (range_ops l0 m n (Nat.le_of_lt hn)) hB hC h (by rw [hf, List.length_range']; rfl)
/-- A move may be taken first. -/
theorem yields_move {P : Program} {ops : Array Oper} {o : Oper} {x : Operand} {a : Act} {v : Value} (ho : o.op = .move x) (hg : o.guard = none) (hv : a.eval x = v) : Yields P ops o v a :=
  .inl ⟨by simp [Region.wanted, hg], fun w => by simp [execOp, ho, hv]⟩
abbrev Later (w : World) (w' : World) : Prop := ∃ p : Regrown, w' = grow (redrawn w p.d) p.os
theorem later_drew (w : World) : Later w { w with drawn := w.drawn + 1 } := ⟨⟨w.drawn + 1, #[]⟩, by rw [grow_empty]; rfl⟩
end Go.Proofs.YtgbnlemcojgijaaGreatDoor
