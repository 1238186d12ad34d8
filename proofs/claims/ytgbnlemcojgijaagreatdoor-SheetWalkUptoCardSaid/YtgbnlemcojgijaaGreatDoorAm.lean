/- A range over a function whose rounds all go on: the caller's invariant abides new blocks and turned records. -/
import Derived.Test.YtgbnlemcojgijaaGreatDoorB
import Derived.RangeFuncNested
import Derived.RangeFuncBound
import Derived.RangeFuncLeaves
namespace Go.Proofs.YtgbnlemcojgijaaGreatDoor
open Go.RowKit

/-- New blocks have come; of those that lay, only such as hold no cells and lie at B or behind it may have turned. -/
structure Turns (B : Nat) (A C : World) : Prop where
  os : C.os = A.os
  tape : C.tape = A.tape
  output : C.output = A.output
  size : A.heap.size ≤ C.heap.size
  block : ∀ (k : Nat) (o : Obj), A.heap[k]? = some o → (o.isCells = true ∨ k < B) → C.heap[k]? = some o
theorem Turns.refl (B : Nat) (A : World) : Turns B A A := ⟨rfl, rfl, rfl, Nat.le_refl _, fun _ _ h _ => h⟩
theorem Turns.trans {B : Nat} {A C D : World} (h : Turns B A C) (k : Turns B C D) : Turns B A D :=
  ⟨k.os.trans h.os, k.tape.trans h.tape, k.output.trans h.output, Nat.le_trans h.size k.size, fun i o hi ho => k.block i o (h.block i o hi ho) ho⟩
theorem Turns.mono {B B' : Nat} {A C : World} (h : Turns B' A C) (hB : B ≤ B') : Turns B A C := ⟨h.os, h.tape, h.output, h.size, fun k o hk ho => h.block k o hk (ho.imp id fun h => Nat.lt_of_lt_of_le h hB)⟩
theorem Turns.alloc (B : Nat) (A : World) (o : Obj) : Turns B A (A.alloc o) :=
  ⟨rfl, rfl, rfl, by simp, fun k _ hk _ => (Below.heap_alloc A o k (Array.getElem?_eq_some_iff.1 hk).1).trans hk⟩
theorem Turns.put {B : Nat} {A : World} {l : Nat} {o : Obj} (o' : Obj) (hl : A.heap[l]? = some o) (ho : o.isCells = false) (hB : B ≤ l) : Turns B A (A.putObj l o') :=
  ⟨rfl, rfl, rfl, by simp, fun k o2 hk h => by
    by_cases e : k = l
    · subst e
      rw [hl] at hk
      injection hk with hk
      subst hk
      rcases h with h | h
      · rw [ho] at h; cases h
      · omega
    · exact (World.putObj_heap_other e).trans hk⟩
theorem Turns.drew (B : Nat) (A : World) : Turns B A A.drew := ⟨rfl, rfl, rfl, Nat.le_refl _, fun _ _ h _ => h⟩
theorem Turns.below {B : Nat} {n : Nat} {A C : World} (h : Turns B A C) (hB : n ≤ B) (hn : n ≤ A.heap.size) : Below n A C :=
  ⟨h.os, h.tape, h.output, h.size, fun k hk => by
    have := Array.getElem?_eq_getElem (show k < A.heap.size by omega)
    rw [this]
    exact h.block k _ this (.inr (by omega))⟩
def Stable (B : Nat) (J : World → Prop) : Prop := ∀ A C : World, J A → Turns B A C → J C
theorem Stable.mono {B B' : Nat} {J : World → Prop} (h : Stable B J) (hB : B ≤ B') : Stable B' J := fun A C hA hT => h A C hA (hT.mono hB)

theorem KeepsFrom.mono {B B' : Nat} {A C : World} (h : KeepsFrom B A C) (hB : B ≤ B') : KeepsFrom B' A C := ⟨h.size, fun k o hk => h.same k o (Nat.le_trans hB hk)⟩

/-- The mark of a block for the rounds' deferred calls. -/
def markD (D : Nat) : Deferred := { target := .collected D, args := #[] }

set_option maxHeartbeats 400000 in
theorem wp_rangeAll {P : Program} {α : Type} {g : Operand} {ps : Array Tmp} {assign body : Code} {Q : Exit → Act → World → Prop} {a : Act} {w : World}
    {gf : Nat} {lb : Array Value} (hg : a.eval g = .func (.func gf) #[] lb) (eg : ∀ args w, (callFunc gf args).run P w = .ok (.enter gf args) w)
    (encs : α → Array Value) (KA : World → World → Prop) (J : List α → World → Prop) (T pre0 xs : List α) (hps : ∀ x, (encs x).size = ps.size)
    (hJ : ∀ pre, Stable w.heap.size (J pre)) (hKt : ∀ A B C, KA A B → KA B C → KA A C) (hKb : ∀ (W : World) (l : Nat) (r r' : Loop), W.heap[l]? = some (.loop r) → KA W (W.putObj l (.loop r')))
    (hseq : ∀ (l : Nat) (r : Loop) (W : World), W = (w.alloc (.deferred (some []))).alloc (.loop r) → ∀ J' : List α → World → Prop, (∀ pre, Stable W.heap.size (J' pre)) →
      (∀ pre x W1, pre ++ [x] <+: T → J' pre W1 → YieldAt Fence.wide 0 P l (encs x) W1 fun e W' => e = .returned (.bool true) ∧ J' (pre ++ [x]) W' ∧ KA W1 W' ∧ KeepsFrom W.heap.size W1 W') →
      J' pre0 W → CallsIn Fence.wide 0 P gf (#[.func (.yield l) #[] #[]] ++ lb) W fun e W' => (∃ v, e = .returned v) ∧ J' (pre0 ++ xs) W')
    (Ax : α → Act → World → Prop) (hAx : ∀ x a', Stable w.heap.size (Ax x a'))
    (hassign : ∀ (l : Nat) (pre : List α) (x : α) (W : World) (K : Act → World → Prop), pre ++ [x] <+: T → J pre W → (∀ a' W', KeepsFrom w.heap.size W W' → KA W W' → J pre W' → Ax x a' W' → K a' W') →
      assign.wpIn (Fence.wide.inRound l) 0 P (Exit.then K (fun _ _ _ => False)) { tmps := (ps.zip (encs x)).foldl (fun t (p, v) => t.setIfInBounds p v) a.tmps, defers := [] } W)
    (hbody : ∀ (l : Nat) (pre : List α) (x : α) (a' : Act) (W : World), pre ++ [x] <+: T → J pre W → Ax x a' W → body.wpIn (Fence.wide.inRound l) 0 P (fun e _ W' => e = .normal ∧ KeepsFrom w.heap.size W W' ∧ KA W W' ∧ J (pre ++ [x]) W') a' W)
    (h0 : J pre0 w)
    (hdone : ∀ W, J (pre0 ++ xs) W → W.heap[w.heap.size]? = some (.deferred (some [])) → Q .normal { a with defers := markD w.heap.size :: a.defers } W) :
    (Code.rangeFunc g ps assign body).wpIn Fence.wide 0 P Q a w := by
  refine wpIn_rangeFunc fun fn hfn => ?_
  let D := w.heap.size
  let l := w.heap.size + 1
  let rec_ : LoopState → Option Code → Loop := fun st pe => { state := st, pending := pe, fn, tmps := a.tmps, params := ps, assign, body, defers := w.heap.size }
  let W0 := (w.alloc (.deferred (some []))).alloc (.loop (rec_ .ready none))
  have hsz : W0.heap.size = w.heap.size + 2 := by simp [W0]
  have hL0 : W0.heap[l]? = some (.loop (rec_ .ready none)) := by
    have := World.alloc_heap_new (w.alloc (.deferred (some []))) (.loop (rec_ .ready none)); rwa [World.size_alloc] at this
  have hD0 : W0.heap[D]? = some (.deferred (some [])) := (Below.heap_alloc _ _ _ (by simp [D])).trans (World.alloc_heap_new w _)
  have hT0 : Turns w.heap.size w W0 := (Turns.alloc _ w _).trans (Turns.alloc _ _ _)
  refine ⟨l, [markD w.heap.size], W0, { target := .fn (.func gf) lb, args := #[.func (.yield l) #[] #[]] }, W0, gf, #[.func (.yield l) #[] #[]] ++ lb, W0, run_enterLoop_outer _ _ _ _ _, ?_, fun _ _ => trivial, ?_, fun h => by simp [Fence.wide] at h, ?_⟩
  · simp only [resolve, hg]
    simp [go_sem]
  · simp [invoke, go_sem, eg]
  · refine (hseq l (rec_ .ready none) W0 rfl (fun pre W => J pre W ∧ W.heap[l]? = some (.loop (rec_ .ready none)) ∧ W.heap[D]? = some (.deferred (some []))) ?_ ?_ ⟨hJ _ _ _ h0 hT0, hL0, hD0⟩).mono ?_
    · rintro pre A C ⟨h1, h2, h3⟩ hT
      rw [hsz] at hT
      exact ⟨hJ pre A C h1 (hT.mono (by omega)), hT.block l _ h2 (.inr (by show w.heap.size + 1 < _; omega)), hT.block D _ h3 (.inr (by show w.heap.size < _; omega))⟩
    · rintro pre x W hT ⟨hi, hl, hk⟩
      have hy := run_yield (P := P) (args := encs x) hl (hps x)
      refine ⟨fn, _, assign, body, hy, roundIn_of_wpIn hfn (hassign _ pre x W _ hT hi ?_)⟩
      intro a' W1 hkf hka hi1 hax
      have hl1 := hkf.same l _ (by show w.heap.size ≤ w.heap.size + 1; omega) hl rfl
      have hk1 := hkf.same D _ (Nat.le_refl _) hk rfl
      refine ⟨_, run_beginRound hl1 rfl, ?_⟩
      have hlt1 : l < W1.heap.size := (Array.getElem?_eq_some_iff.1 hl1).1
      have hT1 : Turns w.heap.size W1 (W1.putObj l (.loop (rec_ .busy none))) := Turns.put _ hl1 rfl (by show w.heap.size ≤ w.heap.size + 1; omega)
      have hl2 : (W1.putObj l (.loop (rec_ .busy none))).heap[l]? = some (.loop (rec_ .busy none)) := World.putObj_heap_same hlt1
      have hk2 : (W1.putObj l (.loop (rec_ .busy none))).heap[D]? = some (.deferred (some [])) := (World.putObj_heap_other (by show w.heap.size ≠ w.heap.size + 1; omega)).trans hk1
      refine wpIn_mono (hbody _ pre x a' _ hT (hJ _ _ _ hi1 hT1) (hAx x a' _ _ hax hT1)) ?_
      rintro e a3 W3 ⟨rfl, hkf3, hka3, hi3⟩
      have hl3 := hkf3.same l _ (by show w.heap.size ≤ w.heap.size + 1; omega) hl2 rfl
      have hk3 := hkf3.same D _ (Nat.le_refl _) hk2 rfl
      have hlt3 : l < W3.heap.size := (Array.getElem?_eq_some_iff.1 hl3).1
      have hT3 : Turns w.heap.size W3 (W3.putObj l (.loop (rec_ .ready none))) := Turns.put _ hl3 rfl (by show w.heap.size ≤ w.heap.size + 1; omega)
      refine ⟨_, _, run_endRound none hl3, rfl, ⟨hJ _ _ _ hi3 hT3, World.putObj_heap_same hlt3, (World.putObj_heap_other (by show w.heap.size ≠ w.heap.size + 1; omega)).trans hk3⟩, ?_, ?_⟩
      · exact hKt _ _ _ (hKt _ _ _ (hKt _ _ _ hka (hKb _ _ _ _ hl1)) hka3) (hKb _ _ _ _ hl3)
      · rw [hsz]
        have p1 : KeepsFrom (w.heap.size + 2) W1 (W1.putObj l (.loop (rec_ .busy none))) := KeepsFrom.of_grownBy (grownBy_putObj' _ _ _) fun j e => by injection e with e; subst e; show w.heap.size + 1 < _; omega
        have p3 : KeepsFrom (w.heap.size + 2) W3 (W3.putObj l (.loop (rec_ .ready none))) := KeepsFrom.of_grownBy (grownBy_putObj' _ _ _) fun j e => by injection e with e; subst e; show w.heap.size + 1 < _; omega
        exact (((KeepsFrom.mono hkf (by omega)).trans p1).trans (KeepsFrom.mono hkf3 (by omega))).trans p3
    · rintro e W2 ⟨⟨v, rfl⟩, hi, hl, hk⟩
      refine ⟨none, _, run_endLoop hl (by simp [rec_]), ?_⟩
      have hlt2 : l < W2.heap.size := (Array.getElem?_eq_some_iff.1 hl).1
      exact hdone _ (hJ _ _ _ hi (Turns.put _ hl rfl (by show w.heap.size ≤ w.heap.size + 1; omega))) ((World.putObj_heap_other (by show w.heap.size ≠ w.heap.size + 1; omega)).trans hk)

/-- The marks of a function that has walked over some loops: it leaves. -/
theorem leaves_marks {P : Program} {fn : Func} {tmps : Array Value} {R : Ending → World → Prop} (B : Nat) (J : World → Prop) (hJ : Stable B J)
    (hend : ∀ W, J W → LeavesIn Fence.wide 0 P fn tmps R [] .returning W) : ∀ (Ds : List Nat) (W : World), J W → Ds.Nodup → (∀ D ∈ Ds, B ≤ D ∧ W.heap[D]? = some (.deferred (some []))) →
    LeavesInM Fence.wide 0 P fn tmps R (Ds.map markD) .returning W
  | [], W, h, _, _ => hend W h
  | D :: Ds, W, h, hn, hd => by
    obtain ⟨h1, h2⟩ := hd D List.mem_cons_self
    have hnd := List.nodup_cons.1 hn
    refine ⟨by simp, .inl ⟨D, _, rfl, run_takeDeferred h2, leaves_marks B J hJ hend Ds _ (hJ _ _ h (Turns.put _ h2 rfl h1)) hnd.2 fun E hE => ?_⟩⟩
    obtain ⟨e1, e2⟩ := hd E (List.mem_cons_of_mem _ hE)
    exact ⟨e1, (World.putObj_heap_other (fun e => hnd.1 (by rw [← e]; exact hE))).trans e2⟩
/-- A function's contract from its body, where the body walks over some loops and never panics. -/
def marksPost (P : Program) (fn : Func) (R : Ending → World → Prop) : Exit → Act → World → Prop
  | .normal, a, w | .ret, a, w => LeavesInM Fence.wide 0 P fn a.tmps R a.defers .returning w
  | .panic _, _, _ => False
  | .exit _, _, _ => False
  | .goto _, _, _ => False
  | .outgrown, _, _ => False
theorem calls_marks {P : Program} {f : FuncId} {fn : Func} {c : Code} {args : Array Value} {w : World} {R : Ending → World → Prop}
    (hf : P.funcs[f]? = some fn) (hb : fn.body = some c) (h : c.wpIn Fence.wide 0 P (marksPost P fn R) { tmps := args ++ Array.replicate (fn.ntmps - args.size) undef, defers := [] } w) : CallsIn Fence.wide 0 P f args w R :=
  callsIn_of_wp_marks hf hb trivial (wpIn_mono h fun e a w h => by cases e <;> first | exact h | exact h.elim)
end Go.Proofs.YtgbnlemcojgijaaGreatDoor
