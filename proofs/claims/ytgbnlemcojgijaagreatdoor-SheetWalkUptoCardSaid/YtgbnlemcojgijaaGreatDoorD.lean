/- chart: good names, the name above, a day. -/
import Derived.Test.YtgbnlemcojgijaaGreatDoorC
namespace Go.Proofs.YtgbnlemcojgijaaGreatDoor
open Go.RowKit Go.Shelf Go.Sort

theorem goodPart (s : ByteArray) (w : World) :
    Calls Tryz.prog 116 #[.string s] w fun e w' => e = .returned (.bool (!partL (L s))) ∧ w = w' := by
  go_enter Tryz.func116, Tryz.ntmps116
  go_wp2_with (first | (go_at_call 117; refine (part_any s _).mono ?_; rintro e w' ⟨rfl, rfl⟩))
  go_ret
  exact ⟨rfl, rfl⟩

/-- A name's parts; a good name. -/
def colon : ByteArray := ⟨#[58]⟩
def partsB (s : ByteArray) : List ByteArray := Lib.splitB colon 0 (Lib.countB s colon) s
def goodB (s : ByteArray) : Bool := decide (s.size ≤ 102) && (decide ((partsB s).length ≤ 6) && (partsB s).all fun p => partL (L p))
theorem partsB_length (s : ByteArray) : (partsB s).length = Lib.countB s colon + 1 := Lib.splitB_all colon (by decide) 0 _ s rfl

theorem goodB_big (s : ByteArray) (h : 102 < s.size) : goodB s = false := by
  unfold goodB
  rw [decide_eq_false (by omega)]
  rfl
theorem countB_small (s : ByteArray) : Lib.countB s colon ≤ s.size := Lib.countB_le colon (by decide) _ s (Nat.le_refl _)
theorem any_not {α : Type} (l : List α) (p : α → Bool) : (l.any fun x => !p x) = !l.all p := by
  induction l with
  | nil => rfl
  | cons a l ih => simp [ih]

set_option maxHeartbeats 1000000 in
theorem Good_grow (s : ByteArray) (w : World) (hg : Gl w) :
    Calls Tryz.prog 58 #[.string s] w fun e w' => e = .returned (.bool (goodB s)) ∧ ∃ q os', w' = grow (w.drewN q) os' := by
  by_cases h1 : 102 < s.size
  · have H := hid (goodB_big s h1)
    go_enter Tryz.func58, Tryz.ntmps58
    go_wp2
    go_ret
    exact ⟨by rw [H.out]; rfl, 0, #[], by rw [grow_empty]; rfl⟩
  · obtain ⟨m, hm⟩ := hg.maxlen
    have hl := partsB_length s
    have hcs := countB_small s
    have hsp : Calls Tryz.prog 114 #[.string s, .string ⟨#[58]⟩] w fun e w' => e = .returned (.slice (some ⟨w.heap.size, 0, none⟩) (Lib.countB s colon + 1) (Lib.countB s colon + 1)) ∧ w' = w.alloc (.cells ((partsB s).map Value.string).toArray 9) := Tryz.strings_Split s colon m w (by omega) hm (by decide)
    have eg : ∀ args w, (callFunc 116 args).run Tryz.prog w = .ok (.enter 116 args) w := enters_of Tryz.func116 (by kernel_rfl) rfl
    have hcon := AnyE.slices_ContainsFunc Tryz.laysContains Value.string (fun p => !partL (L p)) 116 #[] eg w.heap.size 0 (Lib.countB s colon + 1) (Lib.countB s colon + 1) (partsB s) (w.alloc (.cells ((partsB s).map Value.string).toArray 9))
      (fun W x _ => (goodPart x W).mono fun e w' h => ⟨h.1, 0, by rw [← h.2]; rfl⟩) (by omega) (by omega) (fun j hj => by
        rw [getElem!_pos (partsB s) j hj, Nat.zero_add, World.cell?_alloc_new]
        simp [List.getElem?_eq_getElem hj])
    change Calls Tryz.prog 115 _ _ _ at hcon
    have HG : Hid (goodB s = (decide (Lib.countB s colon + 1 ≤ 6) && !((partsB s).take (Lib.countB s colon + 1)).any fun p => !partL (L p))) := hid (by
      unfold goodB
      rw [decide_eq_true (show s.size ≤ 102 by omega), Bool.true_and, any_not, Bool.not_not, ← hl, List.take_length])
    clear hm hl
    have Hsp := hid hsp; have Hcon := hid hcon; have Hcs := hid hcs
    clear hsp hcon hcs
    have hcn : Lib.countB s colon ≤ 102 := Nat.le_trans Hcs.out (by omega)
    generalize Lib.countB s colon = n at *
    generalize hx : ((partsB s).take (n + 1)).any (fun p => !partL (L p)) = x at *
    clear hx
    by_cases h6 : n + 1 ≤ 6
    · go_enter Tryz.func58, Tryz.ntmps58
      go_wp2_with fail
      refine Hsp.out.mono ?_
      rintro e w' ⟨rfl, rfl⟩
      go_wp2_with fail
      refine Hcon.out.mono ?_
      rintro e w' ⟨rfl, q, rfl⟩
      go_wp2_with fail
      go_ret
      exact ⟨by rw [HG.out, decide_eq_true h6]; rfl, q, _, by rw [alloc_eq_grow]; rfl⟩
    · go_enter Tryz.func58, Tryz.ntmps58
      go_wp2_with fail
      refine Hsp.out.mono ?_
      rintro e w' ⟨rfl, rfl⟩
      go_wp2_with fail
      go_ret
      exact ⟨by rw [HG.out, decide_eq_false h6]; rfl, 0, _, by rw [alloc_eq_grow]; rfl⟩
theorem below_grow (w : World) (q : Nat) (os : Array Obj) : Below w.heap.size w (grow (w.drewN q) os) :=
  ⟨rfl, rfl, rfl, by simp [grow, World.drewN], fun k hk => by simp [grow, World.drewN]; rw [Array.getElem?_append_left hk]⟩
theorem Good_any (s : ByteArray) (w : World) (hg : Gl w) :
    Calls Tryz.prog 58 #[.string s] w fun e w' => e = .returned (.bool (goodB s)) ∧ Below w.heap.size w w' :=
  (Good_grow s w hg).mono fun _ _ ⟨h, q, os, e⟩ => ⟨h, by rw [e]; exact below_grow w q os⟩

/-- The name above. -/
def upB (s : ByteArray) : Option ByteArray :=
  if Lib.lastIndexByte s 58 < 0 then none else if goodB s then some (s.extract 0 (Lib.lastIndexByte s 58).toNat) else none
def strOf (o : Option ByteArray) : Value := match o with | some s => .string s | none => .string ⟨#[]⟩
theorem lastIdx_le (s : ByteArray) : Lib.lastIndexByte s 58 = -1 ∨ ∃ i : Nat, i < s.size ∧ Lib.lastIndexByte s 58 = i := by
  rcases Lib.lastIdx_spec s 58 s.size with ⟨h, _⟩ | ⟨i, h1, h2, _⟩
  · exact .inl h
  · exact .inr ⟨i, h1, h2⟩

set_option maxHeartbeats 1000000 in
theorem Parent_any (s : ByteArray) (w : World) (hg : Gl w) (hs : s.size ≤ 140737488351232) :
    Calls Tryz.prog 53 #[.string s] w fun e w' => e = .returned (.tuple #[strOf (upB s), .bool (upB s).isSome]) ∧ Below w.heap.size w w' := by
  have Hl := hid (Tryz.strings_LastIndexByte s 58 (by omega) w)
  have Hu : Hid (upB s = if Lib.lastIndexByte s 58 < 0 then none else if goodB s then some (s.extract 0 (Lib.lastIndexByte s 58).toNat) else none) := hid rfl
  rcases lastIdx_le s with h | ⟨i, hi, h⟩
  · rw [h] at Hl Hu
    have H2 : Hid (upB s = none) := hid (by rw [Hu.out]; rfl)
    clear h Hu
    go_enter Tryz.func53, Tryz.ntmps53
    go_wp2_with (first | (go_at_call 109; refine Hl.out.mono ?_; rintro e w' ⟨rfl, rfl⟩))
    go_ret2
    exact ⟨by rw [H2.out]; rfl, Below.refl _ _⟩
  · rw [h] at Hl Hu
    have Hg := hid hg
    by_cases hgd : goodB s = true
    · have H2 : Hid (upB s = some (s.extract 0 i)) := hid (by rw [Hu.out, if_neg (by omega), if_pos hgd]; rfl)
      clear h Hu hg
      go_enter Tryz.func53, Tryz.ntmps53
      go_wp2_with (first | (go_at_call 109; refine Hl.out.mono ?_; rintro e w' ⟨rfl, rfl⟩) | (go_at_call 58; refine (Good_any s _ Hg.out).mono ?_; rintro e w' ⟨rfl, hb⟩))
      go_ret2
      exact ⟨by rw [H2.out]; rfl, hb⟩
    · have hgd2 : goodB s = false := Bool.eq_false_iff.2 hgd
      clear hgd
      have H2 : Hid (upB s = none) := hid (by rw [Hu.out, if_neg (by omega), hgd2]; rfl)
      clear h Hu hg
      go_enter Tryz.func53, Tryz.ntmps53
      go_wp2_with (first | (go_at_call 109; refine Hl.out.mono ?_; rintro e w' ⟨rfl, rfl⟩) | (go_at_call 58; refine (Good_any s _ Hg.out).mono ?_; rintro e w' ⟨rfl, hb⟩))
      go_ret2
      exact ⟨by rw [H2.out]; rfl, hb⟩

def dayB (n : Int) : Bool := decide (1 ≤ n) && decide (n ≤ 3652059)
theorem chartDay_any (n : Int) (w : World) : Calls Tryz.prog 59 #[.int .i64 n] w fun e w' => e = .returned (.bool (dayB n)) ∧ w = w' := by
  by_cases h1 : 1 ≤ n
  · have H : Hid (dayB n = decide (n ≤ 3652059)) := hid (by simp [dayB, h1])
    go_enter Tryz.func59, Tryz.ntmps59
    go_wp2
    go_ret
    exact ⟨by rw [H.out]; rfl, rfl⟩
  · have H : Hid (dayB n = false) := hid (by simp [dayB, h1])
    go_enter Tryz.func59, Tryz.ntmps59
    go_wp2
    go_ret
    exact ⟨by rw [H.out]; rfl, rfl⟩
end Go.Proofs.YtgbnlemcojgijaaGreatDoor
