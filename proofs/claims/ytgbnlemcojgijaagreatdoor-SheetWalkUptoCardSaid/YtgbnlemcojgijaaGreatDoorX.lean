/- The laws' own helpers: a text's lines. -/
import Derived.Test.YtgbnlemcojgijaaGreatDoorW
namespace Go.Proofs.YtgbnlemcojgijaaGreatDoor
open Go.RowKit Go.Shelf Go.Sort

/-- The lines of a text, with what has been read of the first one. -/
def linesGo : List UInt8 → List UInt8 → List (List UInt8)
  | [], cur => if cur = [] then [] else [cur]
  | b :: l, cur => if b = 10 then cur :: linesGo l [] else linesGo l (cur ++ [b])
def linesL (l : List UInt8) : List (List UInt8) := linesGo l []
theorem linesGo_nl {l : List UInt8} {k : Nat} (h : l[k]? = some 10) (cur : List UInt8) : linesGo (l.drop k) cur = cur :: linesGo (l.drop (k + 1)) [] := by
  obtain ⟨hk, e⟩ := List.getElem?_eq_some_iff.1 h
  rw [List.drop_eq_getElem_cons hk, e]
  simp [linesGo]
theorem linesGo_other {l : List UInt8} {k : Nat} {x : UInt8} (h : l[k]? = some x) (hx : x ≠ 10) (cur : List UInt8) : linesGo (l.drop k) cur = linesGo (l.drop (k + 1)) (cur ++ [x]) := by
  obtain ⟨hk, e⟩ := List.getElem?_eq_some_iff.1 h
  rw [List.drop_eq_getElem_cons hk, e]
  simp [linesGo, hx]
theorem take_drop_snoc {l : List UInt8} {f k : Nat} {x : UInt8} (h : l[k]? = some x) (hf : f ≤ k) : (l.drop f).take (k + 1 - f) = (l.drop f).take (k - f) ++ [x] := by
  have : (l.drop f)[k - f]? = some x := by rw [List.getElem?_drop]; rw [show f + (k - f) = k by omega]; exact h
  rw [show k + 1 - f = (k - f) + 1 by omega]
  obtain ⟨hk, rfl⟩ := List.getElem?_eq_some_iff.1 this
  exact List.take_succ_eq_append_getElem hk

theorem Tryz.infoStr : (Tryz.prog.info? 9).map (fun i => (i.zero, i.size, i.bytes)) = some (some (.string ⟨#[]⟩), 1, 16) := by kernel_rfl

set_option maxHeartbeats 1000000 in
theorem lines_any (s : ByteArray) (w : World) (hs : s.size ≤ 1073741824) :
    Calls Tryz.prog 12 #[.string s] w fun e w' => (∃ (v : Value) (rs : List ByteArray), e = .returned v ∧ w'.ownsRow w.heap.size 9 1 v rs.length (rs.map Value.string) ∧ rs.map L = linesL (L s)) ∧ Below w.heap.size w w' := by
  go_enter Tryz.func12, Tryz.ntmps12
  go_wp2_with fail
  go_loopw [3, 4, 5] (fun v f i W => ∃ (k g : Nat) (rs : List ByteArray), k ≤ s.size ∧ g ≤ k ∧ rs.length ≤ k ∧ i = .int .i64 k ∧ f = .int .i64 g ∧ W.ownsRow w.heap.size 9 1 v rs.length (rs.map Value.string) ∧ linesL (L s) = rs.map L ++ linesGo ((L s).drop k) (((L s).drop g).take (k - g)) ∧ Below w.heap.size w W) (fun _ _ i _ => s.size - (intOf i).toNat)
  case atStart => exact ⟨0, 0, [], Nat.zero_le _, Nat.le_refl _, Nat.le_refl _, rfl, rfl, ⟨rfl, .inl ⟨rfl, rfl⟩⟩, rfl, Below.refl _ _⟩
  case round =>
    obtain ⟨k, g, rs, hk, hg, hrl, rfl, rfl, hown, hln, hB⟩ := hrel
    obtain ⟨wo, rfl⟩ : ∃ wo : World, wo = wr := ⟨_, rfl⟩
    have Hln := hid hln; clear hln
    have HO := hid hown
    have hBs := hB.size
    obtain ⟨A, cap, rfl⟩ := own_slice hown
    by_cases hlt : k < s.size
    · have Hx := hid (L_get s k hlt)
      by_cases h10 : (s[k].toNat : Int) = 10
      · have hb : ((s[k].toNat : Int) == 10) = true := beq_iff_eq.2 h10
        have He : Hid (s[k] = 10) := hid (UInt8.toNat_inj.1 (by show s[k].toNat = 10; omega))
        clear h10
        go_wp2_with (first | (at_builtin; refine app1 w.heap.size 36 9 (.string ⟨#[]⟩) 16 Tryz.underlying36 Tryz.infoStr HO.out hB hBs (by omega) (by omega) ?_; intro v1 w1 hown1 hB1 hg1 hz1))
        refine ⟨⟨k + 1, k + 1, rs ++ [s.extract g k], by omega, Nat.le_refl _, by rw [List.length_append]; simp; omega, by go_num, by go_num, by rw [List.length_append, List.map_append]; exact hown1, ?_, hB1⟩, by simp [intOf]; omega⟩
        rw [Hln.out, linesGo_nl (by rw [Hx.out, He.out]), List.map_append, List.append_assoc, Nat.sub_self, List.take_zero]
        congr 1
        simp [L_extract]
      · have hb : ((s[k].toNat : Int) == 10) = false := beq_eq_false_iff_ne.2 h10
        have He : Hid (s[k] ≠ 10) := hid fun e => h10 (by rw [e]; rfl)
        clear h10
        go_wp2_with fail
        refine ⟨⟨k + 1, g, rs, by omega, by omega, by omega, by go_num, rfl, HO.out, ?_, hB⟩, by simp [intOf]; omega⟩
        rw [Hln.out, linesGo_other Hx.out He.out, take_drop_snoc Hx.out hg]
    · have hke : k = s.size := by omega
      have Hke := hid hke
      have hLn : Hid (linesL (L s) = rs.map L ++ linesGo [] ((L s).drop g)) := hid (by
        rw [Hln.out, Hke.out, List.drop_eq_nil_of_le (by rw [L_size]; omega), List.take_of_length_le (by rw [List.length_drop, L_size]; omega)])
      clear hke
      by_cases hgs : g < s.size
      · have hL2 : Hid (linesL (L s) = rs.map L ++ [(L s).drop g]) := hid (by
          rw [hLn.out]; congr 1
          unfold linesGo
          rw [if_neg (fun e => by have := congrArg List.length e; rw [List.length_drop, L_size] at this; simp at this; omega)])
        go_wp2_with (first | (at_builtin; refine app1 w.heap.size 36 9 (.string ⟨#[]⟩) 16 Tryz.underlying36 Tryz.infoStr HO.out hB hBs (by omega) (by omega) ?_; intro v1 w1 hown1 hB1 hg1 hz1))
        go_ret
        refine ⟨⟨v1, rs ++ [s.extract g s.size], rfl, by rw [List.length_append, List.map_append]; exact hown1, ?_⟩, hB1⟩
        rw [hL2.out, List.map_append]
        congr 1
        simp [L_extract]
        rw [List.take_of_length_le (by rw [List.length_drop, L_size]; omega)]
      · have hL2 : Hid (linesL (L s) = rs.map L) := hid (by
          rw [hLn.out]
          rw [List.drop_eq_nil_of_le (by rw [L_size]; omega)]
          simp [linesGo])
        go_wp2_with fail
        go_ret
        exact ⟨⟨_, rs, rfl, HO.out, hL2.out.symm⟩, hB⟩
end Go.Proofs.YtgbnlemcojgijaaGreatDoor
