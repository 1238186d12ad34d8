/- chart: put behind all others, continued. -/
import Derived.Test.YtgbnlemcojgijaaGreatDoorH
namespace Go.Proofs.YtgbnlemcojgijaaGreatDoor
open Go.RowKit Go.Shelf Go.Sort

theorem Tryz.infoNode : (Tryz.prog.info? 117).map (fun i => (i.zero, i.size, i.bytes)) = some (some (.pointer none), 1, 8) := by kernel_rfl

/-- append(v, news...) at the operation: v an owned row; the new ones stand at ad. -/
theorem appAt {P : Program} {ops : Array Oper} {rest : List Oper} {o : Oper} {a : Act} {Q : Exit → Act → World → Prop} {W : World} {s x : Operand} {v : Value} {n : Nat} {xs : List Value} {y : Value} {ad : Addr} {c : Nat} (base : Nat) (t e : TypeId) (z : Value) (bytes : Nat)
    (ht : P.underlying t = some (.slice e)) (hinfo : (P.info? e).map (fun i => (i.zero, i.size, i.bytes)) = some (some z, 1, bytes))
    (HO : W.ownsRow base e 1 v n xs) (hbase : base ≤ W.heap.size) (hn : n + 1 ≤ 9223372036854775807) (hl : (n + 1) * bytes ≤ 140737488355328) (hcell : W.cell? ad = some y) (hfl : ad.add 0 = ad)
    (h : ∀ v1 w1, w1.ownsRow base e 1 v1 (n + 1) (xs ++ [y]) → W.grownBy w1 v.ownBlock → (v1.ownBlock = v.ownBlock ∨ v1.ownBlock = some W.heap.size) → wpList P ops Q rest (a.put o.dst v1) w1)
    (hgd : o.guard = none := by rfl) (ho : o.op = .call { callee := .builtin .append, args := #[s, x], argTypes := #[t, t] } := by rfl)
    (hs : a.eval s = v := by rfl) (hx : a.eval x = .slice (some ad) 1 c := by rfl) (hz : z.cells.size = 1 := by rfl) (h1 : y.oneCell' = true := by rfl) :
    wpList P ops Q (o :: rest) a W := by
  obtain ⟨i0, hi, hzz⟩ := Option.map_eq_some_iff.1 hinfo
  simp only [Prod.mk.injEq] at hzz
  obtain ⟨hz0, hz1, hz2⟩ := hzz
  refine wpList_append_own_at W hgd s x t ho base e i0 z 1 bytes ht hi hz0 hz1 hz2 hz (by omega) v n xs hs HO ad 1 c [y] hx rfl
    (fun j u hj => by
      match j, hj with
      | 0, hj => simp at hj; subst hj; rw [hfl]; exact hcell) (by simpa using h1) (by simp only [maxLen]; omega) hl hbase ?_
  intro v1 w1 hown hg _ hat
  exact h v1 w1 hown hg hat

set_option maxHeartbeats 1000000 in
theorem insertLast (B : Nat) (v : Value) (n q ab : Nat) (xs : List Value) (w : World) (hn : n ≤ 1048576) (hB : B ≤ w.heap.size)
    (hown : w.ownsRow B 117 1 v n xs) (hc : w.cell? ⟨ab, 0, none⟩ = some (.pointer (some ⟨q, 0, none⟩))) :
    Calls Tryz.prog 174 #[v, .int .i64 n, .slice (some ⟨ab, 0, none⟩) 1 1] w fun e w' => ∃ v', e = .returned v' ∧ w'.ownsRow B 117 1 v' (n + 1) (xs ++ [ptrV q]) ∧ w.grownBy w' v.ownBlock ∧ (v'.ownBlock = v.ownBlock ∨ v'.ownBlock = some w.heap.size) := by
  have HO := hid hown
  obtain ⟨A, cap, rfl⟩ := own_slice hown
  by_cases hcap : cap = n
  · subst hcap
    go_enter Tryz.func174, Tryz.ntmps174
    go_wp2_with (first | (at_builtin; refine appAt B 119 117 (.pointer none) 8 Tryz.underlying119 Tryz.infoNode HO.out hB (by omega) (by omega) hc rfl ?_; intro v1 w1 hown1 hg1 hat1))
    go_ret
    exact ⟨v1, rfl, hown1, hg1, hat1⟩
  · go_enter Tryz.func174, Tryz.ntmps174
    go_wp2_with (first | (at_builtin; refine appAt B 119 117 (.pointer none) 8 Tryz.underlying119 Tryz.infoNode HO.out hB (by omega) (by omega) hc rfl ?_; intro v1 w1 hown1 hg1 hat1))
    go_ret
    exact ⟨v1, rfl, hown1, hg1, hat1⟩

theorem grown_of_below {w w' : World} {row : Option Nat} (h : Below w.heap.size w w') : w.grownBy w' row := ⟨h.os, h.tape, h.output, h.size, fun i hi _ => h.block i hi⟩
theorem grown_cell {w w' : World} {row : Option Nat} (h : w.grownBy w' row) {p : Addr} {v : Value} (hc : w.cell? p = some v) (hp : some p.block ≠ row) : w'.cell? p = some v :=
  (World.cell?_of_block (w := w) (h.block p.block (World.block_lt_of_cell? w p hc) hp)).trans hc
theorem own_grow {w w' : World} {base : Nat} {e : TypeId} {size n : Nat} {v : Value} {xs : List Value} (h : w.ownsRow base e size v n xs) (hb : Below w.heap.size w w') : w'.ownsRow base e size v n xs := own_below h hb

set_option maxHeartbeats 1000000 in
theorem putLast (B : Nat) (v : Value) (n q : Nat) (t : ByteArray) (ps : List (Nat × ByteArray)) (w : World) (hn : ps.length = n) (hn2 : n ≤ 1048575) (hB : B ≤ w.heap.size)
    (hown : w.ownsRow B 117 1 v n (ps.map fun p => ptrV p.1))
    (hp : ∀ p ∈ ps, w.cell? ⟨p.1, 0, none⟩ = some (.string p.2) ∧ cmpS p.2 t < 0) (hq : w.cell? ⟨q, 0, none⟩ = some (.string t)) :
    Calls Tryz.prog 118 #[v, .pointer (some ⟨q, 0, none⟩)] w fun e w' => ∃ v', e = .returned v' ∧ w'.ownsRow B 117 1 v' (n + 1) ((ps.map fun p => ptrV p.1) ++ [ptrV q]) ∧ w.grownBy w' v.ownBlock ∧ (v'.ownBlock = v.ownBlock ∨ ∃ k, w.heap.size ≤ k ∧ v'.ownBlock = some k) := by
  have HO := hid hown
  obtain ⟨A, cap, rfl⟩ := own_slice hown
  have Ha := hid (own_arr hown)
  have Hp := hid hp; clear hp hown
  go_enter Tryz.func118, Tryz.ntmps118
  go_wp2_with fail
  refine (searchLast A n cap q t ps w hn (by omega) Ha.out Hp.out hq).mono ?_
  rintro e w1 ⟨rfl, hb⟩
  have hs := hb.size
  have HO1 := hid ((own_below HO.out hb).alloc (.cells #[.pointer (some ⟨q, 0, none⟩)] 117))
  go_wp2_with fail
  refine (insertLast B _ n q w1.heap.size _ _ (by omega) (by simp; omega) HO1.out (by simp)).mono ?_
  rintro e w2 ⟨v', rfl, hown2, hg2, hat⟩
  go_wp2_with fail
  go_ret
  refine ⟨v', rfl, hown2, World.grownBy.trans (grown_of_below (hb.alloc hs _)) hg2, ?_⟩
  rcases hat with h | h
  · exact .inl h
  · exact .inr ⟨_, by simp; omega, h⟩
end Go.Proofs.YtgbnlemcojgijaaGreatDoor
