/- chart: Kids. -/
import Derived.Test.YtgbnlemcojgijaaGreatDoorAa
namespace Go.Proofs.YtgbnlemcojgijaaGreatDoor
open Go.RowKit Go.Shelf Go.Sort

def nameAt (acc : List Acct) (j : Nat) : ByteArray := match acc[j]? with | some a => a.name | none => ⟨#[]⟩

set_option maxHeartbeats 1000000 in
theorem Kids_any (B c m : Nat) (acc : List Acct) (nb : Nat → Nat) (rv : Value) (kv : Nat → Value) (i : Nat) (a : Acct) (w : World) (hC : ChartAt w B c m acc nb rv kv) (hi : acc[i]? = some a) (hs : a.name.size ≤ 140737488351232) (h0 : 0 < a.name.size) (hn : acc.length ≤ 1048576) :
    Calls Tryz.prog 113 #[.pointer (some ⟨c, 0, none⟩), .string a.name] w fun e w' => (∃ v, e = .returned v ∧ w'.ownsRow w.heap.size 9 1 v (kidsOf acc (some a.name)).length (((kidsOf acc (some a.name)).map (nameAt acc)).map Value.string)) ∧ Below w.heap.size w w' := by
  have hl := hC.map.look Tryz.underlying118 (Tryz.zeroValue117 w) a.name (by simp only [maxLen]; omega)
  rw [byName_get hC.forest nb hi] at hl
  have hl2 : (Instr.lookup 118 (.map (some m)) (.string a.name) false).run Tryz.prog w = .ok (.pointer (some ⟨nb i, 0, none⟩)) w := hl
  have hcc := cell_of (i := 0) (v := .map (some m)) hC.chart rfl
  have hcr := cell_of (i := 1) (v := rv) hC.chart rfl
  have hno := hC.node i a hi
  have n4 := cell_of (i := 4) (v := kv i) hno rfl
  have hne : (a.name.toList == []) = false := by
    rw [beq_eq_false_iff_ne, ByteArray.toList_eq]
    intro e
    have : a.name.data.toList.length = 0 := by rw [e]; rfl
    have h2 : a.name.data.toList.length = a.name.size := rfl
    omega
  have hkl := kidsOf_length acc (some a.name)
  have HC := hid hC
  have HO := hid (hC.kids i a hi)
  obtain ⟨A, cap, hA⟩ := own_slice (hC.kids i a hi)
  rw [hA] at HO n4
  have HA := hid (own_arr HO.out)
  have HK : Hid (∀ j, j < (kidsOf acc (some a.name)).length → ∃ x y, ((kidsOf acc (some a.name)).map fun j => ptrV (nb j))[j]? = some (.pointer (some ⟨x, 0, none⟩)) ∧ w.cell? ⟨x, 0, none⟩ = some (.string y) ∧ ((kidsOf acc (some a.name)).map (nameAt acc)).take (j + 1) = ((kidsOf acc (some a.name)).map (nameAt acc)).take j ++ [y]) := hid fun j hj => by
    have hmem := List.getElem_mem hj
    have hlt := kidsOf_lt _ _ _ hmem
    have hnode := hC.node _ _ (hC.get hlt)
    refine ⟨nb (kidsOf acc (some a.name))[j], acc[(kidsOf acc (some a.name))[j]].name, by rw [List.getElem?_map, List.getElem?_eq_getElem hj]; rfl, cell_of hnode rfl, ?_⟩
    rw [List.take_succ_eq_append_getElem (by rw [List.length_map]; exact hj)]
    rw [List.getElem_map]
    have hna : nameAt acc (kidsOf acc (some a.name))[j] = acc[(kidsOf acc (some a.name))[j]].name := by
      unfold nameAt
      rw [hC.get hlt]
    rw [hna]
  clear hl hC hno hA
  generalize hlen : (kidsOf acc (some a.name)).length = n at *
  go_enter Tryz.func113, Tryz.ntmps113
  go_wp2_with fail
  go_loopw [7, 9, 30] (fun v _ i W => ∃ k : Nat, k ≤ n ∧ i = .int .i64 k ∧ W.ownsRow w.heap.size 9 1 v k ((((kidsOf acc (some a.name)).map (nameAt acc)).take k).map Value.string) ∧ Below w.heap.size w W) (fun _ _ i _ => n - (intOf i).toNat)
  case atStart => exact ⟨0, Nat.zero_le _, rfl, ⟨rfl, .inl ⟨rfl, rfl⟩⟩, Below.refl _ _⟩
  case round =>
    obtain ⟨k, hk, rfl, hown, hB⟩ := hrel
    obtain ⟨wo, rfl⟩ : ∃ wo : World, wo = wr := ⟨_, rfl⟩
    have HR := hid hown
    have hBs := hB.size
    obtain ⟨Av, cv, rfl⟩ := own_slice hown
    by_cases hlt : k < n
    · obtain ⟨b, off, rfl, hcell⟩ := (HA.out.below hB) (by omega)
      obtain ⟨x, y, hx, hy, ht⟩ := HK.out k hlt
      have hc := hcell k _ hx
      have hy2 := cell_below hB hy
      have Ht := hid ht
      clear hcell hx hy ht hown
      go_wp2_with (first | (at_builtin; refine app1 w.heap.size 36 9 (.string ⟨#[]⟩) 16 Tryz.underlying36 Tryz.infoStr HR.out hB hBs (by omega) (by omega) ?_; intro v1 w1 hown1 hB1 hg1 hz1))
      exact ⟨⟨k + 1, by omega, by go_num, by rw [Ht.out, List.map_append]; exact hown1, hB1⟩, by simp [intOf]; omega⟩
    · have hke : k = n := by omega
      subst hke
      have Hlen := hid hlen
      clear hown
      go_wp2_with fail
      go_ret
      refine ⟨⟨_, rfl, ?_⟩, hB⟩
      have h := HR.out
      rw [List.take_of_length_le (by rw [List.length_map]; exact Nat.le_of_eq Hlen.out)] at h
      exact h
end Go.Proofs.YtgbnlemcojgijaaGreatDoor
