/- strconv.FormatUint at base 10, and money.Print: an amount's text. -/
import Derived.Test.YtgbnlemcojgijaaGreatDoorM
import Derived.Test.YtgbnlemcojgijaaGreatDoorShelf
namespace Go.Proofs.YtgbnlemcojgijaaGreatDoor
open Go.RowKit Go.Shelf Go.Sort

/-- The library's variables that the walks read. -/
structure Gl (w : World) : Prop where
  maxlen : ∃ m, w.cell? ⟨0, 0, none⟩ = some (.int .i64 m)
  pow10 : Lib.TabIs Tryz.prog w "internal/strconv.uint64pow10" .u64 Lib.pow10Tab
  size : 11 ≤ w.heap.size
theorem var?_same {P : Program} {g : Nat} {W W' : World} {n : String} {cs : Array Value} (h : W'.heap[g]? = W.heap[g]?) (hg : P.globalNamed n = some g) (hv : W.var? P n = some cs) : W'.var? P n = some cs := by
  unfold World.var? at hv ⊢
  simp only [hg, Option.bind_some] at hv ⊢
  rw [h]
  exact hv
theorem Gl.keeps {S : Nat → Prop} {w w' : World} (h : Gl w) (hk : Keeps S w w') (hS : ∀ k, S k → 11 ≤ k) : Gl w' := by
  obtain ⟨m, hm⟩ := h.maxlen
  have hz := h.size
  have no : ∀ k, k < 11 → ¬ S k := fun k hk hs => absurd (hS k hs) (by omega)
  exact ⟨⟨m, hk.cell hm (no _ (by decide))⟩, var?_same (g := 6) (hk.block _ (by omega) (no _ (by decide))) (by kernel_rfl) h.pow10, Nat.le_trans hz hk.size⟩
theorem Gl.below {w w' : World} (h : Gl w) (hb : Below w.heap.size w w') : Gl w' := h.keeps (Keeps.of_below (S := fun _ => False) hb) (fun _ h => h.elim)

theorem nDigits_le20 (u : Nat) (h : u < 18446744073709551616) : Lib.nDigits u ≤ 20 := by
  rcases Nat.eq_zero_or_pos u with rfl | h1
  · rw [Lib.nDigits_small (by omega)]; omega
  · have := Lib.numDigits_eq u h1 h
    split at this <;> omega
theorem holds_zero0 (w : World) (T : TypeId) (nd : Nat) (hs : nd ≤ 24) : Holds (fun (b : UInt8) => Value.int .u8 (b.toNat : Int)) (w.alloc (.cells Lib.zeros24 T)) w.heap.size 0 (Array.replicate nd (0 : UInt8)) := fun j hj => by
  have hj' : j < nd := by simpa using hj
  refine ⟨?_, World.frozen?_alloc_new _ _ _ _⟩
  rw [World.cell?_alloc_new, Lib.zeros24_at _ (by omega), getElem!_pos _ j hj]
  simp
theorem below_put (w : World) (o : Obj) (dk : Array UInt8) (k : Nat) : Below w.heap.size w ((putRow (fun (b : UInt8) => Value.int .u8 (b.toNat : Int)) (w.alloc o) w.heap.size 0 dk).drewN k) := by
  rw [alloc_eq_grow]
  obtain ⟨os', _, e⟩ := putRow_grow_new (fun (b : UInt8) => Value.int .u8 (b.toNat : Int)) w #[o] w.heap.size 0 dk (Nat.le_refl _)
  rw [e]
  exact ⟨rfl, rfl, rfl, by simp [grow, World.drewN], fun i hi => by simp [grow, World.drewN]; rw [Array.getElem?_append_left hi]⟩

set_option maxHeartbeats 2000000 in
set_option maxRecDepth 100000 in
theorem iFormatUint (u : Nat) (hu64 : u < 18446744073709551616) (w : World) (hg : Gl w) :
    Calls Tryz.prog 202 #[.int .u64 u, .int .i64 10] w fun e w' => (∃ r, e = .returned (.string r) ∧ Str r (Lib.decDigits u)) ∧ Below w.heap.size w w' := by
  by_cases hs : u < 100
  · go_enter Tryz.func202, Tryz.ntmps202
    go_wp2_with (go_at_call 249; refine (Tryz.internal_strconv_small u hs _).mono ?_; rintro e w' ⟨rfl, rfl⟩)
    go_ret
    exact ⟨⟨_, rfl, Str.mk (L_mk _)⟩, Below.refl _ _⟩
  · have hu1 : 1 ≤ u := by omega
    have hnd20 : Lib.nDigits u ≤ 20 := nDigits_le20 u hu64
    have hH0 := holds_zero0 w 300 (Lib.nDigits u) (by omega)
    have hfmt := Tryz.internal_strconv_formatBase10 w.heap.size 0 24 u (Array.replicate (Lib.nDigits u) 0) (w.alloc (.cells Lib.zeros24 300)) hH0 (by rw [Array.size_replicate]; exact Lib.lt_pow_nDigits u) hu64 (by rw [Array.size_replicate]; omega)
    rw [Array.size_replicate] at hfmt
    have hal : Tryz.prog.arrayLen 300 = 24 := by kernel_rfl
    have hsl : ∀ W, (Instr.sliceAt 300 (.pointer (some ⟨w.heap.size, 0, none⟩)) none (some (.int .i64 (Lib.nDigits u : Int))) none).run Tryz.prog W = .ok (.slice (some ⟨w.heap.size, 0, none⟩) (Lib.nDigits u) 24) W := fun W => by
      rw [run_sliceAt_array_h W 300 ⟨w.heap.size, 0, none⟩ (by simp [Program.arrayLen, Program.elem, Tryz.underlying300]) .i64 (Lib.nDigits u : Int) (by omega) (by rw [hal]; omega)]
      go_simp
    clear hal
    have HH0 := hid hH0
    have Hf := hid hfmt
    have Hu := hid hu64
    clear hH0 hfmt hu64
    go_enter Tryz.func202, Tryz.ntmps202
    go_wp2_with (go_at_call 250; refine (Tryz.internal_strconv_numDigits u hu1 Hu.out _ (Lib.tabIs_alloc hg.pow10 _)).mono ?_; rintro e w' ⟨rfl, rfl⟩)
    refine Hf.out.mono ?_
    rintro e w' ⟨rfl, k, v', dk, rfl, hF⟩
    have hcv : (convert 154 9 (.slice (some ⟨w.heap.size, 0, none⟩) (Lib.nDigits u) 24)).run Tryz.prog ((putRow (fun (b : UInt8) => Value.int .u8 (b.toNat : Int)) (w.alloc (.cells Lib.zeros24 300)) w.heap.size 0 dk).drewN k) = .ok (.string ⟨(Lib.decDigits u).toArray⟩) ((putRow (fun (b : UInt8) => Value.int .u8 (b.toNat : Int)) (w.alloc (.cells Lib.zeros24 300)) w.heap.size 0 dk).drewN k) := by
      have h := run_convert_bytes_back (P := Tryz.prog) ((putRow (fun (b : UInt8) => Value.int .u8 (b.toNat : Int)) (w.alloc (.cells Lib.zeros24 300)) w.heap.size 0 dk).drewN k) 154 9 5 ⟨w.heap.size, 0, none⟩ 24 (Lib.decDigits u) Tryz.underlying154 Tryz.underlying5 Tryz.underlying9 (fun j hj => by
        rw [Lib.row_is_numeral hF j hj, Lib.add_plain, World.cell?_drewN]
        exact cell?_putRow (fun (b : UInt8) => Value.int .u8 (b.toNat : Int)) _ w.heap.size 0 _ dk HH0.out (by rw [hF.size, Array.size_replicate]) j (by rw [hF.size]; rw [Lib.decDigits_length] at hj; exact hj))
      rw [Lib.decDigits_length] at h
      exact h
    go_wp2
    go_ret
    exact ⟨⟨_, rfl, Str.mk (L_mk _)⟩, below_put w _ dk k⟩

theorem FormatUint (u : Nat) (hu64 : u < 18446744073709551616) (w : World) (hg : Gl w) :
    Calls Tryz.prog 135 #[.int .u64 u, .int .i64 10] w fun e w' => (∃ r, e = .returned (.string r) ∧ Str r (Lib.decDigits u)) ∧ Below w.heap.size w w' := by
  have H := hid (iFormatUint u hu64 w hg); clear hu64
  go_enter Tryz.func135, Tryz.ntmps135
  go_wp2_with (go_at_call 202; refine H.out.mono ?_; rintro e w' ⟨⟨r, rfl, hr⟩, hb⟩)
  go_ret
  exact ⟨⟨r, rfl, hr⟩, hb⟩

/-- An amount's text. -/
def padL (l : List UInt8) (d : Nat) : List UInt8 := List.replicate (d + 1 - l.length) 48 ++ l
def pointL (l : List UInt8) (d : Nat) : List UInt8 := if d = 0 then l else l.take (l.length - d) ++ 46 :: l.drop (l.length - d)
def printL (a : Int) (d : Nat) : List UInt8 := (if a < 0 then [45] else []) ++ pointL (padL (Lib.decDigits a.natAbs) d) d

theorem repeatL_eq (l : List UInt8) : ∀ c, Lib.repeatL l c = (List.replicate c l).flatten
  | 0 => rfl
  | c + 1 => by rw [Lib.repeatL, repeatL_eq l c, List.replicate_succ, List.flatten_cons]
theorem flatten_one (b : UInt8) (c : Nat) : (List.replicate c [b]).flatten = List.replicate c b := by
  induction c with
  | zero => rfl
  | succ c ih => simp [List.replicate_succ, ih]
theorem Repeat_any (s : ByteArray) (c : Nat) (w : World) (hlen : s.size * c ≤ 140737488355328) (hc : c ≤ 9223372036854775807 := by omega) :
    Calls Tryz.prog 95 #[.string s, .int .i64 c] w fun e w' => (∃ r, e = .returned (.string r) ∧ Str r (List.replicate c (L s)).flatten) ∧ Below w.heap.size w w' :=
  (Tryz.strings_Repeat s c w hc hlen).mono fun _ _ ⟨he, hb⟩ => ⟨⟨_, he, Str.mk (by rw [L_mk]; exact repeatL_eq _ c)⟩, hb⟩

theorem size_any (a : Int) (w : World) (hr : I64 a) :
    Calls Tryz.prog 136 #[.int .i64 a] w fun e w' => e = .returned (.int .u64 (a.natAbs : Int)) ∧ w = w' := by
  have H := hid hr; clear hr
  by_cases h : a < 0
  · go_enter Tryz.func136, Tryz.ntmps136
    go_wp2
    go_ret
    exact ⟨ret_int (by rw [wrap_u64]; unfold wrap64; have := H.out.1; omega), rfl⟩
  · go_enter Tryz.func136, Tryz.ntmps136
    go_wp2
    go_ret
    exact ⟨ret_int (by rw [wrap_u64]; have := H.out.2; omega), rfl⟩

theorem badDigits_any (d : Int) (w : World) :
    Calls Tryz.prog 100 #[.int .i64 d] w fun e w' => e = .returned (.bool (decide (d < 0) || decide (6 < d))) ∧ w = w' := by
  by_cases h : d < 0
  · go_enter Tryz.func100, Tryz.ntmps100
    go_wp2
    go_ret
    simp [h]
  · go_enter Tryz.func100, Tryz.ntmps100
    go_wp2
    go_ret
    exact ⟨by simp; omega, rfl⟩

theorem Print_bad (a d : Int) (w : World) (hd : d < 0 ∨ 6 < d) :
    Calls Tryz.prog 90 #[.int .i64 a, .int .i64 d] w fun e w' => e = .returned (.tuple #[.string ⟨#[]⟩, .int .i64 1]) ∧ w = w' := by
  have hb : (decide (d < 0) || decide (6 < d)) = true := by simpa using hd
  go_enter Tryz.func90, Tryz.ntmps90
  go_wp2_with (go_at_call 100; refine (badDigits_any d _).mono ?_; rintro e w' ⟨rfl, rfl⟩; rw [hb])
  go_ret2
  exact ⟨rfl, rfl⟩

theorem Print_min (d : Int) (w : World) (hd : 0 ≤ d) (hd6 : d ≤ 6) :
    Calls Tryz.prog 90 #[.int .i64 (-9223372036854775808), .int .i64 d] w fun e w' => e = .returned (.tuple #[.string ⟨#[]⟩, .int .i64 10]) ∧ w = w' := by
  have hb : (decide (d < 0) || decide (6 < d)) = false := by simp; omega
  go_enter Tryz.func90, Tryz.ntmps90
  go_wp2_with (go_at_call 100; refine (badDigits_any d _).mono ?_; rintro e w' ⟨rfl, rfl⟩; rw [hb])
  go_ret2
  exact ⟨rfl, rfl⟩

set_option maxHeartbeats 1000000 in
theorem Print_any (a : Int) (d : Nat) (w : World) (hg : Gl w) (h0 : -9223372036854775807 ≤ a) (h1 : a ≤ 9223372036854775807) (hd6 : d ≤ 6) :
    Calls Tryz.prog 90 #[.int .i64 a, .int .i64 d] w fun e w' => (∃ r, e = .returned (.tuple #[.string r, .int .i64 0]) ∧ Str r (printL a d)) ∧ Below w.heap.size w w' := by
  have hb : (decide ((d : Int) < 0) || decide (6 < (d : Int))) = false := by simp; omega
  have hm : (a == -9223372036854775808) = false := by simp; omega
  have hu : a.natAbs < 18446744073709551616 := by omega
  have Hu := hid hu
  have Hr : Hid (I64 a) := hid ⟨by omega, h1⟩
  have hn20 := nDigits_le20 a.natAbs hu
  have hlen : (Lib.decDigits a.natAbs).length ≤ 20 := by rw [Lib.decDigits_length]; exact hn20
  have hlen1 : 1 ≤ (Lib.decDigits a.natAbs).length := by rw [Lib.decDigits_length]; exact Lib.nDigits_pos _
  clear h0 h1 hu hn20
  go_enter Tryz.func90, Tryz.ntmps90
  go_wp2_with fail
  refine (badDigits_any d _).mono ?_
  rintro e w' ⟨rfl, rfl⟩
  rw [hb]
  go_wp2_with fail
  refine (size_any a _ Hr.out).mono ?_
  rintro e w' ⟨rfl, rfl⟩
  go_wp2_with fail
  refine (FormatUint _ Hu.out _ hg).mono ?_
  rintro e w1 ⟨⟨r, rfl, hr⟩, hb1⟩
  have hrs : r.size = (Lib.decDigits a.natAbs).length := hr.size
  have hr1 : r.size ≤ 20 := by omega
  have hr2 : 1 ≤ r.size := by omega
  have Hlen := hid hrs; clear hrs hlen hlen1
  go_upto_if 21 with (fail)
  go_cut [6] (fun v W => ∃ s1, v = .string s1 ∧ Str s1 (padL (Lib.decDigits a.natAbs) d) ∧ d + 1 ≤ s1.size ∧ s1.size ≤ 27 ∧ Below w.heap.size w W)
  case first =>
    by_cases hp : (r.size : Int) < d + 1
    · obtain ⟨c, hc⟩ : ∃ c : Nat, (d : Int) + 1 - r.size = c := ⟨d + 1 - r.size, by omega⟩
      have hc1 : 0 < c := by omega
      go_wp2_with fail
      refine (Repeat_any _ c _ (by show 1 * c ≤ _; omega)).mono ?_
      rintro e w2 ⟨⟨z, rfl, hz⟩, hb2⟩
      have hz' : Str z (List.replicate c 48) := by rw [← flatten_one]; exact hz
      have hzs : z.size = c := by rw [hz'.size]; simp
      have hS : Str (z ++ r) (padL (Lib.decDigits a.natAbs) d) := Str.mk (by
        rw [L_append, hz'.out, hr.out]; unfold padL; rw [← Hlen.out, show d + 1 - r.size = c by omega])
      have hS1 : d + 1 ≤ (z ++ r).size := by rw [ByteArray.size_append]; omega
      have hS2 : (z ++ r).size ≤ 27 := by rw [ByteArray.size_append]; omega
      have hB : Below w.heap.size w w2 := hb1.trans (hb2.mono hb1.size)
      have hzr : z.size + r.size ≤ 27 := by have := hS2; rwa [ByteArray.size_append] at this
      clear hz hz' hzs hc hb2 hr
      go_wp2_with fail
      go_meet
      exact ⟨_, rfl, hS, hS1, hS2, hB⟩
    · go_wp2_with fail
      go_meet
      exact ⟨_, rfl, Str.mk (by rw [hr.out]; unfold padL; rw [← Hlen.out, show d + 1 - r.size = 0 by omega]; rfl), by omega, by omega, hb1⟩
  case rest =>
    obtain ⟨s1, rfl, hs1, hz1, hz2, hB⟩ := hcut
    clear hr hr1 hr2 Hlen hb1
    go_upto_if 27 with (fail)
    go_cut [6] (fun v W => ∃ s2, v = .string s2 ∧ Str s2 (pointL (padL (Lib.decDigits a.natAbs) d) d) ∧ s2.size ≤ 28 ∧ Below w.heap.size w W)
    case first =>
      by_cases hd0 : d = 0
      · subst hd0
        go_wp2_with fail
        go_meet
        exact ⟨_, rfl, Str.mk (by rw [hs1.out]; rfl), by omega, hB⟩
      · have hd1 : 0 < d := by omega
        have q1 : IntKind.i64.wrap ((s1.size : Int) - d) = (s1.size : Int) - d := IntWalk.i64_in _ (by omega)
        have q2 : (0 : Int) ≤ (s1.size : Int) - d := by omega
        have q3 : ((s1.size : Int) - d).toNat = s1.size - d := by omega
        have q4 : (s1.size : Int) - d ≤ s1.size := by omega
        go_wp2_with fail
        go_quiet (fail)
        go_wp2_with fail
        go_meet
        refine ⟨_, rfl, Str.mk ?_, ?_, hB.trans (below_drewN (Below.refl _ _) _)⟩
        · unfold pointL
          rw [if_neg hd0, L_append, L_append, L_extract, L_extract, hs1.out, ← hs1.size, List.drop_zero, Nat.sub_zero, List.append_assoc]
          rw [List.take_of_length_le (l := List.drop _ _) (by rw [List.length_drop, ← hs1.size]; exact Nat.le_refl _)]
          rfl
        · rw [ByteArray.size_append, ByteArray.size_append, ByteArray.size_extract, ByteArray.size_extract]
          show _ + 1 + _ ≤ _
          omega
    case rest =>
      obtain ⟨s2, rfl, hs2, hz3, hB2⟩ := hcut
      by_cases ha0 : a < 0
      · go_wp2
        go_ret2
        exact ⟨⟨_, rfl, Str.mk (by unfold printL; rw [if_pos ha0, L_append, hs2.out]; rfl)⟩, hB2⟩
      · go_wp2
        go_ret2
        exact ⟨⟨_, rfl, Str.mk (by unfold printL; rw [if_neg (by omega), hs2.out]; rfl)⟩, hB2⟩
end Go.Proofs.YtgbnlemcojgijaaGreatDoor
