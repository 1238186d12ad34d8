/- SheetWalk: Tree's lines are the accounts, each once, in the tree's order. -/
import Derived.Test.YtgbnlemcojgijaaGreatDoorAu
namespace Go.Proofs.YtgbnlemcojgijaaGreatDoor
open Go.RowKit Go.Shelf Go.Sort

set_option maxHeartbeats 4000000 in
set_option maxRecDepth 100000 in
theorem SheetWalk_any (A : Option Addr) (cap : Nat) (acc : List Acct) (w : World) (hg : Gl w) (hn : acc.length ≤ 1048576) (hs : ∀ a ∈ acc, a.name.size ≤ 1048576) (hA : AcctsAt w A acc) :
    Calls Tryz.prog 5 #[.slice A acc.length cap] w fun e w' => e = .returned (.bool true) ∧ Below w.heap.size w w' := by
  have HT := hid (tree_nil A cap acc w hg hn hs hA)
  have Hs := hid hs; have HA := hid hA; have Hg := hid hg
  clear hs hA hg
  cases hok : chartOk acc with
  | false =>
    have Hok := hid hok
    clear hok
    go_enter Tryz.func5, Tryz.ntmps5
    go_wp2_with fail
    refine HT.out.mono ?_
    rintro e w1 ⟨h1, _, hb1⟩
    obtain rfl := h1 Hok.out
    clear h1
    go_wp2_with fail
    refine (From_any A cap acc w1 (Hg.out.below hb1) (by omega) (fun a ha => Nat.le_trans (Hs.out a ha) (by decide)) (HA.out.below hb1)).mono ?_
    rintro e w2 ⟨_, h2, hb2⟩
    obtain rfl := h2 Hok.out
    have hB2 := hb1.trans (hb2.mono hb1.size)
    have hG2 := hid (Hg.out.below hB2)
    clear h2 hb1 hb2
    go_wp2_with (first | (go_at_call 13; refine (num_any _ _).mono ?_; rintro e w3 ⟨rfl, rfl⟩) | (go_at_call 15; refine (first_any _ hG2.out).mono ?_; rintro e w4 ⟨rfl, hb4⟩) | fail)
    go_ret
    exact ⟨rfl, hB2.trans (hb4.mono hB2.size)⟩
  | true =>
    have R := chart_rising hok
    have Hok := hid hok
    clear hok
    go_enter Tryz.func5, Tryz.ntmps5
    go_wp2_with fail
    refine HT.out.mono ?_
    rintro e w1 ⟨_, h1, hb1⟩
    obtain ⟨r, rfl, hr⟩ := h1 Hok.out
    clear h1
    go_wp2_with fail
    refine (From_any A cap acc w1 (Hg.out.below hb1) (by omega) (fun a ha => Nat.le_trans (Hs.out a ha) (by decide)) (HA.out.below hb1)).mono ?_
    rintro e w2 ⟨h2, _, hb2⟩
    obtain ⟨c, m, nb, rv, kv, rfl, _⟩ := h2 Hok.out
    have hB2 := hb1.trans (hb2.mono hb1.size)
    have hgood : ∀ s ∈ (orderT acc).map (nameAt acc), goodB s = true := fun s hs => by
      obtain ⟨j, hj, rfl⟩ := List.mem_map.1 hs
      exact R.goodAt (R.order_ok.1.mem j hj).1
    obtain ⟨WW, hlines, hWW⟩ := tree_lines ((orderT acc).map (nameAt acc)) hgood
    have hfit := tree_fit R (d := 0) (by omega) (tf := noTold) (fun _ => ⟨show (-9223372036854775807 : Int) ≤ 0 by decide, show (0 : Int) ≤ 9223372036854775807 by decide⟩) (shf := noShare) (fun _ _ => Nat.zero_le _)
    have hrs : r.size ≤ 1073741824 := by
      rw [hr.size]
      have e : ((orderT acc).map (nameAt acc)).map rowT = rowsOfRoots acc 0 noTold noShare (kidsOf acc none) := (treeRows_zero acc).symm
      rw [e]
      have h := gridN_length (widthL (rowsOfRoots acc 0 noTold noShare (kidsOf acc none))) (fun c => decide (1 ≤ c)) _ 3 128 hfit.each (fun c => widthL_le _ c 128 fun r hr x hx => (hfit.each r hr).2 x hx) _ (Nat.le_refl _)
      have hl : (rowsOfRoots acc 0 noTold noShare (kidsOf acc none)).length ≤ 100 := by
        rw [rowsOfRoots_length]
        show (orderT acc).length ≤ 100
        rw [R.order_length]; exact R.few
      unfold gridL
      refine Nat.le_trans h ?_
      have := Nat.mul_le_mul_right (3 * (128 + 2) + 1) hl
      omega
    have HL : Hid (Calls Tryz.prog 12 #[.string r] w2 fun e w' => (∃ (v : Value) (rs : List ByteArray), e = .returned v ∧ w'.ownsRow w2.heap.size 9 1 v rs.length (rs.map Value.string) ∧ rs.map L = ((orderT acc).map (nameAt acc)).map (lineT WW)) ∧ Below w2.heap.size w2 w') := hid ((lines_any r w2 hrs).mono fun e w' ⟨⟨v, rs, h1, h2, h3⟩, h4⟩ => ⟨⟨v, rs, h1, h2, by rw [h3, hr.out, hlines]⟩, h4⟩)
    clear h2 hb1 hb2 hr hlines hfit hgood hrs
    have hbk := fun W => run_make_row' (P := Tryz.prog) 49 4 (.bool false) 1 Tryz.underlying49 Tryz.infoBool rfl .i64 .i64 acc.length (by omega) (by omega) W
    go_wp2_with (first | (go_at_call 13; refine (num_any _ _).mono ?_; rintro e w3 ⟨rfl, rfl⟩) | (go_at_call 12; refine HL.out.mono ?_; rintro e w3 ⟨⟨v, rs, rfl, hown, hrl⟩, hb3⟩; have hlen : rs.length = acc.length := (by have h := congrArg List.length hrl; simp only [List.length_map, R.order_length] at h; exact h); obtain ⟨A3, cap3, rfl⟩ := own_slice hown; rw [hlen] at hown ⊢; have Hrl := hid hrl; have Hlen := hid hlen; clear hrl hlen) | fail)
    have hB3 := hB2.trans (hb3.mono hB2.size)
    have hs3 := hB3.size
    have hb4 : Below w3.heap.size w3 (w3.alloc (.cells (madeCells #[.bool false] acc.length) 4)) := (Below.refl _ _).alloc (Nat.le_refl _) _
    have hD4 := heap_alloc_new w3 (.cells (madeCells #[.bool false] acc.length) 4)
    have hDone : DoneAt (w3.alloc (.cells (madeCells #[.bool false] acc.length) 4)) w3.heap.size acc 0 := ⟨_, hD4, size_madeCells _ _, fun j hj => by
      have := toList_madeCells_one (.bool false) acc.length
      rw [← Array.getElem?_toList, this, List.getElem?_replicate, if_pos hj]
      simp⟩
    have HO4 := hid (own_below hown hb4)
    have HB4 := hid (hB3.trans (hb4.mono hB3.size))
    have HA4 := hid ((HA.out.below hB3).below hb4)
    have HG4 := hid (Hg.out.below HB4.out)
    have HD4 := hid hDone
    clear hown hb3 hB3 hb4 hD4 hDone hB2 HL HT
    have hfew := R.few
    go_loopw [8, 10] (fun v i W => ∃ k : Nat, k ≤ acc.length ∧ i = .int .i64 k ∧ PathAt W w.heap.size v acc k ∧ DoneAt W w3.heap.size acc k ∧ Below w.heap.size w W ∧ KE 4 (w3.alloc (.cells (madeCells #[.bool false] acc.length) 4)) W) (fun _ i _ => acc.length - (intOf i).toNat)
    case atStart => exact ⟨0, Nat.zero_le _, rfl, ⟨[], rfl, ⟨rfl, .inl ⟨rfl, rfl⟩⟩⟩, HD4.out, HB4.out, KE.below (Below.refl _ _)⟩
    case round =>
      obtain ⟨k, hk, rfl, hpath, hdone, hBk, hke⟩ := hrel
      obtain ⟨wo, rfl⟩ : ∃ wo : World, wo = wr := ⟨_, rfl⟩
      by_cases hlt : k < acc.length
      · have hol := R.ord_lt hlt
        obtain ⟨o, ho⟩ : ∃ o, ordAt acc k = o := ⟨_, rfl⟩
        rw [ho] at hol
        have hgood := R.goodAt hol
        obtain ⟨hlp, hd5⟩ := lastA_part hgood
        have hkr : k < rs.length := by rw [Hlen.out]; exact hlt
        obtain ⟨s, hsk⟩ : ∃ s, rs[k] = s := ⟨_, rfl⟩
        have hls : L s = lineT WW (nameAt acc o) := by
          have h1 : (rs.map L)[k]? = some (L s) := by rw [List.getElem?_map, List.getElem?_eq_getElem hkr, hsk]; rfl
          rw [Hrl.out, List.getElem?_map, List.getElem?_map, ordAt_get (by rw [R.order_length]; exact hlt), ho] at h1
          injection h1 with h1
          exact h1.symm
        have hlo := lineT_ok (W := WW) hgood
        rw [← hls] at hlo
        have hsz : s.size ≤ 200 := by
          have e : s.size = (L s).length := rfl
          rw [e, hls]
          have := (part_facts hlp).2.1
          unfold lineT
          simp
          omega
        obtain ⟨b, off, rfl, hcell⟩ := own_arr (hke.own HO4.out (by decide)) (by omega)
        have hc := hcell k (.string s) (by rw [List.getElem?_map, List.getElem?_eq_getElem hkr, hsk]; rfl)
        have hnext := R.next hlt
        rw [ho] at hnext
        obtain ⟨ps, hps, hown⟩ := hpath
        obtain ⟨A8, c8, rfl⟩ := own_slice hown
        obtain ⟨x, hQ, hdl, hless⟩ := hnext
        have hdq : (pathOf acc o).length - 1 = deepA (nameAt acc o) := rfl
        rw [hdq] at hQ hdl hless
        have hxl : lastA (nameAt acc o) = x := by
          unfold lastA
          show (pathOf acc o).getLastD [] = x
          rw [hQ]
          simp [List.getLastD_eq_getLast?]
        have hpl : ps.length = (prevP acc k).length := by rw [← hps, List.length_map]
        rw [← hpl] at hdl
        obtain ⟨dd, hdd⟩ : ∃ dd, deepA (nameAt acc o) = dd := ⟨_, rfl⟩
        rw [hdd] at hQ hdl hless hlo hd5
        rw [hxl] at hlo
        obtain ⟨lo1, lo2, ⟨xs, lo3, lo4⟩, lo5⟩ := hlo
        have hlo1 : 2 * dd + 1 < s.size := lo1
        have Hlo2 := hid lo2
        have Hlo5 := hid lo5
        have hxs : ((xs.toNat : Int) == 32) = false := beq_eq_false_iff_ne.2 fun e => lo4 (UInt8.toNat_inj.1 (by show xs.toNat = 32; omega))
        have hW := word_any (s.extract (2 * dd) s.size) wo (by rw [ByteArray.size_extract]; omega)
        have hwl : wordL (L (s.extract (2 * dd) s.size)) = x := by
          rw [L_extract, List.take_of_length_le (by rw [List.length_drop, L_size]; omega)]
          exact lo5
        rw [hwl] at hW
        have HW := hid hW
        have Hps := hid hps; have Hown := hid hown; have HQ := hid hQ; have Hless := hid hless; have Hke := hid hke; have Hdone := hid hdone
        have Hpl := hid hpl; have Hho := hid ho
        have hi1 := idx_at s (2 * dd) (2 * (dd : Int)) xs (xs.toNat : Int) (by omega) rfl lo3 wo
        clear lo1 lo2 lo3 lo4 lo5 hW hwl hps hown hQ hless hke hdone hpl ho hls hsk hcell hdq hxl hdd hlp hkr
        go_wp2_with fail
        go_loop [11] (fun v => ∃ e : Nat, e ≤ dd ∧ v = .int .i64 e) (fun v => dd - (intOf v).toNat)
        case atStart => exact ⟨0, Nat.zero_le _, rfl⟩
        case round =>
          obtain ⟨e, he, rfl⟩ := hrel
          by_cases hed : e < dd
          · have h1 := idx_at s (2 * e) (2 * (e : Int)) 32 32 (by omega) rfl (Hlo2.out (2 * e) (by omega)) wo
            have h2 := idx_at s (2 * e + 1) (2 * (e : Int) + 1) 32 32 (by omega) rfl (Hlo2.out (2 * e + 1) (by omega)) wo
            have h3 : decide (2 * (e : Int) + 1 < (s.size : Int)) = true := decide_eq_true (by omega)
            go_wp2_with fail
            exact ⟨⟨e + 1, by omega, by go_num⟩, by simp [intOf]; omega⟩
          · have hee : e = dd := by omega
            subst hee
            have h3 : decide (2 * (e : Int) + 1 < (s.size : Int)) = true := decide_eq_true (by omega)
            go_upto_region 19 with (first | (go_at_call 19; refine HW.out.mono ?_; rintro e' w' ⟨⟨p, rfl, hp⟩, rfl⟩) | fail)
            have Hp := hid hp
            clear hp
            go_cut [110] (fun v W => v = .bool false ∧ wo = W)
            case first =>
              have hd1 : decide (ps.length < e) = false := decide_eq_false (by omega)
              by_cases hep : e < ps.length
              · obtain ⟨g, off2, rfl, hcell8⟩ := own_arr Hown.out (by omega)
                obtain ⟨y, hy⟩ : ∃ y, ps[e] = y := ⟨_, rfl⟩
                have hc8 := hcell8 e (.string y) (by rw [List.getElem?_map, List.getElem?_eq_getElem hep, hy]; rfl)
                have hyl : (prevP acc k)[e]? = some (L y) := by rw [← Hps.out, List.getElem?_map, List.getElem?_eq_getElem hep, hy]; rfl
                have hlt2 : Op.bytesLess y.toList p.toList = true := by
                  rw [less_S]
                  refine decide_eq_true ?_
                  unfold cmpS
                  rw [Hp.out.out]
                  exact Hless.out _ hyl
                have hd2 : decide (e < ps.length) = true := decide_eq_true hep
                clear hcell8 hy hyl
                go_wp2_with fail
                go_meet
                exact ⟨rfl, rfl⟩
              · have hd2 : decide (e < ps.length) = false := decide_eq_false hep
                go_wp2_with fail
                go_meet
                exact ⟨rfl, rfl⟩
            case rest =>
              obtain ⟨rfl, rfl⟩ := hcut
              have hnews : Arr wo A8 e ((ps.take e).map Value.string) := fun h0 => by
                obtain ⟨g, off, h1, h2⟩ := own_arr Hown.out (by omega)
                refine ⟨g, off, h1, fun j v hj => h2 j v ?_⟩
                rw [List.map_take] at hj
                rw [List.getElem?_take] at hj
                split at hj
                · exact hj
                · cases hj
              have hnl : ((ps.take e).map Value.string).length = e := by rw [List.length_map, List.length_take]; omega
              have h1c : ∀ u ∈ (ps.take e).map Value.string, u.oneCell' = true := fun u hu => by
                obtain ⟨q, _, rfl⟩ := List.mem_map.1 hu
                rfl
              have Hnews := hid hnews; have Hnl := hid hnl; have H1c := hid h1c
              clear hnews hnl h1c
              go_upto_region 21 with fail
              go_cut [8] (fun v W => ∃ A' c', v = .slice A' (e + 1) c' ∧ W.ownsRow w.heap.size 9 1 v (e + 1) ((ps.take e ++ [p]).map Value.string) ∧ Below wo.heap.size wo W)
              case first =>
                rcases Hown.out.2 with ⟨h1, h2⟩ | ⟨g, cap8, cur, h1, _, _, h2, _, _, _⟩
                · injection h1 with h1 _ h3
                  subst h1 h3
                  have he0 : e = 0 := by omega
                  subst he0
                  go_wp2_with (first | (at_builtin; refine appE 36 9 (.string ⟨#[]⟩) 16 Tryz.underlying36 Tryz.infoStr Hnl.out Hnews.out (fun _ => rfl) (by omega) (by omega) H1c.out ?_; intro v1 w1 hown1 hB1; have hBs1 := hB1.size; have HO1 := hid hown1; have HB1 := hid hB1; clear hown1 hB1) | (at_builtin; refine app1 wo.heap.size 36 9 (.string ⟨#[]⟩) 16 Tryz.underlying36 Tryz.infoStr HO1.out HB1.out hBs1 (by omega) (by omega) ?_; intro v2 w2 hown2 hB2 hg2 hz2; obtain ⟨A2, c2, rfl⟩ := own_slice hown2) | fail)
                  go_meet
                  refine ⟨A2, c2, rfl, own_mono ?_ hBk.size, hB2⟩
                  rw [List.map_append]
                  exact hown2
                · injection h1 with h1 _ h3
                  subst h1 h3
                  have h4 : e ≤ c8 := by omega
                  go_wp2_with (first | (at_builtin; refine appE 36 9 (.string ⟨#[]⟩) 16 Tryz.underlying36 Tryz.infoStr Hnl.out Hnews.out (fun h => nomatch h) (by omega) (by omega) H1c.out ?_; intro v1 w1 hown1 hB1; have hBs1 := hB1.size; have HO1 := hid hown1; have HB1 := hid hB1; clear hown1 hB1) | (at_builtin; refine app1 wo.heap.size 36 9 (.string ⟨#[]⟩) 16 Tryz.underlying36 Tryz.infoStr HO1.out HB1.out hBs1 (by omega) (by omega) ?_; intro v2 w2 hown2 hB2 hg2 hz2; obtain ⟨A2, c2, rfl⟩ := own_slice hown2) | fail)
                  go_meet
                  refine ⟨A2, c2, rfl, own_mono ?_ hBk.size, hB2⟩
                  rw [List.map_append]
                  exact hown2
              case rest =>
                obtain ⟨A', c', rfl, hown', hB'⟩ := hcut
                have hqs : (ps.take e ++ [p]).map L = pathOf acc o := by
                  rw [List.map_append, List.map_take, Hps.out, HQ.out]
                  show _ ++ [L p] = _
                  rw [Hp.out.out]
                obtain ⟨qs, hqe⟩ : ∃ qs, ps.take e ++ [p] = qs := ⟨_, rfl⟩
                rw [hqe] at hqs hown'
                have hql : qs.length = e + 1 := by rw [← hqe, List.length_append, List.length_take]; simp; omega
                clear hqe
                obtain ⟨hq6, hq16, hqj⟩ := path_parts R hol hqs
                have harr := own_arr hown'
                have hnl : qs.length * (16 + 1) ≤ 1073741824 := by omega
                rw [← hql] at harr
                have HJ := hid (joined_any A' c' 16 qs _ hnl (by decide) (by omega) hq16 harr)
                rw [hqj, hql] at HJ
                clear harr
                have hBn := hBk.trans (hB'.mono hBk.size)
                have hAr := HA.out.below hBn
                have Hdn := hid (Hdone.out.below hB')
                have hcd := Hdn.out.cell hol
                rw [← Hho.out, R.fresh hlt, Hho.out] at hcd
                have hfr := Hdn.out.frozen o
                have Hown2 := hid hown'; have HB2 := hid hB'; have HBn := hid hBn; have Hqs := hid hqs
                clear hown' hB' hBn hqs hqj
                go_wp2_with (first | (go_at_call 21; refine HJ.out.mono ?_; rintro e' w7 ⟨⟨r2, rfl, hr2⟩, rfl⟩; have HP := place_any A cap acc r2 _ (by omega) hAr; rw [R.place hol hr2.out] at HP) | (go_at_call 20; refine HP.mono ?_; rintro e' w7 ⟨rfl, rfl⟩) | fail)
                have hset : KE 4 wc (wc.setCell ⟨w3.heap.size, o, none⟩ (.bool true)) := by
                  obtain ⟨cs, h1, _⟩ := Hdn.out
                  exact KE.setCell h1 _
                refine ⟨⟨k + 1, hlt, by go_num, ⟨qs, ?_, ?_⟩, ?_, HBn.out.trans (below_setCell hs3), (Hke.out.trans (KE.below HB2.out)).trans hset⟩, by simp [intOf]; omega⟩
                · unfold prevP
                  rw [if_neg (Nat.succ_ne_zero k), Nat.add_sub_cancel, Hho.out]
                  exact Hqs.out
                · rw [hql]
                  exact hset.own Hown2.out (by decide)
                · have := DoneAt.mark R Hdn.out hlt
                  rw [Hho.out] at this
                  exact this
      · have hkn : k = acc.length := by omega
        subst hkn
        have hG := Hg.out.below hBk
        have Hb := hid hBk
        clear hBk hpath hdone
        go_wp2_with (first | (go_at_call 15; refine (first_any _ hG).mono ?_; rintro e w8 ⟨rfl, hb8⟩) | fail)
        go_ret
        exact ⟨rfl, Hb.out.trans (hb8.mono Hb.out.size)⟩
end Go.Proofs.YtgbnlemcojgijaaGreatDoor
