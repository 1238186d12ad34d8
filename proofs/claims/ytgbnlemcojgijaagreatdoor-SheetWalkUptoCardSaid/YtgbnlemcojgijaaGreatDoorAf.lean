/- Sorting what is rising already leaves it. -/
import Derived.Test.YtgbnlemcojgijaaGreatDoorAe
namespace Go.Proofs.YtgbnlemcojgijaaGreatDoor
open Go.RowKit Go.Shelf Go.Sort

theorem perm_rising {α : Type} (lt : α → α → Bool) : ∀ (l m : List α), l.Perm m → l.Pairwise (fun x y => lt x y = true) → m.Pairwise (fun x y => lt y x = false) → l = m
  | [], m, hp, _, _ => (List.Perm.nil_eq hp)
  | a :: t, [], hp, _, _ => absurd hp.length_eq (by simp)
  | a :: t, b :: s, hp, hl, hm => by
    have hab : a = b := Classical.byContradiction fun hne => by
      have ha : a ∈ b :: s := hp.subset (List.mem_cons_self)
      have hb : b ∈ a :: t := hp.symm.subset (List.mem_cons_self)
      have ha2 : a ∈ s := (List.mem_cons.1 ha).resolve_left hne
      have hb2 : b ∈ t := (List.mem_cons.1 hb).resolve_left (fun e => hne e.symm)
      have h1 := (List.pairwise_cons.1 hl).1 b hb2
      have h2 := (List.pairwise_cons.1 hm).1 a ha2
      rw [h1] at h2
      cases h2
    subst hab
    rw [perm_rising lt t s (List.Perm.cons_inv hp) (List.pairwise_cons.1 hl).2 (List.pairwise_cons.1 hm).2]
end Go.Proofs.YtgbnlemcojgijaaGreatDoor
