/- chart: Find. -/
import Derived.Test.YtgbnlemcojgijaaGreatDoorY
import Derived.Laws.ResultCell
namespace Go.Proofs.YtgbnlemcojgijaaGreatDoor
open Go.RowKit Go.Shelf Go.Sort

def zeroAcct : Acct := ⟨⟨#[]⟩, 0, 0, false⟩
def foundA (o : Option Acct) : Acct := match o with | some a => a | none => zeroAcct

set_option maxHeartbeats 1000000 in
theorem Find_any (B c m : Nat) (acc : List Acct) (nb : Nat → Nat) (rv : Value) (kv : Nat → Value) (s : ByteArray) (w : World) (hC : ChartAt w B c m acc nb rv kv) (hs : s.size ≤ 140737488351232) :
    Calls Tryz.prog 50 #[.pointer (some ⟨c, 0, none⟩), .string s] w fun e w' => e = .returned (.tuple #[(foundA (findA acc s)).v, .bool (findA acc s).isSome]) ∧ Below w.heap.size w w' := by
  have hl := hC.map.look Tryz.underlying118 (Tryz.zeroValue117 w) s (by simp only [maxLen]; omega)
  have hb : Below w.heap.size w (w.alloc (.cells #[.string ⟨#[]⟩, .int .i64 0, .int .i64 0, .bool false] 31)) := (Below.refl _ _).alloc (Nat.le_refl _) _
  have hl1 := (hC.map.below hb).look Tryz.underlying118 (Tryz.zeroValue117 _) s (by simp only [maxLen]; omega)
  have hcc := cell_of (i := 0) (v := .map (some m)) hC.chart rfl
  have hclt := lt_of_heap hC.chart
  have Hb := hid hb; clear hb
  have Hb2 : Hid (∀ a : Acct, Below w.heap.size w (w.alloc (.cells #[.string a.name, .int .i64 a.typ, .int .i64 a.opened, .bool a.closed] 31))) := hid fun a => (Below.refl _ _).alloc (Nat.le_refl _) _
  rcases find_or acc nb s with ⟨hf, hbn⟩ | ⟨i, a, hi, hf, hbn, hname⟩
  · rw [hbn] at hl hl1
    have hl2 : (Instr.lookup 118 (.map (some m)) (.string s) false).run Tryz.prog (w.alloc (.cells #[.string ⟨#[]⟩, .int .i64 0, .int .i64 0, .bool false] 31)) = .ok (.pointer none) (w.alloc (.cells #[.string ⟨#[]⟩, .int .i64 0, .int .i64 0, .bool false] 31)) := hl1
    have Hf := hid hf
    clear hl hl1 hf hbn hC
    go_enter Tryz.func50, Tryz.ntmps50
    go_wp2_with fail
    refine bodyPost_ret (v := .tuple #[zeroAcct.v, .bool false]) ?_ rfl ⟨by rw [Hf.out]; rfl, Hb.out⟩
    rw [results_cell_tmp rfl]
    go_simp
    rfl
  · rw [hbn] at hl hl1
    have hl2 : (Instr.lookup 118 (.map (some m)) (.string s) false).run Tryz.prog (w.alloc (.cells #[.string ⟨#[]⟩, .int .i64 0, .int .i64 0, .bool false] 31)) = .ok (.pointer (some ⟨nb i, 0, none⟩)) (w.alloc (.cells #[.string ⟨#[]⟩, .int .i64 0, .int .i64 0, .bool false] 31)) := hl1
    have hn := hC.node i a hi
    have hnlt := lt_of_heap hn
    have n0 := cell_of (i := 0) (v := .string a.name) hn rfl
    have n1 := cell_of (i := 1) (v := .int .i64 a.typ) hn rfl
    have n2 := cell_of (i := 2) (v := .int .i64 a.opened) hn rfl
    have n3 := cell_of (i := 3) (v := .bool a.closed) hn rfl
    have Hf := hid hf
    clear hl hl1 hf hbn hC hn hname
    go_enter Tryz.func50, Tryz.ntmps50
    go_wp2_with fail
    refine bodyPost_ret (v := .tuple #[a.v, .bool true]) ?_ rfl ⟨by rw [Hf.out]; rfl, Hb2.out a⟩
    rw [results_cell_tmp rfl]
    go_simp
    rfl
end Go.Proofs.YtgbnlemcojgijaaGreatDoor
