/- The law's helpers that make nodes of one and of two. -/
import Derived.Test.YtjfiijbmkcfooaaDoorEvalMake
import Derived.Laws.NewBlocks
set_option maxRecDepth 100000
namespace Go.Proofs.YtjfiijbmkcfooaaDoor
open Go.RowKit

theorem one_world (w1 : World) (o : Obj) (a : Nd) (va : Value) (ha : NdR w1 w1.heap.size va a) :
    KidsR ((w1.alloc o).alloc (.cells (cellN a va).toArray 26)) ((w1.alloc o).alloc (.cells (cellN a va).toArray 26)).heap.size (.slice (some ⟨w1.heap.size + 1, 0, none⟩) 1 1) [a] := by
  have b1 := (Below.refl w1.heap.size w1).alloc (Nat.le_refl _) o
  have hz : (w1.alloc o).heap.size = w1.heap.size + 1 := by simp
  have hn := heap_alloc_new (w1.alloc o) (.cells (cellN a va).toArray 26)
  have b2 := (Below.refl (w1.alloc o).heap.size (w1.alloc o)).alloc (Nat.le_refl _) (.cells (cellN a va).toArray 26)
  rw [hz] at hn
  exact kids_one hn ((ha.to b1).to b2) 1 (Nat.le_refl _)
theorem two_world (w1 : World) (o : Obj) (a b : Nd) (va vb : Value) (ha : NdR w1 w1.heap.size va a) (hb : NdR w1 w1.heap.size vb b) :
    KidsR ((w1.alloc o).alloc (.cells (cellN a va ++ cellN b vb).toArray 26)) ((w1.alloc o).alloc (.cells (cellN a va ++ cellN b vb).toArray 26)).heap.size (.slice (some ⟨w1.heap.size + 1, 0, none⟩) 2 2) [a, b] := by
  have b1 := (Below.refl w1.heap.size w1).alloc (Nat.le_refl _) o
  have hz : (w1.alloc o).heap.size = w1.heap.size + 1 := by simp
  have hn := heap_alloc_new (w1.alloc o) (.cells (cellN a va ++ cellN b vb).toArray 26)
  have b2 := (Below.refl (w1.alloc o).heap.size (w1.alloc o)).alloc (Nat.le_refl _) (.cells (cellN a va ++ cellN b vb).toArray 26)
  rw [hz] at hn
  exact kids_two hn ((ha.to b1).to b2) ((hb.to b1).to b2) 2 (Nat.le_refl _)
theorem one_nd {w : World} {B : Nat} {op : Int} (h0 : 0 ≤ op) (h1 : op ≤ 255) {a : Nd} {vk : Value} (h : KidsR w B vk [a]) : NdR w B vk (oneN op a) := ⟨⟨h0, h1, VlW.zero, Nat.zero_le _⟩, h⟩
theorem two_nd {w : World} {B : Nat} {op : Int} (h0 : 0 ≤ op) (h1 : op ≤ 255) {a b : Nd} {vk : Value} (h : KidsR w B vk [a, b]) : NdR w B vk (twoN op a b) := ⟨⟨h0, h1, VlW.zero, Nat.zero_le _⟩, h⟩
set_option maxHeartbeats 2000000 in
theorem mkOne_any (w : World) (op : Int) (h0 : 0 ≤ op) (h1 : op ≤ 255) (a : Nd) (va : Value) (ha : NdR w w.heap.size va a) :
    Calls Tryd.prog 12 #[.int .u8 op, valN a va] w fun e w' => ∃ vk, e = .returned (valN (oneN op a) vk) ∧ NdR w' w'.heap.size vk (oneN op a) ∧ Below w.heap.size w w' := by
  obtain ⟨w1, p0, hp0, hw1, l0, n0, b0⟩ := box_new w (objN a.op a.v a.name va)
  obtain ⟨c0, c1, c2, c3, c4, c5, c6⟩ := n_cells n0
  have HB := Lib.hid b0
  have HA := Lib.hid (ha.to b0)
  have H0 := Lib.hid h0
  have H1 := Lib.hid h1
  clear n0 b0 ha h0 h1
  go_enter Tryd.func12, Tryd.ntmps12
  go_wp2_with fail
  refine bodyPost_ret (v := valN (oneN op a) (.slice (some ⟨w1.heap.size + 1, 0, none⟩) 1 1)) (by simp [results, Tryd.results12, go_sem, oneN, Nd.op, Nd.v, Nd.name, Vl.zero]) rfl ⟨_, rfl, ?_, ?_⟩
  · exact one_nd H0.out H1.out (one_world w1 _ a va HA.out)
  · exact HB.out.trans (((Below.refl _ _).alloc (Nat.le_refl _) _).alloc (by simp) _ |>.mono HB.out.size)
set_option maxHeartbeats 2000000 in
theorem mkTwo_any (w : World) (op : Int) (h0 : 0 ≤ op) (h1 : op ≤ 255) (a b : Nd) (va vb : Value) (ha : NdR w w.heap.size va a) (hb : NdR w w.heap.size vb b) :
    Calls Tryd.prog 11 #[.int .u8 op, valN a va, valN b vb] w fun e w' => ∃ vk, e = .returned (valN (twoN op a b) vk) ∧ NdR w' w'.heap.size vk (twoN op a b) ∧ Below w.heap.size w w' := by
  obtain ⟨w0, p0, hp0, hw0, l0, n0, b0⟩ := box_new w (objN a.op a.v a.name va)
  obtain ⟨w1, p1, hp1, hw1, l1, n1, b1⟩ := box_new w0 (objN b.op b.v b.name vb)
  obtain ⟨c0, c1, c2, c3, c4, c5, c6⟩ := n_cells ((b1.block p0 (by omega)).trans n0)
  obtain ⟨e0, e1, e2, e3, e4, e5, e6⟩ := n_cells n1
  have HB := Lib.hid (b0.trans (b1.mono b0.size))
  have l01 : p0 < w1.heap.size := by have := b1.size; omega
  have HA := Lib.hid (ha.to HB.out)
  have HA2 := Lib.hid (hb.to HB.out)
  have H0 := Lib.hid h0
  have H1 := Lib.hid h1
  clear n0 b0 ha hb h0 h1 n1 b1
  go_enter Tryd.func11, Tryd.ntmps11
  go_wp2_with fail
  refine bodyPost_ret (v := valN (twoN op a b) (.slice (some ⟨w1.heap.size + 1, 0, none⟩) 2 2)) (by simp [results, Tryd.results11, go_sem, twoN, Nd.op, Nd.v, Nd.name, Vl.zero]) rfl ⟨_, rfl, ?_, ?_⟩
  · exact two_nd H0.out H1.out (two_world w1 _ a b va vb HA.out HA2.out)
  · exact HB.out.trans (((Below.refl _ _).alloc (Nat.le_refl _) _).alloc (by simp) _ |>.mono HB.out.size)

def objBd3 (x y z : Bd) : Obj := .cells (cellBd x ++ cellBd y ++ cellBd z).toArray 39
end Go.Proofs.YtjfiijbmkcfooaaDoor
