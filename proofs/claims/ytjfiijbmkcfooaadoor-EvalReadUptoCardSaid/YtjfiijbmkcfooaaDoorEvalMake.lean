/- The law's helpers that make nodes: lit, name, one, two, vars. -/
import Derived.Test.YtjfiijbmkcfooaaDoorEvalTop2
set_option maxRecDepth 100000
namespace Go.Proofs.YtjfiijbmkcfooaaDoor
open Go.RowKit

theorem mkLit_any (w : World) (v : Vl) : Calls Tryd.prog 23 #[valV v] w fun e w' => e = .returned (valN (litN v) (.slice none 0 0)) ∧ Below w.heap.size w w' := by
  obtain ⟨w1, p0, hp0, hw1, l0, n0, b0⟩ := box_new w (objV v)
  have hw1' : w.alloc (.cells #[.int .u8 v.kind, .int .i64 v.num, .bool v.tr, .string v.text] 23) = w1 := hw1
  obtain ⟨c0, c1, c2, c3⟩ := v_cells n0
  have HB := Lib.hid (show ∀ o, Below w.heap.size w (w1.alloc o) from fun o => b0.alloc b0.size o)
  clear n0 b0 hw1
  go_enter Tryd.func23, Tryd.ntmps23
  go_wp2_with fail
  exact bodyPost_ret (v := valN (litN v) (.slice none 0 0)) (by simp [results, Tryd.results23, go_sem, litN, Nd.op, Nd.v, Nd.name]) rfl ⟨rfl, HB.out _⟩
theorem mkName_any (w : World) (s : ByteArray) : Calls Tryd.prog 15 #[.string s] w fun e w' => e = .returned (valN (varN s) (.slice none 0 0)) ∧ Below w.heap.size w w' := by
  have HB := Lib.hid (show ∀ o, Below w.heap.size w (w.alloc o) from fun o => (Below.refl _ _).alloc (Nat.le_refl _) o)
  go_enter Tryd.func15, Tryd.ntmps15
  go_wp2_with fail
  exact bodyPost_ret (v := valN (varN s) (.slice none 0 0)) (by simp [results, Tryd.results15, go_sem, varN, Nd.op, Nd.v, Nd.name, Vl.zero]) rfl ⟨rfl, HB.out _⟩
theorem lit_nd (w : World) (B : Nat) {v : Vl} (h : VlW v) : NdR w B (.slice none 0 0) (litN v) := ⟨⟨by show (0 : Int) ≤ 1; omega, by show (1 : Int) ≤ 255; omega, h, by show 0 ≤ _; omega⟩, KidsR.nil w B⟩
theorem var_nd (w : World) (B : Nat) {s : ByteArray} (h : s.size ≤ 140737488355328) : NdR w B (.slice none 0 0) (varN s) := ⟨⟨by show (0 : Int) ≤ 2; omega, by show (2 : Int) ≤ 255; omega, VlW.zero, h⟩, KidsR.nil w B⟩

theorem n_cells {w : World} {p : Nat} {n : Nd} {vk : Value} {t : TypeId} {fr : Nat × Nat} (h : w.heap[p]? = some (.cells #[.int .u8 n.op, .int .u8 n.v.kind, .int .i64 n.v.num, .bool n.v.tr, .string n.v.text, .string n.name, vk] t fr)) :
    w.cell? ⟨p, 0, none⟩ = some (.int .u8 n.op) ∧ w.cell? ⟨p, 1, none⟩ = some (.int .u8 n.v.kind) ∧ w.cell? ⟨p, 2, none⟩ = some (.int .i64 n.v.num) ∧ w.cell? ⟨p, 3, none⟩ = some (.bool n.v.tr) ∧ w.cell? ⟨p, 4, none⟩ = some (.string n.v.text) ∧ w.cell? ⟨p, 5, none⟩ = some (.string n.name) ∧ w.cell? ⟨p, 6, none⟩ = some vk :=
  ⟨(cell_of_block h 0).trans rfl, (cell_of_block h 1).trans rfl, (cell_of_block h 2).trans rfl, (cell_of_block h 3).trans rfl, (cell_of_block h 4).trans rfl, (cell_of_block h 5).trans rfl, (cell_of_block h 6).trans rfl⟩

/-- A built slice of one node, of two. -/
theorem kids_one {w : World} {p : Nat} {a : Nd} {va : Value} {t : TypeId} {fr : Nat × Nat} (h : w.heap[p]? = some (.cells (cellN a va).toArray t fr)) (ha : NdR w w.heap.size va a) (c : Nat) (hc : 1 ≤ c) : KidsR w w.heap.size (.slice (some ⟨p, 0, none⟩) 1 c) [a] :=
  .mk (some ⟨p, 0, none⟩) c [a] (fun _ => va) (by simp) (by simpa using hc) (fun i hi => by
    obtain rfl : i = 0 := by simpa using hi
    exact ha.1) (fun i hi => by
    obtain rfl : i = 0 := by simpa using hi
    refine ⟨p, 0, rfl, lt_of_block h, fun j hj => ?_⟩
    rw [cell_of_block h]
    simp) (fun i hi => by
    obtain rfl : i = 0 := by simpa using hi
    exact ha.2)
theorem kids_two {w : World} {p : Nat} {a b : Nd} {va vb : Value} {t : TypeId} {fr : Nat × Nat} (h : w.heap[p]? = some (.cells (cellN a va ++ cellN b vb).toArray t fr)) (ha : NdR w w.heap.size va a) (hb : NdR w w.heap.size vb b) (c : Nat) (hc : 2 ≤ c) : KidsR w w.heap.size (.slice (some ⟨p, 0, none⟩) 2 c) [a, b] :=
  .mk (some ⟨p, 0, none⟩) c [a, b] (fun i => if i = 0 then va else vb) (by simp) (by simpa using hc) (fun i hi => by
    obtain rfl | rfl : i = 0 ∨ i = 1 := by simp at hi; omega
    · exact ha.1
    · exact hb.1) (fun i hi => by
    refine ⟨p, 0, rfl, lt_of_block h, fun j hj => ?_⟩
    rw [cell_of_block h]
    obtain rfl | rfl : i = 0 ∨ i = 1 := by simp at hi; omega
    · have : j < (cellN a va).length := hj
      simp [List.getElem?_append_left this]
    · simp only [Nat.one_mul, Nat.zero_add, List.getElem?_toArray]
      rw [List.getElem?_append_right (by simp [cellN_len]), cellN_len, Nat.add_sub_cancel_left]
      rfl) (fun i hi => by
    obtain rfl | rfl : i = 0 ∨ i = 1 := by simp at hi; omega
    · exact ha.2
    · exact hb.2)
end Go.Proofs.YtjfiijbmkcfooaaDoor
