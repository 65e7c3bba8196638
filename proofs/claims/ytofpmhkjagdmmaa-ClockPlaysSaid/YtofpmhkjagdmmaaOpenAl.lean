/- What a reading of the document's alarms gives. -/
import Derived.Test.YtofpmhkjagdmmaaOpen
import Derived.Test.YtofpmhkjagdmmaaClockTick
import Derived.Lib.SmallJoins
set_option maxRecDepth 100000
namespace Go.Proofs.Ytofpmhkjagdmmaa
open Go.RowKit Go.Deep Go.ChangeShapes Go.WideShapes Go.Joins

/-- Alarms that may be read. -/
def AlR (w : World) (B : Nat) (v : Value) (l : List Al) : Prop := ∃ a cap, v = .slice a l.length cap ∧ l.length ≤ 3518437208883 ∧ ColF cellA 4 w B a l
def AlI (l : List Al) : Prop := ∀ a ∈ l, (Lit.int .i64 a.due).wf = true ∧ (Lit.int .i64 a.token).wf = true ∧ (Lit.int .i64 a.inst).wf = true

theorem AlR.mono {w w' : World} {B B' : Nat} {v : Value} {l : List Al} (h : AlR w B v l) (hb : Below B w w') (hB : B ≤ B') : AlR w' B' v l := by
  obtain ⟨a, cap, rfl, hl, hc⟩ := h
  exact ⟨a, cap, rfl, hl, hc.mono hb hB⟩
theorem AlR.val {w : World} {B : Nat} {v : Value} {l : List Al} (h : AlR w B v l) : ∃ a cap, v = .slice a l.length cap := by
  obtain ⟨a, cap, rfl, _, _⟩ := h
  exact ⟨a, cap, rfl⟩
theorem AlR.col {w : World} {B : Nat} {a : Option Addr} {n cap : Nat} {l : List Al} (h : AlR w B (.slice a n cap) l) : ColF cellA 4 w B a l := by
  obtain ⟨a', cap', hv, _, hc⟩ := h
  cases hv
  exact hc

section
variable {H : Type} {enc : TypeId × Value → H} {W : World} {spare : Nat → Bool} {held : Bool}

theorem cells4 {a : Addr} {cs : List Value} (h : W.cells? 0 a 4 = some cs) : ∃ v0 v1 v2 v3, cs = [v0, v1, v2, v3] ∧ W.cell? (a.add 0) = some v0 ∧ W.cell? (a.add 1) = some v1 ∧ W.cell? (a.add 2) = some v2 ∧ W.cell? (a.add 3) = some v3 := by
  obtain ⟨_, hl, hc⟩ := World.cells?_some h
  match cs, hl with
  | [v0, v1, v2, v3], _ => exact ⟨v0, v1, v2, v3, rfl, hc 0 (by omega), hc 1 (by omega), hc 2 (by omega), hc 3 (by omega)⟩

theorem open_al {fuel : Nat} {cs : List Value} {d : DataW H} {ps : List MemPlace} (h : DataW.trod enc Try.prog W 0 spare held fuel 31 cs = some (d, ps)) :
    ∃ a : Al, cs = cellA a ∧ (Lit.int .i64 a.due).wf = true ∧ (Lit.int .i64 a.token).wf = true ∧ (Lit.int .i64 a.inst).wf = true := by
  obtain ⟨y0, y1, y2, y3, n, hx, hl, h0, h1, h2, h3⟩ := trod_struct4 Try.underlying31 h
  have hl4 : cs.length = 4 := hl.trans (by kernel_rfl)
  have k0 : Try.prog.cellsOf 3 = 1 := by kernel_rfl
  have k1 : Try.prog.cellsOf 9 = 1 := by kernel_rfl
  match cs, hl4 with
  | [c0, c1, c2, c3], _ =>
    simp only [k0, k1, List.take, List.drop] at h0 h1 h2 h3
    obtain ⟨x0, e0, _, w0⟩ := DataW.trod_int Try.underlying3 h0
    obtain ⟨x1, e1, _, w1⟩ := DataW.trod_int Try.underlying3 h1
    obtain ⟨x2, e2, _⟩ := DataW.trod_string Try.underlying9 h2
    obtain ⟨x3, e3, _, w3⟩ := DataW.trod_int Try.underlying3 h3
    simp at e0 e1 e2 e3
    exact ⟨⟨x0, x1, x2, x3⟩, by rw [e0, e1, e2, e3]; rfl, w0, w1, w3⟩

theorem open_als_at {fuel : Nat} {cs : List Value} {d : DataW H} {ps : List MemPlace} (h : DataW.trod enc Try.prog W 0 spare held fuel 22 cs = some (d, ps)) (hfit : Fits Try.prog 22 d) :
    ∃ v, ∃ l : List Al, cs = [v] ∧ AlR W W.heap.size v l ∧ AlI l := by
  have k4 : Try.prog.cellsOf 31 = 4 := by kernel_rfl
  have k40 : Try.prog.bytesOf 31 = 40 := by kernel_rfl
  rcases open_slice Try.underlying22 h with ⟨rfl, _⟩ | ⟨a, len, cap, m, n, D, Pl, rfl, _, hlc, hm, hmm, hx, hV⟩
  · exact ⟨_, [], rfl, ⟨none, 0, rfl, by simp, fun i h => by simp at h⟩, by simp [AlI]⟩
  · have hlm : len ≤ m := by rw [hmm]; split <;> omega
    have hd : d = _ := congrArg Prod.fst hx
    subst hd
    have each : ∀ i, i < len → ∃ t : Al, (∀ j, j < 4 → W.cell? ((a.add (i * 4)).add j) = (cellA t)[j]?) ∧ (Lit.int .i64 t.due).wf = true ∧ (Lit.int .i64 t.token).wf = true ∧ (Lit.int .i64 t.inst).wf = true := fun i hi => by
      obtain ⟨cs, hcs, ht⟩ := hV i (by omega)
      rw [k4] at hcs
      obtain ⟨v0, v1, v2, v3, rfl, c0, c1, c2, c3⟩ := cells4 hcs
      obtain ⟨t, he, g1, g2, g3⟩ := open_al ht
      refine ⟨t, fun j hj => ?_, g1, g2, g3⟩
      rw [← he]
      rcases (show j = 0 ∨ j = 1 ∨ j = 2 ∨ j = 3 by omega) with rfl | rfl | rfl | rfl
      · exact c0
      · exact c1
      · exact c2
      · exact c3
    obtain ⟨f, hf⟩ := choose_lt (α := Al) each
    have hlen := fits_len Try.underlying22 hfit
    rw [k40] at hlen
    simp only [List.length_map, List.length_range, reachBytes] at hlen
    refine ⟨_, (List.range len).map f, rfl, ⟨some a, cap, by simp, by simp; omega, ?_⟩, ?_⟩
    · intro i hi
      have hi' : i < len := by simpa using hi
      obtain ⟨hc, _⟩ := hf i hi'
      obtain ⟨hc0, _⟩ := hf 0 (by omega)
      have c00 := hc0 0 (by omega)
      rw [show (a.add (0 * 4)).add 0 = a by simp [Addr.add]] at c00
      obtain ⟨b, o, rfl, hb⟩ := addr_of_cell (show W.cell? a = some (.int .i64 (f 0).due) from c00)
      refine ⟨b, o, rfl, hb, fun j hj => ?_⟩
      have := hc j hj
      rw [add_none b o (i * 4) rfl, add_none b (o + i * 4) _ rfl] at this
      rw [this]
      simp
    · intro t ht
      simp at ht
      obtain ⟨i, hi, rfl⟩ := ht
      obtain ⟨_, g⟩ := hf i hi
      exact g

theorem open_als {v : Value} {d : DataW H} {ps : List MemPlace} {r : Reach} {b0 : Nat} (hv : Value.okWide Try.prog W r b0 22 v) (h : DataW.Trod enc Try.prog W 0 spare held 22 v d ps) (hfit : Fits Try.prog 22 d) :
    ∃ l, AlR W W.heap.size v l ∧ AlI l := by
  obtain ⟨fuel, h⟩ := h
  obtain ⟨a, len, cap, rfl⟩ := okWide_slice Try.underlying22 hv
  obtain ⟨v, l, hvl, hc, hw⟩ := open_als_at h hfit
  simp [Value.cells] at hvl
  subst hvl
  exact ⟨l, hc, hw⟩
end
end Go.Proofs.Ytofpmhkjagdmmaa
