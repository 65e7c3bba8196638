/- What a reading of the law's steps gives. -/
import Derived.Test.YtofpmhkjagdmmaaOpenAl
import Derived.Deep.Strs
set_option maxRecDepth 100000
namespace Go.Proofs.Ytofpmhkjagdmmaa
open Go.RowKit Go.Deep Go.ChangeShapes Go.WideShapes Go.Joins

structure St where
  kind : Int
  a : Al
  n : Int
instance : Inhabited St := ⟨⟨0, ⟨0, 0, default, 0⟩, 0⟩⟩
def cellSt (s : St) : List Value := [.int .i64 s.kind, .int .i64 s.a.due, .int .i64 s.a.token, .string s.a.via, .int .i64 s.a.inst, .int .i64 s.n]

/-- Steps that may be read. -/
def StR (w : World) (B : Nat) (v : Value) (l : List St) : Prop := ∃ a cap, v = .slice a l.length cap ∧ l.length ≤ 2513169434917 ∧ ColF cellSt 6 w B a l

theorem StR.mono {w w' : World} {B B' : Nat} {v : Value} {l : List St} (h : StR w B v l) (hb : Below B w w') (hB : B ≤ B') : StR w' B' v l := by
  obtain ⟨a, cap, rfl, hl, hc⟩ := h
  exact ⟨a, cap, rfl, hl, hc.mono hb hB⟩
theorem StR.val {w : World} {B : Nat} {v : Value} {l : List St} (h : StR w B v l) : ∃ a cap, v = .slice a l.length cap := by
  obtain ⟨a, cap, rfl, _, _⟩ := h
  exact ⟨a, cap, rfl⟩
theorem StR.len {w : World} {B : Nat} {v : Value} {l : List St} (h : StR w B v l) : l.length ≤ 2513169434917 := by
  obtain ⟨a, cap, rfl, h, _⟩ := h
  exact h
theorem StR.col {w : World} {B : Nat} {a : Option Addr} {n cap : Nat} {l : List St} (h : StR w B (.slice a n cap) l) : ColF cellSt 6 w B a l := by
  obtain ⟨a', cap', hv, _, hc⟩ := h
  cases hv
  exact hc

section
variable {H : Type} {enc : TypeId × Value → H} {W : World} {spare : Nat → Bool} {held : Bool}

theorem cells6 {a : Addr} {cs : List Value} (h : W.cells? 0 a 6 = some cs) : cs.length = 6 ∧ ∀ j, j < 6 → W.cell? (a.add j) = cs[j]? := by
  obtain ⟨_, hl, hc⟩ := World.cells?_some h
  match cs, hl with
  | [v0, v1, v2, v3, v4, v5], _ =>
    refine ⟨rfl, fun j hj => ?_⟩
    have h0 := hc 0 (by omega)
    have h1 := hc 1 (by omega)
    have h2 := hc 2 (by omega)
    have h3 := hc 3 (by omega)
    have h4 := hc 4 (by omega)
    have h5 := hc 5 (by omega)
    rcases (show j = 0 ∨ j = 1 ∨ j = 2 ∨ j = 3 ∨ j = 4 ∨ j = 5 by omega) with rfl | rfl | rfl | rfl | rfl | rfl
    · exact h0
    · exact h1
    · exact h2
    · exact h3
    · exact h4
    · exact h5

theorem open_st {fuel : Nat} {cs : List Value} {d : DataW H} {ps : List MemPlace} (h : DataW.trod enc Try.prog W 0 spare held fuel 48 cs = some (d, ps)) :
    ∃ s : St, cs = cellSt s ∧ (Lit.int .i64 s.a.due).wf = true ∧ (Lit.int .i64 s.a.token).wf = true ∧ (Lit.int .i64 s.n).wf = true := by
  obtain ⟨y0, y1, y2, n, hx, hl, h0, h1, h2⟩ := trod_struct3 Try.underlying48 h
  have hl6 : cs.length = 6 := hl.trans (by kernel_rfl)
  have k0 : Try.prog.cellsOf 3 = 1 := by kernel_rfl
  have k1 : Try.prog.cellsOf 31 = 4 := by kernel_rfl
  match cs, hl6 with
  | [c0, c1, c2, c3, c4, c5], _ =>
    simp only [k0, k1, List.take, List.drop] at h0 h1 h2
    obtain ⟨x0, e0, _, w0⟩ := DataW.trod_int Try.underlying3 h0
    obtain ⟨a, e1, w1, w2, _⟩ := open_al h1
    obtain ⟨x2, e2, _, w3⟩ := DataW.trod_int Try.underlying3 h2
    simp [cellA] at e0 e1 e2
    obtain ⟨e3, e4, e5, e6⟩ := e1
    exact ⟨⟨x0, a, x2⟩, by rw [e0, e2, e3, e4, e5, e6]; rfl, w1, w2, w3⟩

theorem open_sts_at {fuel : Nat} {cs : List Value} {d : DataW H} {ps : List MemPlace} (h : DataW.trod enc Try.prog W 0 spare held fuel 43 cs = some (d, ps)) (hfit : Fits Try.prog 43 d) :
    ∃ v, ∃ l : List St, cs = [v] ∧ StR W W.heap.size v l ∧ ∀ s ∈ l, (Lit.int .i64 s.n).wf = true := by
  have k4 : Try.prog.cellsOf 48 = 6 := by kernel_rfl
  have k40 : Try.prog.bytesOf 48 = 56 := by kernel_rfl
  rcases open_slice Try.underlying43 h with ⟨rfl, _⟩ | ⟨a, len, cap, m, n, D, Pl, rfl, _, hlc, hm, hmm, hx, hV⟩
  · exact ⟨_, [], rfl, ⟨none, 0, rfl, by simp, fun i h => by simp at h⟩, by simp⟩
  · have hlm : len ≤ m := by rw [hmm]; split <;> omega
    have hd : d = _ := congrArg Prod.fst hx
    subst hd
    have each : ∀ i, i < len → ∃ t : St, (∀ j, j < 6 → W.cell? ((a.add (i * 6)).add j) = (cellSt t)[j]?) ∧ (Lit.int .i64 t.n).wf = true := fun i hi => by
      obtain ⟨cs, hcs, ht⟩ := hV i (by omega)
      rw [k4] at hcs
      obtain ⟨_, hc⟩ := cells6 hcs
      obtain ⟨t, he, _, _, g3⟩ := open_st ht
      exact ⟨t, fun j hj => by rw [← he]; exact hc j hj, g3⟩
    obtain ⟨f, hf⟩ := choose_lt (α := St) each
    have hlen := fits_len Try.underlying43 hfit
    rw [k40] at hlen
    simp only [List.length_map, List.length_range, reachBytes] at hlen
    refine ⟨_, (List.range len).map f, rfl, ⟨some a, cap, by simp, by simp; omega, ?_⟩, ?_⟩
    · intro i hi
      have hi' : i < len := by simpa using hi
      obtain ⟨hc, _⟩ := hf i hi'
      obtain ⟨hc0, _⟩ := hf 0 (by omega)
      have c00 := hc0 0 (by omega)
      rw [show (a.add (0 * 6)).add 0 = a by simp [Addr.add]] at c00
      obtain ⟨b, o, rfl, hb⟩ := addr_of_cell (show W.cell? a = some (.int .i64 (f 0).kind) from c00)
      refine ⟨b, o, rfl, hb, fun j hj => ?_⟩
      have := hc j hj
      rw [add_none b o (i * 6) rfl, add_none b (o + i * 6) _ rfl] at this
      rw [this]
      simp
    · intro t ht
      simp at ht
      obtain ⟨i, hi, rfl⟩ := ht
      obtain ⟨_, g⟩ := hf i hi
      exact g

theorem open_sts {v : Value} {d : DataW H} {ps : List MemPlace} {r : Reach} {b0 : Nat} (hv : Value.okWide Try.prog W r b0 43 v) (h : DataW.Trod enc Try.prog W 0 spare held 43 v d ps) (hfit : Fits Try.prog 43 d) :
    ∃ l, StR W W.heap.size v l ∧ ∀ s ∈ l, (Lit.int .i64 s.n).wf = true := by
  obtain ⟨fuel, h⟩ := h
  obtain ⟨a, len, cap, rfl⟩ := okWide_slice Try.underlying43 hv
  obtain ⟨v, l, hvl, hc, hw⟩ := open_sts_at h hfit
  simp [Value.cells] at hvl
  subst hvl
  exact ⟨l, hc, hw⟩
end
end Go.Proofs.Ytofpmhkjagdmmaa
