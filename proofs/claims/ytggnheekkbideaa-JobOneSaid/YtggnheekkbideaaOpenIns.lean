/- What a reading of instances gives. -/
import Derived.Test.YtggnheekkbideaaOpenF
import Derived.Test.YtggnheekkbideaaInsR
set_option maxRecDepth 100000
namespace Go.Proofs.Ytggnheekkbideaa
open Go.RowKit Go.Deep Go.ChangeShapes Go.WideShapes Go.Joins

def TokI (t : Tok) : Prop := (Lit.int .i64 t.id).wf = true ∧ (Lit.int .i64 t.born).wf = true ∧ (Lit.int .i64 t.tries).wf = true ∧ (Lit.int .i64 t.til).wf = true ∧ (Lit.int .u8 t.inc).wf = true ∧ (Lit.int .i64 t.err).wf = true
def BndI (b : Bnd) : Prop := (Lit.int .u8 b.kind).wf = true ∧ (Lit.int .i64 b.num).wf = true
def InsI (x : Ins) : Prop := (Lit.int .i64 x.id).wf = true ∧ (Lit.int .u8 x.state).wf = true ∧ (∀ b ∈ x.vars, BndI b) ∧ ∀ t ∈ x.toks, TokI t

section
variable {H : Type} {enc : TypeId × Value → H} {W : World} {spare : Nat → Bool} {held : Bool}
theorem one_of {c : Value} {y : Value} (h : [c] = [y]) : c = y := by injection h

theorem open_tok (fuel : Nat) (cs : List Value) (d : DataW H) (ps : List MemPlace) (h : DataW.trod enc Try.prog W 0 spare held fuel 41 cs = some (d, ps)) (_hfit : Fits Try.prog 41 d) (hlk : cs.length = 9) :
    ∃ t : Tok, cs = cellT t ∧ TokI t := by
  obtain ⟨xs, n, _, hx, hl, hlen, hf⟩ := DataW.trod_struct Try.underlying41 h
  have k0 : Try.prog.cellsOf 34 = 1 := by kernel_rfl
  have k1 : Try.prog.cellsOf 3 = 1 := by kernel_rfl
  have k2 : Try.prog.cellsOf 9 = 1 := by kernel_rfl
  have k3 : Try.prog.cellsOf 5 = 1 := by kernel_rfl
  match xs, hlen, cs, hlk with
  | [y0, y1, y2, y3, y4, y5, y6, y7, y8], _, [c0, c1, c2, c3, c4, c5, c6, c7, c8], _ =>
    have f0 : DataW.trod enc Try.prog W 0 spare held n 3 [c0] = some y0 := by have := hf 0 _ rfl; simpa [k1] using this
    have f1 : DataW.trod enc Try.prog W 0 spare held n 9 [c1] = some y1 := by have := hf 1 _ rfl; simpa [k2] using this
    have f2 : DataW.trod enc Try.prog W 0 spare held n 9 [c2] = some y2 := by have := hf 2 _ rfl; simpa [k2] using this
    have f3 : DataW.trod enc Try.prog W 0 spare held n 3 [c3] = some y3 := by have := hf 3 _ rfl; simpa [k1] using this
    have f4 : DataW.trod enc Try.prog W 0 spare held n 3 [c4] = some y4 := by have := hf 4 _ rfl; simpa [k1] using this
    have f5 : DataW.trod enc Try.prog W 0 spare held n 9 [c5] = some y5 := by have := hf 5 _ rfl; simpa [k2] using this
    have f6 : DataW.trod enc Try.prog W 0 spare held n 3 [c6] = some y6 := by have := hf 6 _ rfl; simpa [k1] using this
    have f7 : DataW.trod enc Try.prog W 0 spare held n 5 [c7] = some y7 := by have := hf 7 _ rfl; simpa [k3] using this
    have f8 : DataW.trod enc Try.prog W 0 spare held n 34 [c8] = some y8 := by have := hf 8 _ rfl; simpa [k0] using this
    obtain ⟨x0, e0, _, w0⟩ := DataW.trod_int Try.underlying3 f0
    obtain ⟨x1, e1, _⟩ := DataW.trod_string Try.underlying9 f1
    obtain ⟨x2, e2, _⟩ := DataW.trod_string Try.underlying9 f2
    obtain ⟨x3, e3, _, w3⟩ := DataW.trod_int Try.underlying3 f3
    obtain ⟨x4, e4, _, w4⟩ := DataW.trod_int Try.underlying3 f4
    obtain ⟨x5, e5, _⟩ := DataW.trod_string Try.underlying9 f5
    obtain ⟨x6, e6, _, w6⟩ := DataW.trod_int Try.underlying3 f6
    obtain ⟨x7, e7, _, w7⟩ := DataW.trod_int Try.underlying5 f7
    obtain ⟨x8, e8, _, w8⟩ := DataW.trod_int Try.underlying34 f8
    simp only [List.cons.injEq, and_true] at e0 e1 e2 e3 e4 e5 e6 e7 e8
    subst e0 e1 e2 e3 e4 e5 e6 e7 e8
    exact ⟨⟨x0, x1, x2, x3, x4, x5, x6, x7, x8⟩, rfl, w0, w3, w4, w6, w7, w8⟩
theorem open_val (fuel : Nat) (cs : List Value) (d : DataW H) (ps : List MemPlace) (h : DataW.trod enc Try.prog W 0 spare held fuel 83 cs = some (d, ps)) (_hfit : Fits Try.prog 83 d) (hlk : cs.length = 4) :
    ∃ (k n : Int) (b : Bool) (s : ByteArray), cs = [.int .u8 k, .int .i64 n, .bool b, .string s] ∧ (Lit.int .u8 k).wf = true ∧ (Lit.int .i64 n).wf = true := by
  obtain ⟨xs, n, _, hx, hl, hlen, hf⟩ := DataW.trod_struct Try.underlying83 h
  have k0 : Try.prog.cellsOf 4 = 1 := by kernel_rfl
  have k1 : Try.prog.cellsOf 2 = 1 := by kernel_rfl
  have k2 : Try.prog.cellsOf 9 = 1 := by kernel_rfl
  have k3 : Try.prog.cellsOf 5 = 1 := by kernel_rfl
  match xs, hlen, cs, hlk with
  | [y0, y1, y2, y3], _, [c0, c1, c2, c3], _ =>
    have f0 : DataW.trod enc Try.prog W 0 spare held n 5 [c0] = some y0 := by have := hf 0 _ rfl; simpa [k3] using this
    have f1 : DataW.trod enc Try.prog W 0 spare held n 2 [c1] = some y1 := by have := hf 1 _ rfl; simpa [k1] using this
    have f2 : DataW.trod enc Try.prog W 0 spare held n 4 [c2] = some y2 := by have := hf 2 _ rfl; simpa [k0] using this
    have f3 : DataW.trod enc Try.prog W 0 spare held n 9 [c3] = some y3 := by have := hf 3 _ rfl; simpa [k2] using this
    obtain ⟨x0, e0, _, w0⟩ := DataW.trod_int Try.underlying5 f0
    obtain ⟨x1, e1, _, w1⟩ := DataW.trod_int Try.underlying2 f1
    obtain ⟨x2, e2, _⟩ := DataW.trod_bool Try.underlying4 f2
    obtain ⟨x3, e3, _⟩ := DataW.trod_string Try.underlying9 f3
    simp only [List.cons.injEq, and_true] at e0 e1 e2 e3
    subst e0 e1 e2 e3
    exact ⟨x0, x1, x2, x3, rfl, w0, w1⟩
theorem open_bnd (fuel : Nat) (cs : List Value) (d : DataW H) (ps : List MemPlace) (h : DataW.trod enc Try.prog W 0 spare held fuel 85 cs = some (d, ps)) (hfit : Fits Try.prog 85 d) (hlk : cs.length = 5) :
    ∃ b : Bnd, cs = cellB b ∧ BndI b := by
  obtain ⟨xs, n, _, hx, hl, hlen, hf⟩ := DataW.trod_struct Try.underlying85 h
  have k0 : Try.prog.cellsOf 9 = 1 := by kernel_rfl
  have k1 : Try.prog.cellsOf 83 = 4 := by kernel_rfl
  simp only [Prod.mk.injEq] at hx
  obtain ⟨rfl, _⟩ := hx
  match xs, hlen, cs, hlk with
  | [y0, y1], _, [c0, c1, c2, c3, c4], _ =>
    have f0 : DataW.trod enc Try.prog W 0 spare held n 9 [c0] = some y0 := by have := hf 0 _ rfl; simpa [k0] using this
    have f1 : DataW.trod enc Try.prog W 0 spare held n 83 [c1, c2, c3, c4] = some y1 := by have := hf 1 _ rfl; simpa [k1] using this
    obtain ⟨x0, e0, _⟩ := DataW.trod_string Try.underlying9 f0
    obtain ⟨k, m, b, s, e1, w1, w2⟩ := open_val _ _ _ _ f1 (fits_part (j := 1) Try.underlying85 hfit rfl rfl) rfl
    simp only [List.cons.injEq, and_true] at e0 e1
    obtain ⟨rfl, rfl, rfl, rfl⟩ := e1
    subst e0
    exact ⟨⟨x0, k, m, b, s⟩, rfl, w1, w2⟩
theorem open_ts {fuel : Nat} {cs : List Value} {d : DataW H} {ps : List MemPlace} (h : DataW.trod enc Try.prog W 0 spare held fuel 43 cs = some (d, ps)) (hfit : Fits Try.prog 43 d) :
    ∃ v, ∃ l : List Tok, cs = [v] ∧ TsR W W.heap.size v l ∧ ∀ t ∈ l, TokI t := by
  have kb : Try.prog.bytesOf 41 = 96 := by kernel_rfl
  obtain ⟨v, l, h0, ⟨a, cap, h1, h2, hc, h3⟩, h4⟩ := open_colF (f := cellT) Try.underlying43 (k := 9) (by kernel_rfl) (by omega) TokI open_tok h hfit
  rw [kb] at h2
  unfold reachBytes at h2
  exact ⟨v, l, h0, ⟨a, cap, h1, by omega, hc, h3⟩, h4⟩
theorem open_bs {fuel : Nat} {cs : List Value} {d : DataW H} {ps : List MemPlace} (h : DataW.trod enc Try.prog W 0 spare held fuel 42 cs = some (d, ps)) (hfit : Fits Try.prog 42 d) :
    ∃ v, ∃ l : List Bnd, cs = [v] ∧ BsR W W.heap.size v l ∧ ∀ t ∈ l, BndI t := by
  have kb : Try.prog.bytesOf 85 = 56 := by kernel_rfl
  obtain ⟨v, l, h0, ⟨a, cap, h1, h2, hc, h3⟩, h4⟩ := open_colF (f := cellB) Try.underlying42 (k := 5) (by kernel_rfl) (by omega) BndI open_bnd h hfit
  rw [kb] at h2
  unfold reachBytes at h2
  exact ⟨v, l, h0, ⟨a, cap, h1, by omega, hc, h3⟩, h4⟩
/-- The five cells of an instance. -/
def InsCells (W : World) (cs : List Value) (x : Ins) : Prop := ∃ vv vt, cs = [.int .i64 x.id, .string x.model, .int .u8 x.state, vv, vt] ∧ BsR W W.heap.size vv x.vars ∧ TsR W W.heap.size vt x.toks ∧ InsI x
theorem open_in (fuel : Nat) (cs : List Value) (d : DataW H) (ps : List MemPlace) (h : DataW.trod enc Try.prog W 0 spare held fuel 45 cs = some (d, ps)) (hfit : Fits Try.prog 45 d) (hlk : cs.length = 5) :
    ∃ x : Ins, InsCells W cs x := by
  obtain ⟨xs, n, _, hx, hl, hlen, hf⟩ := DataW.trod_struct Try.underlying45 h
  have k0 : Try.prog.cellsOf 3 = 1 := by kernel_rfl
  have k1 : Try.prog.cellsOf 9 = 1 := by kernel_rfl
  have k2 : Try.prog.cellsOf 5 = 1 := by kernel_rfl
  have k3 : Try.prog.cellsOf 42 = 1 := by kernel_rfl
  have k4 : Try.prog.cellsOf 43 = 1 := by kernel_rfl
  simp only [Prod.mk.injEq] at hx
  obtain ⟨rfl, _⟩ := hx
  match xs, hlen, cs, hlk with
  | [y0, y1, y2, y3, y4], _, [c0, c1, c2, c3, c4], _ =>
    have f0 : DataW.trod enc Try.prog W 0 spare held n 3 [c0] = some y0 := by have := hf 0 _ rfl; simpa [k0] using this
    have f1 : DataW.trod enc Try.prog W 0 spare held n 9 [c1] = some y1 := by have := hf 1 _ rfl; simpa [k1] using this
    have f2 : DataW.trod enc Try.prog W 0 spare held n 5 [c2] = some y2 := by have := hf 2 _ rfl; simpa [k2] using this
    have f3 : DataW.trod enc Try.prog W 0 spare held n 42 [c3] = some y3 := by have := hf 3 _ rfl; simpa [k3] using this
    have f4 : DataW.trod enc Try.prog W 0 spare held n 43 [c4] = some y4 := by have := hf 4 _ rfl; simpa [k4] using this
    obtain ⟨x0, e0, _, w0⟩ := DataW.trod_int Try.underlying3 f0
    obtain ⟨x1, e1, _⟩ := DataW.trod_string Try.underlying9 f1
    obtain ⟨x2, e2, _, w2⟩ := DataW.trod_int Try.underlying5 f2
    obtain ⟨vv, lv, e3, r3, g3⟩ := open_bs f3 (fits_part (j := 3) Try.underlying45 hfit rfl rfl)
    obtain ⟨vt, lt, e4, r4, g4⟩ := open_ts f4 (fits_part (j := 4) Try.underlying45 hfit rfl rfl)
    simp only [List.cons.injEq, and_true] at e0 e1 e2 e3 e4
    subst e0 e1 e2 e3 e4
    exact ⟨⟨x0, x1, x2, lv, lt⟩, _, _, rfl, r3, r4, w0, w2, g3, g4⟩
theorem open_ins_at {fuel : Nat} {cs : List Value} {d : DataW H} {ps : List MemPlace} (h : DataW.trod enc Try.prog W 0 spare held fuel 22 cs = some (d, ps)) (hfit : Fits Try.prog 22 d) :
    ∃ v, ∃ l : List Ins, cs = [v] ∧ InsR W W.heap.size v l ∧ ∀ x ∈ l, InsI x := by
  have kb : Try.prog.bytesOf 45 = 80 := by kernel_rfl
  obtain ⟨v, l, h0, a, cap, h1, h2, hc, h3⟩ := open_rows Try.underlying22 (k := 5) (by kernel_rfl) (by omega) (InsCells W) open_in h hfit
  rw [kb] at h2
  unfold reachBytes at h2
  refine ⟨v, l, h0, ⟨a, cap, h1, by omega, hc, fun i hi => ?_⟩, fun x hx => ?_⟩
  · obtain ⟨b, o, cs, e1, e2, _, e3, vv, vt, rfl, r1, r2, _⟩ := h3 i hi
    exact ⟨b, o, vv, vt, e1, e2, e3 0 (by omega), e3 1 (by omega), e3 2 (by omega), e3 3 (by omega), e3 4 (by omega), r1, r2⟩
  · obtain ⟨i, hi, rfl⟩ := List.getElem_of_mem hx
    obtain ⟨_, _, _, _, _, _, _, _, _, _, _, _, g⟩ := h3 i hi
    exact g
theorem open_inst {v : Value} {d : DataW H} {ps : List MemPlace} {r : Reach} {b0 : Nat} (hv : Value.okWide Try.prog W r b0 22 v) (h : DataW.Trod enc Try.prog W 0 spare held 22 v d ps) (hfit : Fits Try.prog 22 d) :
    ∃ l, InsR W W.heap.size v l ∧ ∀ x ∈ l, InsI x := by
  obtain ⟨fuel, h⟩ := h
  obtain ⟨a, len, cap, rfl⟩ := okWide_slice Try.underlying22 hv
  obtain ⟨v, l, hvl, hc, hw⟩ := open_ins_at h hfit
  simp [Value.cells] at hvl
  subst hvl
  exact ⟨l, hc, hw⟩
end
end Go.Proofs.Ytggnheekkbideaa
