/- What a reading of a net gives. -/
import Derived.Test.YtbolacnpljkpbaaDoorOpen
import Derived.Lib.SmallJoins
set_option maxRecDepth 100000
namespace Go.Proofs.YtbolacnpljkpbaaDoor
open Go.RowKit Go.Deep Go.ChangeShapes Go.WideShapes Go.Joins

/-- The numbers of a list fit their kind. -/
def I64s (l : List Int) : Prop := ∀ x ∈ l, (Lit.int .i64 x).wf = true

instance : Inhabited Tr := ⟨⟨default, [], []⟩⟩

section
variable {H : Type} {enc : TypeId × Value → H} {W : World} {spare : Nat → Bool} {held : Bool}

theorem cells3 {a : Addr} {cs : List Value} (h : W.cells? 0 a 3 = some cs) : ∃ v0 v1 v2, cs = [v0, v1, v2] ∧ W.cell? (a.add 0) = some v0 ∧ W.cell? (a.add 1) = some v1 ∧ W.cell? (a.add 2) = some v2 := by
  obtain ⟨_, hl, hc⟩ := World.cells?_some h
  match cs, hl with
  | [v0, v1, v2], _ => exact ⟨v0, v1, v2, rfl, hc 0 (by omega), hc 1 (by omega), hc 2 (by omega)⟩

theorem open_tr {fuel : Nat} {cs : List Value} {d : DataW H} {ps : List MemPlace} (h : DataW.trod enc Tryd.prog W 0 spare held fuel 57 cs = some (d, ps)) (hfit : Fits Tryd.prog 57 d) :
    ∃ vi vo, ∃ t : Tr, cs = [.string t.label, vi, vo] ∧ Ints W W.heap.size vi t.inn ∧ Ints W W.heap.size vo t.out ∧ I64s t.inn ∧ I64s t.out := by
  obtain ⟨y0, y1, y2, n, hx, hl, h0, h1, h2⟩ := trod_struct3 Tryd.underlying57 h
  have hl3 : cs.length = 3 := hl.trans (by kernel_rfl)
  have k0 : Tryd.prog.cellsOf 9 = 1 := by kernel_rfl
  have k1 : Tryd.prog.cellsOf 26 = 1 := by kernel_rfl
  match cs, hl3 with
  | [c0, c1, c2], _ =>
    simp only [k0, k1, List.take, List.drop] at h0 h1 h2
    simp only [Prod.mk.injEq] at hx
    obtain ⟨rfl, _⟩ := hx
    obtain ⟨s, hs, _⟩ := DataW.trod_string Tryd.underlying9 h0
    obtain ⟨vi, li, hvi, hci, hwi⟩ := open_ints_col (L := 17592186044416) Tryd.underlying26 Tryd.underlying3 (by kernel_rfl) (by rw [show Tryd.prog.bytesOf 3 = 8 by kernel_rfl]; decide) (by rw [show Tryd.prog.bytesOf 3 = 8 by kernel_rfl]; decide) h1
      (fits_part (j := 1) Tryd.underlying57 hfit rfl rfl)
    obtain ⟨vo, lo, hvo, hco, hwo⟩ := open_ints_col (L := 17592186044416) Tryd.underlying26 Tryd.underlying3 (by kernel_rfl) (by rw [show Tryd.prog.bytesOf 3 = 8 by kernel_rfl]; decide) (by rw [show Tryd.prog.bytesOf 3 = 8 by kernel_rfl]; decide) h2
      (fits_part (j := 2) Tryd.underlying57 hfit rfl rfl)
    simp at hs hvi hvo
    exact ⟨vi, vo, ⟨s, li, lo⟩, by rw [hs, hvi, hvo], hci, hco, hwi, hwo⟩

theorem open_trs {fuel : Nat} {cs : List Value} {d : DataW H} {ps : List MemPlace} (h : DataW.trod enc Tryd.prog W 0 spare held fuel 23 cs = some (d, ps)) (hfit : Fits Tryd.prog 23 d) :
    ∃ v, ∃ l : List Tr, cs = [v] ∧ Trs W W.heap.size v l ∧ ∀ t ∈ l, I64s t.inn ∧ I64s t.out := by
  have k3 : Tryd.prog.cellsOf 57 = 3 := by kernel_rfl
  have k64 : Tryd.prog.bytesOf 57 = 64 := by kernel_rfl
  rcases open_slice Tryd.underlying23 h with ⟨rfl, _⟩ | ⟨a, len, cap, m, n, D, Pl, rfl, _, hlc, hm, hmm, hx, hV⟩
  · exact ⟨_, [], rfl, ⟨none, 0, rfl, by simp, fun i h => by simp at h⟩, by simp⟩
  · have hlm : len ≤ m := by rw [hmm]; split <;> omega
    have hd : d = _ := congrArg Prod.fst hx
    subst hd
    have each : ∀ i, i < len → ∃ t : Tr, ∃ vi vo, W.cell? ((a.add (i * 3)).add 0) = some (.string t.label) ∧ W.cell? ((a.add (i * 3)).add 1) = some vi ∧ W.cell? ((a.add (i * 3)).add 2) = some vo ∧ Ints W W.heap.size vi t.inn ∧ Ints W W.heap.size vo t.out ∧ I64s t.inn ∧ I64s t.out := fun i hi => by
      obtain ⟨cs, hcs, ht⟩ := hV i (by omega)
      rw [k3] at hcs
      obtain ⟨v0, v1, v2, rfl, hc0, hc1, hc2⟩ := cells3 hcs
      obtain ⟨vi, vo, t, he, g1, g2, g3, g4⟩ := open_tr ht (fits_elem Tryd.underlying23 hfit (by simp; exact ⟨i, hi, rfl⟩))
      simp at he
      obtain ⟨rfl, rfl, rfl⟩ := he
      exact ⟨t, v1, v2, hc0, hc1, hc2, g1, g2, g3, g4⟩
    obtain ⟨f, hf⟩ := choose_lt (α := Tr) each
    have hlen := fits_len Tryd.underlying23 hfit
    rw [k64] at hlen
    simp only [List.length_map, List.length_range, reachBytes] at hlen
    refine ⟨_, (List.range len).map f, rfl, ⟨some a, cap, by simp, by simp; omega, ?_⟩, ?_⟩
    · intro i hi
      have hi' : i < len := by simpa using hi
      obtain ⟨vi, vo, c0, c1, c2, g1, g2, _, _⟩ := hf i hi'
      obtain ⟨_, _, c00, _⟩ := hf 0 (by omega)
      rw [show (a.add (0 * 3)).add 0 = a by simp [Addr.add]] at c00
      obtain ⟨b, o, rfl, hb⟩ := addr_of_cell c00
      rw [add_none b o (i * 3) rfl] at c0 c1 c2
      rw [add_none b (o + i * 3) _ rfl] at c0 c1 c2
      refine ⟨b, o, vi, vo, rfl, hb, ?_, c1, c2, ?_, ?_⟩
      · simpa using c0
      · simpa using g1
      · simpa using g2
    · intro t ht
      simp at ht
      obtain ⟨i, hi, rfl⟩ := ht
      obtain ⟨vi, vo, c0, c1, c2, g1, g2, g3, g4⟩ := hf i hi
      exact ⟨g3, g4⟩

/-- The numbers of a net fit their kind. -/
def NtI (n : Nt) : Prop := (Lit.int .i64 n.init).wf = true ∧ (Lit.int .i64 n.final).wf = true ∧ ∀ t ∈ n.trans, I64s t.inn ∧ I64s t.out

theorem open_net {v : Value} {d : DataW H} {ps : List MemPlace} {r : Reach} {b0 : Nat} (hv : Value.okWide Tryd.prog W r b0 25 v) (h : DataW.Trod enc Tryd.prog W 0 spare held 25 v d ps) (hfit : Fits Tryd.prog 25 d) :
    ∃ vp vt, ∃ n : Nt, v = .agg #[vp, vt, .int .i64 n.init, .int .i64 n.final] ∧ NtR W W.heap.size vp vt n ∧ NtI n := by
  obtain ⟨v0, v1, v2, v3, y0, y1, y2, y3, m, rfl, rfl, rfl, h0, h1, h2, h3⟩ := open_agg4 Tryd.underlying25 (by kernel_rfl) (by kernel_rfl) hv h
  obtain ⟨vp, lp, hvp, hcp⟩ := open_strs_col (L := 8796093022208) Tryd.underlying22 Tryd.underlying9 (by kernel_rfl) (by rw [show Tryd.prog.bytesOf 9 = 16 by kernel_rfl]; decide) (by rw [show Tryd.prog.bytesOf 9 = 16 by kernel_rfl]; decide) h0
    (fits_part (j := 0) Tryd.underlying25 hfit rfl rfl)
  obtain ⟨vt, lt, hvt, hct, hwt⟩ := open_trs h1 (fits_part (j := 1) Tryd.underlying25 hfit rfl rfl)
  obtain ⟨i, hi, _, hwi⟩ := DataW.trod_int Tryd.underlying3 h2
  obtain ⟨f, hf, _, hwf⟩ := DataW.trod_int Tryd.underlying3 h3
  simp at hvp hvt hi hf
  subst hvp hvt hi hf
  exact ⟨v0, v1, ⟨lp, lt, i, f⟩, rfl, ⟨hcp, hct⟩, hwi, hwf, hwt⟩

theorem open_ints {v : Value} {d : DataW H} {ps : List MemPlace} {r : Reach} {b0 : Nat} (hv : Value.okWide Tryd.prog W r b0 26 v) (h : DataW.Trod enc Tryd.prog W 0 spare held 26 v d ps) (hfit : Fits Tryd.prog 26 d) :
    ∃ l, Ints W W.heap.size v l ∧ I64s l := by
  obtain ⟨fuel, h⟩ := h
  obtain ⟨a, len, cap, rfl⟩ := okWide_slice Tryd.underlying26 hv
  obtain ⟨v, l, hvl, hc, hw⟩ := open_ints_col (L := 17592186044416) Tryd.underlying26 Tryd.underlying3 (by kernel_rfl) (by rw [show Tryd.prog.bytesOf 3 = 8 by kernel_rfl]; decide) (by rw [show Tryd.prog.bytesOf 3 = 8 by kernel_rfl]; decide) h hfit
  simp [Value.cells] at hvl
  subst hvl
  exact ⟨l, hc, hw⟩

end
end Go.Proofs.YtbolacnpljkpbaaDoor
