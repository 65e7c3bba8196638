/- What a reading of values, binds and nodes gives. -/
import Derived.Test.YtjfiijbmkcfooaaDoorOpenF
import Derived.Test.YtjfiijbmkcfooaaDoorEvalTop2
set_option maxRecDepth 100000
namespace Go.Proofs.YtjfiijbmkcfooaaDoor
open Go.RowKit Go.Deep Go.ChangeShapes Go.WideShapes Go.Joins

section
variable {H : Type} {enc : TypeId × Value → H} {W : World} {spare : Nat → Bool} {held : Bool}
theorem fits_str {t : TypeId} {s : List UInt8} (h : Fits (H := H) Tryd.prog t (.lit (.string s))) : s.length ≤ 140737488355328 := by
  have := h s.length (by simp [DataW.weights])
  unfold reachBytes at this
  omega
theorem wf_u8 {x : Int} (h : (Lit.int .u8 x).wf = true) : 0 ≤ x ∧ x ≤ 255 := by
  have h' : (decide ((0 : Int) ≤ x) && decide (x ≤ 255)) = true := h
  simpa only [Bool.and_eq_true, decide_eq_true_eq] using h'
theorem wf_i64 {x : Int} (h : (Lit.int .i64 x).wf = true) : -9223372036854775808 ≤ x ∧ x ≤ 9223372036854775807 := by
  have h' : (decide ((-9223372036854775808 : Int) ≤ x) && decide (x ≤ 9223372036854775807)) = true := h
  simpa only [Bool.and_eq_true, decide_eq_true_eq] using h'
theorem open_vl (fuel : Nat) (cs : List Value) (d : DataW H) (ps : List MemPlace) (h : DataW.trod enc Tryd.prog W 0 spare held fuel 23 cs = some (d, ps)) (hfit : Fits Tryd.prog 23 d) (hlk : cs.length = 4) :
    ∃ v : Vl, cs = cellV v ∧ VlW v := by
  obtain ⟨xs, n, _, hx, hl, hlen, hf⟩ := DataW.trod_struct Tryd.underlying23 h
  have k0 : Tryd.prog.cellsOf 4 = 1 := by kernel_rfl
  have k1 : Tryd.prog.cellsOf 2 = 1 := by kernel_rfl
  have k2 : Tryd.prog.cellsOf 9 = 1 := by kernel_rfl
  have k3 : Tryd.prog.cellsOf 5 = 1 := by kernel_rfl
  simp only [Prod.mk.injEq] at hx
  obtain ⟨rfl, _⟩ := hx
  match xs, hlen, cs, hlk with
  | [y0, y1, y2, y3], _, [c0, c1, c2, c3], _ =>
    have f0 : DataW.trod enc Tryd.prog W 0 spare held n 5 [c0] = some y0 := by have := hf 0 _ rfl; simpa [k3] using this
    have f1 : DataW.trod enc Tryd.prog W 0 spare held n 2 [c1] = some y1 := by have := hf 1 _ rfl; simpa [k1] using this
    have f2 : DataW.trod enc Tryd.prog W 0 spare held n 4 [c2] = some y2 := by have := hf 2 _ rfl; simpa [k0] using this
    have f3 : DataW.trod enc Tryd.prog W 0 spare held n 9 [c3] = some y3 := by have := hf 3 _ rfl; simpa [k2] using this
    obtain ⟨x0, e0, _, w0⟩ := DataW.trod_int Tryd.underlying5 f0
    obtain ⟨x1, e1, _, w1⟩ := DataW.trod_int Tryd.underlying2 f1
    obtain ⟨x2, e2, _⟩ := DataW.trod_bool Tryd.underlying4 f2
    obtain ⟨x3, e3, d3, _⟩ := DataW.trod_string Tryd.underlying9 f3
    have g3 := fits_part (j := 3) Tryd.underlying23 hfit rfl rfl
    rw [d3] at g3
    have g3' := fits_str g3
    simp only [List.cons.injEq, and_true] at e0 e1 e2 e3
    subst e0 e1 e2 e3
    obtain ⟨a0, a1⟩ := wf_u8 w0
    obtain ⟨b0, b1⟩ := wf_i64 w1
    exact ⟨⟨x0, x1, x2, x3⟩, rfl, a0, a1, b0, b1, by simpa using g3'⟩
def BdW (b : Bd) : Prop := VlW b.val ∧ b.name.size ≤ 140737488355328
theorem open_bd (fuel : Nat) (cs : List Value) (d : DataW H) (ps : List MemPlace) (h : DataW.trod enc Tryd.prog W 0 spare held fuel 39 cs = some (d, ps)) (hfit : Fits Tryd.prog 39 d) (hlk : cs.length = 5) :
    ∃ b : Bd, cs = cellBd b ∧ BdW b := by
  obtain ⟨xs, n, _, hx, hl, hlen, hf⟩ := DataW.trod_struct Tryd.underlying39 h
  have k0 : Tryd.prog.cellsOf 9 = 1 := by kernel_rfl
  have k1 : Tryd.prog.cellsOf 23 = 4 := by kernel_rfl
  simp only [Prod.mk.injEq] at hx
  obtain ⟨rfl, _⟩ := hx
  match xs, hlen, cs, hlk with
  | [y0, y1], _, [c0, c1, c2, c3, c4], _ =>
    have f0 : DataW.trod enc Tryd.prog W 0 spare held n 9 [c0] = some y0 := by have := hf 0 _ rfl; simpa [k0] using this
    have f1 : DataW.trod enc Tryd.prog W 0 spare held n 23 [c1, c2, c3, c4] = some y1 := by have := hf 1 _ rfl; simpa [k1] using this
    obtain ⟨x0, e0, d0, _⟩ := DataW.trod_string Tryd.underlying9 f0
    have g0 := fits_part (j := 0) Tryd.underlying39 hfit rfl rfl
    rw [d0] at g0
    have g0' := fits_str g0
    obtain ⟨v, e1, w1⟩ := open_vl _ _ _ _ f1 (fits_part (j := 1) Tryd.underlying39 hfit rfl rfl) rfl
    simp only [cellV, List.cons.injEq, and_true] at e0 e1
    obtain ⟨rfl, rfl, rfl, rfl⟩ := e1
    subst e0
    exact ⟨⟨x0, v⟩, rfl, w1, by simpa using g0'⟩
theorem open_bds {fuel : Nat} {cs : List Value} {d : DataW H} {ps : List MemPlace} (h : DataW.trod enc Tryd.prog W 0 spare held fuel 27 cs = some (d, ps)) (hfit : Fits Tryd.prog 27 d) :
    ∃ v, ∃ l : List Bd, cs = [v] ∧ BdsR W W.heap.size v l ∧ l.length ≤ 2513169434900 := by
  have kb : Tryd.prog.bytesOf 39 = 56 := by kernel_rfl
  obtain ⟨v, l, h0, ⟨a, cap, h1, h2, hc, h3⟩, h4⟩ := open_colF (f := cellBd) Tryd.underlying27 (k := 5) (by kernel_rfl) (by omega) BdW open_bd h hfit
  rw [kb] at h2
  unfold reachBytes at h2
  exact ⟨v, l, h0, ⟨a, cap, h1, by omega, hc, h3, h4⟩, by omega⟩

/-- As open_rows, the element's reading known to be a part. -/
theorem open_rows_lt {P : Program} {α : Type} [Inhabited α] {t e : TypeId} {k : Nat} (ht : P.underlying t = some (.slice e)) (hk : P.cellsOf e = k) (hk0 : 0 < k) (R : List Value → α → Prop)
    {fuel : Nat} {cs0 : List Value} {d : DataW H} {ps : List MemPlace}
    (each : ∀ (fuel : Nat) (cs : List Value) (d' : DataW H) (ps : List MemPlace), SizeOf.sizeOf d' < SizeOf.sizeOf d → DataW.trod enc P W 0 spare held fuel e cs = some (d', ps) → Fits P e d' → cs.length = k → ∃ x : α, R cs x)
    (h : DataW.trod enc P W 0 spare held fuel t cs0 = some (d, ps)) (hfit : Fits P t d) :
    ∃ v, ∃ l : List α, cs0 = [v] ∧ ∃ a cap, v = .slice a l.length cap ∧ l.length * P.bytesOf e ≤ reachBytes ∧ l.length ≤ cap ∧
      ∀ i (_ : i < l.length), ∃ b o cs, a = some ⟨b, o, none⟩ ∧ b < W.heap.size ∧ cs.length = k ∧ (∀ j, j < k → W.cell? ⟨b, o + i * k + j, none⟩ = cs[j]?) ∧ R cs l[i] := by
  rcases open_slice ht h with ⟨rfl, _⟩ | ⟨a, len, cap, m, n, D, Pl, rfl, _, hlc, hm, hmm, hx, hV⟩
  · exact ⟨_, [], rfl, none, 0, rfl, by simp, by simp, fun i h => by simp at h⟩
  · have hlm : len ≤ m := by rw [hmm]; split <;> omega
    have hd : d = _ := congrArg Prod.fst hx
    subst hd
    have each' : ∀ i, i < len → ∃ t : α, ∃ cs, cs.length = k ∧ (∀ j, j < k → W.cell? ((a.add (i * k)).add j) = cs[j]?) ∧ R cs t := fun i hi => by
      obtain ⟨cs, hcs, ht2⟩ := hV i (by omega)
      rw [hk] at hcs
      obtain ⟨_, hl, hc⟩ := World.cells?_some hcs
      have hmem : D i ∈ (List.range len).map D := by simp; exact ⟨i, hi, rfl⟩
      obtain ⟨t, hr⟩ := each _ _ _ _ (by have := List.sizeOf_lt_of_mem hmem; simp only [DataW.slice.sizeOf_spec]; omega) ht2 (fits_elem ht hfit hmem) hl
      exact ⟨t, cs, hl, fun j hj => by rw [hc j hj, List.getElem?_eq_getElem (by omega)], hr⟩
    obtain ⟨f, hf⟩ := choose_lt (α := α) each'
    have hlen := fits_len ht hfit
    simp only [List.length_map, List.length_range] at hlen
    refine ⟨_, (List.range len).map f, rfl, some a, cap, by simp, by simpa using hlen, by simpa using hlc, fun i hi => ?_⟩
    have hi' : i < len := by simpa using hi
    obtain ⟨cs, hl, hc, hr⟩ := hf i hi'
    obtain ⟨cs0, hl0, hc0, _⟩ := hf 0 (by omega)
    have c00 := hc0 0 hk0
    rw [show (a.add (0 * k)).add 0 = a by simp [Addr.add], List.getElem?_eq_getElem (by omega)] at c00
    obtain ⟨b, o, rfl, hb⟩ := addr_of_cell c00
    refine ⟨b, o, cs, rfl, hb, hl, fun j hj => ?_, by simpa using hr⟩
    have := hc j hj
    rwa [add_none b o (i * k) rfl, add_none b (o + i * k) _ rfl] at this

def NdC (W : World) (cs : List Value) (n : Nd) : Prop := ∃ vk, cs = cellN n vk ∧ NdR W W.heap.size vk n
theorem open_nd : ∀ (m fuel : Nat) (cs : List Value) (d : DataW H) (ps : List MemPlace), SizeOf.sizeOf d < m → DataW.trod enc Tryd.prog W 0 spare held fuel 26 cs = some (d, ps) → Fits Tryd.prog 26 d → cs.length = 7 → ∃ n : Nd, NdC W cs n := by
  intro m
  induction m with
  | zero => intro _ _ _ _ h; omega
  | succ m ih =>
    intro fuel cs d ps hm h hfit hlk
    obtain ⟨xs, n, _, hx, hl, hlen, hf⟩ := DataW.trod_struct Tryd.underlying26 h
    have k0 : Tryd.prog.cellsOf 5 = 1 := by kernel_rfl
    have k1 : Tryd.prog.cellsOf 23 = 4 := by kernel_rfl
    have k2 : Tryd.prog.cellsOf 9 = 1 := by kernel_rfl
    have k3 : Tryd.prog.cellsOf 24 = 1 := by kernel_rfl
    have kb : Tryd.prog.bytesOf 26 = 88 := by kernel_rfl
    simp only [Prod.mk.injEq] at hx
    obtain ⟨rfl, _⟩ := hx
    match xs, hlen, cs, hlk with
    | [y0, y1, y2, y3], _, [c0, c1, c2, c3, c4, c5, c6], _ =>
      have f0 : DataW.trod enc Tryd.prog W 0 spare held n 5 [c0] = some y0 := by have := hf 0 _ rfl; simpa [k0] using this
      have f1 : DataW.trod enc Tryd.prog W 0 spare held n 23 [c1, c2, c3, c4] = some y1 := by have := hf 1 _ rfl; simpa [k1] using this
      have f2 : DataW.trod enc Tryd.prog W 0 spare held n 9 [c5] = some y2 := by have := hf 2 _ rfl; simpa [k2] using this
      have f3 : DataW.trod enc Tryd.prog W 0 spare held n 24 [c6] = some y3 := by have := hf 3 _ rfl; simpa [k3] using this
      obtain ⟨x0, e0, _, w0⟩ := DataW.trod_int Tryd.underlying5 f0
      obtain ⟨v, e1, w1⟩ := open_vl _ _ _ _ f1 (fits_part (j := 1) Tryd.underlying26 hfit rfl rfl) rfl
      obtain ⟨s, e2, d2, _⟩ := DataW.trod_string Tryd.underlying9 f2
      have g2 := fits_part (j := 2) Tryd.underlying26 hfit rfl rfl
      rw [d2] at g2
      have g2' := fits_str g2
      have hfit3 := fits_part (j := 3) Tryd.underlying26 hfit rfl rfl
      have hs3 : SizeOf.sizeOf y3.1 < m := by
        simp only [List.map_cons, List.map_nil, DataW.agg.sizeOf_spec, List.cons.sizeOf_spec] at hm
        omega
      obtain ⟨vk, l, e3, a, cap, h1, h2, hcp, h3⟩ := open_rows_lt Tryd.underlying24 (k := 7) (by kernel_rfl) (by omega) (NdC W) (fun fuel' cs' d' ps' hd' h' hf' hl' => ih fuel' cs' d' ps' (by omega) h' hf' hl') f3 hfit3
      rw [kb] at h2
      unfold reachBytes at h2
      simp only [cellV, List.cons.injEq, and_true] at e0 e1 e2 e3
      obtain ⟨rfl, rfl, rfl, rfl⟩ := e1
      subst e0 e2 e3 h1
      obtain ⟨a0, a1⟩ := wf_u8 w0
      refine ⟨.mk x0 v s l, _, rfl, ⟨a0, a1, w1, show s.size ≤ _ by simpa using g2'⟩, ?_⟩
      obtain ⟨f, hfv⟩ := choose_lt (α := Value) (n := l.length) (p := fun i vk => ∃ b o, a = some ⟨b, o, none⟩ ∧ b < W.heap.size ∧ (∀ j, j < 7 → ∃ hi : i < l.length, W.cell? ⟨b, o + i * 7 + j, none⟩ = (cellN l[i] vk)[j]?) ∧ ∃ hi : i < l.length, NdR W W.heap.size vk l[i]) (fun i hi => by
        obtain ⟨b, o, cs, e1, e2, _, e3, vk', rfl, e4⟩ := h3 i hi
        exact ⟨vk', b, o, e1, e2, fun j hj => ⟨hi, e3 j hj⟩, hi, e4⟩)
      refine .mk a cap l f (by omega) hcp (fun i hi => ?_) (fun i hi => ?_) (fun i hi => ?_)
      · obtain ⟨_, _, _, _, _, _, h⟩ := hfv i hi
        exact h.1
      · obtain ⟨b, o, e1, e2, e3, _⟩ := hfv i hi
        exact ⟨b, o, e1, e2, fun j hj => (e3 j hj).2⟩
      · obtain ⟨_, _, _, _, _, _, h⟩ := hfv i hi
        exact h.2
theorem open_node {v : Value} {d : DataW H} {ps : List MemPlace} {r : Reach} {b0 : Nat} (hv : Value.okWide Tryd.prog W r b0 26 v) (h : DataW.Trod enc Tryd.prog W 0 spare held 26 v d ps) (hfit : Fits Tryd.prog 26 d) :
    ∃ n : Nd, ∃ vk, v = valN n vk ∧ NdR W W.heap.size vk n := by
  obtain ⟨cs, rfl, hsz⟩ := okWide_struct Tryd.underlying26 hv
  obtain ⟨fuel, hf⟩ := h
  have h7 : Tryd.prog.cellsOf 26 = 7 := by kernel_rfl
  obtain ⟨n, vk, e, hn⟩ := open_nd _ fuel _ d ps (Nat.lt_succ_self _) hf hfit (by simpa [Value.cells] using hsz.trans h7)
  exact ⟨n, vk, congrArg Value.agg (Array.ext' (by simpa [Value.cells, cellN] using e)), hn⟩
theorem open_value {v : Value} {d : DataW H} {ps : List MemPlace} {r : Reach} {b0 : Nat} (hv : Value.okWide Tryd.prog W r b0 23 v) (h : DataW.Trod enc Tryd.prog W 0 spare held 23 v d ps) (hfit : Fits Tryd.prog 23 d) :
    ∃ x : Vl, v = valV x ∧ VlW x := by
  obtain ⟨cs, rfl, hsz⟩ := okWide_struct Tryd.underlying23 hv
  obtain ⟨fuel, hf⟩ := h
  have h4 : Tryd.prog.cellsOf 23 = 4 := by kernel_rfl
  obtain ⟨x, e, hx⟩ := open_vl fuel _ d ps hf hfit (by simpa [Value.cells] using hsz.trans h4)
  exact ⟨x, congrArg Value.agg (Array.ext' (by simpa [Value.cells, cellV] using e)), hx⟩
theorem open_binds {v : Value} {d : DataW H} {ps : List MemPlace} {r : Reach} {b0 : Nat} (hv : Value.okWide Tryd.prog W r b0 27 v) (h : DataW.Trod enc Tryd.prog W 0 spare held 27 v d ps) (hfit : Fits Tryd.prog 27 d) :
    ∃ l, BdsR W W.heap.size v l ∧ l.length ≤ 2513169434900 := by
  obtain ⟨fuel, h⟩ := h
  obtain ⟨a, len, cap, rfl⟩ := okWide_slice Tryd.underlying27 hv
  obtain ⟨v, l, hvl, hc, hm⟩ := open_bds h hfit
  simp [Value.cells] at hvl
  subst hvl
  exact ⟨l, hc, hm⟩
end
end Go.Proofs.YtjfiijbmkcfooaaDoor
