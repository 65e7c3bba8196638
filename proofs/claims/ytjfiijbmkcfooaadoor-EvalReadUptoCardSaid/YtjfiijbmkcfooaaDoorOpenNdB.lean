/- What a reading of a node gives, its bulk besides (for the second forms); the witness of a row whose lists are laid by a function. -/
import Derived.Test.YtjfiijbmkcfooaaDoorOpenNd
import Derived.Test.YtjfiijbmkcfooaaDoorLEvalReadM
import Derived.Stop.Joined
import Derived.LaidLaws
set_option maxRecDepth 100000
namespace Go.Proofs.YtjfiijbmkcfooaaDoor
open Go.RowKit Go.Deep Go.ChangeShapes Go.WideShapes Go.Joins

theorem witness_row_shaped {H : Type} {enc : TypeId × Value → H} {C : Checked} {os : Os} {f : FuncId} {fn : Func} {s : OpenSpec} {conds : List PathCond} {apart : Bool} {laid : List (String × DataW Unit)} (modest : Bool) (w0 : World) (args : Array Value) (hos : w0.os = os)
    (hsh : (w0.forCall (fun _ _ => 0) ⟨#[], args, []⟩).Shaped C.prog)
    (hok : Input.okWideB C.prog (w0.forCall (fun _ _ => 0) ⟨#[], args, []⟩) f ⟨#[], args, []⟩ = true)
    (hrow : s.preRow enc C.prog fn conds apart laid (w0.forCall (fun _ _ => 0) ⟨#[], args, []⟩).memory args) :
    ∃ (w : World) (tape : Tape) (i : Input), w.os = os ∧ (w.forCall tape i).Shaped C.prog ∧ i.vars = [] ∧ Input.okWide C.prog (w.forCall tape i) .any w.heap.size f i ∧
      s.preRow enc C.prog fn conds apart laid (w.forCall tape i).memory i.args ∧ ({ modest := modest } : Assume).holds C.prog (lone (Frame.enter C.prog f i.args .normal) [] (w.forCall tape i)) :=
  ⟨w0, fun _ _ => 0, ⟨#[], args, []⟩, hos, hsh, (Input.okWide_of_okWideB (base := 0) hok).1, (Input.okWide_of_okWideB hok).2, hrow, by
    simp only [Assume.holds]
    exact ⟨by simp, by simp, fun _ => Modest.zero, by simp, by simp⟩⟩

section
variable {H : Type} {enc : TypeId × Value → H} {P : Program} {W : World} {spare : Nat → Bool} {held : Bool}
theorem bulk_inB {d : DataW H} : ∀ {l : List (DataW H)}, d ∈ l → Rows.uptoBulk d ≤ Rows.uptoBulkAll l
  | x :: r, h => by
    simp only [Rows.uptoBulkAll]
    rcases List.mem_cons.1 h with rfl | e
    · omega
    · have := bulk_inB e; omega
theorem bulk_argB {ds gs : List (DataW H)} {j : Nat} {d : DataW H} (hk : Rows.uptoSmall H (ds ++ gs) = true) (hd : ds[j]? = some d) : Rows.uptoBulk d ≤ 1048576 := by
  have h1 : Rows.uptoBulkAll (ds ++ gs) ≤ 1048576 := of_decide_eq_true hk
  exact Nat.le_trans (bulk_inB (List.mem_append_left _ (List.mem_of_getElem? hd))) h1
theorem bulk_sum {α : Type} (cnt : α → Nat) (f : Nat → α) (D : Nat → DataW H) : ∀ (L : List Nat), (∀ i ∈ L, cnt (f i) ≤ Rows.uptoBulk (D i)) → ((L.map f).map cnt).sum ≤ Rows.uptoBulkAll (L.map D)
  | [], _ => by simp
  | i :: r, h => by
    have h1 := h i List.mem_cons_self
    have h2 := bulk_sum cnt f D r (fun j hj => h j (List.mem_cons_of_mem _ hj))
    simp only [List.map_cons, List.sum_cons, Rows.uptoBulkAll]
    omega
/-- As open_rows_lt, the elements counted. -/
theorem open_rows_b {α : Type} [Inhabited α] (cnt : α → Nat) {t e : TypeId} {k : Nat} (ht : P.underlying t = some (.slice e)) (hk : P.cellsOf e = k) (hk0 : 0 < k) (R : List Value → α → Prop)
    {fuel : Nat} {cs0 : List Value} {d : DataW H} {ps : List MemPlace}
    (each : ∀ (fuel : Nat) (cs : List Value) (d' : DataW H) (ps : List MemPlace), SizeOf.sizeOf d' < SizeOf.sizeOf d → DataW.trod enc P W 0 spare held fuel e cs = some (d', ps) → Fits P e d' → cs.length = k → ∃ x : α, R cs x ∧ cnt x ≤ Rows.uptoBulk d')
    (h : DataW.trod enc P W 0 spare held fuel t cs0 = some (d, ps)) (hfit : Fits P t d) :
    ∃ v, ∃ l : List α, cs0 = [v] ∧ (l.map cnt).sum ≤ Rows.uptoBulk d ∧ ∃ a cap, v = .slice a l.length cap ∧ l.length * P.bytesOf e ≤ reachBytes ∧ l.length ≤ cap ∧
      ∀ i (_ : i < l.length), ∃ b o cs, a = some ⟨b, o, none⟩ ∧ b < W.heap.size ∧ cs.length = k ∧ (∀ j, j < k → W.cell? ⟨b, o + i * k + j, none⟩ = cs[j]?) ∧ R cs l[i] := by
  rcases open_slice ht h with ⟨rfl, _⟩ | ⟨a, len, cap, m, n, D, Pl, rfl, _, hlc, hm, hmm, hx, hV⟩
  · exact ⟨_, [], rfl, by simp, none, 0, rfl, by simp, by simp, fun i h => by simp at h⟩
  · have hlm : len ≤ m := by rw [hmm]; split <;> omega
    have hd : d = _ := congrArg Prod.fst hx
    subst hd
    have each' : ∀ i, i < len → ∃ t : α, (∃ cs, cs.length = k ∧ (∀ j, j < k → W.cell? ((a.add (i * k)).add j) = cs[j]?) ∧ R cs t) ∧ cnt t ≤ Rows.uptoBulk (D i) := fun i hi => by
      obtain ⟨cs, hcs, ht2⟩ := hV i (by omega)
      rw [hk] at hcs
      obtain ⟨_, hl, hc⟩ := World.cells?_some hcs
      have hmem : D i ∈ (List.range len).map D := by simp; exact ⟨i, hi, rfl⟩
      obtain ⟨t, hr, hcn⟩ := each _ _ _ _ (by have := List.sizeOf_lt_of_mem hmem; simp only [DataW.slice.sizeOf_spec]; omega) ht2 (fits_elem ht hfit hmem) hl
      exact ⟨t, ⟨cs, hl, fun j hj => by rw [hc j hj, List.getElem?_eq_getElem (by omega)], hr⟩, hcn⟩
    obtain ⟨f, hf⟩ := choose_lt (α := α) each'
    have hlen := fits_len ht hfit
    simp only [List.length_map, List.length_range] at hlen
    have hsum := bulk_sum cnt f D (List.range len) (fun i hi => (hf i (List.mem_range.1 hi)).2)
    refine ⟨_, (List.range len).map f, rfl, ?_, some a, cap, by simp, by simpa using hlen, by simpa using hlc, fun i hi => ?_⟩
    · simp only [Rows.uptoBulk]
      omega
    have hi' : i < len := by simpa using hi
    obtain ⟨cs, hl, hc, hr⟩ := (hf i hi').1
    obtain ⟨cs0, hl0, hc0, _⟩ := (hf 0 (by omega)).1
    have c00 := hc0 0 hk0
    rw [show (a.add (0 * k)).add 0 = a by simp [Addr.add], List.getElem?_eq_getElem (by omega)] at c00
    obtain ⟨b, o, rfl, hb⟩ := addr_of_cell c00
    refine ⟨b, o, cs, rfl, hb, hl, fun j hj => ?_, by simpa using hr⟩
    have := hc j hj
    rwa [add_none b o (i * k) rfl, add_none b (o + i * k) _ rfl] at this
end
theorem namL_sum : ∀ ks : List Nd, (namL ks).length = (ks.map (fun n => (namN n).length)).sum
  | [] => rfl
  | k :: r => by
    show (namN k ++ namL r).length = _
    rw [List.length_append, namL_sum r, List.map_cons, List.sum_cons]
section
variable {H : Type} {enc : TypeId × Value → H} {W : World} {spare : Nat → Bool} {held : Bool}
theorem open_nd_b : ∀ (m fuel : Nat) (cs : List Value) (d : DataW H) (ps : List MemPlace), SizeOf.sizeOf d < m → DataW.trod enc Tryd.prog W 0 spare held fuel 26 cs = some (d, ps) → Fits Tryd.prog 26 d → cs.length = 7 → ∃ n : Nd, NdC W cs n ∧ (namN n).length ≤ Rows.uptoBulk d := by
  intro m
  induction m with
  | zero => intro _ _ _ _ h; omega
  | succ m ih =>
    intro fuel cs d ps hm h hfit hlk
    obtain ⟨xs, n, _, hx, hl, hlen, hf⟩ := DataW.trod_struct Tryd.underlying26 h
    have k0 : Tryd.prog.cellsOf 5 = 1 := by kernel_rfl
    have k1 : Tryd.prog.cellsOf 23 = 4 := by kernel_rfl
    have k2 : Tryd.prog.cellsOf 9 = 1 := by kernel_rfl
    have k3 : Tryd.prog.cellsOf 24 = 1 := by kernel_rfl
    have kb : Tryd.prog.bytesOf 26 = 88 := by kernel_rfl
    simp only [Prod.mk.injEq] at hx
    obtain ⟨rfl, _⟩ := hx
    match xs, hlen, cs, hlk with
    | [y0, y1, y2, y3], _, [c0, c1, c2, c3, c4, c5, c6], _ =>
      have f0 : DataW.trod enc Tryd.prog W 0 spare held n 5 [c0] = some y0 := by have := hf 0 _ rfl; simpa [k0] using this
      have f1 : DataW.trod enc Tryd.prog W 0 spare held n 23 [c1, c2, c3, c4] = some y1 := by have := hf 1 _ rfl; simpa [k1] using this
      have f2 : DataW.trod enc Tryd.prog W 0 spare held n 9 [c5] = some y2 := by have := hf 2 _ rfl; simpa [k2] using this
      have f3 : DataW.trod enc Tryd.prog W 0 spare held n 24 [c6] = some y3 := by have := hf 3 _ rfl; simpa [k3] using this
      obtain ⟨x0, e0, _, w0⟩ := DataW.trod_int Tryd.underlying5 f0
      obtain ⟨v, e1, w1⟩ := open_vl _ _ _ _ f1 (fits_part (j := 1) Tryd.underlying26 hfit rfl rfl) rfl
      obtain ⟨s, e2, d2, _⟩ := DataW.trod_string Tryd.underlying9 f2
      have g2 := fits_part (j := 2) Tryd.underlying26 hfit rfl rfl
      rw [d2] at g2
      have g2' := fits_str g2
      have hfit3 := fits_part (j := 3) Tryd.underlying26 hfit rfl rfl
      have hs3 : SizeOf.sizeOf y3.1 < m := by
        simp only [List.map_cons, List.map_nil, DataW.agg.sizeOf_spec, List.cons.sizeOf_spec] at hm
        omega
      obtain ⟨vk, l, e3, hsum, a, cap, h1, h2, hcp, h3⟩ := open_rows_b (fun n => (namN n).length) Tryd.underlying24 (k := 7) (by kernel_rfl) (by omega) (NdC W) (fun fuel' cs' d' ps' hd' h' hf' hl' => ih fuel' cs' d' ps' (by omega) h' hf' hl') f3 hfit3
      rw [kb] at h2
      unfold reachBytes at h2
      simp only [cellV, List.cons.injEq, and_true] at e0 e1 e2 e3
      obtain ⟨rfl, rfl, rfl, rfl⟩ := e1
      subst e0 e2 e3 h1
      obtain ⟨a0, a1⟩ := wf_u8 w0
      have hcnt : (namN (.mk x0 v s l)).length ≤ Rows.uptoBulk (DataW.agg ([y0, y1, y2, y3].map (·.1))) := by
        have e3 : namN (.mk x0 v s l) = (if x0 = 2 then [s] else []) ++ namL l := rfl
        have h4 : (if x0 = 2 then [s] else [] : List ByteArray).length ≤ 1 := by split <;> simp
        rw [e3, List.length_append, namL_sum]
        simp only [List.map_cons, List.map_nil, Rows.uptoBulk, Rows.uptoBulkAll]
        omega
      refine ⟨.mk x0 v s l, ⟨_, rfl, ⟨a0, a1, w1, show s.size ≤ _ by simpa using g2'⟩, ?_⟩, hcnt⟩
      obtain ⟨f, hfv⟩ := choose_lt (α := Value) (n := l.length) (p := fun i vk => ∃ b o, a = some ⟨b, o, none⟩ ∧ b < W.heap.size ∧ (∀ j, j < 7 → ∃ hi : i < l.length, W.cell? ⟨b, o + i * 7 + j, none⟩ = (cellN l[i] vk)[j]?) ∧ ∃ hi : i < l.length, NdR W W.heap.size vk l[i]) (fun i hi => by
        obtain ⟨b, o, cs, e1, e2, _, e3, vk', rfl, e4⟩ := h3 i hi
        exact ⟨vk', b, o, e1, e2, fun j hj => ⟨hi, e3 j hj⟩, hi, e4⟩)
      refine .mk a cap l f (by omega) hcp (fun i hi => ?_) (fun i hi => ?_) (fun i hi => ?_)
      · obtain ⟨_, _, _, _, _, _, h⟩ := hfv i hi
        exact h.1
      · obtain ⟨b, o, e1, e2, e3, _⟩ := hfv i hi
        exact ⟨b, o, e1, e2, fun j hj => (e3 j hj).2⟩
      · obtain ⟨_, _, _, _, _, _, h⟩ := hfv i hi
        exact h.2
theorem open_node_b {v : Value} {d : DataW H} {ps : List MemPlace} {r : Reach} {b0 : Nat} (hv : Value.okWide Tryd.prog W r b0 26 v) (h : DataW.Trod enc Tryd.prog W 0 spare held 26 v d ps) (hfit : Fits Tryd.prog 26 d) :
    ∃ n : Nd, ∃ vk, v = valN n vk ∧ NdR W W.heap.size vk n ∧ (namN n).length ≤ Rows.uptoBulk d := by
  obtain ⟨cs, rfl, hsz⟩ := okWide_struct Tryd.underlying26 hv
  obtain ⟨fuel, hf⟩ := h
  have h7 : Tryd.prog.cellsOf 26 = 7 := by kernel_rfl
  obtain ⟨n, ⟨vk, e, hn⟩, hb⟩ := open_nd_b _ fuel _ d ps (Nat.lt_succ_self _) hf hfit (by simpa [Value.cells] using hsz.trans h7)
  exact ⟨n, vk, congrArg Value.agg (Array.ext' (by simpa [Value.cells, cellN] using e)), hn, hb⟩
end
end Go.Proofs.YtjfiijbmkcfooaaDoor
