/- The entries of a clock in a row of the call's own: Less, Swap, Len. -/
import Derived.Test.YtofpmhkjagdmmaaClockMem
import Derived.Test.YtofpmhkjagdmmaaAggStep
import Derived.BigRegion
import Derived.Shelf.SlicesQ.Reverse
set_option maxRecDepth 100000
namespace Go.Proofs.Ytofpmhkjagdmmaa
open Go.RowKit

def cellsE (l : List Ent) : List Value := l.flatMap cellE
theorem cellsE_len : ∀ l : List Ent, (cellsE l).length = l.length * 5
  | [] => rfl
  | x :: l => by
    have := cellsE_len l
    simp only [cellsE, List.flatMap_cons, List.length_append] at *
    simp [cellE, this]; omega
theorem cellsE_app (l m : List Ent) : cellsE (l ++ m) = cellsE l ++ cellsE m := by simp [cellsE]
theorem cellsE_at : ∀ (l : List Ent) (i j : Nat) (h : i < l.length), j < 5 → (cellsE l)[i * 5 + j]? = (cellE l[i])[j]?
  | x :: l, 0, j, _, hj => by
    simp only [cellsE, List.flatMap_cons, Nat.zero_mul, Nat.zero_add, List.getElem_cons_zero]
    rw [List.getElem?_append_left (by simp [cellE]; omega)]
  | x :: l, i + 1, j, h, hj => by
    have h' : i < l.length := by simpa using h
    have := cellsE_at l i j h' hj
    simp only [cellsE, List.flatMap_cons, List.getElem_cons_succ] at *
    rw [List.getElem?_append_right (by simp [cellE]; omega), ← this]
    congr 1
    simp [cellE]; omega
/-- A run of stores into a list. -/
def setsL (xs : List Value) : Nat → List Value → List Value
  | _, [] => xs
  | s, v :: r => setsL (xs.set s v) (s + 1) r
theorem len_setsL : ∀ (vs : List Value) (s : Nat) (xs : List Value), (setsL xs s vs).length = xs.length
  | [], _, _ => rfl
  | v :: r, s, xs => by rw [setsL, len_setsL r]; simp
theorem get_setsL : ∀ (vs : List Value) (s : Nat) (xs : List Value) (t : Nat), s + vs.length ≤ xs.length → (setsL xs s vs)[t]? = if s ≤ t ∧ t < s + vs.length then vs[t - s]? else xs[t]?
  | [], s, xs, t, _ => by rw [setsL, if_neg (by simp only [List.length_nil]; omega)]
  | v :: r, s, xs, t, h => by
    simp only [List.length_cons] at h
    rw [setsL, get_setsL r (s + 1) _ t (by simp; omega)]
    by_cases h1 : s + 1 ≤ t ∧ t < s + 1 + r.length
    · rw [if_pos h1, if_pos (by simp; omega)]
      obtain ⟨u, rfl⟩ : ∃ u, t = s + 1 + u := ⟨t - (s + 1), by omega⟩
      rw [show s + 1 + u - s = u + 1 by omega, show s + 1 + u - (s + 1) = u by omega, List.getElem?_cons_succ]
    · rw [if_neg h1]
      by_cases h2 : t = s
      · subst h2
        rw [if_pos (by simp), List.getElem?_set_self (by omega), show t - t = 0 by omega, List.getElem?_cons_zero]
      · rw [if_neg (by simp; omega), List.getElem?_set_ne (Ne.symm h2)]
theorem sets_cellsE (l : List Ent) (i : Nat) (e : Ent) (hi : i < l.length) : setsL (cellsE l) (i * 5) (cellE e) = cellsE (l.set i e) := by
  refine List.ext_getElem? fun t => ?_
  have h5 : (cellE e).length = 5 := rfl
  rw [get_setsL _ _ _ _ (by rw [h5, cellsE_len]; omega), h5]
  by_cases hb : t < l.length * 5
  · obtain ⟨q, c, rfl, hc⟩ : ∃ q c, t = q * 5 + c ∧ c < 5 := ⟨t / 5, t % 5, by omega, by omega⟩
    rw [cellsE_at (l.set i e) q c (by rw [List.length_set]; omega) hc, List.getElem_set]
    by_cases e1 : i = q
    · subst e1
      rw [if_pos (by omega), if_pos rfl, show i * 5 + c - i * 5 = c by omega]
    · rw [if_neg (by omega), if_neg e1, cellsE_at _ q c (by omega) hc]
  · rw [if_neg (by omega), List.getElem?_eq_none (by rw [cellsE_len]; omega), List.getElem?_eq_none (by rw [cellsE_len, List.length_set]; omega)]

/-- A row of entries of the call's own. -/
def Row (w : World) (base : Nat) (v : Value) (l : List Ent) : Prop := w.ownsRow base 67 5 v l.length (cellsE l)

theorem stored_many {base g n cap : Nat} {e : TypeId} {size : Nat} : ∀ (vs : List Value) (s : Nat) (w : World) (xs : List Value), w.ownsRow base e size (.slice (some ⟨g, 0, none⟩) n cap) n xs →
    (w.setCells g s vs).ownsRow base e size (.slice (some ⟨g, 0, none⟩) n cap) n (setsL xs s vs) ∧ w.grownBy (w.setCells g s vs) (some g)
  | [], _, w, _, h => ⟨h, ⟨rfl, rfl, rfl, Nat.le_refl _, fun _ _ _ => rfl⟩⟩
  | v :: r, s, w, xs, h => by
    obtain ⟨h1, h2⟩ := World.ownsRow.stored h s v
    obtain ⟨h3, h4⟩ := stored_many r (s + 1) _ _ h1
    refine ⟨h3, ⟨h4.os.trans h2.os, h4.tape.trans h2.tape, h4.output.trans h2.output, Nat.le_trans h2.size h4.size, fun k hk hne => ?_⟩⟩
    exact (h4.block k (Nat.lt_of_lt_of_le hk h2.size) hne).trans (h2.block k hk hne)
theorem Row.set {w : World} {base g cap : Nat} {l : List Ent} (h : Row w base (.slice (some ⟨g, 0, none⟩) l.length cap) l) {i : Nat} (hi : i < l.length) (e : Ent) :
    Row (w.setCells g (i * 5) (cellE e)) base (.slice (some ⟨g, 0, none⟩) l.length cap) (l.set i e) ∧ w.grownBy (w.setCells g (i * 5) (cellE e)) (some g) := by
  obtain ⟨h1, h2⟩ := stored_many (cellE e) (i * 5) w _ h
  refine ⟨?_, h2⟩
  unfold Row
  rw [List.length_set, ← sets_cellsE l i e hi]
  exact h1
theorem Row.at {w : World} {base g cap : Nat} {l : List Ent} (h : Row w base (.slice (some ⟨g, 0, none⟩) l.length cap) l) {i : Nat} (hi : i < l.length) :
    w.cell? ⟨g, i * 5, none⟩ = some (.int .i64 (atL l i).al.due) ∧ w.cell? ⟨g, i * 5 + 1, none⟩ = some (.int .i64 (atL l i).al.token) ∧ w.cell? ⟨g, i * 5 + 2, none⟩ = some (.string (atL l i).al.via) ∧ w.cell? ⟨g, i * 5 + 3, none⟩ = some (.int .i64 (atL l i).al.inst) ∧ w.cell? ⟨g, i * 5 + 4, none⟩ = some (.int .i64 (atL l i).n) := by
  have c : ∀ j, j < 5 → w.cell? ⟨g, i * 5 + j, none⟩ = (cellE (atL l i))[j]? := fun j hj => by
    rw [World.ownsRow.cellAt h _ (by omega), cellsE_at l i j hi hj, atL_eq hi]
  refine ⟨?_, ?_, ?_, ?_, ?_⟩
  · exact c 0 (by omega)
  · exact c 1 (by omega)
  · exact c 2 (by omega)
  · exact c 3 (by omega)
  · exact c 4 (by omega)
theorem Row.block {w : World} {base g n cap : Nat} {l : List Ent} (h : Row w base (.slice (some ⟨g, 0, none⟩) n cap) l) : n = l.length ∧ base ≤ g ∧ g < w.heap.size ∧ n ≤ cap ∧ cap ≤ maxLen ∧ ∃ cur, w.heap[g]? = some (.cells cur 67 (0, 0)) := by
  rcases h.2 with ⟨h0, _⟩ | ⟨g', cap', cur, hv, hb, hg, hc, hm, _⟩
  · cases h0
  · cases hv; exact ⟨rfl, hb, lt_of_block hg, hc, hm, cur, hg⟩
theorem Row.kept {w w' : World} {base B : Nat} {v : Value} {l : List Ent} (h : Row w base v l) (hb : Below B w w') (hB : w.heap.size ≤ B) : Row w' base v l := by
  refine ⟨h.1, ?_⟩
  rcases h.2 with h0 | ⟨g, cap, cur, hv, hbg, hg, r⟩
  · exact Or.inl h0
  · exact Or.inr ⟨g, cap, cur, hv, hbg, (hb.block g (Nat.lt_of_lt_of_le (lt_of_block hg) hB)).trans hg, r⟩

set_option maxHeartbeats 1000000 in
theorem less_any (w : World) (base g cap : Nat) (l : List Ent) (h : Row w base (.slice (some ⟨g, 0, none⟩) l.length cap) l) (_hl : l.length ≤ 1048576) (i j : Nat) (hi : i < l.length) (hj : j < l.length) :
    Calls Try.prog 76 #[.slice (some ⟨g, 0, none⟩) l.length cap, .int .i64 (i : Int), .int .i64 (j : Int)] w fun r w' => r = .returned (.bool (ltEnt (atL l i) (atL l j))) ∧ Below w.heap.size w w' := by
  obtain ⟨a0, a1, a2, a3, a4⟩ := h.at hi
  obtain ⟨b0, b1, b2, b3, b4⟩ := h.at hj
  obtain ⟨x, hx⟩ : ∃ x, atL l i = x := ⟨_, rfl⟩
  obtain ⟨y, hy⟩ : ∃ y, atL l j = y := ⟨_, rfl⟩
  rw [hx] at a0 a1 a2 a3 a4
  rw [hy] at b0 b1 b2 b3 b4
  rw [hx, hy]
  clear hx hy
  have g0 : g < w.heap.size := h.block.2.2.1
  go_enter Try.func76, Try.ntmps76
  go_wp2_with fail
  go_region_held3 (fun w' => w'.cell? ⟨g, i * 5, none⟩ = some (.int .i64 x.al.due) ∧ w'.cell? ⟨g, i * 5 + 1, none⟩ = some (.int .i64 x.al.token) ∧ w'.cell? ⟨g, i * 5 + 2, none⟩ = some (.string x.al.via) ∧ w'.cell? ⟨g, i * 5 + 3, none⟩ = some (.int .i64 x.al.inst) ∧ w'.cell? ⟨g, i * 5 + 4, none⟩ = some (.int .i64 x.n) ∧ w'.cell? ⟨g, j * 5, none⟩ = some (.int .i64 y.al.due) ∧ w'.cell? ⟨g, j * 5 + 1, none⟩ = some (.int .i64 y.al.token) ∧ w'.cell? ⟨g, j * 5 + 2, none⟩ = some (.string y.al.via) ∧ w'.cell? ⟨g, j * 5 + 3, none⟩ = some (.int .i64 y.al.inst) ∧ w'.cell? ⟨g, j * 5 + 4, none⟩ = some (.int .i64 y.n))
    (first | go_keep | (refine ⟨?_, ?_, ?_, ?_, ?_, ?_, ?_, ?_, ?_, ?_⟩ <;> (rw [Below.cellB HB7 g0]; assumption)))
    (first | (go_at_call 33; refine (ent_cmp _ x y).mono ?_; rintro e w7 ⟨rfl, hb7⟩; have HB7 : Below w.heap.size w w7 := (Below.refl w.heap.size w).drew.trans hb7))
  go_wp2_with fail
  go_ret
  exact ⟨rfl, HB7⟩

theorem Row.load {w : World} {base g cap : Nat} {l : List Ent} (h : Row w base (.slice (some ⟨g, 0, none⟩) l.length cap) l) {i : Nat} (hi : i < l.length) :
    Sem.run Try.prog (loadCellsFrom ⟨g, i * 5, none⟩ 0 5 #[]) w = .ok (cellE (atL l i)).toArray w := by
  refine run_loadCellsFrom_list _ _ _ (cellE (atL l i)) 5 rfl fun j v hj => ?_
  have hj5 : j < 5 := by have := (List.getElem?_eq_some_iff.1 hj).1; simpa [cellE] using this
  rw [add_addr, World.ownsRow.cellAt h _ (by omega), cellsE_at l i j hi hj5, ← atL_eq hi]
  exact hj
theorem Row.store {w : World} {base g cap : Nat} {l : List Ent} (h : Row w base (.slice (some ⟨g, 0, none⟩) l.length cap) l) {i : Nat} (hi : i < l.length) (e : Ent) :
    Sem.run Try.prog (storeCells ⟨g, i * 5, none⟩ (cellE e) 0) w = .ok () (w.setCells g (i * 5) (cellE e)) := by
  have h5 : (cellE e).length = 5 := rfl
  have := run_storeCells_cells (P := Try.prog) g (i * 5) (cellE e) 0 w (fun c hc => by
      rw [Nat.add_zero, World.ownsRow.cellAt h _ (by omega), List.getElem?_eq_getElem (by rw [cellsE_len]; omega)]; rfl)
    (fun c hc => by rw [Nat.add_zero]; exact World.ownsRow.frozenAt h _) (fun u hu => by
      simp only [cellE, List.mem_cons, List.mem_nil_iff, or_false] at hu
      rcases hu with rfl | rfl | rfl | rfl | rfl <;> rfl)
  rwa [Nat.add_zero] at this

set_option maxHeartbeats 1000000 in
theorem swap_any (w : World) (base g cap : Nat) (l : List Ent) (h : Row w base (.slice (some ⟨g, 0, none⟩) l.length cap) l) (_hl : l.length ≤ 1048576) (i j : Nat) (hi : i < l.length) (hj : j < l.length) :
    Calls Try.prog 77 #[.slice (some ⟨g, 0, none⟩) l.length cap, .int .i64 (i : Int), .int .i64 (j : Int)] w fun r w' => r = .returned (.tuple #[]) ∧ Row w' base (.slice (some ⟨g, 0, none⟩) l.length cap) (swapL l i j) ∧ w.grownBy w' (some g) := by
  have hd : Row w.drew base (.slice (some ⟨g, 0, none⟩) l.length cap) l := h
  have li := hd.load hi
  have lj := hd.load hj
  have s1 := hd.store hi (atL l j)
  obtain ⟨r1, g1⟩ := hd.set hi (atL l j)
  have r1' : Row (w.drew.setCells g (i * 5) (cellE (atL l j))) base (.slice (some ⟨g, 0, none⟩) (l.set i (atL l j)).length cap) (l.set i (atL l j)) := by rw [List.length_set]; exact r1
  have s2 := r1'.store (i := j) (by rw [List.length_set]; exact hj) (atL l i)
  obtain ⟨r2, g2⟩ := r1'.set (i := j) (by rw [List.length_set]; exact hj) (atL l i)
  rw [List.length_set] at r2
  have HR := Lib.hid (show Row ((w.drew.setCells g (i * 5) (cellE (atL l j))).setCells g (j * 5) (cellE (atL l i))) base (.slice (some ⟨g, 0, none⟩) l.length cap) (swapL l i j) from r2)
  have HG := Lib.hid (show w.grownBy ((w.drew.setCells g (i * 5) (cellE (atL l j))).setCells g (j * 5) (cellE (atL l i))) (some g) from
    ⟨g2.os.trans g1.os, g2.tape.trans g1.tape, g2.output.trans g1.output, Nat.le_trans g1.size g2.size, fun k hk hne => (g2.block k (Nat.lt_of_lt_of_le hk g1.size) hne).trans (g1.block k hk hne)⟩)
  clear r1 r1' r2 g1 g2
  have h5i : (cellE (atL l i)).length = 5 := rfl
  have h5j : (cellE (atL l j)).length = 5 := rfl
  obtain ⟨ci, hci⟩ : ∃ c, cellE (atL l i) = c := ⟨_, rfl⟩
  obtain ⟨cj, hcj⟩ : ∃ c, cellE (atL l j) = c := ⟨_, rfl⟩
  rw [hci] at li s2 h5i HR HG
  rw [hcj] at lj s1 s2 h5j HR HG
  clear hci hcj
  have zE : ∀ w, (Go.sizeOf 67).run Try.prog w = .ok 5 w := Try.sizeOf67
  have aE : ∀ w, (isAgg 67).run Try.prog w = .ok true w := Try.isAgg67
  obtain ⟨k, hk⟩ : ∃ k, 5 = k := ⟨_, rfl⟩
  rw [hk] at zE h5i h5j
  rw [show (5 : Nat) = k from hk] at li lj s1 s2 HR HG
  go_enter Try.func77, Try.ntmps77
  go_wp2_with fail
  go_big_region
  all_goals go_wp2
  all_goals (refine bodyPost_end (results_none rfl _ _ _) rfl ?_)
  all_goals exact ⟨rfl, HR.out, HG.out⟩

end Go.Proofs.Ytofpmhkjagdmmaa
