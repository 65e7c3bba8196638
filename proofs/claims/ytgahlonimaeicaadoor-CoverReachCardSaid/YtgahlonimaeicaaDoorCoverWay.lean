/- many, way: for CoverPumps. -/
import Derived.Test.YtgahlonimaeicaaDoorCoverExact
import Derived.Test.YtgahlonimaeicaaDoorCoverNode
import Derived.Test.YtgahlonimaeicaaDoorCoverRow
import Derived.Test.YtgahlonimaeicaaDoorCoverWorks2
set_option maxRecDepth 100000
namespace Go.Proofs.YtgahlonimaeicaaDoor
open Go.RowKit

theorem any_drop {p : Int → Bool} {l : List Int} {k : Nat} (h : k < l.length) : (l.drop k).any p = (p l[k] || (l.drop (k + 1)).any p) := by
  rw [List.drop_eq_getElem_cons h]; rfl

theorem many_any (w : World) (B : Nat) (v : Value) (m : List Int) (h : Ints w B v m) : Calls Tryd.prog 32 #[v] w fun e w' => e = .returned (.bool (m.any (· == -1))) ∧ w = w' := by
  obtain ⟨a, c, rfl⟩ := h.val
  have hl := h.len
  obtain ⟨t, ht⟩ : ∃ t, m.any (· == -1) = t := ⟨_, rfl⟩
  have HT := Lib.hid ht
  rw [ht]
  clear ht
  go_enter Tryd.func32, Tryd.ntmps32
  go_wp2_with fail
  go_loopg [3] m.length (fun g s3 wr => ∃ k : Nat, k + g = m.length ∧ s3 = .int .i64 (k : Int) ∧ Hid ((m.drop k).any (· == -1) = t) ∧ w = wr)
  case atStart => exact ⟨0, by omega, rfl, HT, rfl⟩
  case round =>
    obtain ⟨k, hkg, rfl, hA, rfl⟩ := hrel
    by_cases hk : k < m.length
    · obtain ⟨b, o, rfl, _, hc⟩ := h.col k hk
      have hd := Lib.hid (any_drop (p := (· == -1)) hk)
      obtain ⟨x, hx⟩ : ∃ x, m[k] = x := ⟨_, rfl⟩
      rw [hx] at hc hd
      clear hx
      by_cases hx1 : x = -1
      · subst hx1
        have hf : Hid (t = true) := by rw [← hA.out, hd.out]; exact rfl
        go_wp2_with fail
        go_ret
        exact ⟨ret_bool hf.out.symm, rfl⟩
      · have hf : Hid ((m.drop (k + 1)).any (· == -1) = t) := by rw [← hA.out, hd.out]; simp [hx1, Hid]
        go_wp2_with fail
        go_roundg (gk - 1)
        case measure => omega
        case rel => exact ⟨k + 1, by omega, by go_num, hf, rfl⟩
    · have hf : Hid (t = false) := by rw [← hA.out, List.drop_eq_nil_of_le (by omega)]; exact rfl
      have hk' : ¬ ((k : Int) < (m.length : Int)) := by omega
      go_wp2_with fail
      go_ret
      exact ⟨ret_bool hf.out.symm, rfl⟩

/-- The nodes from the first to another one. -/
def wayF (l : List Nd) : Nat → Int → List Nd → List Nd
  | 0, _, acc => acc
  | f + 1, i, acc => if i < 0 then acc else wayF l f (ndAt l i.toNat).par (ndAt l i.toNat :: acc)
def wayE (l : List Nd) (i : Nat) : List Nd := wayF l (l.length + 1) i []

/-- Nodes in memory of the call's own. -/
def OwnN (w : World) (base : Nat) (v : Value) (A : List (Nd × Value)) : Prop := w.ownsRow base 36 4 v A.length (cellsN A) ∧ ∀ x ∈ A, OwnI w base x.2 x.1.mark
theorem OwnN.nil (w : World) (base : Nat) : OwnN w base (.slice none 0 0) [] := ⟨World.ownsRow_nil _ _ _ _, fun x hx => by cases hx⟩
theorem OwnN.kept {w w' : World} {base : Nat} {v : Value} {A : List (Nd × Value)} (h : OwnN w base v A) (hb : Below w.heap.size w w') : OwnN w' base v A := by
  refine ⟨World.ownsRow.kept h.1 (below_grownBy hb none) ?_, fun x hx => (h.2 x hx).kept hb (Nat.le_refl _)⟩
  rcases h.1.2 with ⟨rfl, _⟩ | ⟨g, cap, cur, rfl, _⟩
  · exact Or.inl rfl
  · exact Or.inr (by simp [Value.ownBlock])
theorem OwnN.shape {w : World} {base : Nat} {v : Value} {A : List (Nd × Value)} (h : OwnN w base v A) : (v = .slice none 0 0 ∧ A = []) ∨ ∃ g cap, v = .slice (some ⟨g, 0, none⟩) A.length cap ∧ base ≤ g ∧ g < w.heap.size := by
  rcases h.1.2 with ⟨rfl, h0⟩ | ⟨g, cap, cur, rfl, hb, hg, _⟩
  · exact Or.inl ⟨rfl, List.eq_nil_of_length_eq_zero h0⟩
  · exact Or.inr ⟨g, cap, rfl, hb, lt_of_block hg⟩
/-- It may be read. -/
theorem OwnN.read {w : World} {base g cap B : Nat} {A : List (Nd × Value)} (h : OwnN w base (.slice (some ⟨g, 0, none⟩) A.length cap) A) (hB : w.heap.size ≤ B) (hm : ∀ x ∈ A, x.1.mark.length ≤ 4096) : NdsC w B (some ⟨g, 0, none⟩) (A.map Prod.fst) := by
  obtain ⟨cur, hg, _⟩ := row_block h.1
  intro i hi
  have hiA : i < A.length := by simpa using hi
  have c : ∀ j, j < 4 → w.cell? ⟨g, i * 4 + j, none⟩ = (cell4 A[i])[j]? := fun j hj => by
    rw [World.ownsRow.cellAt h.1 _ (by omega), cellsN_at A i j hiA hj]
  have hg2 := lt_of_block hg
  rw [List.getElem_map]
  refine ⟨g, 0, A[i].2, rfl, by omega, ?_, ?_, ?_, ?_, (h.2 _ (List.getElem_mem hiA)).col (by have := hm _ (List.getElem_mem hiA); omega) hB⟩
  · rw [Nat.zero_add]; exact c 0 (by omega)
  · rw [Nat.zero_add]; exact c 1 (by omega)
  · rw [Nat.zero_add]; exact c 2 (by omega)
  · rw [Nat.zero_add]; exact c 3 (by omega)

/-- append(dst, nil...). -/
theorem wpList_append_none {P : Program} (w : World) {ops : Array Oper} {rest : List Oper} {o : Oper} {a : Act} {Q : Exit → Act → World → Prop} (hgd : o.guard = none) (s x : Operand) (t : TypeId)
    (ho : o.op = .call { callee := .builtin .append, args := #[s, x], argTypes := #[t, t] })
    (base : Nat) (e : TypeId) (i : TypeInfo) (size : Nat) (ht : P.underlying t = some (.slice e)) (hi : P.info? e = some i)
    (v : Value) (n c : Nat) (xs : List Value) (hs : a.eval s = v) (hown : w.ownsRow base e size v n xs) (hx : a.eval x = .slice none 0 c)
    (h : wpList P ops Q rest (a.put o.dst v) w) : wpList P ops Q (o :: rest) a w := by
  refine wpList_plain hgd fun K hK => ?_
  have hr := run_append_none (P := P) w base t o.type e i size ht hi v n c xs hown
  unfold Oper.wp execOp
  simp only [ho, resolve, invoke, builtin, Sem.run_bind, Sem.run_pure, Result.andThen_ok, List.map_toArray, List.map_cons, List.map_nil, hs, hx, hr]
  exact hK _ _ h

theorem wayF_neg (l : List Nd) (f : Nat) {i : Int} (h : i < 0) (acc : List Nd) : wayF l f i acc = acc := by
  cases f with
  | zero => rfl
  | succ f => rw [wayF, if_pos h]
theorem wayF_step (l : List Nd) (f : Nat) {q : Nat} (h : q < l.length) (acc : List Nd) : wayF l (f + 1) (q : Int) acc = wayF l f l[q].par (l[q] :: acc) := by
  rw [wayF, if_neg (by omega), show ((q : Int)).toNat = q by omega, ndAt_eq h]

theorem OwnI.oneCell {w : World} {base : Nat} {v : Value} {m : List Int} (h : OwnI w base v m) : v.oneCell' = true := by
  rcases h.val with ⟨rfl, _⟩ | ⟨g, cap, rfl, _, _⟩ <;> rfl
theorem OwnN.oneCells {w : World} {base : Nat} {v : Value} {A : List (Nd × Value)} (h : OwnN w base v A) : ∀ u ∈ cellsN A, u.oneCell' = true := by
  intro u hu
  obtain ⟨x, hx, hux⟩ := List.mem_flatMap.1 hu
  exact cell4_one (h.2 x hx).oneCell u hux
theorem OwnN.news {w : World} {base g cap : Nat} {A : List (Nd × Value)} (h : OwnN w base (.slice (some ⟨g, 0, none⟩) A.length cap) A) : ∀ j u, (cellsN A)[j]? = some u → w.cell? ((⟨g, 0, none⟩ : Addr).add j) = some u := World.ownsRow.cells h.1 rfl

theorem cellsN_one (x : Nd × Value) : cellsN [x] = cell4 x := by simp [cellsN]

theorem OwnN.one {w : World} {base : Nat} {v u : Value} {x : Nd} (h : w.ownsRow base 36 4 v 1 (cell4 (x, u))) (hu : OwnI w base u x.mark) : OwnN w base v [(x, u)] := by
  refine ⟨by rw [cellsN_one]; exact h, fun y hy => ?_⟩
  obtain rfl : y = (x, u) := by simpa using hy
  exact hu
theorem OwnN.cons {w : World} {base : Nat} {v u : Value} {x : Nd} {A : List (Nd × Value)} (h : w.ownsRow base 36 4 v (1 + A.length) (cell4 (x, u) ++ cellsN A)) (hu : OwnI w base u x.mark) (hA : ∀ y ∈ A, OwnI w base y.2 y.1.mark) : OwnN w base v ((x, u) :: A) := by
  refine ⟨?_, fun y hy => ?_⟩
  · rw [List.length_cons, Nat.add_comm]
    exact h
  · rcases List.mem_cons.1 hy with rfl | hy
    · exact hu
    · exact hA y hy

set_option maxHeartbeats 2000000 in
theorem way_any (w : World) (B p : Nat) (l : List Nd) (h : TreeR w B p l) (hB : B ≤ w.heap.size) (hup : Up l) (i : Nat) (hi : i < l.length) :
    Calls Tryd.prog 34 #[.pointer (some ⟨p, 0, none⟩), .int .i64 (i : Int)] w fun e w' => ∃ v A, e = .returned v ∧ A.map Prod.fst = wayE l i ∧ OwnN w' w.heap.size v A ∧ Below w.heap.size w w' := by
  obtain ⟨i1, hti, hz0, hz1, hz2⟩ := info_parts info_nd
  have hlm : l.length ≤ 4096 := by obtain ⟨_, _, _, h1, _⟩ := h; exact h1
  go_enter Tryd.func34, Tryd.ntmps34
  go_wp2_with fail
  go_loopg [1, 5, 6] (l.length + 1) (fun gh s1 s5 s6 wr => ∃ (k : Nat) (q : Int) (A : List (Nd × Value)), k + gh = l.length + 1 ∧ s6 = .int .i64 (k : Int) ∧ s1 = .int .i64 q ∧ -1 ≤ q ∧ q + k < (l.length : Int) ∧ A.length ≤ k ∧
    Hid (wayF l (l.length + 1 - k) q (A.map Prod.fst) = wayE l i) ∧ OwnN wr w.heap.size s5 A ∧ Below w.heap.size w wr)
  case atStart => exact ⟨0, i, [], by omega, rfl, rfl, by omega, by omega, by simp, rfl, OwnN.nil _ _, Below.refl _ _⟩
  case round =>
    obtain ⟨k, q, A, hkg, rfl, rfl, hq0, hq1, hAk, hW, hown, hbr⟩ := hrel
    have hzr := hbr.size
    have hTr := h.mono (hbr.mono hB) (Nat.le_refl _)
    have hBr : B ≤ wr.heap.size := by omega
    have hd0 : decide ((k : Int) ≤ (l.length : Int)) = true := decide_eq_true (by omega)
    by_cases hq : 0 ≤ q
    · obtain ⟨j, rfl⟩ := Int.eq_ofNat_of_zero_le hq
      have hj : j < l.length := by omega
      have hst := Lib.hid (wayF_step l (l.length - k) hj (A.map Prod.fst))
      have hupj := hup j hj
      have HN := node_any _ _ p l hTr hBr j hj
      obtain ⟨x, hx⟩ : ∃ x, l[j] = x := ⟨_, rfl⟩
      rw [hx] at hst hupj HN
      have HN' := Lib.hid HN
      have HX := Lib.hid hx
      clear HN hx
      go_wp2_with (go_at_call 13; refine (len_any _ _ _ l (by assumption)).mono ?_; rintro e w8 ⟨rfl, rfl⟩; refine Hid.out ?_)
      refine Lib.hid ?_
      go_wp2_with (first | (go_at_call 14; refine HN'.out.mono ?_; rintro e w8 ⟨v8, rfl, how8, hb8⟩; refine Hid.out ?_))
      refine Lib.hid ?_
      have hz8 := hb8.size
      obtain ⟨a8, c8, rfl⟩ := how8.shape
      obtain ⟨W8, hW8⟩ : ∃ W8, w8.alloc (.cells #[.int .i64 x.par, .int .i64 x.tr, .slice a8 x.mark.length c8, .int .i64 x.again] 36) = W8 := ⟨_, rfl⟩
      have hbW8 : Below w8.heap.size w8 W8 := by rw [← hW8]; exact (Below.refl _ _).alloc (Nat.le_refl _) _
      have hsW8 : W8.heap.size = w8.heap.size + 1 := by rw [← hW8]; exact World.size_alloc _ _
      have hxW8 : W8.heap[w8.heap.size]? = some (.cells #[.int .i64 x.par, .int .i64 x.tr, .slice a8 x.mark.length c8, .int .i64 x.again] 36) := by rw [← hW8]; exact heap_alloc_new _ _
      have h38 := hb8.trans (hbW8.mono hz8)
      have hz38 := h38.size
      obtain ⟨q0, q1, q2, q3⟩ := box4 hxW8
      have hbR : Below W8.heap.size W8 (W8.alloc (.cells #[.int .i64 x.par, .int .i64 x.tr, .slice a8 x.mark.length c8, .int .i64 x.again] 36)) := (Below.refl _ _).alloc (Nat.le_refl _) _
      have hwW : w.heap.size ≤ W8.heap.size := by omega
      have own1 : World.ownsRow (W8.alloc (.cells #[.int .i64 x.par, .int .i64 x.tr, .slice a8 x.mark.length c8, .int .i64 x.again] 36)) w.heap.size 36 4 (.slice (some ⟨W8.heap.size, 0, none⟩) 1 1) 1 (cell4 (x, .slice a8 x.mark.length c8)) := World.ownsRow_lit W8 #[.int .i64 x.par, .int .i64 x.tr, .slice a8 x.mark.length c8, .int .i64 x.again] 1 hwW (by decide) rfl
      have how8' : OwnI W8 w.heap.size (.slice a8 x.mark.length c8) x.mark := (how8.kept hbW8 (Nat.le_refl _)).lower (by omega)
      have how8R := how8'.kept hbR (Nat.le_refl _)
      have hownR := (hown.kept h38).kept hbR
      have BR := (hbr.trans (h38.mono hzr)).trans (hbR.mono hwW)
      have hs8a : w8.heap.size + 1 ≤ W8.heap.size := by omega
      have hs8b : W8.heap.size ≤ w8.heap.size + 1 := by omega
      have hxb := lt_of_block hxW8
      have hxB := Lib.hid hxW8
      have HST : Hid (wayF l (l.length + 1 - (k + 1)) x.par (x :: A.map Prod.fst) = wayE l i) := by
        rw [← hW.out, show l.length + 1 - k = l.length - k + 1 by omega, hst.out, show l.length + 1 - (k + 1) = l.length - k by omega]
        exact rfl
      clear hsW8 hxW8
      rcases hown.shape with ⟨rfl, rfl⟩ | ⟨g, cap, rfl, hg0, hg1⟩
      · go_wp2_with (first | (at_builtin; refine wpList_append_none _ rfl _ _ 69 rfl w.heap.size 36 i1 4 Tryd.underlying69 hti _ 1 0 _ rfl own1 rfl ?_; refine Hid.out ?_))
        refine Lib.hid ?_
        clear hW8
        have hxR := (hbR.block w8.heap.size hxb).trans hxB.out
        obtain ⟨r0, r1, r2, r3⟩ := box4 hxR
        clear q0 q1 q2 q3
        go_wp2_with fail
        go_roundg (gk - 1)
        case measure => omega
        case rel => exact ⟨k + 1, x.par, [(x, .slice a8 x.mark.length c8)], by omega, by go_num, rfl, by omega, by omega, by simp, HST, OwnN.one own1 how8R, BR⟩
      · go_wp2_with (first | (at_builtin; refine wpList_append_own _ rfl _ _ 69 rfl w.heap.size 36 i1 (.agg #[.int .i64 0, .int .i64 0, .slice none 0 0, .int .i64 0]) 4 48 Tryd.underlying69 hti hz0 hz1 hz2 rfl (by decide) _ 1 _ rfl own1 ⟨g, 0, none⟩ A.length cap (cellsN A) rfl (cellsN_len A) hownR.news hownR.oneCells (by unfold maxLen; omega) (by omega) (by simp; omega) ?_; intro v' w10 hown10 hg10 _; refine Hid.out ?_))
        refine Lib.hid ?_
        clear hW8 q0 q1 q2 q3
        have hRn : ∀ cur, (W8.alloc (.cells #[.int .i64 x.par, .int .i64 x.tr, .slice a8 x.mark.length c8, .int .i64 x.again] 36)).heap[W8.heap.size]? ≠ some (.cells cur 3 (0, 0)) := fun cur e => by
          rw [heap_alloc_new] at e
          injection e with e
          injection e with _ e2 _
          exact absurd e2 (by decide)
        have hxR := (hg10.block w8.heap.size (by simp; omega) (fun e => by have : w8.heap.size = W8.heap.size := Option.some.inj e; omega)).trans ((hbR.block w8.heap.size hxb).trans hxB.out)
        obtain ⟨r0, r1, r2, r3⟩ := box4 hxR
        have hB10 := BR.grown hg10 (by simp; omega) (fun j hj => by cases hj; exact hwW)
        have hO10 := OwnN.cons hown10 (how8R.turned hg10 hRn) (fun y hy => (hownR.2 y hy).turned hg10 hRn)
        go_wp2_with fail
        go_roundg (gk - 1)
        case measure => omega
        case rel => exact ⟨k + 1, x.par, (x, .slice a8 x.mark.length c8) :: A, by omega, by go_num, rfl, by omega, by omega, by simp; omega, HST, hO10, hB10⟩
    · have hfin : Hid (A.map Prod.fst = wayE l i) := by rw [← hW.out, wayF_neg _ _ (by omega)]; exact rfl
      go_wp2_with (go_at_call 13; refine (len_any _ _ _ l (by assumption)).mono ?_; rintro e w8 ⟨rfl, rfl⟩)
      go_ret
      exact ⟨_, A, rfl, hfin.out, hown, hbr⟩

end Go.Proofs.YtgahlonimaeicaaDoor
