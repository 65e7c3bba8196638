/- The document's jobs (tollgateref24): List. -/
import Derived.Test.YtggnheekkbideaaJobList
import Derived.Test.YtggnheekkbideaaJobSortP
import Derived.Test.YtggnheekkbideaaRowsK
import Derived.IntWalk
set_option maxRecDepth 100000
namespace Go.Proofs.Ytggnheekkbideaa
open Go.RowKit

/-- The row of places that the document has, behind some tokens. -/
def rowR (pre : List PT) : List PT := (someL isB pre).foldl insP []
theorem rowR_no {pre : List PT} {p : PT} (h : isB p.t = false) : rowR (pre ++ [p]) = rowR pre := by
  unfold rowR someL
  rw [List.filter_append]
  simp [h]
theorem rowR_yes {pre : List PT} {p : PT} (h : isB p.t = true) : rowR (pre ++ [p]) = insP (rowR pre) p := by
  unfold rowR someL
  rw [List.filter_append]
  simp [h]
theorem len_foldP (L : List PT) : ∀ O : List PT, (L.foldl insP O).length = O.length + L.length := by
  induction L with
  | nil => intro O; simp
  | cons x L ih => intro O; rw [List.foldl_cons, ih, len_insP, List.length_cons]; omega
theorem rowR_len (pre : List PT) : (rowR pre).length ≤ pre.length := by
  unfold rowR someL
  rw [len_foldP]
  have := List.length_filter_le (fun p : PT => isB p.t) pre
  simp; omega
theorem rowR_all (l : List Ins) : (rowR (allT l)).map (jobOf l) = jobsP isB l := by
  unfold rowR jobsP
  rw [stable_is]
  exact someL_ne isB l
theorem cellsJ_zero : (cellJ ⟨0, 0, default, 0, default, 0, 0⟩).length = 7 := rfl
abbrev RJ (w : World) (base : Nat) (v : Value) (A : List Jb) : Prop := OwnF cellJ 81 7 w base v A
theorem rj_push {w : World} {base : Nat} {v : Value} {A : List Jb} {x : Jb} (h : w.ownsRow base 81 7 v (A.length + 1) (cellsF cellJ A ++ cellJ x)) : RJ w base v (A ++ [x]) := by
  unfold RJ OwnF
  rw [List.length_append, List.length_singleton, cellsF_app]
  exact h
theorem rj_ge {w : World} {base : Nat} {v : Value} {A : List Jb} (h : RJ w base v A) : ∀ k, v.ownBlock = some k → base ≤ k := by
  intro k hk
  rcases OwnF.val h with ⟨e, _⟩ | ⟨g, c, e, hb, _⟩
  · rw [e] at hk; cases hk
  · rw [e] at hk; simp only [Value.ownBlock, Option.some.injEq] at hk; omega
theorem rj_shape1 {w : World} {base : Nat} {v : Value} {A : List Jb} {x : Jb} (h : RJ w base v (A ++ [x])) : ∃ a cap, v = .slice a (A.length + 1) cap := by
  obtain ⟨a, c, e⟩ := OwnF.shape h
  rw [List.length_append, List.length_singleton] at e
  exact ⟨a, c, e⟩
theorem blk_allocJ {w : World} {b : Nat} (h : b < w.heap.size) (o : Obj) : (w.alloc o).heap[b]? = w.heap[b]? := ((Below.refl w.heap.size w).alloc (Nat.le_refl _) o).block b h

/-- A whole job is stored. -/
abbrev chainJ (w : World) (g o : Nat) (j : Jb) : World := ((((((w.setCell ⟨g, o, none⟩ (.int .i64 j.inst)).setCell ⟨g, o + 1, none⟩ (.int .i64 j.tok)).setCell ⟨g, o + 2, none⟩ (.string j.here)).setCell ⟨g, o + 3, none⟩ (.int .i64 j.tries)).setCell ⟨g, o + 4, none⟩ (.string j.worker)).setCell ⟨g, o + 5, none⟩ (.int .i64 j.til)).setCell ⟨g, o + 6, none⟩ (.int .u8 j.inc)
theorem chainJ_eq (w : World) (g o : Nat) (j : Jb) : w.setCells g o (cellJ j) = chainJ w g o j := rfl
set_option maxHeartbeats 16000000 in
theorem rlist_any (w : World) (v : Value) (l : List Ins) (hI : InsR w w.heap.size v l) (hl : (allT l).length ≤ 1048576) :
    Calls Try.prog 17 #[v] w fun e w' => ∃ vo, e = .returned vo ∧ RJ w' w.heap.size vo (jobsP isB l) ∧ Below w.heap.size w w' := by
  obtain ⟨i0, hti, hz0, hz1, hz2⟩ := info_parts (show (Try.prog.info? 81).map (fun i => (i.zero, i.size, i.bytes)) = some (some (.agg #[.int .i64 0, .int .i64 0, .string default, .int .i64 0, .string default, .int .i64 0, .int .u8 0]), 7, 72) by kernel_rfl)
  obtain ⟨a, c, rfl⟩ := hI.val
  have HI := Lib.hid hI
  have hll := hI.len
  clear hI
  go_enter Try.func17, Try.ntmps17
  go_wp2_with fail
  go_loopg [3, 4] l.length (fun gh s3 s4 wx => ∃ i : Nat, i + gh = l.length ∧ s4 = .int .i64 (i : Int) ∧ RJ wx w.heap.size s3 ((rowR (allN l i)).map (jobOf l)) ∧ Below w.heap.size w wx)
  case atStart => exact ⟨0, by omega, rfl, OwnF.nil _ _, Below.refl _ _⟩
  case round =>
    obtain ⟨i, hig, rfl, hO, hB⟩ := hrel
    have HB := Lib.hid hB
    have HO := Lib.hid hO
    have hzB := hB.size
    by_cases hi : i < l.length
    · have hIr := HI.out.mono hB (Nat.le_refl _)
      obtain ⟨b, o, rfl, hb⟩ := hIr.addr (by omega)
      obtain ⟨x, hx⟩ : ∃ x, l[i] = x := ⟨_, rfl⟩
      have hxa : Hid (atL l i = x) := Lib.hid (by rw [atL_eq hi]; exact hx)
      obtain ⟨av, cv, at_, ct, q0, q1, q2, q3, q4, -, qT⟩ := hIr.at hi hx
      have hTl := qT.len
      clear hx qT q0 q1 q2 q3 q4 hB hIr hO
      obtain ⟨w1, rfl⟩ : ∃ w1, w1 = wr := ⟨_, rfl⟩
      go_wp2_with fail
      go_loopg [3, 5] x.toks.length (fun gh s3 s5 wx => ∃ k : Nat, k + gh = x.toks.length ∧ s5 = .int .i64 (k : Int) ∧ Hid (0 < k → x.state = 1) ∧ RJ wx w.heap.size s3 ((rowR (allN l i ++ tokN i x k)).map (jobOf l)) ∧ Below w.heap.size w wx)
      case atStart => exact ⟨0, by omega, rfl, Lib.hid (by omega), by rw [show tokN i x 0 = [] from rfl, List.append_nil]; exact HO.out, HB.out⟩
      case round =>
        obtain ⟨k, hkg, rfl, hst, hO1, hB1⟩ := hrel
        have hIr := HI.out.mono hB1 (Nat.le_refl _)
        obtain ⟨av', cv', at', ct', q0, -, q2, -, q4, -, qT⟩ := hIr.at hi (x := x) (by rw [← hxa.out, atL_eq hi])
        have HB1 := Lib.hid hB1
        have hzr := hB1.size
        clear hB1 hIr
        by_cases hk : k < x.toks.length
        · by_cases hs : x.state = 1
          · obtain ⟨bt, ot, rfl, hbt⟩ := qT.addr (by omega)
            obtain ⟨y, hy⟩ : ∃ y, x.toks[k] = y := ⟨_, rfl⟩
            obtain ⟨t0, t1, t2, t3, t4, t5, t6, t7, t8⟩ := tsR_at qT hk hy
            have d1 : (x.state == 1) = true := by simpa using hs
            have hp : Hid (tokN i x (k + 1) = tokN i x k ++ [⟨i, k, y⟩]) := Lib.hid (by rw [tokN_succ, atL_eq hk, hy])
            have hlt := mid_lt hi hxa.out hs hk
            have hOl : (rowR (allN l i ++ tokN i x k)).length ≤ 1048576 := by have := rowR_len (allN l i ++ tokN i x k); omega
            have hs' := Lib.hid hs
            have hk2 : (k : Int) < (x.toks.length : Int) := by omega
            have hw4b := (Below.refl wr.heap.size wr).alloc (Nat.le_refl _) (.cells (tokA y) 41)
            have hw4n := heap_alloc_new wr (.cells (tokA y) 41)
            have hs4 : wr.heap.size < (wr.alloc (.cells (tokA y) 41)).heap.size := by rw [World.size_alloc]; omega
            obtain ⟨w4, hw4⟩ : ∃ w4, wr.alloc (.cells (tokA y) 41) = w4 := ⟨_, rfl⟩
            rw [hw4] at hw4b hw4n hs4
            have HO4 := Lib.hid (OwnF.kept hO1 hw4b)
            have HB4 := Lib.hid (HB1.out.trans (hw4b.mono hzr))
            have HN4 := Lib.hid hw4n
            obtain ⟨pb, hpb⟩ : ∃ pb, wr.heap.size = pb := ⟨_, rfl⟩
            obtain ⟨O, hOe⟩ : ∃ O, rowR (allN l i ++ tokN i x k) = O := ⟨_, rfl⟩
            rw [hOe] at hOl
            obtain ⟨n0, n1, n2, n3, n4, n5, n6, n7, n8⟩ := tok_cells hw4n
            rw [hpb] at n0 n1 n2 n3 n4 n5 n6 n7 n8 hs4
            have S1 := Lib.hid (ris_any w4 y)
            clear qT hs hy hw4b hw4n hlt q0
            go_wp2_with (go_at_call 23; refine S1.out.mono ?_; rintro e w5 ⟨rfl, hb5⟩; refine Hid.out ?_)
            refine Lib.hid ?_
            clear n0 n1 n2 n3 n4 n5 n6 n7 n8 t0 t1 t2 t3 t4 t5 t6 t7 t8
            have HO5 := Lib.hid (OwnF.kept HO4.out hb5)
            have HB5 := Lib.hid (HB4.out.trans (hb5.mono HB4.out.size))
            have HN5 := Lib.hid ((hb5.block _ (by rw [hpb]; exact hs4)).trans HN4.out)
            have hs5 : pb < w5.heap.size := Nat.lt_of_lt_of_le hs4 hb5.size
            have hz5 : w.heap.size ≤ w5.heap.size := HB5.out.size
            rw [hpb] at HN5
            have hpw : w.heap.size ≤ pb := by omega
            clear hb5 HO4 HB4 HN4 S1 hs4
            cases hI : isB y with
            | false =>
              have HR : Hid (rowR (allN l i ++ tokN i x (k + 1)) = O) := Lib.hid (by rw [hp.out, ← List.append_assoc, rowR_no hI, hOe])
              have HO6 : Hid (RJ w5 w.heap.size u3 ((rowR (allN l i ++ tokN i x (k + 1))).map (jobOf l))) := Lib.hid (by rw [HR.out, ← hOe]; exact HO5.out)
              clear hO1 hOe hI
              go_wp2_with fail
              go_roundg (gk - 1)
              case measure => omega
              case rel => exact ⟨k + 1, by omega, by go_num, Lib.hid (fun _ => hs'.out), HO6.out, HB5.out⟩
            | true =>
              have HR : Hid (rowR (allN l i ++ tokN i x (k + 1)) = insP O ⟨i, k, y⟩) := Lib.hid (by rw [hp.out, ← List.append_assoc, rowR_yes hI, hOe])
              have HO6 : Hid (RJ w5 w.heap.size u3 (O.map (jobOf l))) := Lib.hid (by rw [← hOe]; exact HO5.out)
              rw [hOe] at hO1
              obtain ⟨aO, cO, rfl⟩ := OwnF.shape hO1
              rw [List.length_map] at HO6
              rw [List.length_map]
              obtain ⟨ob, hob⟩ : ∃ ob, (Value.slice aO O.length cO).ownBlock = ob := ⟨_, rfl⟩
              have hobp : some pb ≠ ob := by
                rw [← hob]
                exact Ne.symm (own_blkJ HO6.out HN5.out (by decide))
              have HOB := Lib.hid hob
              have HOBP := Lib.hid hobp
              clear hO1 hOe hI hob hobp HO5
              go_wp2_with fail
              go_loopg [7] O.length (fun gh s7 wx => s7 = .int .i64 (gh : Int) ∧ gh ≤ O.length ∧ Hid (posP O ⟨i, k, y⟩ gh = posP O ⟨i, k, y⟩ O.length) ∧ ∃ n, wx = w5.drewN n)
              case atStart => exact ⟨rfl, Nat.le_refl _, rfl, 0, rfl⟩
              case round =>
                obtain ⟨rfl, hgl, hpos, nd, rfl⟩ := hrel
                have hD := (below_drewN' (w := w5) nd)
                have hOq := HO6.out.kept hD
                have hNq := Lib.hid (show (w5.drewN nd).heap[pb]? = _ from HN5.out)
                have hBq := Lib.hid (HB5.out.trans (hD.mono hz5))
                have hsq : pb < (w5.drewN nd).heap.size := hs5
                obtain ⟨wq, hwq⟩ : ∃ wq, w5.drewN nd = wq := ⟨_, rfl⟩
                rw [hwq] at hOq hNq hBq hsq ⊢
                have HWQ := Lib.hid hwq
                clear hD hwq
                obtain ⟨n0, n1, n2, n3, n4, n5, n6, n7, n8⟩ := tok_cells hNq.out
                have hOql : (O.map (jobOf l)).length = O.length := List.length_map _
                by_cases hgo : 0 < gk ∧ y.id < (atL O (gk - 1)).t.id
                · obtain ⟨j, rfl⟩ : ∃ j, gk = j + 1 := ⟨gk - 1, by omega⟩
                  obtain ⟨-, hgt⟩ := hgo
                  rw [show j + 1 - 1 = j by omega] at hgt
                  have hpos2 : Hid (posP O ⟨i, k, y⟩ j = posP O ⟨i, k, y⟩ O.length) := Lib.hid (by
                    rw [← hpos.out]
                    show _ = if y.id < (atL O j).t.id then posP O ⟨i, k, y⟩ j else j + 1
                    rw [if_pos hgt])
                  have hkl : j < O.length := by omega
                  obtain ⟨gO, rfl, -, -, hgO⟩ := OwnF.some hOq (show 0 < (O.map (jobOf l)).length by omega)
                  have y1 : wq.cell? ⟨gO, j * 7 + 1, none⟩ = some (.int .i64 (atL O j).t.id) := by
                    have := OwnF.at cellJ_len hOq (i := j) (by omega) (j := 1) (by omega)
                    rw [this, List.getElem_map, atL_eq hkl]; rfl
                  obtain ⟨z, hz⟩ : ∃ z, (atL O j).t.id = z := ⟨_, rfl⟩
                  rw [hz] at y1 hgt
                  have d1 : decide (((j + 1 : Nat) : Int) > 0) = true := decide_eq_true (by omega)
                  have d2 : decide (z > y.id) = true := decide_eq_true (by omega)
                  clear hOq hOql hz
                  go_wp2_with fail
                  go_quiet (fail)
                  go_wp2_with fail
                  go_roundg j
                  case measure => omega
                  case rel => exact ⟨by go_num, by omega, hpos2, nd + nq, by rw [← HWQ.out]; simp [World.drewN, Nat.add_assoc]⟩
                · have hfin : Hid (posP O ⟨i, k, y⟩ O.length = gk) := Lib.hid (by
                    rw [← hpos.out]
                    cases gk with
                    | zero => rfl
                    | succ j =>
                      unfold posP
                      rw [if_neg]
                      intro h
                      exact hgo ⟨by omega, h⟩)
                  have hcase : gk = 0 ∨ (∃ j, gk = j + 1 ∧ j < O.length ∧ (atL O j).t.id ≤ y.id) := by
                    cases gk with
                    | zero => exact Or.inl rfl
                    | succ j => exact Or.inr ⟨j, rfl, by omega, by
                        have h1 : ¬ y.id < (atL O j).t.id := fun h => hgo ⟨by omega, h⟩
                        omega⟩
                  clear hgo
                  rcases hcase with h0 | ⟨j, rfl, hkl, hle⟩
                  case' inl =>
                    subst h0
                    have d1 : decide (((0 : Nat) : Int) > 0) = false := by decide
                    go_wp2_with fail
                    go_quiet (fail)
                    obtain ⟨m, hm⟩ : ∃ m : Nat, 0 = m := ⟨_, rfl⟩
                    have hml : m ≤ O.length := by omega
                    have hfin : Hid (posP O ⟨i, k, y⟩ O.length = m) := Lib.hid (hfin.out.trans hm)
                    rw [show ((0 : Nat) : Int) = (m : Int) by omega]
                    clear hm d1
                  case' inr =>
                    obtain ⟨gO, rfl, -, -, hgO⟩ := OwnF.some hOq (show 0 < (O.map (jobOf l)).length by omega)
                    have y1 : wq.cell? ⟨gO, j * 7 + 1, none⟩ = some (.int .i64 (atL O j).t.id) := by
                      have := OwnF.at cellJ_len hOq (i := j) (by omega) (j := 1) (by omega)
                      rw [this, List.getElem_map, atL_eq hkl]; rfl
                    obtain ⟨z, hz⟩ : ∃ z, (atL O j).t.id = z := ⟨_, rfl⟩
                    rw [hz] at y1 hle
                    have d1 : decide (((j + 1 : Nat) : Int) > 0) = true := decide_eq_true (by omega)
                    have d2 : decide (z > y.id) = false := decide_eq_false (by omega)
                    clear hz
                    go_wp2_with fail
                    go_quiet (fail)
                    obtain ⟨m, hm⟩ : ∃ m : Nat, j + 1 = m := ⟨_, rfl⟩
                    have hml : m ≤ O.length := by omega
                    rw [hm] at hfin ⊢
                    clear hm d1 d2 y1 hle
                  all_goals
                    have hD2 := below_drewN' (w := wq) nq
                    have hO9 := Lib.hid (OwnF.kept hOq hD2)
                    have hN9 := Lib.hid (show (wq.drewN nq).heap[pb]? = _ from hNq.out)
                    have hB9 := Lib.hid (hBq.out.trans (hD2.mono hBq.out.size))
                    have hs9 : pb < (wq.drewN nq).heap.size := hsq
                    obtain ⟨w9, hw9⟩ : ∃ w9, wq.drewN nq = w9 := ⟨_, rfl⟩
                    rw [hw9] at hO9 hN9 hB9 hs9 ⊢
                    have hz9 : w.heap.size ≤ w9.heap.size := hB9.out.size
                    clear hD2 hOq hw9 n0 n1 n2 n3 n4 n5 n6 n7 n8
                    go_wp2_with (at_builtin; refine wpList_append_own_at _ rfl _ _ 51 rfl w.heap.size 81 i0 _ 7 72 Try.underlying51 hti hz0 hz1 hz2 rfl (by decide) _ (O.map (jobOf l)).length (cellsF cellJ (O.map (jobOf l))) (by first | rfl | (rw [List.length_map])) (OwnF.kept hO9.out ((Below.refl _ _).alloc (Nat.le_refl _) _)) _ 1 1 (cellJ ⟨0, 0, default, 0, default, 0, 0⟩) rfl rfl (cells_new w9 _ _) (cellJ_one _) (by unfold maxLen; omega) (by omega) (by simp; omega) ?_; intro v6 w6 hown6 hg6 _ hat6)
                  all_goals
                    have hr6 := rj_push hown6
                    obtain ⟨aa, cap6, rfl⟩ := rj_shape1 hr6
                    obtain ⟨g6, rfl, -, hg6b, hg6l⟩ := OwnF.some hr6 (by simp)
                    have hcap := OwnF.cap hr6
                    rw [List.length_append, List.length_singleton] at hcap
                    change World.grownBy _ _ (Value.slice _ _ _).ownBlock at hg6
                    rw [HOB.out] at hg6
                    have hN6 := Lib.hid ((hg6.block pb (by simp; omega) HOBP.out).trans ((blk_allocJ hs9 _).trans hN9.out))
                    obtain ⟨n6, hn6⟩ : ∃ n6, (O.map (jobOf l)).length + 1 = n6 := ⟨_, rfl⟩
                    obtain ⟨ad, w7, R7, hif, hcp, hr7, hR7l, hg7, hR7s⟩ := ownK_ins (P := Try.prog) (x := jobOf l ⟨i, k, y⟩) (w := w6.drew) (m := m) Try.underlying51 (by kernel_rfl) cellJ_len cellJ_one (OwnF.kept hr6 (Below.refl _ _).drew) hn6 (by omega) 3
                    have hmn : m + 1 ≤ n6 := by omega
                    have hmc : m < cap6 := by omega
                    have hn6s : n6 ≤ 1048577 := by omega
                    rw [hn6] at hcap ⊢
                    have hgp : some pb ≠ some g6 := by
                      rcases hat6 with e | e
                      · change _ = (Value.slice _ _ _).ownBlock at e
                        rw [HOB.out] at e
                        have e' : some g6 = ob := e
                        rw [e']; exact HOBP.out
                      · have e' : some g6 = some _ := e
                        injection e' with e'
                        simp at e'
                        simp; omega
                    have hN7 := Lib.hid ((hg7.block pb (Nat.lt_of_lt_of_le hs9 (by have := hg6.size; simp at this; simp; omega)) hgp).trans hN6.out)
                    have hB7 := Lib.hid (((hB9.out.trans (((Below.refl w9.heap.size w9).alloc (Nat.le_refl _) (.cells #[.int .i64 0, .int .i64 0, .string default, .int .i64 0, .string default, .int .i64 0, .int .u8 0] 81)).mono hz9)).grown hg6 (by simp; omega) (by rw [← HOB.out]; exact rj_ge hO9.out)).drew.grown hg7 (by have := hg6.size; simp at this; simp; omega) (fun k hk => by cases hk; exact hg6b))
                    have HR7 := Lib.hid (And.intro hr7 hR7s)
                    have HR7l := Lib.hid hR7l
                    have hg7s : pb < w7.heap.size := by have := hg7.size; have h2 := hg6.size; simp at this h2; omega
                    have hgpn : Hid (¬ pb = g6) := Lib.hid (fun e => hgp (by rw [e]))
                    clear hn6 hr6 hr7 hg6 hg7 hown6 hR7s hR7l hgp hat6 hOql
                    have hi0 : (0 : Int) ≤ (m : Int) := by omega
                    have hi1 : (0 : Int) ≤ (m : Int) + 1 := by omega
                    have hi2 : (m : Int) + 1 ≤ (n6 : Int) := by omega
                    have hi3 : (m : Int) ≤ (n6 : Int) := by omega
                    have hne2 : ¬ cap6 = m := by omega
                    have hw1 : IntKind.i64.wrap ((m : Int) + 1) = (m : Int) + 1 := IntWalk.i64_in _ (by omega)
                    have hw2 : ((m : Int) + 1).toNat = m + 1 := by omega
                    go_wp2_with fail
                    go_region_law (fail)
                    clear hw1 hw2 hif hcp
                    have hmn2 : m < n6 := by omega
                    obtain ⟨n0, n1, n2, n3, n4, n5, n6', n7, n8⟩ := tok_cells hN7.out
                    have hmR : m < R7.length := by rw [HR7l.out]; omega
                    obtain ⟨_, _, _, _, q0, -, -, -, -, -, -⟩ := (HI.out.mono hB7.out (Nat.le_refl _)).at hi (x := atL l i) (by rw [atL_eq hi])
                    have cF : ∀ j, j < 7 → w7.cell? ⟨g6, m * 7 + j, none⟩ = (cellJ R7[m])[j]? := fun j hj => OwnF.at cellJ_len HR7.out.1 hmR hj
                    obtain ⟨z7, hz7⟩ : ∃ z7, R7[m] = z7 := ⟨_, rfl⟩
                    rw [hz7] at cF
                    clear hz7
                    have c0 : w7.cell? ⟨g6, m * 7, none⟩ = some (.int .i64 z7.inst) := cF 0 (by omega)
                    have c1 : w7.cell? ⟨g6, m * 7 + 1, none⟩ = some (.int .i64 z7.tok) := cF 1 (by omega)
                    have c2 : w7.cell? ⟨g6, m * 7 + 2, none⟩ = some (.string z7.here) := cF 2 (by omega)
                    have c3 : w7.cell? ⟨g6, m * 7 + 3, none⟩ = some (.int .i64 z7.tries) := cF 3 (by omega)
                    have c4 : w7.cell? ⟨g6, m * 7 + 4, none⟩ = some (.string z7.worker) := cF 4 (by omega)
                    have c5 : w7.cell? ⟨g6, m * 7 + 5, none⟩ = some (.int .i64 z7.til) := cF 5 (by omega)
                    have c6 : w7.cell? ⟨g6, m * 7 + 6, none⟩ = some (.int .u8 z7.inc) := cF 6 (by omega)
                    have f0 := OwnF.free HR7.out.1 (m * 7)
                    have f1 := OwnF.free HR7.out.1 (m * 7 + 1)
                    have f2 := OwnF.free HR7.out.1 (m * 7 + 2)
                    have f3 := OwnF.free HR7.out.1 (m * 7 + 3)
                    have f4 := OwnF.free HR7.out.1 (m * 7 + 4)
                    have f5 := OwnF.free HR7.out.1 (m * 7 + 5)
                    have f6 := OwnF.free HR7.out.1 (m * 7 + 6)
                    clear cF n2 n3 n8
                    go_wp2_with fail
                    have hI7 : Hid (R7.set m (jobOf l ⟨i, k, y⟩) = (rowR (allN l i ++ tokN i x (k + 1))).map (jobOf l)) := Lib.hid (by
                      rw [HR7.out.2, HR.out]
                      unfold insP
                      rw [hfin.out, List.map_append, List.map_cons, List.map_take, List.map_drop])
                    have hst := Lib.hid (ownK_set (w := w7) cellJ_len HR7.out.1 hmR (jobOf l ⟨i, k, y⟩))
                    have hFin : RJ (chainJ w7 g6 (m * 7) (jobOf l ⟨i, k, y⟩)).drew w.heap.size (.slice (some ⟨g6, 0, none⟩) n6 cap6) ((rowR (allN l i ++ tokN i x (k + 1))).map (jobOf l)) ∧ Below w.heap.size w (chainJ w7 g6 (m * 7) (jobOf l ⟨i, k, y⟩)).drew := by
                      rw [← chainJ_eq]
                      have h1 := hst.out.1
                      rw [hI7.out] at h1
                      exact ⟨OwnF.kept h1 (Below.refl _ _).drew, (hB7.out.grown hst.out.2 hB7.out.size (fun k hk => by cases hk; exact hg6b)).drew⟩
                    have HFin := Lib.hid hFin
                    have HKS : Hid ((fun w' => w'.cell? ⟨b, o + i * 5, none⟩ = some (.int .i64 (atL l i).id) ∧ w'.cell? ⟨pb, 0, none⟩ = some (.int .i64 y.id) ∧ w'.cell? ⟨pb, 1, none⟩ = some (.string y.here) ∧ w'.cell? ⟨pb, 4, none⟩ = some (.int .i64 y.tries) ∧ w'.cell? ⟨pb, 5, none⟩ = some (.string y.worker) ∧ w'.cell? ⟨pb, 6, none⟩ = some (.int .i64 y.til) ∧ w'.cell? ⟨pb, 7, none⟩ = some (.int .u8 y.inc)) (chainJ w7 g6 (m * 7) (jobOf l ⟨i, k, y⟩))) := Lib.hid (by
                      rw [← chainJ_eq]
                      have hg := hst.out.2
                      have e1 : (w7.setCells g6 (m * 7) (cellJ (jobOf l ⟨i, k, y⟩))).heap[pb]? = _ := (hg.block pb hg7s (fun e => by injection e with e; exact hgpn.out e)).trans hN7.out
                      have e2 : (w7.setCells g6 (m * 7) (cellJ (jobOf l ⟨i, k, y⟩))).cell? ⟨b, o + i * 5, none⟩ = w7.cell? ⟨b, o + i * 5, none⟩ := by
                        unfold World.cell?
                        rw [hg.block b (by have := hB7.out.size; omega) (fun e => by injection e with e; omega)]
                      obtain ⟨a0, a1, -, -, a4, a5, a6, a7, -⟩ := tok_cells e1
                      exact ⟨e2.trans q0, a0, a1, a4, a5, a6, a7⟩)
                    clear hFin
                    have y1 : ¬ pb = g6 := hgpn.out
                    have y2 : ¬ g6 = pb := fun e => hgpn.out e.symm
                    have y3 : ¬ b = g6 := by omega
                    have y4 : ¬ g6 = b := by omega
                    go_region_held3 (fun w' => w'.cell? ⟨b, o + i * 5, none⟩ = some (.int .i64 (atL l i).id) ∧ w'.cell? ⟨pb, 0, none⟩ = some (.int .i64 y.id) ∧ w'.cell? ⟨pb, 1, none⟩ = some (.string y.here) ∧ w'.cell? ⟨pb, 4, none⟩ = some (.int .i64 y.tries) ∧ w'.cell? ⟨pb, 5, none⟩ = some (.string y.worker) ∧ w'.cell? ⟨pb, 6, none⟩ = some (.int .i64 y.til) ∧ w'.cell? ⟨pb, 7, none⟩ = some (.int .u8 y.inc)) (first | go_keep | with_reducible exact HKS.out) (fail)
                    clear y1 y2 y3 y4 c0 c1 c2 c3 c4 c5 c6 f0 f1 f2 f3 f4 f5 f6 n0 n1 n4 n5 n6' n7 q0
                    go_wp2_with fail
                    go_roundg (x.toks.length - (k + 1))
                    case measure => omega
                    case rel => exact ⟨k + 1, by omega, by go_num, Lib.hid (fun _ => hs'.out), HFin.out.1, HFin.out.2⟩
          · have HA : Hid (RJ wr w.heap.size u3 ((rowR (allN l (i + 1))).map (jobOf l))) := Lib.hid (by
              have : k = 0 := by
                rcases Nat.eq_zero_or_pos k with h | h
                · exact h
                · exact absurd (hst.out h) hs
              subst this
              rw [allN_not hxa.out hs]
              rw [show tokN i x 0 = [] from rfl, List.append_nil] at hO1; exact hO1)
            have d1 : (x.state == 1) = false := by simpa using hs
            clear hs qT hO1 q0
            go_wp2_with fail
            go_roundg (l.length - (i + 1))
            case measure => omega
            case rel => exact ⟨i + 1, by omega, by go_num, HA.out, HB1.out⟩
        · have HA : Hid (RJ wr w.heap.size u3 ((rowR (allN l (i + 1))).map (jobOf l))) := Lib.hid (by
            have hke : k = x.toks.length := by omega
            by_cases hs : x.state = 1
            · rw [allN_run hxa.out hs, ← hke]; exact hO1
            · have : k = 0 := by
                rcases Nat.eq_zero_or_pos k with h | h
                · exact h
                · exact absurd (hst.out h) hs
              subst this
              rw [allN_not hxa.out hs]
              rw [show tokN i x 0 = [] from rfl, List.append_nil] at hO1; exact hO1)
          clear qT q2 hO1
          go_wp2_with fail
          go_roundg (l.length - (i + 1))
          case measure => omega
          case rel => exact ⟨i + 1, by omega, by go_num, HA.out, HB1.out⟩
    · have e : i = l.length := by omega
      subst e
      clear hO hB
      go_wp2_with fail
      go_ret
      exact ⟨_, rfl, by rw [← rowR_all]; exact HO.out, HB.out⟩

end Go.Proofs.Ytggnheekkbideaa
