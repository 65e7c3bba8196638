/- The document's clock: All. -/
import Derived.Test.YtofpmhkjagdmmaaRCopy
import Derived.IntWalk
import Derived.Test.YtofpmhkjagdmmaaClockRefP
set_option maxRecDepth 100000
namespace Go.Proofs.Ytofpmhkjagdmmaa
open Go.RowKit

theorem len_allA (L : List Al) : ∀ O : List Al, (L.foldl insA O).length = O.length + L.length := by
  induction L with
  | nil => intro O; simp
  | cons x L ih => intro O; rw [List.foldl_cons, ih, len_insA, List.length_cons]; omega
theorem allA_len (L : List Al) : (allA L).length = L.length := by unfold allA; rw [len_allA]; simp
theorem allA_take {L : List Al} {i : Nat} (hi : i < L.length) : allA (L.take (i + 1)) = insA (allA (L.take i)) L[i] := by
  unfold allA
  rw [List.take_add_one, List.getElem?_eq_getElem hi]
  simp only [Option.toList_some, foldl_snoc]
theorem setCells4 (w : World) (g o : Nat) (a b c d : Value) : w.setCells g o [a, b, c, d] = (((w.setCell ⟨g, o, none⟩ a).setCell ⟨g, o + 1, none⟩ b).setCell ⟨g, o + 2, none⟩ c).setCell ⟨g, o + 3, none⟩ d := rfl
/-- A whole alarm is stored. -/
theorem rals_store {w : World} {base g cap : Nat} {R : List Al} (h : RAls w base (.slice (some ⟨g, 0, none⟩) R.length cap) R) {k : Nat} (hk : k < R.length) (x : Al) :
    RAls (w.setCells g (k * 4) (cellA x)) base (.slice (some ⟨g, 0, none⟩) R.length cap) (R.set k x) ∧ w.grownBy (w.setCells g (k * 4) (cellA x)) (some g) := by
  obtain ⟨h1, h2⟩ := stored_many (cellA x) (k * 4) w _ h
  refine ⟨?_, h2⟩
  have e : setsL (cellsF cellA R) (k * 4) (cellA x) = cellsF cellA (R.set k x) := by
    have hR : (cellsF cellA R).length = R.length * 4 := cellsF_len cellA_len R
    rw [setsL_eq _ _ _ (by rw [cellA_len, hR]; omega), cellsF_take cellA_len, cellA_len, show k * 4 + 4 = (k + 1) * 4 by omega, cellsF_drop cellA_len, List.set_eq_take_append_cons_drop, if_pos hk]
    simp [cellsF]
  rw [e] at h1
  unfold RAls OwnF
  rw [List.length_set]
  exact h1

/-- copy(s[m+1:], s[m:]) behind append(s, zero): what a store at m then makes the insertion. -/
theorem rals_ins {w : World} {base g cap n6 m : Nat} {O : List Al} {x : Al} (h : RAls w base (.slice (some ⟨g, 0, none⟩) (O.length + 1) cap) (O ++ [⟨0, 0, default, 0⟩])) (hn : O.length + 1 = n6) (hm : m ≤ O.length) (hp : posA O x O.length = m) (ty : TypeId) :
    ∃ ad w7, ∃ R : List Al, (if cap = m + 1 then some (⟨g, 0, none⟩ : Addr) else some ⟨g, (m + 1) * 4, none⟩) = some ad ∧
      (Builtin.copy_ #[22, 22] ty #[.slice (some ad) (n6 - (m + 1)) (cap - (m + 1)), .slice (some ⟨g, m * 4, none⟩) (n6 - m) (cap - m)]).run Try.prog w = .ok (goInt (n6 - (m + 1) : Nat)) w7 ∧
      RAls w7 base (.slice (some ⟨g, 0, none⟩) n6 cap) R ∧ R.length = n6 ∧ w.grownBy w7 (some g) ∧ R.set m x = insA O x := by
  subst hn
  have hcap := OwnF.cap h
  have hl : (O ++ [(⟨0, 0, default, 0⟩ : Al)]).length = O.length + 1 := by simp
  rw [hl] at hcap
  rcases Nat.lt_or_eq_of_le hm with hlt | rfl
  · rw [← hl] at h
    obtain ⟨w7, h1, h2, h3⟩ := rals_shift (k := m) h (by omega) ty (cap - (m + 1)) (cap - m)
    have hset := shift_set (z := ⟨0, 0, default, 0⟩) (a := x) hlt
    obtain ⟨R, hR⟩ : ∃ R, (O ++ [(⟨0, 0, default, 0⟩ : Al)]).take (m + 1) ++ ((O ++ [(⟨0, 0, default, 0⟩ : Al)]).drop m).take ((O ++ [(⟨0, 0, default, 0⟩ : Al)]).length - (m + 1)) = R := ⟨_, rfl⟩
    have hRl : R.length = O.length + 1 := by rw [← hR]; simp; omega
    rw [hR] at h2 hset
    rw [hl] at h1 h2
    refine ⟨_, w7, R, if_neg (by omega), h1, h2, hRl, h3, ?_⟩
    rw [hset]
    unfold insA
    rw [hp]
  · have hz : O.length + 1 - (O.length + 1) = 0 := by omega
    have hr : ∀ ad, (Builtin.copy_ #[22, 22] ty #[.slice (some ad) (O.length + 1 - (O.length + 1)) (cap - (O.length + 1)), .slice (some ⟨g, O.length * 4, none⟩) (O.length + 1 - O.length) (cap - O.length)]).run Try.prog w = .ok (goInt (O.length + 1 - (O.length + 1) : Nat)) w := fun ad => by
      have := run_copy_zero (P := Try.prog) w 4 22 22 ty 31 ad ⟨g, O.length * 4, none⟩ (O.length + 1 - (O.length + 1)) (cap - (O.length + 1)) (O.length + 1 - O.length) (cap - O.length) Try.underlying22 (by kernel_rfl) (by rw [hz]; exact Nat.min_eq_right (by omega))
      rw [this, hz]; rfl
    have hs : (O ++ [(⟨0, 0, default, 0⟩ : Al)]).set O.length x = insA O x := by
      rw [end_set]; unfold insA; rw [hp]
    by_cases hc : cap = O.length + 1
    · exact ⟨_, w, _, if_pos hc, hr _, h, hl, ⟨rfl, rfl, rfl, Nat.le_refl _, fun _ _ _ => rfl⟩, hs⟩
    · exact ⟨_, w, _, if_neg hc, hr _, h, hl, ⟨rfl, rfl, rfl, Nat.le_refl _, fun _ _ _ => rfl⟩, hs⟩

theorem blk_alloc {w : World} {b : Nat} (h : b < w.heap.size) (o : Obj) : (w.alloc o).heap[b]? = w.heap[b]? := ((Below.refl w.heap.size w).alloc (Nat.le_refl _) o).block b h

set_option maxHeartbeats 8000000 in
theorem rall_any (w : World) (base p : Nat) (now : Int) (v : Value) (L : List Al) (hc : RClk w p now v) (hr : RAls w base v L) (hl : L.length ≤ 1048576) :
    Calls Try.prog 20 #[.pointer (some ⟨p, 0, none⟩)] w fun r w' => ∃ v', r = .returned v' ∧ RAls w' w.heap.size v' (allA L) ∧ Below w.heap.size w w' := by
  obtain ⟨i1, hti, hz0, hz1, hz2⟩ := info_parts info_ral
  have hp := lt_of_block hc
  obtain ⟨q, cap, rfl⟩ := hr.shape
  have HC := Lib.hid hc
  have HR := Lib.hid hr
  clear hc hr
  go_enter Try.func20, Try.ntmps20
  go_wp2_with fail
  go_loopg [3, 4] L.length (fun gh s3 s4 wx => ∃ i : Nat, i + gh = L.length ∧ s4 = .int .i64 (i : Int) ∧ RAls wx w.heap.size s3 (allA (L.take i)) ∧ Below w.heap.size w wx)
  case atStart => exact ⟨0, by omega, rfl, OwnF.nil _ _, Below.refl _ _⟩
  case round =>
    obtain ⟨i, hig, rfl, hO, hB⟩ := hrel
    have hzr := hB.size
    have hCr := Lib.hid (HC.out.below hB (Nat.le_refl _))
    obtain ⟨l0, l1⟩ := box2 hCr.out
    by_cases hi : i < L.length
    · have hRr := HR.out.kept hB
      obtain ⟨g, rfl, -, -, hg⟩ := hRr.some (show 0 < L.length by omega)
      have r0 : wr.cell? ⟨g, i * 4, none⟩ = some (.int .i64 L[i].due) := hRr.at cellA_len hi (j := 0) (by omega)
      have r1 : wr.cell? ⟨g, i * 4 + 1, none⟩ = some (.int .i64 L[i].token) := hRr.at cellA_len hi (by omega)
      have r2 : wr.cell? ⟨g, i * 4 + 2, none⟩ = some (.string L[i].via) := hRr.at cellA_len hi (by omega)
      have r3 : wr.cell? ⟨g, i * 4 + 3, none⟩ = some (.int .i64 L[i].inst) := hRr.at cellA_len hi (by omega)
      have HT := Lib.hid (allA_take hi)
      obtain ⟨x, hx⟩ : ∃ x, L[i] = x := ⟨_, rfl⟩
      rw [hx] at r0 r1 r2 r3 HT
      clear hx hRr
      have hOl : (allA (L.take i)).length ≤ 1048576 := by rw [allA_len, List.length_take]; omega
      obtain ⟨O, hOe⟩ : ∃ O, allA (L.take i) = O := ⟨_, rfl⟩
      rw [hOe] at HT hO hOl
      clear hOe
      obtain ⟨aO, cO, rfl⟩ := OwnF.shape hO
      have hw4b := (Below.refl wr.heap.size wr).alloc (Nat.le_refl _) (.cells #[.int .i64 x.due, .int .i64 x.token, .string x.via, .int .i64 x.inst] 31)
      have hw4n := heap_alloc_new wr (.cells #[.int .i64 x.due, .int .i64 x.token, .string x.via, .int .i64 x.inst] 31)
      have hs4 : wr.heap.size < (wr.alloc (.cells #[.int .i64 x.due, .int .i64 x.token, .string x.via, .int .i64 x.inst] 31)).heap.size := by rw [World.size_alloc]; omega
      obtain ⟨w4, hw4⟩ : ∃ w4, wr.alloc (.cells #[.int .i64 x.due, .int .i64 x.token, .string x.via, .int .i64 x.inst] 31) = w4 := ⟨_, rfl⟩
      rw [hw4] at hw4b hw4n hs4
      have HO := Lib.hid (hO.kept hw4b)
      have hB4 := Lib.hid (hB.trans (hw4b.mono hzr))
      obtain ⟨pb, hpb⟩ : ∃ pb, wr.heap.size = pb := ⟨_, rfl⟩
      rw [hpb] at hw4n hs4
      obtain ⟨ob, hob⟩ : ∃ ob, (Value.slice aO O.length cO).ownBlock = ob := ⟨_, rfl⟩
      have hobp : some pb ≠ ob := by
        rw [← hob, ← hpb]
        rcases OwnF.val hO with ⟨e, _⟩ | ⟨g', c', e, _, hlt⟩
        · rw [e]; simp [Value.ownBlock]
        · rw [e]; simp [Value.ownBlock]; omega
      have HOB := Lib.hid hob
      have HOBP := Lib.hid hobp
      clear hob hobp
      have HN4 := Lib.hid hw4n
      clear hw4n hw4b hO
      go_wp2_with fail
      go_loopg [6] O.length (fun gh s6 wx => s6 = .int .i64 (gh : Int) ∧ gh ≤ O.length ∧ Hid (posA O x gh = posA O x O.length) ∧ ∃ n, wx = w4.drewN n)
      case atStart => exact ⟨rfl, Nat.le_refl _, rfl, 0, rfl⟩
      case round =>
        obtain ⟨rfl, hgl, hpos, nd, rfl⟩ := hrel
        have hD := (below_drewN' (w := w4) nd)
        have hOq := HO.out.kept hD
        have hNq := Lib.hid (show (w4.drewN nd).heap[pb]? = _ from HN4.out)
        have hBq := Lib.hid (hB4.out.trans (hD.mono hB4.out.size))
        have hsq : pb < (w4.drewN nd).heap.size := hs4
        obtain ⟨wq, hwq⟩ : ∃ wq, w4.drewN nd = wq := ⟨_, rfl⟩
        rw [hwq] at hOq hNq hBq hsq ⊢
        have HWQ := Lib.hid hwq
        clear hD hwq
        obtain ⟨n0, n1, n2, n3⟩ := box4 hNq.out
        by_cases hgo : 0 < gk ∧ gtAl (atL O (gk - 1)) x = true
        · obtain ⟨k, rfl⟩ : ∃ k, gk = k + 1 := ⟨gk - 1, by omega⟩
          obtain ⟨-, hgt⟩ := hgo
          rw [show k + 1 - 1 = k by omega] at hgt
          have hpos2 : Hid (posA O x k = posA O x O.length) := Lib.hid (by
            rw [← hpos.out]
            show _ = if gtAl (atL O k) x = true then posA O x k else k + 1
            rw [if_pos hgt])
          have hkl : k < O.length := by omega
          obtain ⟨gO, rfl, -, -, hgO⟩ := OwnF.some hOq (show 0 < O.length by omega)
          have y0 : wq.cell? ⟨gO, k * 4, none⟩ = some (.int .i64 O[k].due) := OwnF.at cellA_len hOq hkl (j := 0) (by omega)
          have y1 : wq.cell? ⟨gO, k * 4 + 1, none⟩ = some (.int .i64 O[k].token) := OwnF.at cellA_len hOq hkl (by omega)
          rw [atL_eq hkl] at hgt
          obtain ⟨y, hy⟩ : ∃ y, O[k] = y := ⟨_, rfl⟩
          rw [hy] at y0 y1 hgt
          have d1 : decide (((k + 1 : Nat) : Int) > 0) = true := decide_eq_true (by omega)
          simp only [gtAl, Bool.or_eq_true, Bool.and_eq_true, decide_eq_true_eq] at hgt
          rcases hgt with h1 | ⟨h1, h2⟩
          · have d2 : decide (y.due > x.due) = true := decide_eq_true (by omega)
            go_wp2_with fail
            go_quiet (fail)
            go_wp2_with fail
            go_roundg k
            case measure => omega
            case rel => exact ⟨by go_num, by omega, hpos2, nd + nq, by rw [← HWQ.out]; simp [World.drewN, Nat.add_assoc]⟩
          · have d2 : decide (y.due > x.due) = false := decide_eq_false (by omega)
            have d3 : (y.due == x.due) = true := by rw [beq_iff_eq]; omega
            have d4 : decide (y.token > x.token) = true := decide_eq_true (by omega)
            clear h1 h2
            go_wp2_with fail
            go_quiet (fail)
            go_wp2_with fail
            go_roundg k
            case measure => omega
            case rel => exact ⟨by go_num, by omega, hpos2, nd + nq, by rw [← HWQ.out]; simp [World.drewN, Nat.add_assoc]⟩
        · have hfin : Hid (posA O x O.length = gk) := Lib.hid (by
            rw [← hpos.out]
            cases gk with
            | zero => rfl
            | succ k =>
              unfold posA
              rw [if_neg]
              intro h
              exact hgo ⟨by omega, h⟩)
          have hcase : gk = 0 ∨ (∃ k, gk = k + 1 ∧ k < O.length ∧ (atL O k).due < x.due) ∨ (∃ k, gk = k + 1 ∧ k < O.length ∧ (atL O k).due = x.due ∧ (atL O k).token ≤ x.token) := by
            cases gk with
            | zero => exact Or.inl rfl
            | succ k =>
              have h1 : ¬ gtAl (atL O k) x = true := fun h => hgo ⟨by omega, h⟩
              simp [gtAl] at h1
              rcases Int.lt_trichotomy (atL O k).due x.due with h | h | h
              · exact Or.inr (Or.inl ⟨k, rfl, by omega, h⟩)
              · exact Or.inr (Or.inr ⟨k, rfl, by omega, h, h1.2 h⟩)
              · omega
          clear hgo
          rcases hcase with h0 | ⟨k, rfl, hkl, h1⟩ | ⟨k, rfl, hkl, h1, h2⟩
          case' inl =>
            subst h0
            have d1 : decide (((0 : Nat) : Int) > 0) = false := by decide
            go_wp2_with fail
            go_quiet (fail)
            obtain ⟨m, hm⟩ : ∃ m : Nat, 0 = m := ⟨_, rfl⟩
            have hml : m ≤ O.length := by omega
            have hfin : Hid (posA O x O.length = m) := Lib.hid (hfin.out.trans hm)
            rw [show ((0 : Nat) : Int) = (m : Int) by omega]
            clear hm
          case' inr.inl =>
            obtain ⟨gO, rfl, -, -, hgO⟩ := OwnF.some hOq (show 0 < O.length by omega)
            have y0 : wq.cell? ⟨gO, k * 4, none⟩ = some (.int .i64 O[k].due) := OwnF.at cellA_len hOq hkl (j := 0) (by omega)
            rw [atL_eq hkl] at h1
            obtain ⟨y, hy⟩ : ∃ y, O[k] = y := ⟨_, rfl⟩
            rw [hy] at y0 h1
            have d1 : decide (((k + 1 : Nat) : Int) > 0) = true := decide_eq_true (by omega)
            have d2 : decide (y.due > x.due) = false := decide_eq_false (by omega)
            have d3 : (y.due == x.due) = false := by rw [beq_eq_false_iff_ne]; omega
            go_wp2_with fail
            go_quiet (fail)
            obtain ⟨m, hm⟩ : ∃ m : Nat, k + 1 = m := ⟨_, rfl⟩
            have hml : m ≤ O.length := by omega
            rw [hm] at hfin ⊢
            clear hm h1
          case' inr.inr =>
            obtain ⟨gO, rfl, -, -, hgO⟩ := OwnF.some hOq (show 0 < O.length by omega)
            have y0 : wq.cell? ⟨gO, k * 4, none⟩ = some (.int .i64 O[k].due) := OwnF.at cellA_len hOq hkl (j := 0) (by omega)
            have y1 : wq.cell? ⟨gO, k * 4 + 1, none⟩ = some (.int .i64 O[k].token) := OwnF.at cellA_len hOq hkl (by omega)
            rw [atL_eq hkl] at h1 h2
            obtain ⟨y, hy⟩ : ∃ y, O[k] = y := ⟨_, rfl⟩
            rw [hy] at y0 y1 h1 h2
            have d1 : decide (((k + 1 : Nat) : Int) > 0) = true := decide_eq_true (by omega)
            have d2 : decide (y.due > x.due) = false := decide_eq_false (by omega)
            have d3 : (y.due == x.due) = true := by rw [beq_iff_eq]; omega
            have d4 : decide (y.token > x.token) = false := decide_eq_false (by omega)
            go_wp2_with fail
            go_quiet (fail)
            obtain ⟨m, hm⟩ : ∃ m : Nat, k + 1 = m := ⟨_, rfl⟩
            have hml : m ≤ O.length := by omega
            rw [hm] at hfin ⊢
            clear hm h1 h2
          all_goals
            have hD2 := below_drewN' (w := wq) nq
            have hO9 := Lib.hid (OwnF.kept hOq hD2)
            have hN9 := Lib.hid (show (wq.drewN nq).heap[pb]? = _ from hNq.out)
            have hB9 := Lib.hid (hBq.out.trans (hD2.mono hBq.out.size))
            have hs9 : pb < (wq.drewN nq).heap.size := hsq
            obtain ⟨w9, hw9⟩ : ∃ w9, wq.drewN nq = w9 := ⟨_, rfl⟩
            rw [hw9] at hO9 hN9 hB9 hs9 ⊢
            have hz9 : w.heap.size ≤ w9.heap.size := hB9.out.size
            clear hD2 hOq hw9 n0 n1 n2 n3
          all_goals try clear d1
          all_goals try clear d2 d3
          all_goals try clear d4
          all_goals try clear y0
          all_goals try clear y1
          all_goals
            go_wp2_with (at_builtin; refine wpList_append_own_at _ rfl _ _ 22 rfl w.heap.size 31 i1 _ 4 40 Try.underlying22 hti hz0 hz1 hz2 rfl (by decide) _ O.length (cellsF cellA O) rfl (OwnF.kept hO9.out ((Below.refl _ _).alloc (Nat.le_refl _) _)) _ 1 1 (cellA ⟨0, 0, default, 0⟩) rfl rfl (cells_new w9 _ _) (cellA_one _) (by unfold maxLen; omega) (by omega) (by simp; omega) ?_; intro v6 w6 hown6 hg6 _ hat6)
          all_goals
            have hr6 := rals_push hown6
            obtain ⟨aa, cap6, rfl⟩ := rals_shape1 hr6
            obtain ⟨g6, rfl, -, hg6b, hg6l⟩ := OwnF.some hr6 (by simp)
            have hcap := OwnF.cap hr6
            rw [List.length_append, List.length_singleton] at hcap
            change World.grownBy _ _ (Value.slice _ _ _).ownBlock at hg6
            rw [HOB.out] at hg6
            have hN6 := Lib.hid ((hg6.block pb (by simp; omega) HOBP.out).trans ((blk_alloc hs9 _).trans hN9.out))
            obtain ⟨n6, hn6⟩ : ∃ n6, O.length + 1 = n6 := ⟨_, rfl⟩
            obtain ⟨ad, w7, R7, hif, hcp, hr7, hR7l, hg7, hR7s⟩ := rals_ins (x := x) (w := w6.drew) (m := m) (OwnF.kept hr6 (Below.refl _ _).drew) hn6 hml hfin.out 3
            have hmn : m + 1 ≤ n6 := by omega
            have hmc : m < cap6 := by omega
            rw [hn6] at hcap ⊢
            have hgp : some pb ≠ some g6 := by
              rcases hat6 with e | e
              · change _ = (Value.slice _ _ _).ownBlock at e
                rw [HOB.out] at e
                have e' : some g6 = ob := e
                rw [e']; exact HOBP.out
              · have e' : some g6 = some _ := e
                injection e' with e'
                simp at e'
                simp; omega
            have hN7 := Lib.hid ((hg7.block pb (Nat.lt_of_lt_of_le hs9 (by have := hg6.size; simp at this; simp; omega)) hgp).trans hN6.out)
            have hB7 := Lib.hid (((hB9.out.trans (((Below.refl w9.heap.size w9).alloc (Nat.le_refl _) (.cells #[.int .i64 0, .int .i64 0, .string default, .int .i64 0] 31)).mono hz9)).grown hg6 (by simp; omega) (by rw [← HOB.out]; exact rals_ge hO9.out)).drew.grown hg7 (by have := hg6.size; simp at this; simp; omega) (fun k hk => by cases hk; exact hg6b))
            have HR7 := Lib.hid (And.intro hr7 hR7s)
            have HR7l := Lib.hid hR7l
            have hg7s : pb < w7.heap.size := by have := hg7.size; have h2 := hg6.size; simp at this h2; omega
            clear hn6 hr6 hr7 hg6 hg7 hown6 hR7s hR7l hgp hat6
            have hi0 : (0 : Int) ≤ (m : Int) := by omega
            have hi1 : (0 : Int) ≤ (m : Int) + 1 := by omega
            have hi2 : (m : Int) + 1 ≤ (n6 : Int) := by omega
            have hi3 : (m : Int) ≤ (n6 : Int) := by omega
            have hne2 : ¬ cap6 = m := by omega
            have hw1 : IntKind.i64.wrap ((m : Int) + 1) = (m : Int) + 1 := IntWalk.i64_in _ (by omega)
            have hw2 : ((m : Int) + 1).toNat = m + 1 := by omega
            go_wp2_with fail
            go_region_law (fail)
            clear hw1 hw2 hif hcp
            have hmn2 : m < n6 := by omega
            obtain ⟨n0, n1, n2, n3⟩ := box4 hN7.out
            have hmR : m < R7.length := by rw [HR7l.out]; omega
            have c0 : w7.cell? ⟨g6, m * 4, none⟩ = some (.int .i64 R7[m].due) := OwnF.at cellA_len HR7.out.1 hmR (j := 0) (by omega)
            have c1 : w7.cell? ⟨g6, m * 4 + 1, none⟩ = some (.int .i64 R7[m].token) := OwnF.at cellA_len HR7.out.1 hmR (by omega)
            have c2 : w7.cell? ⟨g6, m * 4 + 2, none⟩ = some (.string R7[m].via) := OwnF.at cellA_len HR7.out.1 hmR (by omega)
            have c3 : w7.cell? ⟨g6, m * 4 + 3, none⟩ = some (.int .i64 R7[m].inst) := OwnF.at cellA_len HR7.out.1 hmR (by omega)
            obtain ⟨z7, hz7⟩ : ∃ z7, R7[m] = z7 := ⟨_, rfl⟩
            rw [hz7] at c0 c1 c2 c3
            clear hz7
            have f0 := OwnF.free HR7.out.1 (m * 4)
            have f1 := OwnF.free HR7.out.1 (m * 4 + 1)
            have f2 := OwnF.free HR7.out.1 (m * 4 + 2)
            have f3 := OwnF.free HR7.out.1 (m * 4 + 3)
            go_wp2_with fail
            have hst := rals_store (x := x) (by rw [HR7l.out]; exact HR7.out.1) (show m < R7.length by rw [HR7l.out]; omega)
            go_roundg (L.length - (i + 1))
            case measure => omega
            case rel => exact ⟨i + 1, by omega, by go_num, by rw [HT.out, ← HR7.out.2]; have := hst.1; rw [HR7l.out] at this; exact this, (hB7.out.grown hst.2 (by omega) (fun k hk => by cases hk; exact hg6b))⟩
    · have hk : ¬ ((i : Int) < (L.length : Int)) := by omega
      rw [List.take_of_length_le (by omega)] at hO
      obtain ⟨aO, cO, rfl⟩ := OwnF.shape hO
      go_wp2_with fail
      go_ret
      exact ⟨_, rfl, hO, hB⟩

end Go.Proofs.Ytofpmhkjagdmmaa
