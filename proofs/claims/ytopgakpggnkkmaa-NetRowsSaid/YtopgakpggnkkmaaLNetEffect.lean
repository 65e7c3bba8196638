/- The walk of the law NetEffect. -/
import Derived.Test.YtopgakpggnkkmaaNetEff
import Derived.Test.YtopgakpggnkkmaaOpenNet
namespace Go.Proofs.Ytopgakpggnkkmaa
open Go.RowKit

theorem box4 {w : World} {N : Nat} {a b c d : Value} {t : TypeId} {fr : Nat × Nat} (h : w.heap[N]? = some (.cells #[a, b, c, d] t fr)) :
    w.cell? ⟨N, 0, none⟩ = some a ∧ w.cell? ⟨N, 1, none⟩ = some b ∧ w.cell? ⟨N, 2, none⟩ = some c ∧ w.cell? ⟨N, 3, none⟩ = some d := by
  refine ⟨?_, ?_, ?_, ?_⟩ <;> (rw [cell_of_block h]; rfl)

theorem has_is {t : Int} (w : World) (B : Nat) (v : Value) (l : List Int) (p : Int) (h : Ints w B v l) (ht : hasI l p = t) :
    Calls Try.prog 21 #[v, .int .i64 p] w fun e w' => e = .returned (.int .i64 t) ∧ w = w' := by
  rw [← ht]; exact has_any w B v l p h

set_option maxHeartbeats 2000000 in
theorem netEffect_walk (W : World) (vp vt : Value) (n : Nt) (hn : NtR W W.heap.size vp vt n) (_gn : NtI n) (vm : Value) (m : List Int) (hm : Ints W W.heap.size vm m) (_gm : I64s m) (t : Int) (_gt : (Lit.int .i64 t).wf = true) :
    Calls Try.prog 8 #[.agg #[vp, vt, .int .i64 n.init, .int .i64 n.final], vm, .int .i64 t] W fun e w' => e = .returned (.bool true) ∧ Below W.heap.size W w' := by
  have hbA := (Below.refl W.heap.size W).alloc (Nat.le_refl _) (.cells #[vp, vt, .int .i64 n.init, .int .i64 n.final] 28)
  have hboxA := heap_alloc_new W (.cells #[vp, vt, .int .i64 n.init, .int .i64 n.final] 28)
  have hlm := hm.len
  have hlt := hn.2.len
  obtain ⟨ap, cp, rfl⟩ := hn.1.val
  obtain ⟨at_, ct, rfl⟩ := hn.2.val
  obtain ⟨am, cm, rfl⟩ := hm.val
  -- what each way comes to
  have key : Hid ((n.markE m = 1 ∧ n.enL m = [] ∧ n.rowE m [t] = ([], 0, 1)) ∨ (n.markE m = 0 ∧ n.rowE m [t] = ([], 0, 1) ∧ (t < 0 ∨ (0 ≤ t ∧ (n.trans.length : Int) ≤ t))) ∨
      ∃ (q : Nat) (hq : q < n.trans.length), t = q ∧ n.Mark m ∧ n.markE m = 0 ∧ ((hasI (n.enL m) (q : Int) = 0 ∧ n.rowE m [t] = ([], 0, 250)) ∨ (hasI (n.enL m) (q : Int) = 1 ∧ n.rowE m [t] = ([], 0, 91)) ∨
        ∃ m', hasI (n.enL m) (q : Int) = 1 ∧ n.rowE m [t] = (m', 1, 0) ∧ m'.length = m.length ∧ ∀ p : Nat, p < m.length → getI m' p = getI m p - hasI n.trans[q].inn p + hasI n.trans[q].out p)) := by
    cases hmk : n.markB m with
    | false => exact Or.inl ⟨markE_no hmk, by simp [Nt.enL, hmk], rowE_1 hmk⟩
    | true =>
      cases hb : n.badT t with
      | true =>
        refine Or.inr (Or.inl ⟨markE_yes hmk, rowE_2 hmk (by simp [hb]), ?_⟩)
        simp only [Nt.badT, Bool.or_eq_true, decide_eq_true_eq] at hb
        omega
      | false =>
        obtain ⟨q, rfl, hq, htr, hmem⟩ := Nt.tr_mem hb
        have hM := Nt.mark_of hmk
        have hen : n.enL m = n.enE m := by simp [Nt.enL, hmk]
        refine Or.inr (Or.inr ⟨q, hq, rfl, hM, markE_yes hmk, ?_⟩)
        rw [hen, hasI_enE hq, rowE_one hmk hb, htr]
        rw [htr] at hmem
        rcases fireE_code n.trans[q] m with ⟨h1, h2⟩ | ⟨h1, h2 | h2⟩
        · exact Or.inl ⟨by simp [h1], by rw [h2]; rfl⟩
        · exact Or.inr (Or.inl ⟨by simp [h1], by rw [h2]; rfl⟩)
        · refine Or.inr (Or.inr ⟨(n.trans[q].fireE m).2, by simp [h1], by rw [if_pos h2], len_fire _ _, fun p hp => ?_⟩)
          exact getI_fire hM hmem h2 (by omega) (by omega)
  go_enter Try.func8, Try.ntmps8
  go_wp2_with fail
  refine (works_any _).mono ?_
  rintro e w1 ⟨rfl, hb1⟩
  have B1 := hbA.trans (hb1.mono (by simp))
  have hz1 := B1.size
  have hn1 := hn.mono B1 (show W.heap.size ≤ w1.heap.size by omega)
  have hm1 := hm.mono B1 (show W.heap.size ≤ w1.heap.size by omega)
  have hbox1 := (hb1.block W.heap.size (by simp)).trans hboxA
  have hs1 := hb1.size
  simp only [World.size_alloc] at hs1
  obtain ⟨c0, c1, c2, c3⟩ := box4 hbox1
  go_wp2_with fail
  refine (enabledNet_any _ _ _ _ n m _ (Nat.le_refl _) hn1 hm1).mono ?_
  rintro e w2 ⟨vl, rfl, how2, hb2⟩
  have B2 := B1.trans (hb2.mono B1.size)
  have hz2 := hb2.size
  have hn2 := hn1.mono hb2 hz2
  have hm2 := hm1.mono hb2 hz2
  have hbox2 := (hb2.block W.heap.size (by omega)).trans hbox1
  clear c0 c1 c2 c3
  obtain ⟨c0, c1, c2, c3⟩ := box4 hbox2
  obtain ⟨al, cl, rfl⟩ := how2.shape
  go_wp2_with fail
  refine (fireNet_any _ _ _ _ n m t _ (Nat.le_refl _) hn2 hm2).mono ?_
  rintro e w3 ⟨vo, rfl, how3, hb3⟩
  have B3 := B2.trans (hb3.mono B2.size)
  have hz3 := hb3.size
  have hn3 := hn2.mono hb3 hz3
  have hm3 := hm2.mono hb3 hz3
  have hbox3 := (hb3.block W.heap.size (by omega)).trans hbox2
  clear c0 c1 c2 c3
  obtain ⟨c0, c1, c2, c3⟩ := box4 hbox3
  obtain ⟨ao, co, rfl⟩ := how3.shape
  have hle := enL_len n m
  have hl3 := (how2.col (by omega) (Nat.le_refl _)).mono hb3 hz3
  rcases key.out with ⟨k1, k2, k3⟩ | ⟨k1, k3, k4⟩ | ⟨q, hq, rfl, hM, k1, hh⟩
  · clear key
    rw [k1, k3]
    clear k1 k2 k3
    go_wp2_with fail
    go_ret
    exact ⟨rfl, B3⟩
  · clear key
    rw [k1, k3]
    clear k1 k3
    rcases k4 with k4 | ⟨k5, k4⟩
    · go_wp2_with fail
      go_ret
      exact ⟨rfl, B3⟩
    · go_wp2_with fail
      go_ret
      exact ⟨rfl, B3⟩
  · clear key
    rw [k1]
    clear k1
    have hqt : (q : Int) < (n.trans.length : Int) := by omega
    rcases hh with ⟨h1, h2⟩ | ⟨h1, h2⟩ | ⟨m', h1, h2, h3, h4⟩
    · rw [h2]
      have Hc := Lib.hid (has_is _ _ _ _ (q : Int) hl3 h1)
      clear h1 h2
      go_wp2_with (go_at_call 21; go_must (refine Hc.out.mono ?_; rintro e w4 ⟨rfl, rfl⟩))
      go_ret
      exact ⟨rfl, B3⟩
    · rw [h2]
      have Hc := Lib.hid (has_is _ _ _ _ (q : Int) hl3 h1)
      clear h1 h2
      go_wp2_with (go_at_call 21; go_must (refine Hc.out.mono ?_; rintro e w4 ⟨rfl, rfl⟩))
      go_ret
      exact ⟨rfl, B3⟩
    · rw [h2] at how3
      rw [h2]
      have Hc := Lib.hid (has_is _ _ _ _ (q : Int) hl3 h1)
      have H3 := Lib.hid h3
      have H4 := Lib.hid h4
      have hoI := how3.col (by simp; omega) (Nat.le_refl _)
      clear h1 h2 h3 h4
      go_wp2_with (go_at_call 21; go_must (refine Hc.out.mono ?_; rintro e w4 ⟨rfl, rfl⟩))
      have Hm := Lib.hid hM
      clear hM hm hm1 hm2 hn hn1 hn2 hbox1 hbox2 hb1 hb2 hb3 hboxA
      go_loopg [11] m.length (fun g s11 wr => ∃ k j : Nat, k + g = m.length ∧ s11 = .int .i64 k ∧ wr = w3.drewN j)
      case atStart => exact ⟨0, 0, by omega, rfl, rfl⟩
      case round =>
        obtain ⟨k, j, hkg, rfl, rfl⟩ := hrel
        by_cases hk : k < m.length
        · have hk' : k < m'.length := by have := H3.out; omega
          obtain ⟨bo, oo, rfl, _, hco⟩ := hoI.col k hk'
          obtain ⟨bm, om, rfl, _, hcm⟩ := hm3.col k hk
          obtain ⟨bt, ot, vi, vo, rfl, _, h0, h1, h2, hi, ho⟩ := hn3.2.col q hq
          have e4 := H4.out k hk
          obtain ⟨tq, htq⟩ : ∃ tq, n.trans[q] = tq := ⟨_, rfl⟩
          rw [htq] at h0 hi ho e4
          clear htq
          obtain ⟨ai2, ci2, rfl⟩ := hi.val
          obtain ⟨ao2, co2, rfl⟩ := ho.val
          rw [getI_eq hk', getI_eq hk] at e4
          have ym := Hm.out.tok _ (List.getElem_mem hk)
          have ra := hasI_range tq.out (k : Int)
          have rb := hasI_range tq.inn (k : Int)
          obtain ⟨a, ha⟩ : ∃ a, hasI tq.out (k : Int) = a := ⟨_, rfl⟩
          obtain ⟨b, hb⟩ : ∃ a, hasI tq.inn (k : Int) = a := ⟨_, rfl⟩
          rw [ha, hb] at e4
          rw [ha] at ra
          rw [hb] at rb
          have Ho := Lib.hid (fun x => has_is (w3.drewN x) _ _ _ (k : Int) (ho.drewN x) ha)
          have Hi := Lib.hid (fun x => has_is (w3.drewN x) _ _ _ (k : Int) (hi.drewN x) hb)
          have hw1 : IntKind.i64.wrap (m'[k] - m[k]) = m'[k] - m[k] := IntWalk.i64_in _ (by omega)
          have hw2 : IntKind.i64.wrap (a - b) = a - b := IntWalk.i64_in _ (by omega)
          have hne : (m'[k] - m[k] != a - b) = false := by
            have : m'[k] - m[k] = a - b := by omega
            rw [this]; simp
          have hkI : (k : Int) < (m'.length : Int) := by omega
          have hkm : (k : Int) < (m.length : Int) := by omega
          clear ha hb e4 ym ra rb hi ho
          go_wp2_with fail
          go_quiet (first | (go_at_call_of 21 (Value.slice ao2 tq.out.length co2); exact quiet_add_left (Ho.out _)) | (go_at_call_of 21 (Value.slice ai2 tq.inn.length ci2); exact quiet_add_left (Hi.out _)))
          go_wp2_with fail
          go_roundg (gk - 1)
          case measure => omega
          case rel => exact ⟨k + 1, _, by omega, by go_num, rfl⟩
        · have hk' : ¬ ((k : Int) < (m.length : Int)) := by omega
          have hz : ((m'.length : Int) == (m.length : Int)) = true := by have := H3.out; simp; omega
          go_wp2_with fail
          go_ret
          exact ⟨rfl, below_drewN B3 _⟩
end Go.Proofs.Ytopgakpggnkkmaa
