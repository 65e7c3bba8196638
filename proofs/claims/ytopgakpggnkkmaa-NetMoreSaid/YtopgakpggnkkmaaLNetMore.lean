/- The walk of the law NetMore. -/
import Derived.Test.YtopgakpggnkkmaaNetMorePlain
import Derived.Test.YtopgakpggnkkmaaLNetEffect
namespace Go.Proofs.Ytopgakpggnkkmaa
open Go.RowKit

theorem upL_drop {m ys : List Int} {k : Nat} (h : k < m.length) : upL (m.drop k) (ys.drop k) = (if h2 : k < ys.length then m[k] + ys[k] % 1024 else m[k]) :: upL (m.drop (k + 1)) (ys.drop (k + 1)) := by
  rw [List.drop_eq_getElem_cons h]
  by_cases h2 : k < ys.length
  · rw [List.drop_eq_getElem_cons h2, dif_pos h2]; rfl
  · rw [List.drop_eq_nil_of_le (by omega : ys.length ≤ k), List.drop_eq_nil_of_le (by omega : ys.length ≤ k + 1), dif_neg h2]; rfl

theorem small31_is {t : Bool} (w : World) (B : Nat) (v : Value) (l : List Int) (h : Ints w B v l) (ht : small31B l = t) :
    Calls Try.prog 17 #[v] w fun e w' => e = .returned (.bool t) ∧ w = w' := by
  rw [← ht]; exact small31_any w B v l h

set_option maxHeartbeats 4000000 in
theorem netMore_walk (W : World) (vp vt : Value) (n : Nt) (hn : NtR W W.heap.size vp vt n) (_gn : NtI n) (vm : Value) (m : List Int) (hm : Ints W W.heap.size vm m) (_gm : I64s m) (vy : Value) (more : List Int) (hy : Ints W W.heap.size vy more) (_gy : I64s more) (vr : Value) (row : List Int) (hr : Ints W W.heap.size vr row) (_gr : I64s row) :
    Calls Try.prog 5 #[.agg #[vp, vt, .int .i64 n.init, .int .i64 n.final], vm, vy, vr] W fun e w' => e = .returned (.bool true) ∧ Below W.heap.size W w' := by
  obtain ⟨i0, hti, hz0, hz1, hz2⟩ := info_parts info_int
  have hbA := (Below.refl W.heap.size W).alloc (Nat.le_refl _) (.cells #[vp, vt, .int .i64 n.init, .int .i64 n.final] 28)
  have hboxA := heap_alloc_new W (.cells #[vp, vt, .int .i64 n.init, .int .i64 n.final] 28)
  have hlm := hm.len
  have hly := hy.len
  have hlr := hr.len
  obtain ⟨ap, cp, rfl⟩ := hn.1.val
  obtain ⟨at_, ct, rfl⟩ := hn.2.val
  obtain ⟨am, cm, rfl⟩ := hm.val
  obtain ⟨ay, cy, rfl⟩ := hy.val
  obtain ⟨ar, cr, rfl⟩ := hr.val
  have key := Lib.hid (more_core (n := n) (m := m) (row := row) more)
  go_enter Try.func5, Try.ntmps5
  go_wp2_with fail
  refine (works_any _).mono ?_
  rintro e w1 ⟨rfl, hb1⟩
  have B1 := hbA.trans (hb1.mono (by simp))
  have hz1' := B1.size
  have hn1 := hn.mono B1 (show W.heap.size ≤ w1.heap.size by omega)
  have hm1 := hm.mono B1 (show W.heap.size ≤ w1.heap.size by omega)
  have hr1 := hr.mono B1 (show W.heap.size ≤ w1.heap.size by omega)
  have hbox1 := (hb1.block W.heap.size (by simp)).trans hboxA
  have hs1 := hb1.size
  simp only [World.size_alloc] at hs1
  obtain ⟨c0, c1, c2, c3⟩ := box4 hbox1
  go_wp2_with fail
  refine (row_any _ _ _ _ _ n m row _ (Nat.le_refl _) hn1 hm1 hr1).mono ?_
  rintro e w2 ⟨vo, rfl, how2, hb2⟩
  have B2 := B1.trans (hb2.mono B1.size)
  have hz2' := hb2.size
  have hn2 := hn1.mono hb2 hz2'
  have hm2 := hm1.mono hb2 hz2'
  have hr2 := hr1.mono hb2 hz2'
  have hy2 := hy.mono B2 (show W.heap.size ≤ w2.heap.size by omega)
  have hbox2 := (hb2.block W.heap.size (by omega)).trans hbox1
  clear c0 c1 c2 c3 hn1 hm1 hr1 hbox1 hb1 hb2 hboxA hbA hn hm hr hy
  obtain ⟨ao, co, rfl⟩ := how2.shape
  rcases key.out with ⟨k, c, h1, h2, h3⟩ | ⟨out, h1, hM, hMo, hh⟩
  · have hz : (c != 0) = true := by simp [h2]
    rw [h1]
    clear key h1 h2
    go_wp2_with fail
    go_ret
    exact ⟨rfl, B2⟩
  · rw [h1] at how2
    rw [h1]
    have hlo : out.length = m.length := by rw [hMo.len, hM.len]
    have Hlo := Lib.hid hlo
    have hoI := how2.col (by simp; omega) (Nat.le_refl _)
    have HM := Lib.hid hM
    have HH := Lib.hid hh
    have HMo := Lib.hid hMo
    clear key h1 hlo hM hh hMo how2
    go_wp2_with fail
    go_loopg [12, 13, 14] m.length (fun g s12 s13 s14 wr => ∃ (k : Nat) (acc : List Int), k + g = m.length ∧ s13 = .int .i64 k ∧ Hid (acc ++ upL (m.drop k) (more.drop k) = upL m more) ∧ acc.length ≤ k ∧ OwnI wr w2.heap.size s12 acc ∧ Below w2.heap.size w2 wr)
    case atStart => exact ⟨0, [], by omega, rfl, rfl, by simp, OwnI.nil _ _, Below.refl _ _⟩
    case round =>
      obtain ⟨k, acc, hkg, rfl, hA, hal, how, hbel⟩ := hrel
      obtain ⟨aa, ca, rfl⟩ := how.shape
      have hwr := hbel.size
      by_cases hk : k < m.length
      · obtain ⟨bm, om, rfl, hbm, hcm⟩ := hm2.col k hk
        rw [← Below.cellB hbel hbm] at hcm
        have hd := Lib.hid (upL_drop (ys := more) hk)
        have hmk := HM.out.tok _ (List.getElem_mem hk)
        obtain ⟨hmk1, hmk2⟩ := hmk
        by_cases hk2 : k < more.length
        · obtain ⟨by_, oy, rfl, hby, hcy⟩ := hy2.col k hk2
          rw [← Below.cellB hbel hby] at hcy
          obtain ⟨d, hdd⟩ : ∃ d, more[k] % 1024 = d := ⟨_, rfl⟩
          have hand : bits .and .i64 more[k] 1023 = d := by rw [i64_and1023, hdd]
          have hd0 : 0 ≤ d := by omega
          have hd1 : d ≤ 1023 := by omega
          have HA : Hid ((acc ++ [m[k] + d]) ++ upL (m.drop (k + 1)) (more.drop (k + 1)) = upL m more) := by
            rw [← hA.out, hd.out, dif_pos hk2, hdd, List.append_assoc]; exact rfl
          clear hdd
          go_wp2_with (at_builtin; go_must (refine wpList_append_own _ rfl _ _ 22 rfl w2.heap.size 3 i0 (.int .i64 0) 1 8 Try.underlying22 hti hz0 hz1 hz2 rfl (by decide) _ acc.length (acc.map (Value.int .i64)) rfl (how.kept ((Below.refl _ _).alloc (Nat.le_refl _) _) (Nat.le_refl _)) ⟨wr.heap.size, 0, none⟩ 1 1 [.int .i64 (m[k] + d)] rfl rfl (cell_one_new _ _ _) (ints_oneCell' [m[k] + d]) (by unfold maxLen; omega) (by omega) (by simp; omega) ?_; intro v' w4 hown hg4 _))
          go_roundg (gk - 1)
          case measure => omega
          case rel =>
            refine ⟨k + 1, acc ++ [m[k] + d], by omega, by go_num, HA, by simp; omega, by unfold OwnI; simpa using hown, ?_⟩
            exact (hbel.alloc (by omega) _).grown hg4 (by simp; omega) (fun j hj => (World.ownsRow.lt how j hj).1)
        · have hk3 : ¬ ((k : Int) < (more.length : Int)) := by omega
          have HA : Hid ((acc ++ [m[k]]) ++ upL (m.drop (k + 1)) (more.drop (k + 1)) = upL m more) := by
            rw [← hA.out, hd.out, dif_neg hk2, List.append_assoc]; exact rfl
          go_wp2_with (at_builtin; go_must (refine wpList_append_own _ rfl _ _ 22 rfl w2.heap.size 3 i0 (.int .i64 0) 1 8 Try.underlying22 hti hz0 hz1 hz2 rfl (by decide) _ acc.length (acc.map (Value.int .i64)) rfl (how.kept ((Below.refl _ _).alloc (Nat.le_refl _) _) (Nat.le_refl _)) ⟨wr.heap.size, 0, none⟩ 1 1 [.int .i64 m[k]] rfl rfl (cell_one_new _ _ _) (ints_oneCell' [m[k]]) (by unfold maxLen; omega) (by omega) (by simp; omega) ?_; intro v' w4 hown hg4 _))
          go_roundg (gk - 1)
          case measure => omega
          case rel =>
            refine ⟨k + 1, acc ++ [m[k]], by omega, by go_num, HA, by simp; omega, by unfold OwnI; simpa using hown, ?_⟩
            exact (hbel.alloc (by omega) _).grown hg4 (by simp; omega) (fun j hj => (World.ownsRow.lt how j hj).1)
      · have hk' : ¬ ((k : Int) < (m.length : Int)) := by omega
        have HA : acc = upL m more := by rw [← hA.out, List.drop_eq_nil_of_le (by omega)]; simp [upL]
        have hlu := len_upL m more
        subst HA
        have Hlu := Lib.hid hlu
        have huI := how.col (by omega) (Nat.le_refl _)
        have B3 := B2.trans (hbel.mono B2.size)
        have hbox3 := (hbel.block W.heap.size (by omega)).trans hbox2
        obtain ⟨c0, c1, c2, c3⟩ := box4 hbox3
        have hoI3 := hoI.mono hbel hwr
        have hm3 := hm2.mono hbel hwr
        clear hlu hA hk hkg
        go_wp2_with fail
        refine (row_any _ _ _ _ _ n (upL m more) row _ (Nat.le_refl _) (hn2.mono hbel hwr) huI (hr2.mono hbel hwr)).mono ?_
        rintro e w4 ⟨vh, rfl, how4, hb4⟩
        have B4 := B3.trans (hb4.mono B3.size)
        have hz4 := hb4.size
        have huI4 := huI.mono hb4 hz4
        have hoI4 := hoI3.mono hb4 hz4
        have hm4 := hm3.mono hb4 hz4
        obtain ⟨ah, ch, rfl⟩ := how4.shape
        clear c0 c1 c2 c3 hbox3 hn2 hm2 hr2 hy2 hoI hoI3 hm3 huI hbox2
        obtain ⟨f, hf⟩ : ∃ f, (n.rowE (upL m more) row).2.2 = f := ⟨_, rfl⟩
        rcases HH.out with h1 | ⟨h1, h2⟩ | ⟨high, h1, h2⟩
        · rw [h1]
          clear HH hf h1
          go_wp2_with fail
          go_ret
          exact ⟨rfl, B4⟩
        · rw [h1]
          have Hc := Lib.hid (small31_is _ _ _ _ huI4 h2)
          clear HH hf h1 h2
          go_wp2_with (go_at_call 17; go_must (refine Hc.out.mono ?_; rintro e w5 ⟨rfl, rfl⟩))
          go_ret
          exact ⟨rfl, B4⟩
        · rw [h1] at how4
          have hlh : high.length = m.length := by rw [h2.la, len_difL]
          have hhI := how4.col (by simp; omega) (Nat.le_refl _)
          have H2 := Lib.hid h2
          have Hlh := Lib.hid hlh
          rw [h1]
          have C1 := Lib.hid (covers_is _ _ _ _ _ _ huI4 hm4 (shift_up m more).covers)
          have C2 := Lib.hid (covers_is _ _ _ _ _ _ hhI hoI4 h2.covers)
          clear HH hf h1 h2 hlh
          go_wp2_with (go_at_call 12; ((with_reducible refine C1.out.mono ?_); rintro e w5 ⟨rfl, rfl⟩))
          refine C2.out.mono ?_
          rintro e w5 ⟨rfl, rfl⟩
          go_wp2_with fail
          go_loopg [18] m.length (fun g s18 wr2 => ∃ k j : Nat, k + g = m.length ∧ s18 = .int .i64 k ∧ wr2 = w4.drewN j)
          case atStart => exact ⟨0, 0, by omega, rfl, rfl⟩
          case round =>
            obtain ⟨k, j, hkg, rfl, rfl⟩ := hrel
            by_cases hk : k < m.length
            · have hkh : k < high.length := by have := Hlh.out; omega
              have hko : k < out.length := by have := Hlo.out; omega
              have hku : k < (upL m more).length := by have := Hlu.out; omega
              obtain ⟨bh, oh, rfl, _, hch⟩ := hhI.col k hkh
              obtain ⟨bo, oo, rfl, _, hco⟩ := hoI4.col k hko
              obtain ⟨bu, ou, rfl, _, hcu⟩ := huI4.col k hku
              obtain ⟨bm, om, rfl, _, hcm⟩ := hm4.col k hk
              have e1 := H2.out.eq k (by rw [len_difL]; exact hk)
              have e2 := (shift_up m more).eq k (by rw [len_difL]; exact hk)
              rw [getI_eq hkh, getI_eq hko] at e1
              rw [getI_eq hku, getI_eq hk] at e2
              have r1 := dif_range m more k
              have t1 := HM.out.tok _ (List.getElem_mem hk)
              have t2 := HMo.out.tok _ (List.getElem_mem hko)
              have hw1 : IntKind.i64.wrap (high[k] - out[k]) = high[k] - out[k] := IntWalk.i64_in _ (by omega)
              have hw2 : IntKind.i64.wrap ((upL m more)[k] - m[k]) = (upL m more)[k] - m[k] := IntWalk.i64_in _ (by omega)
              have hne : (high[k] - out[k] != (upL m more)[k] - m[k]) = false := by
                have : high[k] - out[k] = (upL m more)[k] - m[k] := by omega
                rw [this]; simp
              have hk1 : (k : Int) < (high.length : Int) := by omega
              have hk2 : (k : Int) < (out.length : Int) := by omega
              have hk3 : (k : Int) < ((upL m more).length : Int) := by omega
              have hk4 : (k : Int) < (m.length : Int) := by omega
              clear e1 e2 r1 t1 t2
              go_wp2_with fail
              go_quiet (fail)
              go_wp2_with fail
              go_roundg (gk - 1)
              case measure => omega
              case rel => exact ⟨k + 1, _, by omega, by go_num, rfl⟩
            · have hk' : ¬ ((k : Int) < (m.length : Int)) := by omega
              go_wp2_with fail
              go_ret
              exact ⟨rfl, below_drewN B4 _⟩

end Go.Proofs.Ytopgakpggnkkmaa
