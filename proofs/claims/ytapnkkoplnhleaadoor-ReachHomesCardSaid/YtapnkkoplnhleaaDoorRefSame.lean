/- tollgateref15.Same: a net is the same as itself, wherever it lies. -/
import Derived.Test.YtapnkkoplnhleaaDoorRefNet2
import Derived.Test.YtapnkkoplnhleaaDoorNetCmp
import Derived.Laws.NewBlocks
set_option maxRecDepth 100000
namespace Go.Proofs.YtapnkkoplnhleaaDoor
open Go.RowKit

theorem refcmp_is {x : Int} (w : World) (B : Nat) (va vb : Value) (a b : List Int) (ha : Ints w B va a) (hb : Ints w B vb b) (h : cmpL a b = x) :
    Calls Tryd.prog 22 #[va, vb] w fun e w' => e = .returned (.int .i64 x) ∧ Below w.heap.size w w' := by
  rw [← h]
  exact (refcmp_any w B va vb a b ha hb).mono fun e w' ⟨he, n, hw⟩ => ⟨he, by rw [hw]; exact below_drewN' n⟩

set_option maxHeartbeats 4000000 in
theorem refsame_any (w : World) (B : Nat) (hB : B ≤ w.heap.size) (vp vt vq vu : Value) (n : Nt) (hn : NtR w B vp vt n) (hm : NtR w B vq vu n) :
    Calls Tryd.prog 15 #[.agg #[vp, vt, .int .i64 n.init, .int .i64 n.final], .agg #[vq, vu, .int .i64 n.init, .int .i64 n.final]] w fun e w' => e = .returned (.bool true) ∧ Below w.heap.size w w' := by
  have hbA := ((Below.refl w.heap.size w).alloc (Nat.le_refl _) (.cells #[vp, vt, .int .i64 n.init, .int .i64 n.final] 25)).alloc (by simp) (.cells #[vq, vu, .int .i64 n.init, .int .i64 n.final] 25)
  have hboxA : ((w.alloc (.cells #[vp, vt, .int .i64 n.init, .int .i64 n.final] 25)).alloc (.cells #[vq, vu, .int .i64 n.init, .int .i64 n.final] 25)).heap[w.heap.size]? = some (.cells #[vp, vt, .int .i64 n.init, .int .i64 n.final] 25) := heap_alloc2_old _ _ _
  have hboxB : ((w.alloc (.cells #[vp, vt, .int .i64 n.init, .int .i64 n.final] 25)).alloc (.cells #[vq, vu, .int .i64 n.init, .int .i64 n.final] 25)).heap[w.heap.size + 1]? = some (.cells #[vq, vu, .int .i64 n.init, .int .i64 n.final] 25) := heap_alloc2_new _ _ _
  obtain ⟨W1, hW1⟩ : ∃ W1, (w.alloc (.cells #[vp, vt, .int .i64 n.init, .int .i64 n.final] 25)).alloc (.cells #[vq, vu, .int .i64 n.init, .int .i64 n.final] 25) = W1 := ⟨_, rfl⟩
  have hs1 : W1.heap.size = w.heap.size + 2 := by rw [← hW1]; simp
  rw [hW1] at hbA hboxA hboxB
  have hlp := hn.1.len
  have hlt := hn.2.len
  obtain ⟨ap, cp, rfl⟩ := hn.1.val
  obtain ⟨at_, ct, rfl⟩ := hn.2.val
  obtain ⟨aq, cq, rfl⟩ := hm.1.val
  obtain ⟨au, cu, rfl⟩ := hm.2.val
  have hs1a : w.heap.size + 2 ≤ W1.heap.size := by omega
  obtain ⟨c0, c1, c2, c3⟩ := box4' hboxA
  obtain ⟨d0, d1, d2, d3⟩ := box4' hboxB
  have hi1 : (n.init != n.init) = false := bne_self_eq_false _
  have hi2 : (n.final != n.final) = false := bne_self_eq_false _
  have hi3 : ((n.places.length : Int) != (n.places.length : Int)) = false := bne_self_eq_false _
  have hi4 : ((n.trans.length : Int) != (n.trans.length : Int)) = false := bne_self_eq_false _
  clear hs1
  go_enter Tryd.func15, Tryd.ntmps15
  go_wp2_with fail
  clear hi1 hi2 hi3 hi4
  go_loopg [5] n.places.length (fun gh s5 wr => ∃ k m : Nat, k + gh = n.places.length ∧ s5 = .int .i64 (k : Int) ∧ wr = W1.drewN m)
  case atStart => exact ⟨0, 0, by omega, rfl, rfl⟩
  case round =>
    obtain ⟨k, m, hkg, rfl, rfl⟩ := hrel
    by_cases hk : k < n.places.length
    · obtain ⟨b1, o1, rfl, hb1, h1⟩ := hn.1.col k hk
      obtain ⟨b2, o2, rfl, hb2, h2⟩ := hm.1.col k hk
      rw [← Below.cellB hbA (by omega)] at h1 h2
      obtain ⟨x, hx⟩ : ∃ x, n.places[k] = x := ⟨_, rfl⟩
      rw [hx] at h1 h2
      clear hx
      go_wp2_with fail
      go_quiet (fail)
      go_wp2_with fail
      go_roundg (gk - 1)
      case measure => omega
      case rel => exact ⟨k + 1, _, by omega, by go_num, rfl⟩
    · have hkf : decide ((k : Int) < (n.places.length : Int)) = false := decide_eq_false (by omega)
      have hkg : decide (k < n.places.length) = false := decide_eq_false hk
      clear hk
      obtain ⟨W2, hW2⟩ : ∃ W2, W2 = W1.drewN m := ⟨_, rfl⟩
      have hb12 : Below W1.heap.size W1 W2 := by rw [hW2]; exact below_drewN' m
      rw [← hW2]
      have hx2 := (hb12.block w.heap.size (by omega)).trans hboxA
      have hy2 := (hb12.block (w.heap.size + 1) (by omega)).trans hboxB
      have hz2 := hb12.size
      clear hW2 c0 c1 c2 c3 d0 d1 d2 d3
      obtain ⟨c0, c1, c2, c3⟩ := box4' hx2
      obtain ⟨d0, d1, d2, d3⟩ := box4' hy2
      go_wp2_with fail
      go_loopg [6] n.trans.length (fun gh s6 wr => ∃ k : Nat, k + gh = n.trans.length ∧ s6 = .int .i64 (k : Int) ∧ Below W2.heap.size W2 wr)
      case atStart => exact ⟨0, by omega, rfl, Below.refl _ _⟩
      case round =>
        obtain ⟨k, hkg, rfl, hbr⟩ := hrel
        have hzr := hbr.size
        have hB1 := hbA.trans ((hb12.trans (hbr.mono hz2)).mono (by omega))
        have hx3 := (hbr.block w.heap.size (by omega)).trans hx2
        have hy3 := (hbr.block (w.heap.size + 1) (by omega)).trans hy2
        clear c0 c1 c2 c3 d0 d1 d2 d3
        obtain ⟨c0, c1, c2, c3⟩ := box4' hx3
        obtain ⟨d0, d1, d2, d3⟩ := box4' hy3
        by_cases hk : k < n.trans.length
        · obtain ⟨b1, o1, vi, vo, rfl, hb1, h0, h1, h2, hi, ho⟩ := hn.2.col k hk
          obtain ⟨b2, o2, wi, wo, rfl, hb2, g0, g1, g2, hj, hp⟩ := hm.2.col k hk
          rw [← Below.cellB hB1 (by omega)] at h0 h1 h2 g0 g1 g2
          obtain ⟨x, hx⟩ : ∃ x, n.trans[k] = x := ⟨_, rfl⟩
          rw [hx] at h0 g0 hi ho hj hp
          clear hx
          obtain ⟨ai, ci, rfl⟩ := hi.val
          obtain ⟨ao, co, rfl⟩ := ho.val
          obtain ⟨aj, cj, rfl⟩ := hj.val
          obtain ⟨aq', cp', rfl⟩ := hp.val
          have f0 : w.heap.size < wr.heap.size := by omega
          have f1 : w.heap.size + 1 < wr.heap.size := by omega
          have f2 : b1 < wr.heap.size := by omega
          have f3 : b2 < wr.heap.size := by omega
          go_upto_region 13 with fail
          obtain ⟨W3, hW3⟩ : ∃ W3, (wr.alloc (.cells #[.string x.label, .slice ai x.inn.length ci, .slice ao x.out.length co] 65)).alloc (.cells #[.string x.label, .slice aj x.inn.length cj, .slice aq' x.out.length cp'] 65) = W3 := ⟨_, rfl⟩
          have hb3 : Below wr.heap.size wr W3 := by rw [← hW3]; exact ((Below.refl _ _).alloc (Nat.le_refl _) _).alloc (by simp) _
          have hX : W3.heap[wr.heap.size]? = some (.cells #[.string x.label, .slice ai x.inn.length ci, .slice ao x.out.length co] 65) := by rw [← hW3]; exact heap_alloc2_old _ _ _
          have hY : W3.heap[wr.heap.size + 1]? = some (.cells #[.string x.label, .slice aj x.inn.length cj, .slice aq' x.out.length cp'] 65) := by rw [← hW3]; exact heap_alloc2_new _ _ _
          have hz3 := hb3.size
          have hB3 := hB1.trans (hb3.mono (by omega))
          have hi3 := hi.mono (hB3.mono hB) (show B ≤ W3.heap.size by omega)
          have ho3 := ho.mono (hB3.mono hB) (show B ≤ W3.heap.size by omega)
          have hj3 := hj.mono (hB3.mono hB) (show B ≤ W3.heap.size by omega)
          have hp3 := hp.mono (hB3.mono hB) (show B ≤ W3.heap.size by omega)
          rw [hW3]
          clear hW3 h0 h1 h2 g0 g1 g2 c0 c1 c2 c3 d0 d1 d2 d3
          obtain ⟨c0, c1, c2⟩ := box3 hX
          obtain ⟨d0, d1, d2⟩ := box3 hY
          go_wp2_with (first | (go_at_call 22; refine (refcmp_is _ _ _ _ _ _ hi3 hj3 (cmpL_self _)).mono ?_; rintro e w4 ⟨rfl, hb4⟩; refine Hid.out ?_))
          refine Lib.hid ?_
          have hX4 := (hb4.block wr.heap.size (by have := lt_of_block hX; omega)).trans hX
          have hY4 := (hb4.block (wr.heap.size + 1) (by have := lt_of_block hY; omega)).trans hY
          have hz4 := hb4.size
          clear c0 c1 c2 d0 d1 d2
          obtain ⟨c0, c1, c2⟩ := box3 hX4
          obtain ⟨d0, d1, d2⟩ := box3 hY4
          have ho4 := ho3.mono hb4 (Nat.le_refl _)
          have hp4 := hp3.mono hb4 (Nat.le_refl _)
          go_wp2_with (first | (go_at_call 22; refine (refcmp_is _ _ _ _ _ _ ho4 hp4 (cmpL_self _)).mono ?_; rintro e w5 ⟨rfl, hb5⟩; refine Hid.out ?_))
          refine Lib.hid ?_
          have hb25 : Below W2.heap.size W2 w5 := ((hbr.trans (hb3.mono hzr)).trans (hb4.mono (by omega))).trans (hb5.mono (by omega))
          go_wp2_with fail
          go_roundg (gk - 1)
          case measure => omega
          case rel => exact ⟨k + 1, by omega, by go_num, hb25⟩
        · go_wp2_with fail
          go_ret
          exact ⟨rfl, hB1⟩

end Go.Proofs.YtapnkkoplnhleaaDoor
