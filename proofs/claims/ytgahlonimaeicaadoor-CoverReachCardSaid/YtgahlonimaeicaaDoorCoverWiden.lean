/- (*cover.Tree).widen. -/
import Derived.Test.YtgahlonimaeicaaDoorCoverTreeR
import Derived.Deep.DeepFit
set_option maxRecDepth 100000
namespace Go.Proofs.YtgahlonimaeicaaDoor
open Go.RowKit

/-- A marking of which the first places are widened. -/
def mixW (k : Nat) (cur old : List Int) : List Int := (widen1 cur old).take k ++ cur.drop k
theorem mixW_zero (cur old : List Int) : mixW 0 cur old = cur := by simp [mixW]
theorem mixW_all (cur old : List Int) : mixW cur.length cur old = widen1 cur old := by
  unfold mixW
  rw [List.take_of_length_le (by rw [len_widen1]; exact Nat.le_refl _), List.drop_length, List.append_nil]
theorem mixW_len {k : Nat} {cur old : List Int} (h : k ≤ cur.length) : (mixW k cur old).length = cur.length := by
  simp [mixW, len_widen1]; omega
theorem mixW_get {k : Nat} {cur old : List Int} (h : k < cur.length) : (mixW k cur old)[k]'(by rw [mixW_len (by omega)]; exact h) = cur[k] := by
  unfold mixW
  rw [List.getElem_append_right (by simp; omega)]
  simp only [List.length_take, len_widen1, Nat.min_eq_left (Nat.le_of_lt h), Nat.sub_self, List.getElem_drop, Nat.add_zero]
theorem mixW_step {k : Nat} {cur old : List Int} (h : k < cur.length) (h2 : k < old.length) : mixW (k + 1) cur old = if moreB cur[k] old[k] then (mixW k cur old).set k (-1) else mixW k cur old := by
  have hw : k < (widen1 cur old).length := by rw [len_widen1]; exact h
  have e := get_widen1 cur old k h h2
  have e1 : mixW (k + 1) cur old = (widen1 cur old).take k ++ (widen1 cur old)[k] :: cur.drop (k + 1) := by
    unfold mixW
    rw [List.take_succ_eq_append_getElem hw, List.append_assoc, List.singleton_append]
  have e2 : mixW k cur old = (widen1 cur old).take k ++ cur[k] :: cur.drop (k + 1) := by
    unfold mixW
    rw [← List.drop_eq_getElem_cons h]
  have hlen : ((widen1 cur old).take k).length = k := by simp; omega
  rw [e1, e, e2]
  split
  · rw [List.set_append_right _ _ (by omega), hlen, Nat.sub_self, List.set_cons_zero]
  · rfl
theorem OwnI.drewN {w : World} {base : Nat} {v : Value} {l : List Int} (h : OwnI w base v l) (n : Nat) : OwnI (w.drewN n) base v l := h.kept (below_drewN' n) (Nat.le_refl _)

set_option maxHeartbeats 2000000 in
theorem widen_any (w : World) (B p g cap : Nat) (l : List Nd) (m : List Int) (i : Int) (hT : TreeR w B p l) (hBg : B ≤ g) (hown : OwnI w g (.slice (some ⟨g, 0, none⟩) m.length cap) m) (hup : Up l)
    (hi0 : -1 ≤ i) (hi1 : i < (l.length : Int)) (hlen : ∀ d ∈ l, d.mark.length = m.length) (hml : m.length ≤ 17592186044416) :
    Calls Tryd.prog 41 #[.pointer (some ⟨p, 0, none⟩), .slice (some ⟨g, 0, none⟩) m.length cap, .int .i64 i] w fun e w' => e = .returned (.tuple #[]) ∧ OwnI w' g (.slice (some ⟨g, 0, none⟩) m.length cap) (widenE l i m) ∧ w.grownBy w' (some g) := by
  obtain ⟨an, cn, hpB, hl, hc0, hn⟩ := hT
  have hg := hown.lt.2
  go_enter Tryd.func41, Tryd.ntmps41
  go_wp2_with fail
  go_loopg [6] (i + 1).toNat (fun gh s6 wr => ∃ (q : Int) (cur : List Int), gh = (q + 1).toNat ∧ -1 ≤ q ∧ q < (l.length : Int) ∧ s6 = .int .i64 q ∧ Hid (widenE l q cur = widenE l i m) ∧ Hid (cur.length = m.length) ∧
    OwnI wr g (.slice (some ⟨g, 0, none⟩) m.length cap) cur ∧ w.grownBy wr (some g))
  case atStart => exact ⟨i, m, rfl, hi0, hi1, rfl, rfl, rfl, hown, World.grownBy.refl _ _⟩
  case round =>
    obtain ⟨q, cur, rfl, hq0, hq1, rfl, hA, hL, how, hgr⟩ := hrel
    have hbel : Below g w wr := (Below.refl g w).grown hgr (by omega) (fun k hk => by cases hk; exact Nat.le_refl _)
    by_cases hq : 0 ≤ q
    · obtain ⟨k, rfl⟩ := Int.eq_ofNat_of_zero_le hq
      have hk : k < l.length := by omega
      obtain ⟨bn, on, v, rfl, hbn, h0, h1, h2, h3, hmk⟩ := hn k hk
      have o0 := h0
      rw [← Below.cellB hbel (by omega)] at h0 h2
      have hc0r := hc0
      rw [← Below.cellB hbel (by omega)] at hc0r
      have hst := Lib.hid (widenE_step hup hk cur)
      have hupk := hup k hk
      have hlk := hlen _ (List.getElem_mem hk)
      have hmkr := hmk.mono (hbel.mono hBg) (Nat.le_refl _)
      obtain ⟨d, hd⟩ : ∃ d, l[k] = d := ⟨_, rfl⟩
      rw [hd] at h0 o0 hmk hst hupk hlk hmkr
      clear hd
      obtain ⟨av, cv, rfl⟩ := hmk.val
      have hcurl : cur.length = m.length := hL.out
      have hcurI : Ints wr wr.heap.size (.slice (some ⟨g, 0, none⟩) m.length cap) cur := how.col (by omega) (Nat.le_refl _)
      have hgw : g < wr.heap.size := how.lt.2
      have hupe : Hid (Up l) := hup
      cases hcv : wcoversB cur d.mark with
      | false =>
        have HC := Lib.hid (wcovers_any wr wr.heap.size _ _ cur d.mark hcurI (hmkr.mono (Below.refl _ _) (by omega)))
        rw [hcv] at HC
        rw [hcv, if_neg (by simp)] at hst
        have Hlk := Lib.hid hlk
        clear hlk hcv hup hlen hn hq hcurl
        go_wp2_with (go_at_call 16; go_must (refine HC.out.mono ?_; rintro e w4 ⟨rfl, nd, rfl⟩))
        go_roundg (d.par + 1).toNat
        case measure => omega
        case rel => exact ⟨d.par, cur, rfl, by omega, by omega, rfl, Lib.hid (by rw [← hst.out]; exact hA.out), hL, how.drewN _, hgr.trans (below_grownBy (below_drewN' _) _)⟩
      | true =>
        have HC := Lib.hid (wcovers_any wr wr.heap.size _ _ cur d.mark hcurI (hmkr.mono (Below.refl _ _) (by omega)))
        rw [hcv] at HC
        rw [hcv, if_pos rfl] at hst
        have Hlk := Lib.hid hlk
        clear hlk hcv hup hlen hn hq hcurl
        go_wp2_with (go_at_call 16; go_must (refine HC.out.mono ?_; rintro e w4 ⟨rfl, nd, rfl⟩))
        go_loopg [34] m.length (fun gh s34 wx => ∃ kk : Nat, kk + gh = m.length ∧ s34 = .int .i64 kk ∧ OwnI wx g (.slice (some ⟨g, 0, none⟩) m.length cap) (mixW kk cur d.mark) ∧ w.grownBy wx (some g))
        case atStart => exact ⟨0, by omega, rfl, by rw [mixW_zero]; exact how.drewN _, hgr.trans (below_grownBy (below_drewN' _) _)⟩
        case round =>
          obtain ⟨kk, hkk, rfl, howx, hgx⟩ := hrel
          have hbelx : Below g w wr := (Below.refl g w).grown hgx (by omega) (fun k hk => by cases hk; exact Nat.le_refl _)
          rw [← Below.cellB hbelx (by omega)] at o0 hc0
          by_cases hkl : kk < m.length
          · have hkc : kk < cur.length := by have := hL.out; omega
            have hko : kk < d.mark.length := by have := Hlk.out; omega
            obtain ⟨bv, ov, rfl, hbv, hcv⟩ := (hmk.mono ((Below.refl _ _).mono (Nat.le_refl _)) (Nat.le_refl _)).col kk hko
            rw [← Below.cellB hbelx (by omega)] at hcv
            obtain ⟨hx0, hxf⟩ := howx.at (i := kk) (by rw [mixW_len (by omega)]; exact hkc)
            rw [mixW_get hkc] at hx0
            have hstep := Lib.hid (mixW_step hkc hko)
            obtain ⟨x, hx⟩ : ∃ x, cur[kk] = x := ⟨_, rfl⟩
            obtain ⟨y, hy⟩ : ∃ y, d.mark[kk] = y := ⟨_, rfl⟩
            rw [hx] at hx0 hstep
            rw [hy] at hcv hstep
            clear hx hy
            cases hmr : moreB x y with
            | true =>
              rw [hmr, if_pos rfl] at hstep
              have Hm := Lib.hid hmr
              clear hmr
              go_wp2_with fail
              go_quiet ((go_at_call 43; exact quiet_left (more_is Hm.out _)))
              go_wp2_with fail
              go_roundg (gk - 1)
              case measure => omega
              case rel => exact ⟨kk + 1, by omega, by go_num, by rw [hstep.out]; exact (howx.drewN _).set kk (-1), (hgx.trans (below_grownBy (below_drewN' _) _)).trans (grownBy_setCell _ _ _ _)⟩
            | false =>
              rw [hmr, if_neg (by simp)] at hstep
              have Hm := Lib.hid hmr
              clear hmr
              go_wp2_with fail
              go_quiet ((go_at_call 43; exact quiet_left (more_is Hm.out _)))
              go_wp2_with fail
              go_roundg (gk - 1)
              case measure => omega
              case rel => exact ⟨kk + 1, by omega, by go_num, by rw [hstep.out]; exact howx.drewN _, hgx.trans (below_grownBy (below_drewN' _) _)⟩
          · have hkm : Hid (mixW kk cur d.mark = widen1 cur d.mark) := by rw [show kk = cur.length by have := hL.out; omega]; exact mixW_all _ _
            go_wp2_with fail
            go_roundg (d.par + 1).toNat
            case measure => omega
            case rel => exact ⟨d.par, widen1 cur d.mark, rfl, by omega, by omega, rfl, Lib.hid (by rw [← hst.out]; exact hA.out), Lib.hid (by rw [len_widen1]; exact hL.out), by rw [← hkm.out]; exact howx, hgx⟩
    · have hqm : q = -1 := by omega
      have hA2 : Hid (cur = widenE l i m) := by rw [← hA.out, widenE_neg _ (by omega)]; exact rfl
      subst hqm
      go_wp2_with fail
      refine bodyPost_end (results_none rfl _ _ _) rfl ?_
      exact ⟨rfl, by rw [← hA2.out]; exact how, hgr⟩

end Go.Proofs.YtgahlonimaeicaaDoor
