/- EvalTypes: the walk. -/
import Derived.Test.YtjfiijbmkcfooaaDoorEvalType3
import Derived.Test.YtjfiijbmkcfooaaDoorLEvalLaws
set_option maxRecDepth 100000
namespace Go.Proofs.YtjfiijbmkcfooaaDoor
open Go.RowKit

theorem types_main {l : List Bd} {n : Nd} (hm : mayB l = true) (h0 : (tyE l n).2 = 0) : (evE l n).2 = 91 ∨ ((evE l n).2 = 0 ∧ (evE l n).1.kind = (tyE l n).1 ∧ checkB (evE l n).1 = true) := by
  unfold tyE at h0 ⊢
  unfold evE
  cases hc : checkN n with
  | false => rw [hc] at h0; exact absurd h0 (by decide : ¬ (1 : Int) = 0)
  | true =>
    rw [hc] at h0
    simp only [if_true] at h0 ⊢
    have hl : ∀ b ∈ l, checkB b.val = true := fun b hb => List.all_eq_true.1 hm b hb
    rcases types_ok l hl _ n (Nat.le_refl _) hc h0 with h | ⟨h1, h2⟩
    · exact Or.inl h
    · exact Or.inr ⟨h1, h2, norm_N l n hc h1⟩
theorem types_err {l : List Bd} {n : Nd} (_h0 : (tyE l n).2 ≠ 0) : (tyE l n).2 ≠ 1 ∨ (evE l n).2 = 1 := by
  unfold tyE evE
  cases hc : checkN n with
  | false => exact Or.inr rfl
  | true => exact Or.inl (typeN_ne l n)

theorem may_good {w : World} {L : List (Value × Nd)} {M : List (Value × List Bd)} {W : World} (h : Good w L M W) {vv : Value} {l : List Bd} (hl : (vv, l) ∈ M) {r : Bool} (hr : mayB l = r) :
    Calls Tryd.prog 16 #[vv] W fun x w' => x = .returned (.bool r) ∧ Good w L M w' := by
  subst hr
  exact (may_any W vv l (h.bds _ hl) h.tabs).mono fun _ _ ⟨he, hbe⟩ => ⟨he, h.to hbe⟩
theorem typ_good {w : World} {L : List (Value × Nd)} {M : List (Value × List Bd)} {W : World} (h : Good w L M W) {a : Nd} {va vv : Value} {l : List Bd} (ha : (va, a) ∈ L) (hl : (vv, l) ∈ M) {v e : Int} (hr : tyE l a = (v, e)) :
    Calls Tryd.prog 17 #[valN a va, vv] W fun x w' => x = .returned (.tuple #[.int .u8 v, .int .i64 e]) ∧ Good w L M w' :=
  (typ_any W a va vv l (h.nd ha) (h.bds _ hl) h.tabs).mono fun _ _ ⟨he, hbe⟩ => by rw [hr] at he; exact ⟨he, h.to hbe⟩

section
variable (W : World) (hT : Tabs8 W) (a : Nd) (va vv : Value) (l : List Bd) (ha : NdR W W.heap.size va a) (hl : BdsR W W.heap.size vv l)
include hT ha hl
set_option maxHeartbeats 4000000 in
theorem evalTypes_out (h : deepB 60 a = true ∨ mayB l = false) :
    Calls Tryd.prog 5 #[valN a va, vv] W fun e w' => e = .returned (.bool true) ∧ Below W.heap.size W w' := by
  obtain ⟨w1, p0, hp0, hw1, l0, n0, hb1⟩ := box_new W (objN a.op a.v a.name va)
  have cur : Good w1 [(va, a)] [(vv, l)] w1 := ⟨Below.refl _ _, by simp; exact ha.to hb1, by simp; exact hl.to hb1, Utf8Tabs_below hT hb1⟩
  have HP := Lib.hid (fun V (h : Below w1.heap.size w1 V) => n_cells ((h.block p0 l0).trans n0))
  have HB := Lib.hid hb1
  cases d1 : deepB 60 a with
  | true =>
    have D1 := Lib.hid d1
    clear d1 h ha hl hT hb1 n0
    obtain ⟨c0, c1, c2, c3, c4, c5, c6⟩ := HP.out w1 (Below.refl _ _)
    go_enter Tryd.func5, Tryd.ntmps5
    go_wp2_with (first
      | (go_at_call 7; refine (works_good cur).mono ?_; rintro e wz ⟨rfl, cur⟩; clear c0 c1 c2 c3 c4 c5 c6; obtain ⟨c0, c1, c2, c3, c4, c5, c6⟩ := HP.out _ cur.below)
      | (go_at_call 8; refine (deep_good cur (by simp) D1.out).mono ?_; rintro e wz ⟨rfl, cur⟩; clear c0 c1 c2 c3 c4 c5 c6; obtain ⟨c0, c1, c2, c3, c4, c5, c6⟩ := HP.out _ cur.below))
    go_ret
    exact ⟨rfl, HB.out.trans (cur.below.mono HB.out.size)⟩
  | false =>
    have d2 : mayB l = false := by
      rcases h with h | h
      · rw [d1] at h; cases h
      · exact h
    have D1 := Lib.hid d1
    have D2 := Lib.hid d2
    clear d1 d2 h ha hl hT hb1 n0
    obtain ⟨c0, c1, c2, c3, c4, c5, c6⟩ := HP.out w1 (Below.refl _ _)
    go_enter Tryd.func5, Tryd.ntmps5
    go_wp2_with (first
      | (go_at_call 7; refine (works_good cur).mono ?_; rintro e wz ⟨rfl, cur⟩; clear c0 c1 c2 c3 c4 c5 c6; obtain ⟨c0, c1, c2, c3, c4, c5, c6⟩ := HP.out _ cur.below)
      | (go_at_call 16; refine (may_good cur (by simp) D2.out).mono ?_; rintro e wz ⟨rfl, cur⟩; clear c0 c1 c2 c3 c4 c5 c6; obtain ⟨c0, c1, c2, c3, c4, c5, c6⟩ := HP.out _ cur.below)
      | (go_at_call 8; refine (deep_good cur (by simp) D1.out).mono ?_; rintro e wz ⟨rfl, cur⟩; clear c0 c1 c2 c3 c4 c5 c6; obtain ⟨c0, c1, c2, c3, c4, c5, c6⟩ := HP.out _ cur.below))
    go_ret
    exact ⟨rfl, HB.out.trans (cur.below.mono HB.out.size)⟩
set_option maxHeartbeats 4000000 in
theorem evalTypes_in (d1 : deepB 60 a = false) (d2 : mayB l = true) :
    Calls Tryd.prog 5 #[valN a va, vv] W fun e w' => e = .returned (.bool true) ∧ Below W.heap.size W w' := by
  obtain ⟨w1, p0, hp0, hw1, l0, n0, hb1⟩ := box_new W (objN a.op a.v a.name va)
  have cur : Good w1 [(va, a)] [(vv, l)] w1 := ⟨Below.refl _ _, by simp; exact ha.to hb1, by simp; exact hl.to hb1, Utf8Tabs_below hT hb1⟩
  have HP := Lib.hid (fun V (h : Below w1.heap.size w1 V) => n_cells ((h.block p0 l0).trans n0))
  have HB := Lib.hid hb1
  have D1 := Lib.hid d1
  have D2 := Lib.hid d2
  have hv : VlW (evE l a).1 := by
    unfold evE
    split
    · exact vlw_N (fun b hb => by obtain ⟨_, _, _, _, _, _, h⟩ := hl; exact (h b hb).1) a ha.deep
    · exact VlW.zero
  have M1 := Lib.hid (fun h => types_main (l := l) (n := a) d2 h)
  have M2 := Lib.hid (fun h => types_err (l := l) (n := a) h)
  obtain ⟨t, ht⟩ : ∃ t, tyE l a = t := ⟨_, rfl⟩
  obtain ⟨r, hr⟩ : ∃ r, evE l a = r := ⟨_, rfl⟩
  rw [ht, hr] at M1 M2
  rw [hr] at hv
  obtain ⟨tk, te⟩ := t
  obtain ⟨rv, re⟩ := r
  have ET := Lib.hid ht
  have ER := Lib.hid hr
  clear d1 d2 ha hl hT hb1 n0 ht hr
  obtain ⟨c0, c1, c2, c3, c4, c5, c6⟩ := HP.out w1 (Below.refl _ _)
  go_enter Tryd.func5, Tryd.ntmps5
  go_wp2_with (first
    | (go_at_call 7; refine (works_good cur).mono ?_; rintro e wz ⟨rfl, cur⟩; clear c0 c1 c2 c3 c4 c5 c6; obtain ⟨c0, c1, c2, c3, c4, c5, c6⟩ := HP.out _ cur.below)
    | (go_at_call 16; refine (may_good cur (by simp) D2.out).mono ?_; rintro e wz ⟨rfl, cur⟩; clear c0 c1 c2 c3 c4 c5 c6; obtain ⟨c0, c1, c2, c3, c4, c5, c6⟩ := HP.out _ cur.below)
    | (go_at_call 8; refine (deep_good cur (by simp) D1.out).mono ?_; rintro e wz ⟨rfl, cur⟩; clear c0 c1 c2 c3 c4 c5 c6; obtain ⟨c0, c1, c2, c3, c4, c5, c6⟩ := HP.out _ cur.below)
    | (go_at_call 17; refine (typ_good (l := l) cur (by simp) (by simp) ET.out).mono ?_; rintro e wz ⟨rfl, cur⟩; clear c0 c1 c2 c3 c4 c5 c6; obtain ⟨c0, c1, c2, c3, c4, c5, c6⟩ := HP.out _ cur.below)
    | (go_at_call 13; refine (eval_good (l := l) cur (by simp) (by simp) ER.out).mono ?_; rintro e wz ⟨rfl, cur⟩; refine Hid.out ?_))
  refine Lib.hid ?_
  obtain ⟨w7, p7, hp7, hw7, l7, n7, b7⟩ := box_new wz (objV rv)
  have cur := cur.to b7
  have hT7 := cur.tabs
  obtain ⟨v0, v1, v2, v3⟩ := v_cells n7
  have HE := Lib.hid (HB.out.trans (cur.below.mono HB.out.size))
  clear n7 b7 c0 c1 c2 c3 c4 c5 c6 cur
  by_cases hte : te = 0
  · have dt : (te != 0) = false := by simpa using hte
    rcases M1.out hte with h91 | ⟨h0, hk, hc⟩
    · have dr : (re == 91) = true := by simpa using h91
      clear hte h91
      go_wp2_with fail
      go_ret
      exact ⟨rfl, HE.out⟩
    · have h91 : re ≠ 91 := by intro h; rw [h] at h0; cases h0
      have dr : (re == 91) = false := by simpa using h91
      have d0 : (re == 0) = true := by simpa using h0
      have dk : (rv.kind == tk) = true := by simpa using hk
      have C := Lib.hid (vcheck_any w7 rv hv hT7)
      rw [show checkE rv = 0 by unfold checkE; rw [show checkB rv = true from hc]; rfl] at C
      clear hte h91 h0 hk hc hv hT7
      go_wp2_with (go_at_call 18; refine C.out.mono ?_; rintro e wy ⟨rfl, hbz⟩; refine Hid.out ?_)
      refine Lib.hid ?_
      have HF := Lib.hid (HE.out.trans (hbz.mono HE.out.size))
      clear hbz
      go_wp2_with fail
      go_ret
      exact ⟨rfl, HF.out⟩
  · have dt : (te != 0) = true := by simpa using hte
    rcases M2.out hte with h1 | h1
    · have d1 : (te != 1) = true := by simpa using h1
      clear hte h1
      go_wp2_with fail
      go_ret
      exact ⟨rfl, HE.out⟩
    · have d2 : (re == 1) = true := by simpa using h1
      clear hte h1
      by_cases ht1 : te = 1
      · have d1 : (te != 1) = false := by simpa using ht1
        clear ht1
        go_wp2_with fail
        go_ret
        exact ⟨rfl, HE.out⟩
      · have d1 : (te != 1) = true := by simpa using ht1
        clear ht1
        go_wp2_with fail
        go_ret
        exact ⟨rfl, HE.out⟩
end
theorem evalTypes_walk (W : World) (hT : Tabs8 W) (a : Nd) (va : Value) (ha : NdR W W.heap.size va a) (vv : Value) (l : List Bd) (hl : BdsR W W.heap.size vv l) :
    Calls Tryd.prog 5 #[valN a va, vv] W fun e w' => e = .returned (.bool true) ∧ Below W.heap.size W w' := by
  cases d1 : deepB 60 a with
  | true => exact evalTypes_out W hT a va vv l ha hl (Or.inl d1)
  | false =>
    cases d2 : mayB l with
    | false => exact evalTypes_out W hT a va vv l ha hl (Or.inr d2)
    | true => exact evalTypes_in W hT a va vv l ha hl d1 d2
end Go.Proofs.YtjfiijbmkcfooaaDoor
