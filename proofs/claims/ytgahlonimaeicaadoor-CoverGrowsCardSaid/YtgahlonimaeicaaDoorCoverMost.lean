/- (*Tree).Most, cover.Bounded, (*Tree).Covered on no tree. -/
import Derived.Test.YtgahlonimaeicaaDoorCoverCov
import Derived.Test.YtgahlonimaeicaaDoorCoverWorks
set_option maxRecDepth 100000
namespace Go.Proofs.YtgahlonimaeicaaDoor
open Go.RowKit

/-- The most that a place has, from what was found on. -/
def mostF (p : Nat) : List Nd → Int → Int
  | [], o => o
  | d :: l, o => mostF p l (if moreB (getI d.mark (p : Int)) o then getI d.mark (p : Int) else o)
theorem mostF_drop {p : Nat} {l : List Nd} {k : Nat} (h : k < l.length) (o : Int) : mostF p (l.drop k) o = mostF p (l.drop (k + 1)) (if moreB (getI l[k].mark (p : Int)) o then getI l[k].mark (p : Int) else o) := by
  rw [List.drop_eq_getElem_cons h]; rfl

theorem most_nil (w : World) (p : Int) : Calls Tryd.prog 19 #[.pointer none, .int .i64 p] w fun e w' => e = .returned (.tuple #[.int .i64 0, .int .i64 2]) ∧ w = w' := by
  go_enter Tryd.func19, Tryd.ntmps19
  go_wp2_with fail
  go_ret2
  exact ⟨rfl, rfl⟩
theorem covered_nil (w : World) (a : Option Addr) (m c : Nat) : Calls Tryd.prog 20 #[.pointer none, .slice a m c] w fun e w' => e = .returned (.tuple #[.int .i64 0, .bool false]) ∧ Below w.heap.size w w' := by
  go_enter Tryd.func20, Tryd.ntmps20
  go_wp2_with fail
  go_ret2
  exact ⟨rfl, (Below.refl _ _).alloc (Nat.le_refl _) _⟩

theorem most_bad (w : World) (B b : Nat) (l : List Nd) (h : TreeR w B b l) (hB : B ≤ w.heap.size) (hl : 0 < l.length) (p : Int) (hp : ¬ (0 ≤ p ∧ p < ((ndAt l 0).mark.length : Int))) :
    Calls Tryd.prog 19 #[.pointer (some ⟨b, 0, none⟩), .int .i64 p] w fun e w' => e = .returned (.tuple #[.int .i64 0, .int .i64 1]) ∧ w = w' := by
  obtain ⟨a, cap, hbB, hlm, hc, hn⟩ := h
  obtain ⟨bn, on, v, rfl, hbn, h0, h1, h2, h3, hm⟩ := hn 0 hl
  rw [← ndAt_eq hl] at hm
  rw [Nat.zero_mul, Nat.add_zero] at h2
  obtain ⟨am, cm, rfl⟩ := hm.val
  have hbw : b < w.heap.size := by omega
  obtain ⟨L, hL⟩ : ∃ L, (ndAt l 0).mark.length = L := ⟨_, rfl⟩
  rw [hL] at hp h2
  clear hL hn hm h0 h1 h3
  by_cases hp0 : p < 0
  · clear hp
    go_enter Tryd.func19, Tryd.ntmps19
    go_wp2_with fail
    go_ret2
    exact ⟨rfl, rfl⟩
  · have hp1 : (L : Int) ≤ p := by omega
    clear hp
    go_enter Tryd.func19, Tryd.ntmps19
    go_wp2_with fail
    go_ret2
    exact ⟨rfl, rfl⟩

set_option maxHeartbeats 1000000 in
theorem most_any (w : World) (B b : Nat) (l : List Nd) (h : TreeR w B b l) (hB : B ≤ w.heap.size) (hl : 0 < l.length) (p : Nat) (hp : ∀ d ∈ l, p < d.mark.length) :
    Calls Tryd.prog 19 #[.pointer (some ⟨b, 0, none⟩), .int .i64 (p : Int)] w fun e w' => e = .returned (.tuple #[.int .i64 (mostF p l 0), .int .i64 0]) ∧ Below w.heap.size w w' := by
  obtain ⟨a, cap, hbB, hlm, hc, hn⟩ := h
  obtain ⟨bn, on, v, rfl, hbn, h0, h1, h2, h3, hm⟩ := hn 0 hl
  have hp0 := hp _ (List.getElem_mem hl)
  rw [Nat.zero_mul, Nat.add_zero] at h2
  obtain ⟨am, cm, rfl⟩ := hm.val
  have hbw : b < w.heap.size := by omega
  obtain ⟨L, hL⟩ : ∃ L, l[0].mark.length = L := ⟨_, rfl⟩
  rw [hL] at h2 hp0
  have HP := Lib.hid hp
  have d1 : decide ((p : Int) < 0) = false := decide_eq_false (by omega)
  have d2 : decide (L ≤ p) = false := decide_eq_false (by omega)
  clear hL hm h0 h1 h3 hp
  go_enter Tryd.func19, Tryd.ntmps19
  go_wp2_with fail
  go_loopg [6, 32] l.length (fun gh s6 s32 wr => ∃ (k : Nat) (o : Int), k + gh = l.length ∧ s32 = .int .i64 (k : Int) ∧ s6 = .int .i64 o ∧ Hid (mostF p (l.drop k) o = mostF p l 0) ∧ Below w.heap.size w wr)
  case atStart => exact ⟨0, 0, by omega, rfl, rfl, rfl, Below.refl _ _⟩
  case round =>
    obtain ⟨k, o, hkg, rfl, rfl, hO, hbr⟩ := hrel
    by_cases hk : k < l.length
    · obtain ⟨b', o', v, hbo, hb', h0, h1, h2', h3, hm⟩ := hn k hk
      cases hbo
      rw [← Below.cellB hbr (by omega)] at h0 h1 h2' h3
      have hst := Lib.hid (mostF_drop (p := p) hk o)
      have hpk := HP.out _ (List.getElem_mem hk)
      obtain ⟨d, hd⟩ : ∃ d, l[k] = d := ⟨_, rfl⟩
      rw [hd] at h0 h1 h3 hm hst hpk
      clear hd
      obtain ⟨am2, cm2, rfl⟩ := hm.val
      obtain ⟨bm, om, rfl, hbm, hcm⟩ := hm.col p hpk
      have hz := hbr.size
      obtain ⟨W1, hW1⟩ : ∃ W1, wr.alloc (.cells #[.int .i64 d.par, .int .i64 d.tr, .slice (some ⟨bm, om, none⟩) d.mark.length cm2, .int .i64 d.again] 36) = W1 := ⟨_, rfl⟩
      have hbW : Below wr.heap.size wr W1 := by rw [← hW1]; exact (Below.refl _ _).alloc (Nat.le_refl _) _
      have hxW : W1.heap[wr.heap.size]? = some (.cells #[.int .i64 d.par, .int .i64 d.tr, .slice (some ⟨bm, om, none⟩) d.mark.length cm2, .int .i64 d.again] 36) := by rw [← hW1]; exact heap_alloc_new _ _
      have hbr1 := hbr.trans (hbW.mono hz)
      rw [← Below.cellB hbr1 (by omega)] at hcm
      obtain ⟨q0, q1, q2, q3⟩ := box4 hxW
      rw [getI_eq hpk] at hst
      obtain ⟨x, hx⟩ : ∃ x, d.mark[p] = x := ⟨_, rfl⟩
      rw [hx] at hcm hst
      clear hx
      cases hmr : moreB x o with
      | true =>
        rw [hmr, if_pos rfl] at hst
        have Hm := Lib.hid hmr
        clear hmr
        go_wp2_with (go_at_call 43; refine (more_is Hm.out _).mono ?_; rintro e w8 ⟨rfl, rfl⟩)
        go_roundg (gk - 1)
        case measure => omega
        case rel => exact ⟨k + 1, x, by omega, by go_num, rfl, Lib.hid (by rw [← hst.out]; exact hO.out), hbr1⟩
      | false =>
        rw [hmr, if_neg (by simp)] at hst
        have Hm := Lib.hid hmr
        clear hmr
        go_wp2_with (go_at_call 43; refine (more_is Hm.out _).mono ?_; rintro e w8 ⟨rfl, rfl⟩)
        go_roundg (gk - 1)
        case measure => omega
        case rel => exact ⟨k + 1, o, by omega, by go_num, rfl, Lib.hid (by rw [← hst.out]; exact hO.out), hbr1⟩
    · have hfin : Hid (mostF p l 0 = o) := by rw [← hO.out, List.drop_eq_nil_of_le (by omega)]; exact rfl
      have hk' : ¬ ((k : Int) < (l.length : Int)) := by omega
      go_wp2_with fail
      go_ret2
      rw [hfin.out]
      exact ⟨rfl, hbr⟩

theorem boundedNet_no (w : World) (B : Nat) (hB : B ≤ w.heap.size) (vp vt : Value) (n : Nt) (hn : NtR w B vp vt n) (most : Int) (htab : Pow10 B w) {c : Int} (h : growR n most = .inl c) :
    Calls Tryd.prog 18 #[.agg #[vp, vt, .int .i64 n.init, .int .i64 n.final], .int .i64 most] w fun e w' => e = .returned (.tuple #[.bool false, .int .i64 c]) ∧ Below w.heap.size w w' := by
  have hbA := (Below.refl w.heap.size w).alloc (Nat.le_refl _) (.cells #[vp, vt, .int .i64 n.init, .int .i64 n.final] 25)
  have G := Lib.hid (grow_no _ B (by simp; omega) _ _ n (hn.mono (hbA.mono hB) (Nat.le_refl _)) most (htab.on (hbA.mono hB)) h)
  obtain ⟨ap, cp, rfl⟩ := hn.1.val
  obtain ⟨at_, ct, rfl⟩ := hn.2.val
  clear h
  go_enter Tryd.func18, Tryd.ntmps18
  go_wp2_with (go_at_call 12; go_must (refine G.out.mono ?_; rintro e w2 ⟨rfl, hb2⟩; refine Hid.out ?_))
  refine Lib.hid ?_
  go_wp2_with (go_at_call 22; go_must (refine (bounded_nil _).mono ?_; rintro e w3 ⟨rfl, rfl⟩))
  go_ret2
  exact ⟨rfl, hbA.trans (hb2.mono (by simp))⟩
theorem boundedNet_ok (w : World) (B : Nat) (hB : B ≤ w.heap.size) (vp vt : Value) (n : Nt) (hn : NtR w B vp vt n) (most : Int) (htab : Pow10 B w) {l : List Nd} (h : growR n most = .inr l) :
    Calls Tryd.prog 18 #[.agg #[vp, vt, .int .i64 n.init, .int .i64 n.final], .int .i64 most] w fun e w' => e = .returned (.tuple #[.bool (boundedB l), .int .i64 0]) ∧ Below w.heap.size w w' := by
  have hbA := (Below.refl w.heap.size w).alloc (Nat.le_refl _) (.cells #[vp, vt, .int .i64 n.init, .int .i64 n.final] 25)
  have G := Lib.hid (grow_ok _ B (by simp; omega) _ _ n (hn.mono (hbA.mono hB) (Nat.le_refl _)) most (htab.on (hbA.mono hB)) h)
  obtain ⟨ap, cp, rfl⟩ := hn.1.val
  obtain ⟨at_, ct, rfl⟩ := hn.2.val
  obtain ⟨t, ht⟩ : ∃ t, boundedB l = t := ⟨_, rfl⟩
  rw [ht]
  have HT := Lib.hid ht
  clear h ht
  go_enter Tryd.func18, Tryd.ntmps18
  go_wp2_with (go_at_call 12; go_must (refine G.out.mono ?_; rintro e w2 ⟨p, rfl, hT, -, hb2⟩; refine Hid.out ?_))
  refine Lib.hid ?_
  have HB := bounded_any _ _ p l hT (Nat.le_refl _)
  rw [HT.out] at HB
  have HB' := Lib.hid HB
  clear HB
  go_wp2_with (go_at_call 22; go_must (refine HB'.out.mono ?_; rintro e w3 ⟨rfl, hb3⟩))
  go_ret2
  exact ⟨rfl, hbA.trans ((hb2.trans (hb3.mono hb2.size)).mono (by simp))⟩

end Go.Proofs.YtgahlonimaeicaaDoor
