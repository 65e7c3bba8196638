/- Which wide markings cover which: cover.Covers and the reference's Covers. -/
import Derived.Test.YtgahlonimaeicaaDoorBase
set_option maxRecDepth 100000
namespace Go.Proofs.YtgahlonimaeicaaDoor
open Go.RowKit

/-- Is x more than y, where -1 is without end? -/
def moreB (x y : Int) : Bool := !(y == -1) && (x == -1 || decide (y < x))

/-- Does a wide list cover another one? -/
def wcoversB : List Int → List Int → Bool
  | [], [] => true
  | x :: a, y :: b => !moreB y x && wcoversB a b
  | _, _ => false

theorem wcoversB_len : ∀ (a b : List Int), wcoversB a b = true → a.length = b.length
  | [], [], _ => rfl
  | x :: a, y :: b, h => by simp [wcoversB] at h; simp [wcoversB_len a b h.2]
  | [], _ :: _, h => by simp [wcoversB] at h
  | _ :: _, [], h => by simp [wcoversB] at h

theorem wcoversB_ne (a b : List Int) (h : a.length ≠ b.length) : wcoversB a b = false := by
  cases hh : wcoversB a b with
  | false => rfl
  | true => exact absurd (wcoversB_len a b hh) h

theorem wcoversB_drop {a b : List Int} {k : Nat} (ha : k < a.length) (hb : k < b.length) :
    wcoversB (a.drop k) (b.drop k) = (!moreB b[k] a[k] && wcoversB (a.drop (k + 1)) (b.drop (k + 1))) := by
  rw [List.drop_eq_getElem_cons ha, List.drop_eq_getElem_cons hb]; rfl

theorem wcoversB_end {a b : List Int} {k : Nat} (ha : a.length ≤ k) (hb : b.length ≤ k) : wcoversB (a.drop k) (b.drop k) = true := by
  rw [List.drop_eq_nil_of_le ha, List.drop_eq_nil_of_le hb]; rfl

theorem moreB_1 {x y : Int} (h : y = -1) : false = moreB x y := by simp [moreB, h]
theorem moreB_2 {x y : Int} (h1 : ¬ y = -1) (h2 : x = -1) : true = moreB x y := by simp [moreB, h1, h2]
theorem moreB_3 {x y : Int} (h1 : ¬ y = -1) (h2 : ¬ x = -1) : decide (y < x) = moreB x y := by
  unfold moreB
  rw [beq_eq_false_iff_ne.2 h1, beq_eq_false_iff_ne.2 h2]
  simp

theorem more_any (x y : Int) (w : World) : Calls Tryd.prog 43 #[.int .i64 x, .int .i64 y] w fun e w' => e = .returned (.bool (moreB x y)) ∧ w = w' := by
  by_cases h1 : y = -1
  · have e1 : (y != -1) = false := by simp [h1]
    have H1 := Lib.hid (moreB_1 (x := x) h1); clear h1
    go_enter Tryd.func43, Tryd.ntmps43
    go_wp2
    go_ret
    exact ⟨ret_bool H1.out, rfl⟩
  · have e1 : (y != -1) = true := by simp [h1]
    by_cases h2 : x = -1
    · have e2 : (x == -1) = true := by simp [h2]
      have H1 := Lib.hid (moreB_2 h1 h2); clear h1 h2
      go_enter Tryd.func43, Tryd.ntmps43
      go_wp2
      go_ret
      exact ⟨ret_bool H1.out, rfl⟩
    · have e2 : (x == -1) = false := by simp [h2]
      have H1 := Lib.hid (moreB_3 h1 h2); clear h1 h2
      go_enter Tryd.func43, Tryd.ntmps43
      go_wp2
      go_ret
      exact ⟨ret_bool H1.out, rfl⟩

theorem less_any (x y : Int) (w : World) : Calls Tryd.prog 52 #[.int .i64 x, .int .i64 y] w fun e w' => e = .returned (.bool (moreB y x)) ∧ w = w' := by
  by_cases h1 : x = -1
  · have e1 : (x == -1) = true := by simp [h1]
    have H1 := Lib.hid (moreB_1 (x := y) h1); clear h1
    go_enter Tryd.func52, Tryd.ntmps52
    go_wp2
    go_ret
    exact ⟨ret_bool H1.out, rfl⟩
  · have e1 : (x == -1) = false := by simp [h1]
    by_cases h2 : y = -1
    · have e2 : (y == -1) = true := by simp [h2]
      have H1 := Lib.hid (moreB_2 h1 h2); clear h1 h2
      go_enter Tryd.func52, Tryd.ntmps52
      go_wp2
      go_ret
      exact ⟨ret_bool H1.out, rfl⟩
    · have e2 : (y == -1) = false := by simp [h2]
      have H1 := Lib.hid (moreB_3 h1 h2); clear h1 h2
      go_enter Tryd.func52, Tryd.ntmps52
      go_wp2
      go_ret
      exact ⟨ret_bool H1.out, rfl⟩

theorem more_is {x y : Int} {t : Bool} (h : moreB x y = t) (w : World) : Calls Tryd.prog 43 #[.int .i64 x, .int .i64 y] w fun e w' => e = .returned (.bool t) ∧ w = w' := by
  rw [← h]; exact more_any x y w
theorem less_is {x y : Int} {t : Bool} (h : moreB y x = t) (w : World) : Calls Tryd.prog 52 #[.int .i64 x, .int .i64 y] w fun e w' => e = .returned (.bool t) ∧ w = w' := by
  rw [← h]; exact less_any x y w

set_option maxHeartbeats 400000 in
theorem wcovers_any (w : World) (B : Nat) (va vb : Value) (a b : List Int) (ha : Ints w B va a) (hb : Ints w B vb b) :
    Calls Tryd.prog 16 #[va, vb] w fun e w' => e = .returned (.bool (wcoversB a b)) ∧ ∃ n, w' = w.drewN n := by
  obtain ⟨aa, ca, rfl⟩ := ha.val
  obtain ⟨ab, cb, rfl⟩ := hb.val
  have hla := ha.len
  have hlb := hb.len
  by_cases hne : a.length = b.length
  · have H := Lib.hid hne
    have hz : ((a.length : Int) != (b.length : Int)) = false := by simp [hne]
    clear hne
    go_enter Tryd.func16, Tryd.ntmps16
    go_wp2_with fail
    go_loopg [13] a.length (fun g s13 wr => ∃ (k : Nat) (n : Nat), k + g = a.length ∧ s13 = .int .i64 k ∧ Hid (wcoversB (a.drop k) (b.drop k) = wcoversB a b) ∧ wr = w.drewN n)
    case atStart => exact ⟨0, 0, by omega, rfl, rfl, rfl⟩
    case round =>
      obtain ⟨k, n, hkg, rfl, hcov, rfl⟩ := hrel
      by_cases hk : k < a.length
      · obtain ⟨ba, oa, rfl, _, hca⟩ := ha.col k hk
        have hkb : k < b.length := by have := H.out; omega
        obtain ⟨bb, ob, rfl, _, hcb⟩ := hb.col k hkb
        have hdr := Lib.hid (wcoversB_drop (a := a) (b := b) (k := k) hk hkb)
        cases hm : moreB b[k] a[k] with
        | true =>
          have Hf : Hid (false = wcoversB a b) := by rw [← hcov.out, hdr.out, hm]; exact rfl
          have Hm := Lib.hid hm; clear hm
          go_wp2_with fail
          go_quiet ((go_at_call 43; exact quiet_add_left (more_is Hm.out _)))
          go_wp2_with fail
          go_ret
          exact ⟨ret_bool Hf.out, drewN2 _ _ _⟩
        | false =>
          have Hf : Hid (wcoversB (a.drop (k + 1)) (b.drop (k + 1)) = wcoversB a b) := by rw [← hcov.out, hdr.out, hm]; exact rfl
          have Hm := Lib.hid hm; clear hm
          go_wp2_with fail
          go_quiet ((go_at_call 43; exact quiet_add_left (more_is Hm.out _)))
          go_wp2_with fail
          go_roundg (gk - 1)
          case measure => omega
          case rel => exact ⟨k + 1, _, by omega, by go_num, Hf, rfl⟩
      · have hk' : ¬ ((k : Int) < (a.length : Int)) := by omega
        have Hf : Hid (true = wcoversB a b) := by rw [← hcov.out, wcoversB_end (by omega) (by have := H.out; omega)]; exact rfl
        go_wp2_with fail
        go_ret
        exact ⟨ret_bool Hf.out, _, rfl⟩
  · have hz : ((a.length : Int) != (b.length : Int)) = true := by simp; omega
    have Hf : Hid (false = wcoversB a b) := (wcoversB_ne a b hne).symm
    clear hne
    go_enter Tryd.func16, Tryd.ntmps16
    go_wp2_with fail
    go_ret
    exact ⟨ret_bool Hf.out, 0, rfl⟩

set_option maxHeartbeats 400000 in
theorem refwcovers_any (w : World) (B : Nat) (va vb : Value) (a b : List Int) (ha : Ints w B va a) (hb : Ints w B vb b) :
    Calls Tryd.prog 27 #[va, vb] w fun e w' => e = .returned (.bool (wcoversB a b)) ∧ ∃ n, w' = w.drewN n := by
  obtain ⟨aa, ca, rfl⟩ := ha.val
  obtain ⟨ab, cb, rfl⟩ := hb.val
  have hla := ha.len
  have hlb := hb.len
  by_cases hne : a.length = b.length
  · have H := Lib.hid hne
    have hz : ((a.length : Int) != (b.length : Int)) = false := by simp [hne]
    clear hne
    go_enter Tryd.func27, Tryd.ntmps27
    go_wp2_with fail
    go_loopg [5] a.length (fun g s5 wr => ∃ (k : Nat) (n : Nat), k + g = a.length ∧ s5 = .int .i64 k ∧ Hid (wcoversB (a.drop k) (b.drop k) = wcoversB a b) ∧ wr = w.drewN n)
    case atStart => exact ⟨0, 0, by omega, rfl, rfl, rfl⟩
    case round =>
      obtain ⟨k, n, hkg, rfl, hcov, rfl⟩ := hrel
      by_cases hk : k < a.length
      · obtain ⟨ba, oa, rfl, _, hca⟩ := ha.col k hk
        have hkb : k < b.length := by have := H.out; omega
        obtain ⟨bb, ob, rfl, _, hcb⟩ := hb.col k hkb
        have hdr := Lib.hid (wcoversB_drop (a := a) (b := b) (k := k) hk hkb)
        cases hm : moreB b[k] a[k] with
        | true =>
          have Hf : Hid (false = wcoversB a b) := by rw [← hcov.out, hdr.out, hm]; exact rfl
          have Hm := Lib.hid hm; clear hm
          go_wp2_with fail
          go_quiet ((go_at_call 52; exact quiet_add_left (less_is Hm.out _)))
          go_wp2_with fail
          go_ret
          exact ⟨ret_bool Hf.out, drewN2 _ _ _⟩
        | false =>
          have Hf : Hid (wcoversB (a.drop (k + 1)) (b.drop (k + 1)) = wcoversB a b) := by rw [← hcov.out, hdr.out, hm]; exact rfl
          have Hm := Lib.hid hm; clear hm
          go_wp2_with fail
          go_quiet ((go_at_call 52; exact quiet_add_left (less_is Hm.out _)))
          go_wp2_with fail
          go_roundg (gk - 1)
          case measure => omega
          case rel => exact ⟨k + 1, _, by omega, by go_num, Hf, rfl⟩
      · have hk' : ¬ ((k : Int) < (a.length : Int)) := by omega
        have Hf : Hid (true = wcoversB a b) := by rw [← hcov.out, wcoversB_end (by omega) (by have := H.out; omega)]; exact rfl
        go_wp2_with fail
        go_ret
        exact ⟨ret_bool Hf.out, _, rfl⟩
  · have hz : ((a.length : Int) != (b.length : Int)) = true := by simp; omega
    have Hf : Hid (false = wcoversB a b) := (wcoversB_ne a b hne).symm
    clear hne
    go_enter Tryd.func27, Tryd.ntmps27
    go_wp2_with fail
    go_ret
    exact ⟨ret_bool Hf.out, 0, rfl⟩

end Go.Proofs.YtgahlonimaeicaaDoor
