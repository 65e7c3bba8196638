/- The walk of the law NetOrders. -/
import Derived.Test.YtopgakpggnkkmaaNetCmp
import Derived.Test.YtopgakpggnkkmaaOpenNet
namespace Go.Proofs.Ytopgakpggnkkmaa
open Go.RowKit

theorem below_drewN' {w : World} (n : Nat) : Below w.heap.size w (w.drewN n) := below_drewN (Below.refl _ _) n

theorem ints_drewN {w : World} {B : Nat} {v : Value} {l : List Int} (h : Ints w B v l) (n : Nat) : Ints (w.drewN n) B v l := h.mono (below_drewN (Below.refl _ _) n) (Nat.le_refl _)

def LenIf (s : Bool) (a b : List Int) : Prop := s = true → a.length = b.length
theorem LenIf.no (a b : List Int) : LenIf false a b := fun h => Bool.noConfusion h

set_option maxHeartbeats 1000000 in
theorem netOrders_walk (W : World) (va : Value) (a : List Int) (ha : Ints W W.heap.size va a) (_ga : I64s a) (vb : Value) (b : List Int) (hb : Ints W W.heap.size vb b) (_gb : I64s b) :
    Calls Try.prog 4 #[va, vb] W fun e w' => e = .returned (.bool true) ∧ Below W.heap.size W w' := by
  obtain ⟨aa, ca, rfl⟩ := ha.val
  obtain ⟨ab, cb, rfl⟩ := hb.val
  have hla := ha.len
  have hlb := hb.len
  obtain ⟨s0, hs0⟩ : ∃ s0 : Bool, ((a.length : Int) == (b.length : Int)) = s0 := ⟨_, rfl⟩
  have Hs0 : Hid ((s0 && coversB a b) = coversB a b ∧ (s0 = true → a.length = b.length)) := by
    subst hs0
    by_cases h : a.length = b.length
    · exact ⟨by simp [h], fun _ => h⟩
    · exact ⟨by rw [coversB_ne a b h]; simp, fun hh => by simp at hh; omega⟩
  go_enter Try.func4, Try.ntmps4
  go_wp2_with fail
  go_loopg [5, 6] a.length (fun g s5 s6 wr => ∃ (k : Nat) (s : Bool) (n : Nat), k + g = a.length ∧ k ≤ b.length ∧ s5 = .bool s ∧ s6 = .int .i64 k ∧ Hid ((s && coversB (a.drop k) (b.drop k)) = coversB a b) ∧ LenIf s a b ∧ wr = W.drewN n)
  case atStart => exact ⟨0, s0, 0, by omega, by omega, rfl, rfl, Hs0.out.1, Hs0.out.2, rfl⟩
  case round =>
    obtain ⟨k, s, n, hkg, hkb, rfl, rfl, hcov, hlen, rfl⟩ := hrel
    clear hs0
    by_cases hk : k < a.length ∧ k < b.length
    · obtain ⟨hk1, hk2⟩ := hk
      obtain ⟨ba, oa, rfl, _, hca⟩ := ha.col k hk1
      obtain ⟨bb, ob, rfl, _, hcb⟩ := hb.col k hk2
      have hdr := Lib.hid (coversB_drop (a := a) (b := b) (k := k) hk1 hk2)
      cases s with
      | false =>
        have Hf : Hid ((false && coversB (a.drop (k + 1)) (b.drop (k + 1))) = coversB a b) := by rw [← hcov.out]; exact rfl
        go_wp2_with fail
        go_quiet (fail)
        go_wp2_with fail
        go_roundg (gk - 1)
        case measure => omega
        case rel => exact ⟨k + 1, false, _, by omega, by omega, rfl, by go_num, Hf, LenIf.no a b, rfl⟩
      | true =>
        by_cases h1 : b[k] ≤ a[k]
        · have Hf : Hid ((true && coversB (a.drop (k + 1)) (b.drop (k + 1))) = coversB a b) := by rw [← hcov.out, hdr.out, decide_eq_true h1]; exact rfl
          go_wp2_with fail
          go_quiet (fail)
          go_wp2_with fail
          go_roundg (gk - 1)
          case measure => omega
          case rel => exact ⟨k + 1, true, _, by omega, by omega, rfl, by go_num, Hf, hlen, rfl⟩
        · have hd1 : decide (b[k] ≤ a[k]) = false := decide_eq_false h1
          have Hf : Hid ((false && coversB (a.drop (k + 1)) (b.drop (k + 1))) = coversB a b) := by rw [← hcov.out, hdr.out, decide_eq_false h1]; exact rfl
          go_wp2_with fail
          go_quiet (fail)
          go_wp2_with fail
          go_roundg (gk - 1)
          case measure => omega
          case rel => exact ⟨k + 1, false, _, by omega, by omega, rfl, by go_num, Hf, LenIf.no a b, rfl⟩
    · have Hs : Hid (coversB a b = s) := by
        rw [← hcov.out]
        cases s with
        | false => rfl
        | true => have := hlen rfl; rw [coversB_end (by omega) (by omega)]; rfl
      have hss : (s == s) = true := by simp
      have hcc : (cmpL a b == cmpL a b) = true := by simp
      by_cases hk1 : k < a.length
      · have hk2 : ¬ ((k : Int) < (b.length : Int)) := by omega
        go_wp2_with (first | (go_at_call 12; go_must (refine (covers_any _ _ _ _ _ _ (ints_drewN ha n) (ints_drewN hb n)).mono ?_; rw [Hs.out]; rintro e w2 ⟨rfl, rfl⟩)) | (go_at_call 13; go_must (refine (cmp_any _ _ _ _ _ _ (ints_drewN ha n) (ints_drewN hb n)).mono ?_; rintro e w2 ⟨rfl, rfl⟩)) | (go_at_call 14; go_must (refine (refcmp_any _ _ _ _ _ _ (ints_drewN ha n) (ints_drewN hb n)).mono ?_; rintro e w2 ⟨rfl, m, rfl⟩)))
        go_ret
        exact ⟨rfl, below_drewN' _⟩
      · have hk2 : ¬ ((k : Int) < (a.length : Int)) := by omega
        go_wp2_with (first | (go_at_call 12; go_must (refine (covers_any _ _ _ _ _ _ (ints_drewN ha n) (ints_drewN hb n)).mono ?_; rw [Hs.out]; rintro e w2 ⟨rfl, rfl⟩)) | (go_at_call 13; go_must (refine (cmp_any _ _ _ _ _ _ (ints_drewN ha n) (ints_drewN hb n)).mono ?_; rintro e w2 ⟨rfl, rfl⟩)) | (go_at_call 14; go_must (refine (refcmp_any _ _ _ _ _ _ (ints_drewN ha n) (ints_drewN hb n)).mono ?_; rintro e w2 ⟨rfl, m, rfl⟩)))
        go_ret
        exact ⟨rfl, below_drewN' _⟩

end Go.Proofs.Ytopgakpggnkkmaa
