/- The walk of the law NetOrder. -/
import Derived.Test.YtopgakpggnkkmaaNetWorks
import Derived.Test.YtopgakpggnkkmaaOpenNet
namespace Go.Proofs.Ytopgakpggnkkmaa
open Go.RowKit

theorem cmp_is {x : Int} (w : World) (B : Nat) (va vb : Value) (a b : List Int) (ha : Ints w B va a) (hb : Ints w B vb b) (h : cmpL a b = x) :
    Calls Try.prog 13 #[va, vb] w fun e w' => e = .returned (.int .i64 x) ∧ w = w' := by
  rw [← h]; exact cmp_any w B va vb a b ha hb

set_option maxHeartbeats 2000000 in
theorem netOrder_walk (W : World) (va : Value) (a : List Int) (ha : Ints W W.heap.size va a) (_ga : I64s a) (vb : Value) (b : List Int) (hb : Ints W W.heap.size vb b) (_gb : I64s b) (vc : Value) (c : List Int) (hc : Ints W W.heap.size vc c) (_gc : I64s c) :
    Calls Try.prog 7 #[va, vb, vc] W fun e w' => e = .returned (.bool true) ∧ Below W.heap.size W w' := by
  obtain ⟨x, hx⟩ : ∃ x, cmpL a b = x := ⟨_, rfl⟩
  obtain ⟨y, hy⟩ : ∃ x, cmpL b a = x := ⟨_, rfl⟩
  obtain ⟨z, hz⟩ : ∃ x, cmpL b c = x := ⟨_, rfl⟩
  obtain ⟨u, hu⟩ : ∃ x, cmpL a c = x := ⟨_, rfl⟩
  obtain ⟨p, hp⟩ : ∃ x, coversB a b = x := ⟨_, rfl⟩
  obtain ⟨q, hq⟩ : ∃ x, coversB b a = x := ⟨_, rfl⟩
  obtain ⟨r, hr⟩ : ∃ x, coversB b c = x := ⟨_, rfl⟩
  obtain ⟨s, hs⟩ : ∃ x, coversB a c = x := ⟨_, rfl⟩
  have f1 : y = -x := by rw [← hx, ← hy]; exact cmpL_neg b a
  have f2 := cmpL_range a b
  have f3 : x ≤ 0 → z ≤ 0 → u ≤ 0 := by rw [← hx, ← hz, ← hu]; exact cmpL_trans a b c
  have f4 : p = true → 0 ≤ x := by rw [← hp, ← hx]; exact covers_cmp a b
  have f5 : p = true → q = true → x = 0 := by rw [← hp, ← hq, ← hx]; exact covers_both a b
  have f6 : p = true → r = true → s = true := by rw [← hp, ← hr, ← hs]; exact coversB_trans a b c
  have f7 : coversB a a = true := coversB_refl a
  rw [hx] at f2
  have hxy : (x != -y) = false := by rw [f1]; simp
  have y1 : -1 ≤ y := by omega
  have y2 : y ≤ 1 := by omega
  have Hf := Lib.hid (And.intro f3 (And.intro f4 (And.intro f5 f6)))
  clear f1 f3 f4 f5 f6
  have HF := Lib.hid (And.intro hx (And.intro hy (And.intro hz (And.intro hu (And.intro hp (And.intro hq (And.intro hr (And.intro hs f7))))))))
  clear hx hy hz hu hp hq hr hs f7
  obtain ⟨aa, ca, rfl⟩ := ha.val
  obtain ⟨ab, cb, rfl⟩ := hb.val
  obtain ⟨ac, cc, rfl⟩ := hc.val
  go_enter Try.func7, Try.ntmps7
  go_wp2_with fail
  refine (works_any _).mono ?_
  rintro e w1 ⟨rfl, hbel⟩
  obtain ⟨hx, hy, hz, hu, hp, hq, hr, hs, f7⟩ := HF.out
  have ha1 := ha.mono hbel (Nat.le_refl _)
  have hb1 := hb.mono hbel (Nat.le_refl _)
  have hc1 := hc.mono hbel (Nat.le_refl _)
  have C1 := Lib.hid (cmp_is _ _ _ _ _ _ ha1 hb1 hx)
  have C2 := Lib.hid (cmp_is _ _ _ _ _ _ hb1 ha1 hy)
  have C3 := Lib.hid (cmp_is _ _ _ _ _ _ hb1 hc1 hz)
  have C4 := Lib.hid (cmp_is _ _ _ _ _ _ ha1 hc1 hu)
  have C5 := Lib.hid (covers_is _ _ _ _ _ _ ha1 hb1 hp)
  have C6 := Lib.hid (covers_is _ _ _ _ _ _ hb1 ha1 hq)
  have C7 := Lib.hid (covers_is _ _ _ _ _ _ hb1 hc1 hr)
  have C8 := Lib.hid (covers_is _ _ _ _ _ _ ha1 hc1 hs)
  have C9 := Lib.hid (covers_is _ _ _ _ _ _ ha1 ha1 f7)
  clear hx hy hz hu hp hq hr hs f7 HF
  obtain ⟨f3, f4, f5, f6⟩ := Hf.out
  have key : (0 < x ∨ (x ≤ 0 ∧ 0 < z) ∨ (x ≤ 0 ∧ z ≤ 0 ∧ u ≤ 0)) ∧ ((p = false) ∨ (p = true ∧ 0 ≤ x ∧ q = false ∧ r = false) ∨ (p = true ∧ 0 ≤ x ∧ q = false ∧ r = true ∧ s = true) ∨ (p = true ∧ (x != 0) = false ∧ x = 0 ∧ q = true ∧ r = false) ∨ (p = true ∧ (x != 0) = false ∧ x = 0 ∧ q = true ∧ r = true ∧ s = true)) := by
    refine ⟨by omega, ?_⟩
    cases p with
    | false => exact Or.inl rfl
    | true =>
      right
      have g4 := f4 rfl
      cases q with
      | false =>
        cases r with
        | false => exact Or.inl ⟨rfl, g4, rfl, rfl⟩
        | true => exact Or.inr (Or.inl ⟨rfl, g4, rfl, rfl, f6 rfl rfl⟩)
      | true =>
        have g5 := f5 rfl rfl
        cases r with
        | false => exact Or.inr (Or.inr (Or.inl ⟨rfl, by simp [g5], g5, rfl, rfl⟩))
        | true => exact Or.inr (Or.inr (Or.inr ⟨rfl, by simp [g5], g5, rfl, rfl, f6 rfl rfl⟩))
  clear f3 f4 f5 f6 Hf f2
  obtain ⟨k1, k2⟩ := key
  rcases k1 with h1 | ⟨h1, h2⟩ | ⟨h1, h2, h3⟩ <;> rcases k2 with rfl | ⟨rfl, g1, rfl, rfl⟩ | ⟨rfl, g1, rfl, rfl, rfl⟩ | ⟨rfl, g0, g1, rfl, rfl⟩ | ⟨rfl, g0, g1, rfl, rfl, rfl⟩
  all_goals first
    | (exfalso; omega)
    | (try subst g1)
      go_wp2_with (first | (go_at_call 13; ((with_reducible refine C1.out.mono ?_); rintro e w2 ⟨rfl, rfl⟩)) | (go_at_call 13; ((with_reducible refine C2.out.mono ?_); rintro e w2 ⟨rfl, rfl⟩)) | (go_at_call 13; ((with_reducible refine C3.out.mono ?_); rintro e w2 ⟨rfl, rfl⟩)) | (go_at_call 13; ((with_reducible refine C4.out.mono ?_); rintro e w2 ⟨rfl, rfl⟩)) | (go_at_call 12; ((with_reducible refine C5.out.mono ?_); rintro e w2 ⟨rfl, rfl⟩)) | (go_at_call 12; ((with_reducible refine C6.out.mono ?_); rintro e w2 ⟨rfl, rfl⟩)) | (go_at_call 12; ((with_reducible refine C7.out.mono ?_); rintro e w2 ⟨rfl, rfl⟩)) | (go_at_call 12; ((with_reducible refine C8.out.mono ?_); rintro e w2 ⟨rfl, rfl⟩)) | (go_at_call 12; ((with_reducible refine C9.out.mono ?_); rintro e w2 ⟨rfl, rfl⟩)))
      go_ret
      exact ⟨rfl, hbel⟩

end Go.Proofs.Ytopgakpggnkkmaa
