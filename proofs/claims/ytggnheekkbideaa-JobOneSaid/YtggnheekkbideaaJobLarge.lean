/- tollgatelaw24.large. -/
import Derived.Test.YtggnheekkbideaaJobAwake
set_option maxRecDepth 100000
namespace Go.Proofs.Ytggnheekkbideaa
open Go.RowKit

def sumL (l : List Ins) : Nat → Nat
  | 0 => 0
  | i + 1 => sumL l i + (atL l i).toks.length + (atL l i).vars.length
def largeN (l : List Ins) : Nat := l.length + sumL l (min l.length 300)
def largeB (l : List Ins) : Bool := decide (300 < largeN l)
theorem sumL_mono (l : List Ins) : ∀ {a b : Nat}, a ≤ b → sumL l a ≤ sumL l b := by
  intro a b h
  induction b with
  | zero => obtain rfl : a = 0 := by omega
            exact Nat.le_refl _
  | succ b ih =>
    by_cases e : a = b + 1
    · rw [e]; exact Nat.le_refl _
    · have := ih (by omega)
      show _ ≤ sumL l b + _ + _
      omega
theorem sumL_bound (l : List Ins) (h : ∀ i, i < l.length → (atL l i).toks.length ≤ 1466015503658 ∧ (atL l i).vars.length ≤ 2513169434843) : ∀ i, i ≤ l.length → sumL l i ≤ i * 3979184938501
  | 0, _ => by simp [sumL]
  | i + 1, hi => by
    have := sumL_bound l h i (by omega)
    have := h i (by omega)
    show sumL l i + _ + _ ≤ _
    omega
theorem small_len {l : List Ins} (h : largeB l = false) : l.length ≤ 300 ∧ sumL l l.length ≤ 300 := by
  have h1 : ¬ 300 < largeN l := of_decide_eq_false h
  unfold largeN at h1
  have : l.length ≤ 300 := by omega
  rw [Nat.min_eq_left this] at h1
  omega
theorem small_SmL {l : List Ins} (h : largeB l = false) : SmL l := by
  obtain ⟨h1, h2⟩ := small_len h
  refine ⟨by omega, fun x hx => ?_⟩
  obtain ⟨i, hi, rfl⟩ := List.getElem_of_mem hx
  have h3 := sumL_mono l (show i + 1 ≤ l.length by omega)
  have e : sumL l (i + 1) = sumL l i + (atL l i).toks.length + (atL l i).vars.length := rfl
  rw [e, atL_eq hi] at h3
  omega
theorem allN_sum (l : List Ins) : ∀ i, (allN l i).length ≤ sumL l i
  | 0 => Nat.le_refl _
  | i + 1 => by
    have := allN_sum l i
    show (allN l i ++ insN i (atL l i)).length ≤ sumL l i + _ + _
    rw [List.length_append]
    have : (insN i (atL l i)).length ≤ (atL l i).toks.length := by
      unfold insN
      split
      · rw [tokN_len]; exact Nat.le_refl _
      · simp
    omega
theorem small_many {l : List Ins} (h : largeB l = false) : (allT l).length ≤ 300 := by
  have := small_len h
  have := allN_sum l l.length
  unfold allT
  omega

set_option maxHeartbeats 2000000 in
theorem large_any (w : World) (v : Value) (l : List Ins) (hI : InsR w w.heap.size v l) :
    Calls Try.prog 8 #[v] w fun e w' => e = .returned (.bool (largeB l)) ∧ ∃ n, w' = w.drewN n := by
  have hlim : ∀ i, i < l.length → (atL l i).toks.length ≤ 1466015503658 ∧ (atL l i).vars.length ≤ 2513169434843 := fun i hi => by
    obtain ⟨a, c, e⟩ := hI.val
    subst e
    obtain ⟨b, o, rfl, _⟩ := hI.addr (by omega)
    obtain ⟨_, _, _, _, _, _, _, _, _, h1, h2⟩ := hI.at hi (x := atL l i) (by rw [atL_eq hi])
    exact ⟨h2.len, h1.len⟩
  have HLim := Lib.hid hlim
  have HI := Lib.hid hI
  have hll := hI.len
  obtain ⟨a, c, rfl⟩ := hI.val
  clear hI hlim
  go_enter Try.func8, Try.ntmps8
  go_wp2_with fail
  go_loopg [3, 4] (min l.length 300) (fun gh s3 s4 wx => ∃ i N : Nat, i + gh = min l.length 300 ∧ s4 = .int .i64 (i : Int) ∧ s3 = .int .i64 (N : Int) ∧ Hid (N = l.length + sumL l i) ∧ N ≤ 1195514700154690 ∧ ∃ k, wx = w.drewN k)
  case atStart => exact ⟨0, l.length, by omega, rfl, rfl, Lib.hid rfl, by omega, 0, rfl⟩
  case round =>
    obtain ⟨i, N, hig, rfl, rfl, hN, hNb, nd, rfl⟩ := hrel
    by_cases hi : i < min l.length 300
    · have hi1 : i < l.length := by omega
      obtain ⟨b, o, rfl, _⟩ := HI.out.addr (by omega)
      obtain ⟨av, cv, at_, ct, q0, q1, q2, q3, q4, _, _⟩ := HI.out.at hi1 (x := atL l i) (by rw [atL_eq hi1])
      obtain ⟨nt, hnt⟩ : ∃ nt, (atL l i).toks.length = nt := ⟨_, rfl⟩
      obtain ⟨nv, hnv⟩ : ∃ nv, (atL l i).vars.length = nv := ⟨_, rfl⟩
      have hl2 := HLim.out i hi1
      rw [hnt] at q4 hl2
      rw [hnv] at q3 hl2
      obtain ⟨hl3, hl4⟩ := hl2
      have hN2 : Hid (N + nt + nv = l.length + sumL l (i + 1)) := Lib.hid (by
        rw [hN.out]
        show _ = l.length + (sumL l i + _ + _)
        rw [hnt, hnv]; omega)
      have hb2 : N + nt + nv ≤ 1195514700154690 := by
        have := sumL_bound l HLim.out (i + 1) (by omega)
        have := hN2.out
        omega
      have d1 : decide ((i : Int) < (l.length : Int)) = true := decide_eq_true (by omega)
      have d2 : decide ((i : Int) < 300) = true := decide_eq_true (by omega)
      have i1 : (0 : Int) ≤ (i : Int) := by omega
      have i2 : (i : Int) < (l.length : Int) := by omega
      clear hnt hnv q0 q1 q2
      go_wp2_with fail
      go_quiet (fail)
      go_wp2_with fail
      go_roundg (min l.length 300 - (i + 1))
      case measure => omega
      case rel => exact ⟨i + 1, N + nt + nv, by omega, by go_num, by go_num, hN2, hb2, _, rfl⟩
    · have hE : Hid (decide (300 < (N : Int)) = largeB l) := Lib.hid (by
        unfold largeB largeN
        rw [hN.out, show i = min l.length 300 by omega, decide_eq_decide]
        omega)
      by_cases h1 : i < l.length
      · have d1 : decide ((i : Int) < (l.length : Int)) = true := decide_eq_true (by omega)
        have d2 : decide ((i : Int) < 300) = false := decide_eq_false (by omega)
        go_wp2_with fail
        go_ret
        exact ⟨ret_bool hE.out, _, rfl⟩
      · have d1 : decide ((i : Int) < (l.length : Int)) = false := decide_eq_false (by omega)
        go_wp2_with fail
        go_ret
        exact ⟨ret_bool hE.out, _, rfl⟩

end Go.Proofs.Ytggnheekkbideaa
