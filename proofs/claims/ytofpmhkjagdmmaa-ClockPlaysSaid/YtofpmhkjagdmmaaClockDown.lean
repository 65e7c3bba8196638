/- Package heap's down over a clock's queue. -/
import Derived.Test.YtofpmhkjagdmmaaClockUp
set_option maxRecDepth 100000
namespace Go.Proofs.Ytofpmhkjagdmmaa
open Go.RowKit

section
variable {α : Type} [Inhabited α] (lt : α → α → Bool)
theorem downF_more (n : Nat) : ∀ (f f' : Nat) (l : List α) (i : Nat), n - i ≤ f → n - i ≤ f' → downF lt f l i n = downF lt f' l i n
  | 0, 0, _, _, _, _ => rfl
  | 0, f' + 1, l, i, h, _ => by unfold downF; rw [if_pos (by omega)]
  | f + 1, 0, l, i, _, h => by unfold downF; rw [if_pos (by omega)]
  | f + 1, f' + 1, l, i, h, h' => by
    unfold downF
    by_cases e : n ≤ 2 * i + 1
    · rw [if_pos e, if_pos e]
    · rw [if_neg e, if_neg e]
      split
      · rfl
      · have hk := kid_lt lt (l := l) (i := i) (n := n) (by omega)
        exact downF_more n f f' _ _ (by omega) (by omega)
def dnE (l : List α) (i n : Nat) : List α := downF lt n l i n
theorem len_dnE (l : List α) (i n : Nat) : (dnE lt l i n).length = l.length := len_downF lt _ _ _ _
theorem dnE_end {l : List α} {i n : Nat} (h : n ≤ 2 * i + 1) : dnE lt l i n = l := by
  unfold dnE
  cases n with
  | zero => rfl
  | succ n => unfold downF; rw [if_pos h]
theorem dnE_stop {l : List α} {i n c : Nat} (h : 2 * i + 1 < n) (hc : kid lt l i n = c) (hlt : lt (atL l c) (atL l i) = false) : dnE lt l i n = l := by
  unfold dnE
  obtain ⟨n, rfl⟩ : ∃ m, n = m + 1 := ⟨n - 1, by omega⟩
  unfold downF
  rw [if_neg (by omega), hc, if_pos hlt]
theorem dnE_go {l : List α} {i n c : Nat} (h : 2 * i + 1 < n) (hc : kid lt l i n = c) (hlt : lt (atL l c) (atL l i) = true) : dnE lt l i n = dnE lt (swapL l i c) c n := by
  have hk := kid_lt lt (l := l) h
  rw [hc] at hk
  unfold dnE
  obtain ⟨n, rfl⟩ : ∃ m, n = m + 1 := ⟨n - 1, by omega⟩
  have e : downF lt (n + 1) l i (n + 1) = downF lt n (swapL l i c) c (n + 1) := by
    conv => lhs; unfold downF
    rw [if_neg (by omega), hc, if_neg (by rw [hlt]; simp)]
  rw [e]
  exact downF_more lt _ _ _ _ _ (by omega) (by omega)
theorem kid_two {l : List α} {i n : Nat} (h : 2 * i + 2 < n) (hlt : lt (atL l (2 * i + 2)) (atL l (2 * i + 1)) = true) : kid lt l i n = 2 * i + 2 := by unfold kid; rw [if_pos ⟨h, hlt⟩]
theorem kid_one {l : List α} {i n : Nat} (hlt : lt (atL l (2 * i + 2)) (atL l (2 * i + 1)) = false) : kid lt l i n = 2 * i + 1 := by unfold kid; rw [if_neg (by rw [hlt]; simp)]
theorem kid_one' {l : List α} {i n : Nat} (h : ¬ 2 * i + 2 < n) : kid lt l i n = 2 * i + 1 := by unfold kid; rw [if_neg (fun x => h x.1)]
end

def SomeB (w : World) (base : Nat) (v : Value) (L : List Ent) (g : Nat) (r : Ending) (w' : World) : Prop := ∃ b : Bool, r = .returned (.bool b) ∧ Row w' base v L ∧ Frm [some g] w w'

set_option maxHeartbeats 8000000 in
theorem down_any (w : World) (base p g cap : Nat) (now many : Int) (l : List Ent) (i0 n : Nat) (hi0 : i0 ≤ l.length) (hnl : n ≤ l.length) (hc : Clk w p now (.slice (some ⟨g, 0, none⟩) l.length cap) many) (hr : Row w base (.slice (some ⟨g, 0, none⟩) l.length cap) l) (hl : l.length ≤ 1048576) :
    Calls Try.prog 36 #[.iface 70 (.pointer (some ⟨p, 1, none⟩)), .int .i64 (i0 : Int), .int .i64 (n : Int)] w (SomeB w base (.slice (some ⟨g, 0, none⟩) l.length cap) (dnE ltEnt l i0 n) g) := by
  have hpg : p ≠ g := fun e => hr.ne hc (by decide) (by rw [e]; rfl)
  have HC := Lib.hid hc
  have hp := lt_of_block hc
  obtain ⟨N, hN⟩ : ∃ N, l.length = N := ⟨_, rfl⟩
  rw [hN] at hi0 hnl hr hl HC
  rw [hN]
  have HN := Lib.hid hN
  have fin : ∀ (b : Bool) (L : List Ent) (w' : World), Row w' base (.slice (some ⟨g, 0, none⟩) N cap) L → Frm [some g] w w' → L = dnE ltEnt l i0 n → SomeB w base (.slice (some ⟨g, 0, none⟩) N cap) (dnE ltEnt l i0 n) g (.returned (.bool b)) w' := fun b L w' h1 h2 h3 => ⟨b, rfl, h3 ▸ h1, h2⟩
  have FIN := Lib.hid fin
  clear hN hc fin
  go_enter Try.func36, Try.ntmps36
  go_wp2_with fail
  go_loopg [7] (N - i0) (fun gh s7 wx => ∃ (i : Nat) (L : List Ent), i + gh = N ∧ s7 = .int .i64 (i : Int) ∧ Hid (L.length = N) ∧ Row wx base (.slice (some ⟨g, 0, none⟩) N cap) L ∧ Frm [some g] w wx ∧ Hid (dnE ltEnt L i n = dnE ltEnt l i0 n))
  case atStart => exact ⟨i0, l, by omega, rfl, HN, hr, Frm.refl _ _, rfl⟩
  case round =>
    obtain ⟨i, L, hig, rfl, hL, hR, hF, hU⟩ := hrel
    obtain ⟨c1, hc1⟩ : ∃ c1, 2 * i + 1 = c1 := ⟨_, rfl⟩
    have e1 : 2 * (i : Int) + 1 = (c1 : Int) := by omega
    have e1' : (i : Int) * 2 + 1 = (c1 : Int) := by omega
    have z1 : (0 : Int) ≤ (c1 : Int) := by omega
    by_cases hlt1 : c1 < n
    · have d1 : decide (n ≤ c1) = false := decide_eq_false (by omega)
      have d0 : decide ((c1 : Int) < 0) = false := decide_eq_false (by omega)
      have hcr := hF.block HC.out (by simp; exact fun e => hpg e.symm)
      obtain ⟨-, k1, -⟩ := box3 hcr
      have m1 := m_less wr p _ k1
      have hR' : Row wr base (.slice (some ⟨g, 0, none⟩) L.length cap) L := by rw [hL.out]; exact hR
      have HC1 := Lib.hid hc1
      have hin : i < n := by omega
      clear hc1 hcr hR
      by_cases hlt2 : c1 + 1 < n
      · have d2 : decide ((c1 : Int) + 1 < (n : Int)) = true := decide_eq_true (by omega)
        have L1 := less_any wr base g cap L hR' (by rw [hL.out]; exact hl) (c1 + 1) c1 (by rw [hL.out]; omega) (by rw [hL.out]; omega)
        rw [hL.out] at L1
        have HL1 := Lib.hid L1
        clear L1
        cases hb : ltEnt (atL L (c1 + 1)) (atL L c1) with
        | true =>
          rw [hb] at HL1
          have HK : Hid (kid ltEnt L i n = c1 + 1) := Lib.hid (by
            have h := HC1.out
            subst h
            exact kid_two ltEnt hlt2 hb)
          clear hb
          go_wp2_with (go_at_call 76; refine HL1.out.mono ?_; rintro e w7 ⟨rfl, hb7⟩; refine Hid.out ?_)
          refine Lib.hid ?_
          have hR7 := hR'.kept hb7 (Nat.le_refl _)
          have hF7 := hF.below hb7
          have k7 : w7.cell? ⟨p, 1, none⟩ = some (.slice (some ⟨g, 0, none⟩) N cap) := (hb7.cell (p := ⟨p, 1, none⟩) (by have := hF.size; simp; omega)).trans k1
          have m7 := m_less w7 p _ k7
          have L2 := less_any w7 base g cap L hR7 (by rw [hL.out]; exact hl) (c1 + 1) i (by rw [hL.out]; omega) (by rw [hL.out]; omega)
          rw [hL.out] at L2
          have HL2 := Lib.hid L2
          clear L2 m1 k1
          cases hb2 : ltEnt (atL L (c1 + 1)) (atL L i) with
          | false =>
            rw [hb2] at HL2
            have HLT := Lib.hid hb2
            clear hb2
            go_wp2_with (go_at_call 76; refine HL2.out.mono ?_; rintro e w8 ⟨rfl, hb8⟩)
            go_ret
            have hR8 := hR7.kept hb8 (Nat.le_refl _)
            rw [hL.out] at hR8
            exact FIN.out _ L _ hR8 (hF7.below hb8) (by rw [← hU.out, dnE_stop ltEnt (by have := HC1.out; omega) HK.out HLT.out])
          | true =>
            rw [hb2] at HL2
            have HLT := Lib.hid hb2
            clear hb2
            go_wp2_with (go_at_call 76; refine HL2.out.mono ?_; rintro e w8 ⟨rfl, hb8⟩; refine Hid.out ?_)
            refine Lib.hid ?_
            have hR8 := hR7.kept hb8 (Nat.le_refl _)
            have k8 : w8.cell? ⟨p, 1, none⟩ = some (.slice (some ⟨g, 0, none⟩) N cap) := (hb8.cell (p := ⟨p, 1, none⟩) (by have := hF7.size; simp; omega)).trans k7
            have m8 := m_swap w8 p _ k8
            have S1 := swap_any w8 base g cap L hR8 (by rw [hL.out]; exact hl) i (c1 + 1) (by rw [hL.out]; omega) (by rw [hL.out]; omega)
            rw [hL.out] at S1
            have HS1 := Lib.hid S1
            clear S1 k7 m7
            go_wp2_with (go_at_call 77; refine HS1.out.mono ?_; rintro e w9 ⟨rfl, hr9, hg9⟩)
            go_roundg (N - (c1 + 1))
            case measure => have := HC1.out; omega
            case rel => exact ⟨c1 + 1, swapL L i (c1 + 1), by omega, by first | rfl | go_num, Lib.hid ((len_swapL _ _ _).trans hL.out), hr9, (hF7.below hb8).grown hg9 (by simp), Lib.hid ((dnE_go ltEnt (by have := HC1.out; omega) HK.out HLT.out).symm.trans hU.out)⟩
        | false =>
          rw [hb] at HL1
          have HK : Hid (kid ltEnt L i n = c1) := Lib.hid (by
            have h := HC1.out
            subst h
            exact kid_one ltEnt hb)
          clear hb
          go_wp2_with (go_at_call 76; refine HL1.out.mono ?_; rintro e w7 ⟨rfl, hb7⟩; refine Hid.out ?_)
          refine Lib.hid ?_
          have hR7 := hR'.kept hb7 (Nat.le_refl _)
          have hF7 := hF.below hb7
          have k7 : w7.cell? ⟨p, 1, none⟩ = some (.slice (some ⟨g, 0, none⟩) N cap) := (hb7.cell (p := ⟨p, 1, none⟩) (by have := hF.size; simp; omega)).trans k1
          have m7 := m_less w7 p _ k7
          have L2 := less_any w7 base g cap L hR7 (by rw [hL.out]; exact hl) (c1) i (by rw [hL.out]; omega) (by rw [hL.out]; omega)
          rw [hL.out] at L2
          have HL2 := Lib.hid L2
          clear L2 m1 k1
          cases hb2 : ltEnt (atL L (c1)) (atL L i) with
          | false =>
            rw [hb2] at HL2
            have HLT := Lib.hid hb2
            clear hb2
            go_wp2_with (go_at_call 76; refine HL2.out.mono ?_; rintro e w8 ⟨rfl, hb8⟩)
            go_ret
            have hR8 := hR7.kept hb8 (Nat.le_refl _)
            rw [hL.out] at hR8
            exact FIN.out _ L _ hR8 (hF7.below hb8) (by rw [← hU.out, dnE_stop ltEnt (by have := HC1.out; omega) HK.out HLT.out])
          | true =>
            rw [hb2] at HL2
            have HLT := Lib.hid hb2
            clear hb2
            go_wp2_with (go_at_call 76; refine HL2.out.mono ?_; rintro e w8 ⟨rfl, hb8⟩; refine Hid.out ?_)
            refine Lib.hid ?_
            have hR8 := hR7.kept hb8 (Nat.le_refl _)
            have k8 : w8.cell? ⟨p, 1, none⟩ = some (.slice (some ⟨g, 0, none⟩) N cap) := (hb8.cell (p := ⟨p, 1, none⟩) (by have := hF7.size; simp; omega)).trans k7
            have m8 := m_swap w8 p _ k8
            have S1 := swap_any w8 base g cap L hR8 (by rw [hL.out]; exact hl) i (c1) (by rw [hL.out]; omega) (by rw [hL.out]; omega)
            rw [hL.out] at S1
            have HS1 := Lib.hid S1
            clear S1 k7 m7
            go_wp2_with (go_at_call 77; refine HS1.out.mono ?_; rintro e w9 ⟨rfl, hr9, hg9⟩)
            go_roundg (N - (c1))
            case measure => have := HC1.out; omega
            case rel => exact ⟨c1, swapL L i (c1), by omega, by first | rfl | go_num, Lib.hid ((len_swapL _ _ _).trans hL.out), hr9, (hF7.below hb8).grown hg9 (by simp), Lib.hid ((dnE_go ltEnt (by have := HC1.out; omega) HK.out HLT.out).symm.trans hU.out)⟩
      · have d2 : decide ((c1 : Int) + 1 < (n : Int)) = false := decide_eq_false (by omega)
        have hlt2' : ¬ ((c1 : Int) + 1 < (n : Int)) := by omega
        have HK : Hid (kid ltEnt L i n = c1) := Lib.hid (by
          have h := HC1.out
          subst h
          exact kid_one' ltEnt hlt2)
        obtain ⟨w7, hw7⟩ : ∃ w7, wr = w7 := ⟨_, rfl⟩
        have hb7 : Below wr.heap.size wr w7 := by rw [← hw7]; exact Below.refl _ _
        subst hw7
        have hR7 := hR'.kept hb7 (Nat.le_refl _)
        have hF7 := hF.below hb7
        have k7 : wr.cell? ⟨p, 1, none⟩ = some (.slice (some ⟨g, 0, none⟩) N cap) := (hb7.cell (p := ⟨p, 1, none⟩) (by have := hF.size; simp; omega)).trans k1
        have m7 := m_less wr p _ k7
        have L2 := less_any wr base g cap L hR7 (by rw [hL.out]; exact hl) (c1) i (by rw [hL.out]; omega) (by rw [hL.out]; omega)
        rw [hL.out] at L2
        have HL2 := Lib.hid L2
        clear L2 m1 k1
        cases hb2 : ltEnt (atL L (c1)) (atL L i) with
        | false =>
          rw [hb2] at HL2
          have HLT := Lib.hid hb2
          clear hb2
          go_wp2_with (go_at_call 76; refine HL2.out.mono ?_; rintro e w8 ⟨rfl, hb8⟩)
          go_ret
          have hR8 := hR7.kept hb8 (Nat.le_refl _)
          rw [hL.out] at hR8
          exact FIN.out _ L _ hR8 (hF7.below hb8) (by rw [← hU.out, dnE_stop ltEnt (by have := HC1.out; omega) HK.out HLT.out])
        | true =>
          rw [hb2] at HL2
          have HLT := Lib.hid hb2
          clear hb2
          go_wp2_with (go_at_call 76; refine HL2.out.mono ?_; rintro e w8 ⟨rfl, hb8⟩; refine Hid.out ?_)
          refine Lib.hid ?_
          have hR8 := hR7.kept hb8 (Nat.le_refl _)
          have k8 : w8.cell? ⟨p, 1, none⟩ = some (.slice (some ⟨g, 0, none⟩) N cap) := (hb8.cell (p := ⟨p, 1, none⟩) (by have := hF7.size; simp; omega)).trans k7
          have m8 := m_swap w8 p _ k8
          have S1 := swap_any w8 base g cap L hR8 (by rw [hL.out]; exact hl) i (c1) (by rw [hL.out]; omega) (by rw [hL.out]; omega)
          rw [hL.out] at S1
          have HS1 := Lib.hid S1
          clear S1 k7 m7
          go_wp2_with (go_at_call 77; refine HS1.out.mono ?_; rintro e w9 ⟨rfl, hr9, hg9⟩)
          go_roundg (N - (c1))
          case measure => have := HC1.out; omega
          case rel => exact ⟨c1, swapL L i (c1), by omega, by first | rfl | go_num, Lib.hid ((len_swapL _ _ _).trans hL.out), hr9, (hF7.below hb8).grown hg9 (by simp), Lib.hid ((dnE_go ltEnt (by have := HC1.out; omega) HK.out HLT.out).symm.trans hU.out)⟩
    · have d1 : decide (n ≤ c1) = true := decide_eq_true (by omega)
      have HC1 := Lib.hid hc1
      clear hc1
      go_wp2_with fail
      go_ret
      exact FIN.out _ L _ hR hF (by rw [← hU.out, dnE_end ltEnt (by have := HC1.out; omega)])

end Go.Proofs.Ytofpmhkjagdmmaa
