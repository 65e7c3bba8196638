/- Package heap's up over a clock's queue. -/
import Derived.Test.YtofpmhkjagdmmaaClockQue
import Derived.Test.YtofpmhkjagdmmaaMethodRun
set_option maxRecDepth 100000
namespace Go.Proofs.Ytofpmhkjagdmmaa
open Go.RowKit

section
variable {α : Type} [Inhabited α] (lt : α → α → Bool)
theorem upF_more : ∀ (j f : Nat) (l : List α), j < f → upF lt f l j = upF lt (j + 1) l j := by
  intro j
  induction j using Nat.strongRecOn with
  | _ j ih =>
    intro f l hf
    obtain ⟨f, rfl⟩ : ∃ f', f = f' + 1 := ⟨f - 1, by omega⟩
    unfold upF
    by_cases h : (j - 1) / 2 = j
    · rw [if_pos h, if_pos h]
    · rw [if_neg h, if_neg h]
      split
      · rfl
      · rw [ih ((j - 1) / 2) (by omega) f _ (by omega), ih ((j - 1) / 2) (by omega) j _ (by omega)]
def upE (l : List α) (j : Nat) : List α := upF lt (j + 1) l j
theorem upE_zero (l : List α) : upE lt l 0 = l := by unfold upE upF; rw [if_pos (by omega)]
theorem upE_stop {l : List α} {q m : Nat} (hm : q / 2 = m) (h : lt (atL l (q + 1)) (atL l m) = false) : upE lt l (q + 1) = l := by
  unfold upE upF
  rw [if_neg (by omega), show (q + 1 - 1) / 2 = m by omega, if_pos h]
theorem upE_go {l : List α} {q m : Nat} (hm : q / 2 = m) (h : lt (atL l (q + 1)) (atL l m) = true) : upE lt l (q + 1) = upE lt (swapL l m (q + 1)) m := by
  have h' : ¬ lt (atL l (q + 1)) (atL l m) = false := by rw [h]; simp
  unfold upE
  rw [show upF lt (q + 1 + 1) l (q + 1) = upF lt (q + 1) (swapL l m (q + 1)) m by
    conv => lhs; unfold upF
    rw [if_neg (by omega), show (q + 1 - 1) / 2 = m by omega, if_neg h']]
  exact upF_more lt m (q + 1) _ (by omega)
theorem len_upE (l : List α) (j : Nat) : (upE lt l j).length = l.length := len_upF lt _ _ _
end

theorem m_less (W : World) (p : Nat) (v : Value) (hc : W.cell? ⟨p, 1, none⟩ = some v) : (method 228 70 (.pointer (some ⟨p, 1, none⟩)) "Less").run Try.prog W = .ok (76, v) W :=
  run_method_val 227 _ _ _ 62 (by kernel_rfl) Try.underlying70 (Try.isAgg62 W) _ _ hc
theorem m_swap (W : World) (p : Nat) (v : Value) (hc : W.cell? ⟨p, 1, none⟩ = some v) : (method 228 70 (.pointer (some ⟨p, 1, none⟩)) "Swap").run Try.prog W = .ok (77, v) W :=
  run_method_val 227 _ _ _ 62 (by kernel_rfl) Try.underlying70 (Try.isAgg62 W) _ _ hc
theorem m_len (W : World) (p : Nat) (v : Value) (hc : W.cell? ⟨p, 1, none⟩ = some v) : (method 228 70 (.pointer (some ⟨p, 1, none⟩)) "Len").run Try.prog W = .ok (75, v) W :=
  run_method_val 227 _ _ _ 62 (by kernel_rfl) Try.underlying70 (Try.isAgg62 W) _ _ hc
theorem m_push (W : World) (p : Nat) : (method 228 70 (.pointer (some ⟨p, 1, none⟩)) "Push").run Try.prog W = .ok (79, .pointer (some ⟨p, 1, none⟩)) W :=
  run_method_ptr 227 _ _ _ 62 (by kernel_rfl) Try.underlying70 _
theorem m_pop (W : World) (p : Nat) : (method 228 70 (.pointer (some ⟨p, 1, none⟩)) "Pop").run Try.prog W = .ok (78, .pointer (some ⟨p, 1, none⟩)) W :=
  run_method_ptr 227 _ _ _ 62 (by kernel_rfl) Try.underlying70 _

set_option maxHeartbeats 2000000 in
theorem up_any (w : World) (base p g cap : Nat) (now many : Int) (l : List Ent) (j : Nat) (hj : j < l.length) (hc : Clk w p now (.slice (some ⟨g, 0, none⟩) l.length cap) many) (hr : Row w base (.slice (some ⟨g, 0, none⟩) l.length cap) l) (hl : l.length ≤ 1048576) :
    Calls Try.prog 35 #[.iface 70 (.pointer (some ⟨p, 1, none⟩)), .int .i64 (j : Int)] w fun r w' => r = .returned (.tuple #[]) ∧ Row w' base (.slice (some ⟨g, 0, none⟩) l.length cap) (upE ltEnt l j) ∧ Frm [some g] w w' := by
  have hpg : p ≠ g := fun e => hr.ne hc (by decide) (by rw [e]; rfl)
  have HC := Lib.hid hc
  have hp := lt_of_block hc
  obtain ⟨n, hn⟩ : ∃ n, l.length = n := ⟨_, rfl⟩
  rw [hn] at hj hr hl HC
  rw [hn]
  have HN := Lib.hid hn
  clear hn hc
  go_enter Try.func35, Try.ntmps35
  go_wp2_with fail
  go_loopg [1] j (fun gh s1 wx => ∃ (i : Nat) (L : List Ent), i = gh ∧ s1 = .int .i64 (i : Int) ∧ i < n ∧ Hid (L.length = n) ∧ Row wx base (.slice (some ⟨g, 0, none⟩) n cap) L ∧ Frm [some g] w wx ∧ Hid (upE ltEnt L i = upE ltEnt l j))
  case atStart => exact ⟨j, l, rfl, rfl, hj, HN, hr, Frm.refl _ _, rfl⟩
  case round =>
    obtain ⟨i, L, rfl, rfl, hi, hL, hR, hF, hU⟩ := hrel
    rcases Nat.eq_zero_or_pos i with h0 | h0
    · subst h0
      go_wp2_with fail
      refine bodyPost_end (results_none rfl _ _ _) rfl ⟨rfl, ?_, hF⟩
      rw [← hU.out, upE_zero]; exact hR
    · obtain ⟨q, rfl⟩ : ∃ q, i = q + 1 := ⟨i - 1, by omega⟩
      obtain ⟨m, hm⟩ : ∃ m, q / 2 = m := ⟨_, rfl⟩
      have hmi : (q : Int) / 2 = (m : Int) := by omega
      have d1 : ((m : Int) == (q : Int) + 1) = false := by rw [beq_eq_false_iff_ne]; omega
      have hml : m < n := by omega
      have hcr := hF.block HC.out (by simp; exact fun e => hpg e.symm)
      obtain ⟨-, c1, -⟩ := box3 hcr
      have m1 := m_less wr p _ c1
      have hR' : Row wr base (.slice (some ⟨g, 0, none⟩) L.length cap) L := by rw [hL.out]; exact hR
      have L1 := less_any wr base g cap L hR' (by rw [hL.out]; exact hl) (q + 1) m (by rw [hL.out]; exact hi) (by rw [hL.out]; exact hml)
      rw [hL.out] at L1
      have HL1 := Lib.hid L1
      have HM := Lib.hid hm
      clear hm hcr L1 hR
      cases hlt : ltEnt (atL L (q + 1)) (atL L m) with
      | false =>
        rw [hlt] at HL1
        have HLT := Lib.hid hlt
        clear hlt
        go_wp2_with (go_at_call 76; refine HL1.out.mono ?_; rintro e w7 ⟨rfl, hb7⟩)
        refine bodyPost_end (results_none rfl _ _ _) rfl ⟨rfl, ?_, hF.below hb7⟩
        rw [← hU.out, upE_stop ltEnt HM.out HLT.out]
        have := hR'.kept hb7 (Nat.le_refl _)
        rwa [hL.out] at this
      | true =>
        rw [hlt] at HL1
        have HLT := Lib.hid hlt
        clear hlt
        go_wp2_with (go_at_call 76; refine HL1.out.mono ?_; rintro e w7 ⟨rfl, hb7⟩; refine Hid.out ?_)
        refine Lib.hid ?_
        have c7 : w7.cell? ⟨p, 1, none⟩ = some (.slice (some ⟨g, 0, none⟩) n cap) := (hb7.cell (p := ⟨p, 1, none⟩) (by have := hF.size; simp; omega)).trans c1
        have m2 := m_swap w7 p _ c7
        have S1 := swap_any w7 base g cap L (hR'.kept hb7 (Nat.le_refl _)) (by rw [hL.out]; exact hl) m (q + 1) (by rw [hL.out]; exact hml) (by rw [hL.out]; exact hi)
        rw [hL.out] at S1
        have HS1 := Lib.hid S1
        clear S1 c1 m1
        go_wp2_with (go_at_call 77; refine HS1.out.mono ?_; rintro e w8 ⟨rfl, hr8, hg8⟩)
        go_roundg m
        case measure => omega
        case rel => exact ⟨m, swapL L m (q + 1), rfl, rfl, hml, Lib.hid ((len_swapL _ _ _).trans hL.out), hr8, (hF.below hb7).grown hg8 (by simp), Lib.hid ((upE_go ltEnt HM.out HLT.out).symm.trans hU.out)⟩

end Go.Proofs.Ytofpmhkjagdmmaa
