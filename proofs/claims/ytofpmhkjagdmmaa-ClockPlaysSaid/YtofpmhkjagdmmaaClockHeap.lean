/- heap.Push, heap.Pop, heap.Init over a clock's queue. -/
import Derived.Test.YtofpmhkjagdmmaaClockDown
set_option maxRecDepth 100000
namespace Go.Proofs.Ytofpmhkjagdmmaa
open Go.RowKit

/-- What an operation on a clock leaves: its block, its row, all else. -/
structure Kept (w w' : World) (base p : Nat) (now : Int) (v v' : Value) (l : List Ent) (many : Int) : Prop where
  clk : Clk w' p now v' many
  row : Row w' base v' l
  frm : Frm [some p, v.ownBlock] w w'
  fresh : Fresh w v v'

theorem Clk.frm {S : List (Option Nat)} {w w' : World} {p : Nat} {now many : Int} {v : Value} (h : Clk w p now v many) (hf : Frm S w w') (hs : ∀ r ∈ S, r ≠ some p) : Clk w' p now v many := hf.block h hs

set_option maxHeartbeats 4000000 in
theorem hpush_any (w : World) (base p : Nat) (now many : Int) (v : Value) (l : List Ent) (e : Ent) (hc : Clk w p now v many) (hr : Row w base v l) (hb : base ≤ w.heap.size) (hl : l.length ≤ 1048575) :
    Calls Try.prog 26 #[.iface 70 (.pointer (some ⟨p, 1, none⟩)), .iface 67 (valE e)] w fun r w' => r = .returned (.tuple #[]) ∧ ∃ v', Kept w w' base p now v v' (pushE ltEnt l e) many := by
  have m1 := m_push w p
  have P1 := Lib.hid (qpush_any w base p now many v l e hc hr hb (by omega))
  have hp := lt_of_block hc
  have hvp := hr.ne hc (by decide)
  clear hc hr
  go_enter Try.func26, Try.ntmps26
  go_wp2_with (go_at_call 79; refine P1.out.mono ?_; rintro r w1 ⟨rfl, v1, hc1, hr1, hf1, hn1⟩; refine Hid.out ?_)
  refine Lib.hid ?_
  rcases hr1.own with ⟨_, h0⟩ | ⟨g, cap, rfl, hbg, hg⟩
  · simp at h0
  have hgp := hr1.ne hc1 (by decide)
  have hlen : (l ++ [e]).length = l.length + 1 := by simp
  have U1 := up_any w1 base p g cap now many (l ++ [e]) l.length (by omega) hc1 hr1 (by omega)
  obtain ⟨-, k1, -⟩ := box3 hc1
  rw [hlen] at U1 k1
  have HU1 := Lib.hid U1
  have HC1 := Lib.hid hc1
  have m2 := m_len w1 p _ k1
  clear hlen U1 hr1 hc1 m1
  go_wp2_with (first | (go_at_call 75; refine (qlen_any _ _ _ _).mono ?_; rintro r w2 ⟨rfl, rfl⟩) | (go_at_call 35; refine HU1.out.mono ?_; rintro r w2 ⟨rfl, hr2, hf2⟩))
  refine bodyPost_end (results_none rfl _ _ _) rfl ⟨rfl, .slice (some ⟨g, 0, none⟩) (l.length + 1) cap, ?_⟩
  have hcc := HC1.out
  rw [show (l ++ [e]).length = l.length + 1 by simp] at hcc hn1 hgp
  refine ⟨hcc.frm hf2 (fun r hr => ?_), hr2, hf1.trans hf2 (fun r hr => ?_), hn1⟩
  · rw [List.mem_singleton.1 hr]; exact hgp
  · rw [List.mem_singleton.1 hr]
    rcases hn1 with h | ⟨k, h, hk⟩
    · exact Or.inl (by rw [← h]; simp [Value.ownBlock])
    · exact Or.inr ⟨k, h, hk⟩

set_option maxHeartbeats 4000000 in
theorem hpop_any (w : World) (base p : Nat) (now many : Int) (v : Value) (l : List Ent) (h0 : 0 < l.length) (hc : Clk w p now v many) (hr : Row w base v l) (hl : l.length ≤ 1048576) :
    Calls Try.prog 27 #[.iface 70 (.pointer (some ⟨p, 1, none⟩))] w fun r w' => r = .returned (.iface 67 (valE (atL l 0))) ∧ ∃ v', Kept w w' base p now v v' ((popE ltEnt l).take (l.length - 1)) many := by
  rcases hr.own with ⟨_, h1⟩ | ⟨g, cap, rfl, hbg, hg⟩
  · rw [h1] at h0; simp at h0
  obtain ⟨k, hk⟩ : ∃ k, l.length = k + 1 := ⟨l.length - 1, by omega⟩
  have hp := lt_of_block hc
  have hpg := hr.ne hc (by decide)
  obtain ⟨-, k1, -⟩ := box3 hc
  have S1 := swap_any w base g cap l hr hl 0 k (by omega) (by omega)
  have last := pop_last (lt := ltEnt) h0
  have pe : popE ltEnt l = dnE ltEnt (swapL l 0 k) 0 k := by
    unfold popE dnE
    rw [hk, Nat.add_sub_cancel]
    exact downF_more ltEnt k _ _ _ _ (by omega) (by omega)
  rw [pe, hk, Nat.add_sub_cancel] at last
  rw [pe, hk, Nat.add_sub_cancel]
  have m1 := m_len w p _ k1
  have m2 := m_swap w p _ k1
  have ls : (swapL l 0 k).length = k + 1 := (len_swapL _ _ _).trans hk
  rw [hk] at hc k1 m1 m2 S1 hpg
  have HLS := Lib.hid ls
  have HC := Lib.hid hc
  have HLAST := Lib.hid last
  have HS1 := Lib.hid S1
  have hl' : k + 1 ≤ 1048576 := by omega
  clear ls last pe S1 hk hr hc hl h0
  go_enter Try.func27, Try.ntmps27
  go_wp2_with (first | (go_at_call 75; refine (qlen_any _ _ _ _).mono ?_; rintro r w2 ⟨rfl, rfl⟩) | (go_at_call 77; refine HS1.out.mono ?_; rintro r w1 ⟨rfl, hr1, hg1⟩; refine Hid.out ?_))
  refine Lib.hid ?_
  have hf1 : Frm [some g] w w1 := (Frm.refl _ _).grown hg1 (by simp)
  have hc1 := HC.out.frm hf1 (fun r hr => by rw [List.mem_singleton.1 hr]; exact hpg)
  have D1 := down_any w1 base p g cap now many (swapL l 0 k) 0 k (by omega) (by rw [HLS.out]; omega) (by rw [HLS.out]; exact hc1) (by rw [HLS.out]; exact hr1) (by rw [HLS.out]; exact hl')
  rw [HLS.out] at D1
  have HD1 := Lib.hid D1
  clear D1 m1 m2 k1
  go_wp2_with (go_at_call 36; refine HD1.out.mono ?_; rintro r w2 ⟨b2, rfl, hr2, hf2⟩; refine Hid.out ?_)
  refine Lib.hid ?_
  have hf12 := hf1.trans hf2 (fun r hr => Or.inl hr)
  have hc2 := HC.out.frm hf12 (fun r hr => by rw [List.mem_singleton.1 hr]; exact hpg)
  have P2 := qpop_any w2 base p now many _ _ k ((len_dnE ltEnt _ _ _).trans HLS.out) hc2 hr2 (by rw [len_dnE, HLS.out]; exact hl')
  rw [HLAST.out] at P2
  have HP2 := Lib.hid P2
  have m3 := m_pop w2 p
  clear P2 hc1
  go_wp2_with (go_at_call 78; refine HP2.out.mono ?_; rintro r w3 ⟨rfl, v3, hc3, hr3, hf3, hn3⟩)
  go_ret
  refine ⟨rfl, v3, hc3, hr3, (hf12.mono (by simp [Value.ownBlock])).trans hf3 (fun r hr => Or.inl (by rw [List.mem_singleton.1 hr]; simp)), ?_⟩
  rcases hn3 with h | ⟨q, h, hq⟩
  · exact Or.inl h
  · exact Or.inr ⟨q, h, by have := hf12.size; omega⟩

set_option maxHeartbeats 4000000 in
theorem hinit_any (w : World) (base p : Nat) (now many : Int) (v : Value) (l : List Ent) (hc : Clk w p now v many) (hr : Row w base v l) (hl : l.length ≤ 1048576) :
    Calls Try.prog 30 #[.iface 70 (.pointer (some ⟨p, 1, none⟩))] w fun r w' => r = .returned (.tuple #[]) ∧ Kept w w' base p now v v (initE ltEnt l) many := by
  obtain ⟨-, k1, -⟩ := box3 hc
  obtain ⟨a, cap, rfl⟩ := hr.shape
  have hpg := hr.ne hc (by decide)
  have hp := lt_of_block hc
  have m1 := m_len w p _ k1
  obtain ⟨N, hN⟩ : ∃ N, l.length = N := ⟨_, rfl⟩
  rw [hN] at hr hl hc k1 m1 hpg
  rw [hN]
  obtain ⟨h, hh⟩ : ∃ h, N / 2 = h := ⟨_, rfl⟩
  have hhi : (N : Int) / 2 = (h : Int) := by omega
  have hhN : 2 * h ≤ N := by omega
  have HH := Lib.hid hh
  have HN := Lib.hid hN
  have HC := Lib.hid hc
  have HINI : Hid (initE ltEnt l = initF ltEnt h l) := Lib.hid (by unfold initE; rw [hN, hh])
  clear hh hN hc
  go_enter Try.func30, Try.ntmps30
  go_wp2_with (go_at_call 75; refine (qlen_any _ _ _ _).mono ?_; rintro r w2 ⟨rfl, rfl⟩)
  go_loopg [3] h (fun gh s3 wx => ∃ (L : List Ent), s3 = .int .i64 ((gh : Int) - 1) ∧ 2 * gh ≤ N ∧ Hid (L.length = N) ∧ Row wx base (.slice a N cap) L ∧ Frm [(Value.slice a N cap).ownBlock] w wx ∧ Hid (initF ltEnt gh L = initF ltEnt h l))
  case atStart => exact ⟨l, rfl, hhN, HN, hr, Frm.refl _ _, rfl⟩
  case round =>
    obtain ⟨L, rfl, hg2, hL, hR, hF, hU⟩ := hrel
    rcases Nat.eq_zero_or_pos gk with h0 | h0
    · subst h0
      go_wp2_with fail
      refine bodyPost_end (results_none rfl _ _ _) rfl ⟨rfl, ?_⟩
      have hrow : Row wr base (.slice a N cap) (initE ltEnt l) := by
        rw [HINI.out, ← hU.out]; exact hR
      exact ⟨HC.out.frm hF (fun r hr => by rw [List.mem_singleton.1 hr]; exact hpg), hrow, hF.mono (by simp), Fresh.refl _ _⟩
    · obtain ⟨q, rfl⟩ : ∃ q, gk = q + 1 := ⟨gk - 1, by omega⟩
      have e1 : ((q + 1 : Nat) : Int) - 1 = (q : Int) := by omega
      rcases hR.own with ⟨_, h1⟩ | ⟨g, cap', hv, hbg, hg⟩
      · have := hL.out; rw [h1] at this; simp at this; omega
      rw [hL.out] at hv
      cases hv
      have hcr := HC.out.frm hF (fun r hr => by rw [List.mem_singleton.1 hr]; exact hpg)
      have D1 := down_any wr base p g cap now many L q N (by rw [hL.out]; omega) (by rw [hL.out]; omega) (by rw [hL.out]; exact hcr) (by rw [hL.out]; exact hR) (by rw [hL.out]; exact hl)
      rw [hL.out] at D1
      have HD1 := Lib.hid D1
      clear D1 hcr m1 k1
      rw [e1]
      go_wp2_with (go_at_call 36; refine HD1.out.mono ?_; rintro r w2 ⟨b2, rfl, hr2, hf2⟩)
      go_roundg q
      case measure => omega
      case rel => exact ⟨dnE ltEnt L q N, rfl, by omega, Lib.hid ((len_dnE _ _ _ _).trans hL.out), hr2, hF.trans hf2 (fun r hr => Or.inl (by rw [List.mem_singleton.1 hr]; simp [Value.ownBlock])), Lib.hid (by rw [← hU.out]; show _ = initF ltEnt q (downF ltEnt L.length L q L.length); rw [hL.out]; rfl)⟩

end Go.Proofs.Ytofpmhkjagdmmaa
