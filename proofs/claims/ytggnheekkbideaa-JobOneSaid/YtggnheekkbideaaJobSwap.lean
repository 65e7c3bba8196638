/- A row of places of the call's own; slices.swapRangeCmpFunc, rotateCmpFunc on it. -/
import Derived.Test.YtggnheekkbideaaRowsK
import Derived.Test.YtggnheekkbideaaStepOwn
import Derived.Test.YtggnheekkbideaaJobTokP
import Derived.Test.YtggnheekkbideaaStableP
import Derived.IntWalk
set_option maxRecDepth 100000
namespace Go.Proofs.Ytggnheekkbideaa
open Go.RowKit

instance : Inhabited PT := ⟨⟨0, 0, default⟩⟩
def cellP (p : PT) : List Value := [.int .i64 (p.i : Int), .int .i64 (p.k : Int)]
abbrev valP (p : PT) : Value := .agg #[.int .i64 (p.i : Int), .int .i64 (p.k : Int)]
theorem cellP_len : ∀ p : PT, (cellP p).length = 2 := fun _ => rfl
theorem cellP_one (p : PT) : ∀ u ∈ cellP p, u.oneCell' = true := by
  intro u hu
  simp only [cellP, List.mem_cons, List.mem_nil_iff, or_false] at hu
  rcases hu with rfl | rfl <;> rfl
abbrev PRow (w : World) (base : Nat) (v : Value) (d : List PT) : Prop := OwnF cellP 72 2 w base v d

/-- What the exchange of two elements runs through, in words of k. -/
theorem swap_facts {w : World} {base g cap : Nat} {d : List PT} (h : PRow w base (.slice (some ⟨g, 0, none⟩) d.length cap) d) {i j : Nat} (hi : i < d.length) (hj : j < d.length) :
    ∃ ci cj : List Value, ci.length = 2 ∧ cj.length = 2 ∧ Sem.run Try.prog (loadCellsFrom ⟨g, i * 2, none⟩ 0 2 #[]) w.drew = .ok ci.toArray w.drew ∧ Sem.run Try.prog (loadCellsFrom ⟨g, j * 2, none⟩ 0 2 #[]) w.drew = .ok cj.toArray w.drew ∧
      Sem.run Try.prog (storeCells ⟨g, i * 2, none⟩ cj 0) w.drew = .ok () (w.drew.setCells g (i * 2) cj) ∧
      Sem.run Try.prog (storeCells ⟨g, j * 2, none⟩ ci 0) (w.drew.setCells g (i * 2) cj) = .ok () ((w.drew.setCells g (i * 2) cj).setCells g (j * 2) ci) ∧
      Hid (PRow ((w.drew.setCells g (i * 2) cj).setCells g (j * 2) ci) base (.slice (some ⟨g, 0, none⟩) d.length cap) (swapL d i j) ∧ w.grownBy ((w.drew.setCells g (i * 2) cj).setCells g (j * 2) ci) (some g)) := by
  have hd : PRow w.drew base (.slice (some ⟨g, 0, none⟩) d.length cap) d := h
  obtain ⟨r1, g1⟩ := ownK_set cellP_len hd hi d[j]
  obtain ⟨r2, g2⟩ := ownK_set cellP_len r1 (i := j) (by rw [List.length_set]; exact hj) d[i]
  refine ⟨cellP d[i], cellP d[j], rfl, rfl, ownK_load cellP_len hd hi, ownK_load cellP_len hd hj, ownK_store cellP_len cellP_one hd hi _, ownK_store cellP_len cellP_one r1 (i := j) (by rw [List.length_set]; exact hj) _, Lib.hid ⟨?_, ?_⟩⟩
  · unfold swapL
    rw [atL_eq hi, atL_eq hj]
    exact r2
  · exact ⟨g2.os.trans g1.os, g2.tape.trans g1.tape, g2.output.trans g1.output, Nat.le_trans g1.size g2.size, fun k hk hne => (g2.block k (Nat.lt_of_lt_of_le hk g1.size) hne).trans (g1.block k hk hne)⟩

set_option maxHeartbeats 2000000 in
theorem swapR_any (w : World) (base g cap : Nat) (d : List PT) (fv : Value) (h : PRow w base (.slice (some ⟨g, 0, none⟩) d.length cap) d) (hl : d.length ≤ 1048576) (a b n : Nat) (ha : a + n ≤ d.length) (hb : b + n ≤ d.length) :
    Calls Try.prog 60 #[.slice (some ⟨g, 0, none⟩) d.length cap, .int .i64 (a : Int), .int .i64 (b : Int), .int .i64 (n : Int), fv] w fun e w' => e = .returned (.tuple #[]) ∧ PRow w' base (.slice (some ⟨g, 0, none⟩) d.length cap) (swapsF d a b n) ∧ Frm [some g] w w' := by
  obtain ⟨N, hN⟩ : ∃ N, d.length = N := ⟨_, rfl⟩
  rw [hN] at h hl ha hb ⊢
  have HN := Lib.hid hN
  clear hN
  have zE : ∀ w, (Go.sizeOf 72).run Try.prog w = .ok 2 w := Try.sizeOf72
  have aE : ∀ w, (isAgg 72).run Try.prog w = .ok true w := Try.isAgg72
  obtain ⟨k, hk⟩ : ∃ k, 2 = k := ⟨_, rfl⟩
  rw [hk] at zE
  have HK := Lib.hid hk
  clear hk
  go_enter Try.func60, Try.ntmps60
  go_wp2_with fail
  go_loopg [10] n (fun gh s10 wx => ∃ q : Nat, q + gh = n ∧ s10 = .int .i64 (q : Int) ∧ Hid (PRow wx base (.slice (some ⟨g, 0, none⟩) N cap) (swapsF d a b q)) ∧ Frm [some g] w wx)
  case atStart => exact ⟨0, by omega, rfl, Lib.hid h, Frm.refl _ _⟩
  case round =>
    obtain ⟨q, hq, rfl, hO, hF⟩ := hrel
    by_cases hqn : q < n
    · have hlen : Hid ((swapsF d a b q).length = N) := Lib.hid (by rw [len_swapsF, HN.out])
      have hO' : PRow wr base (.slice (some ⟨g, 0, none⟩) (swapsF d a b q).length cap) (swapsF d a b q) := by rw [hlen.out]; exact hO.out
      obtain ⟨ci, cj, l1, l2, li, lj, s1, s2, HR⟩ := swap_facts hO' (i := a + q) (j := b + q) (by rw [hlen.out]; omega) (by rw [hlen.out]; omega)
      have HR2 : Hid (PRow ((wr.drew.setCells g ((a + q) * 2) cj).setCells g ((b + q) * 2) ci) base (.slice (some ⟨g, 0, none⟩) N cap) (swapsF d a b (q + 1)) ∧ wr.grownBy ((wr.drew.setCells g ((a + q) * 2) cj).setCells g ((b + q) * 2) ci) (some g)) := Lib.hid (by
        have := HR.out
        rw [hlen.out] at this
        exact this)
      clear HR hO'
      rw [HK.out] at l1 l2 li lj s1 s2 HR2
      have i1 : IntKind.i64.wrap ((a : Int) + (q : Int)) = ((a + q : Nat) : Int) := by rw [IntKind.wrap_i64]; omega
      have i2 : IntKind.i64.wrap ((b : Int) + (q : Int)) = ((b + q : Nat) : Int) := by rw [IntKind.wrap_i64]; omega
      have j1 : ((a + q : Nat) : Int) < (N : Int) := by omega
      have j2 : ((b + q : Nat) : Int) < (N : Int) := by omega
      have j3 : a + q < N := by omega
      have j4 : b + q < N := by omega
      obtain ⟨x, hx⟩ : ∃ x, a + q = x := ⟨_, rfl⟩
      obtain ⟨y, hy⟩ : ∃ y, b + q = y := ⟨_, rfl⟩
      rw [hx] at i1 j1 j3 li s1 s2 HR2
      rw [hy] at i2 j2 j4 lj s2 HR2
      clear hx hy
      go_wp2_with fail
      go_big_region
      all_goals go_wp2
      all_goals go_roundg (n - (q + 1))
      case measure => omega
      case rel =>
        obtain rfl := HK.out
        exact ⟨q + 1, by omega, by go_num, Lib.hid HR2.out.1, hF.grown HR2.out.2 (by simp)⟩
    · obtain rfl : q = n := by omega
      have d1 : decide (q < q) = false := decide_eq_false (by omega)
      go_wp2_with fail
      refine bodyPost_end (results_none rfl _ _ _) rfl ?_
      exact ⟨rfl, hO.out, hF⟩

set_option maxHeartbeats 2000000 in
theorem rotate_any (w : World) (base g cap : Nat) (d : List PT) (fv : Value) (h : PRow w base (.slice (some ⟨g, 0, none⟩) d.length cap) d) (hl : d.length ≤ 1048576) (a m b : Nat) (h1 : a < m) (h2 : m < b) (hb : b ≤ d.length) :
    Calls Try.prog 59 #[.slice (some ⟨g, 0, none⟩) d.length cap, .int .i64 (a : Int), .int .i64 (m : Int), .int .i64 (b : Int), fv] w fun e w' => e = .returned (.tuple #[]) ∧ PRow w' base (.slice (some ⟨g, 0, none⟩) d.length cap) (rotF (b - a) d m (m - a) (b - m)) ∧ Frm [some g] w w' := by
  obtain ⟨N, hN⟩ : ∃ N, d.length = N := ⟨_, rfl⟩
  rw [hN] at h hl hb ⊢
  have HN := Lib.hid hN
  clear hN
  obtain ⟨R, hR⟩ : ∃ R, rotF (b - a) d m (m - a) (b - m) = R := ⟨_, rfl⟩
  rw [hR]
  have HR := Lib.hid hR
  clear hR
  have e1 : (m : Int) - (a : Int) = ((m - a : Nat) : Int) := by omega
  have e2 : (b : Int) - (m : Int) = ((b - m : Nat) : Int) := by omega
  go_enter Try.func59, Try.ntmps59
  go_wp2_with fail
  clear e1 e2
  go_loopg [10, 11] (b - a) (fun gh s10 s11 wx => ∃ (i j f : Nat) (D : List PT), i + j = gh ∧ s10 = .int .i64 (i : Int) ∧ s11 = .int .i64 (j : Int) ∧ 0 < i ∧ 0 < j ∧ i ≤ m ∧ m + j ≤ N ∧ i + j ≤ f ∧ Hid (D.length = N) ∧ Hid (PRow wx base (.slice (some ⟨g, 0, none⟩) N cap) D) ∧ Hid (rotF f D m i j = R) ∧ Frm [some g] w wx)
  case atStart => exact ⟨m - a, b - m, b - a, d, by omega, rfl, rfl, by omega, by omega, by omega, by omega, by omega, HN, Lib.hid h, HR, Frm.refl _ _⟩
  case round =>
    obtain ⟨i, j, f, D, hij, rfl, rfl, hi0, hj0, him, hmj, hf, hD, hO, hT, hF⟩ := hrel
    obtain ⟨f, rfl⟩ : ∃ f', f = f' + 1 := ⟨f - 1, by omega⟩
    have hO' : PRow wr base (.slice (some ⟨g, 0, none⟩) D.length cap) D := by rw [hD.out]; exact hO.out
    have hDl : D.length ≤ 1048576 := by rw [hD.out]; exact hl
    have m1 : (m : Int) - (i : Int) = ((m - i : Nat) : Int) := by omega
    rcases Nat.lt_trichotomy i j with c | c | c
    · have d1 : ((i : Int) != (j : Int)) = true := by simp; omega
      have d2 : decide ((i : Int) > (j : Int)) = false := decide_eq_false (by omega)
      have d3 : decide (i > j) = false := decide_eq_false (by omega)
      have d4 : decide (j < i) = false := decide_eq_false (by omega)
      have d5 : (i == j) = false := by simp; omega
      have S1 := Lib.hid (swapR_any wr base g cap D fv hO' hDl (m - i) (m + j - i) i (by rw [hD.out]; omega) (by rw [hD.out]; omega))
      rw [hD.out] at S1
      have hT2 : Hid (rotF f (swapsF D (m - i) (m + j - i) i) m i (j - i) = R) := Lib.hid (by
        rw [← hT.out]
        show _ = if i = j then _ else if j < i then _ else _
        rw [if_neg (by omega), if_neg (by omega)])
      have hD2 : Hid ((swapsF D (m - i) (m + j - i) i).length = N) := Lib.hid (by rw [len_swapsF, hD.out])
      have m2 : (m : Int) + (j : Int) - (i : Int) = ((m + j - i : Nat) : Int) := by omega
      have m3 : (j : Int) - (i : Int) = ((j - i : Nat) : Int) := by omega
      clear hO' hDl
      go_wp2_with (go_at_call 60; refine S1.out.mono ?_; rintro e w2 ⟨rfl, hO2, hF2⟩; refine Hid.out ?_)
      refine Lib.hid ?_
      have HO2 := Lib.hid hO2
      clear hO2
      go_wp2_with fail
      go_roundg (gk - i)
      case measure => omega
      case rel => exact ⟨i, j - i, f, _, by omega, rfl, by go_num, hi0, by omega, him, by omega, by omega, hD2, HO2, hT2, hF.trans hF2 (fun r hr => Or.inl hr)⟩
    · subst c
      have d1 : ((i : Int) != (i : Int)) = false := by simp
      have S1 := Lib.hid (swapR_any wr base g cap D fv hO' hDl (m - i) m i (by rw [hD.out]; omega) (by rw [hD.out]; omega))
      rw [hD.out] at S1
      have hT2 : Hid (swapsF D (m - i) m i = R) := Lib.hid (by
        rw [← hT.out]
        show _ = if i = i then _ else _
        rw [if_pos rfl])
      clear hO' hDl
      go_wp2_with (go_at_call 60; refine S1.out.mono ?_; rintro e w2 ⟨rfl, hO2, hF2⟩; refine Hid.out ?_)
      refine Lib.hid ?_
      rw [hT2.out] at hO2
      go_wp2_with fail
      refine bodyPost_end (results_none rfl _ _ _) rfl ?_
      exact ⟨rfl, hO2, hF.trans hF2 (fun r hr => Or.inl hr)⟩
    · have d1 : ((i : Int) != (j : Int)) = true := by simp; omega
      have d2 : decide ((i : Int) > (j : Int)) = true := decide_eq_true (by omega)
      have d3 : decide (i > j) = true := decide_eq_true (by omega)
      have d4 : decide (j < i) = true := decide_eq_true (by omega)
      have d5 : (i == j) = false := by simp; omega
      have S1 := Lib.hid (swapR_any wr base g cap D fv hO' hDl (m - i) m j (by rw [hD.out]; omega) (by rw [hD.out]; omega))
      rw [hD.out] at S1
      have hT2 : Hid (rotF f (swapsF D (m - i) m j) m (i - j) j = R) := Lib.hid (by
        rw [← hT.out]
        show _ = if i = j then _ else if j < i then _ else _
        rw [if_neg (by omega), if_pos c])
      have hD2 : Hid ((swapsF D (m - i) m j).length = N) := Lib.hid (by rw [len_swapsF, hD.out])
      have m3 : (i : Int) - (j : Int) = ((i - j : Nat) : Int) := by omega
      clear hO' hDl
      go_wp2_with (go_at_call 60; refine S1.out.mono ?_; rintro e w2 ⟨rfl, hO2, hF2⟩; refine Hid.out ?_)
      refine Lib.hid ?_
      have HO2 := Lib.hid hO2
      clear hO2
      go_wp2_with fail
      go_roundg (gk - j)
      case measure => omega
      case rel => exact ⟨i - j, j, f, _, by omega, by go_num, rfl, by omega, hj0, by omega, hmj, by omega, hD2, HO2, hT2, hF.trans hF2 (fun r hr => Or.inl hr)⟩

end Go.Proofs.Ytggnheekkbideaa
