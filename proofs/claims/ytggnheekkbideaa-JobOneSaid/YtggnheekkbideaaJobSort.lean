/- slices.insertionSortCmpFunc on a row of places. -/
import Derived.Test.YtggnheekkbideaaJobSwap
set_option maxRecDepth 100000
namespace Go.Proofs.Ytggnheekkbideaa
open Go.RowKit

def ltP (x y : PT) : Bool := decide (x.t.id < y.t.id)
def cmpP (x y : PT) : Int := if x.t.id < y.t.id then -1 else if y.t.id < x.t.id then 1 else 0
theorem cmpP_lt (x y : PT) : decide (cmpP x y < 0) = ltP x y := by
  unfold cmpP ltP
  by_cases h : x.t.id < y.t.id
  · simp [h]
  · by_cases h2 : y.t.id < x.t.id <;> simp [h, h2]

/-- A comparison handed over: what it answers of places that are, in every world in which what lay below B stands. -/
def CmpC (gf : Nat) (lb : Array Value) (ok : PT → Prop) (B : Nat) (w0 : World) : Prop :=
  ∀ (W : World) (x y : PT), Below B w0 W → ok x → ok y → Calls Try.prog gf (#[valP x, valP y] ++ lb) W fun e w' => e = .returned (.int .i64 (cmpP x y)) ∧ Below W.heap.size W w'

theorem row_at {w : World} {base g n cap : Nat} {d : List PT} (h : PRow w base (.slice (some ⟨g, 0, none⟩) n cap) d) {i : Nat} (hi : i < d.length) {x : PT} (hx : atL d i = x) :
    w.cell? ⟨g, i * 2, none⟩ = some (.int .i64 (x.i : Int)) ∧ w.cell? ⟨g, i * 2 + 1, none⟩ = some (.int .i64 (x.k : Int)) := by
  rw [atL_eq hi] at hx
  subst hx
  exact ⟨OwnF.at cellP_len h (i := i) (j := 0) hi (by omega), OwnF.at cellP_len h (i := i) (j := 1) hi (by omega)⟩
theorem frm_belowB {w w' : World} {B g : Nat} (hf : Frm [some g] w w') (hg : B ≤ g) (hB : B ≤ w.heap.size) : Below B w w' :=
  hf.toBelow hB (fun r hr k e => by rw [List.mem_singleton.1 hr] at e; injection e with e; omega)

theorem insIn_stop {a f j : Nat} {D : List PT} (h : ¬ (a < j ∧ ltP (atL D j) (atL D (j - 1)) = true)) : insInF ltP a f D j = D := by
  cases f with
  | zero => rfl
  | succ f => unfold insInF; rw [if_neg h]
theorem insIn_go {a f j : Nat} {D : List PT} (h : a < j ∧ ltP (atL D j) (atL D (j - 1)) = true) : insInF ltP a (f + 1) D j = insInF ltP a f (swapL D j (j - 1)) (j - 1) := by
  rw [insInF, if_pos h]

theorem perm_insIn (a : Nat) : ∀ (f : Nat) (D : List PT) (j : Nat), j < D.length → (insInF ltP a f D j).Perm D
  | 0, D, j, _ => List.Perm.refl _
  | f + 1, D, j, h => by
    unfold insInF
    split
    · exact (perm_insIn a f _ _ (by rw [len_swapL]; omega)).trans (perm_swapL h (by omega))
    · exact List.Perm.refl _
theorem perm_ins (a : Nat) : ∀ (k : Nat) (D : List PT), (0 < k → a + k < D.length) → (insF ltP a k D).Perm D
  | 0, D, _ => List.Perm.refl _
  | k + 1, D, h => by
    unfold insF
    exact (perm_insIn a _ _ _ (by rw [len_insF]; exact h (by omega))).trans (perm_ins a k D (fun _ => by have := h (by omega); omega))

set_option maxHeartbeats 8000000 in
theorem insert_any (w0 : World) (B base g cap : Nat) (ok : PT → Prop) (gf : Nat) (lb : Array Value) (eg : ∀ args w, (callFunc gf args).run Try.prog w = .ok (.enter gf args) w) (hC : CmpC gf lb ok B w0) (hBg : B ≤ g)
    (w : World) (d : List PT) (h0 : Below B w0 w) (hBw : B ≤ w.heap.size) (h : PRow w base (.slice (some ⟨g, 0, none⟩) d.length cap) d) (hl : d.length ≤ 1048576) (hok : ∀ x ∈ d, ok x) (a b : Nat) (hb : b ≤ d.length) (hab : a ≤ d.length) :
    Calls Try.prog 57 #[.slice (some ⟨g, 0, none⟩) d.length cap, .int .i64 (a : Int), .int .i64 (b : Int), .func (.func gf) #[] lb] w fun e w' => e = .returned (.tuple #[]) ∧ PRow w' base (.slice (some ⟨g, 0, none⟩) d.length cap) (insE ltP d a b) ∧ Frm [some g] w w' := by
  obtain ⟨N, hN⟩ : ∃ N, d.length = N := ⟨_, rfl⟩
  rw [hN] at h hl hb hab ⊢
  have HN := Lib.hid hN
  have HOK := Lib.hid hok
  have HC := Lib.hid hC
  clear hN hok hC
  go_enter Try.func57, Try.ntmps57
  go_wp2_with fail
  go_loopg [8] (b - a - 1) (fun gh s8 wx => ∃ k : Nat, k + gh = b - a - 1 ∧ s8 = .int .i64 ((a + 1 + k : Nat) : Int) ∧ Hid (PRow wx base (.slice (some ⟨g, 0, none⟩) N cap) (insF ltP a k d)) ∧ Frm [some g] w wx)
  case atStart => exact ⟨0, by omega, by go_num, Lib.hid h, Frm.refl _ _⟩
  case round =>
    obtain ⟨k, hk, rfl, hO, hF⟩ := hrel
    obtain ⟨i, hi⟩ : ∃ i, a + 1 + k = i := ⟨_, rfl⟩
    rw [hi]
    have HI := Lib.hid hi
    by_cases hib : i < b
    · have hai : a < i := by omega
      have hiN : i < N := by omega
      obtain ⟨R, hR⟩ : ∃ R, insF ltP a (k + 1) d = R := ⟨_, rfl⟩
      have HR : Hid (insInF ltP a (k + 1) (insF ltP a k d) i = R) := Lib.hid (by rw [← hR, ← hi]; show _ = insInF ltP a (k + 1) (insF ltP a k d) (a + (k + 1)); congr 1; omega)
      have HR2 := Lib.hid hR
      have hik : i - a ≤ k + 1 := by omega
      have hD0 : Hid ((insF ltP a k d).length = N ∧ ∀ x ∈ insF ltP a k d, ok x) := Lib.hid ⟨by rw [len_insF, HN.out], fun x hx => HOK.out x ((perm_ins a k d (fun _ => by rw [HN.out]; omega)).subset hx)⟩
      have hkb : k + 1 ≤ b - a - 1 := by omega
      have HKk := Lib.hid hk
      clear hi hR hk
      obtain ⟨Wb, rfl⟩ : ∃ Wb : World, Wb = wr := ⟨_, rfl⟩
      go_wp2_with fail
      go_loopg [9] (i - a) (fun gh s9 wx => ∃ (j f : Nat) (D : List PT), j = a + gh ∧ s9 = .int .i64 (j : Int) ∧ j < N ∧ j - a ≤ f ∧ Hid (D.length = N ∧ ∀ x ∈ D, ok x) ∧ Hid (PRow wx base (.slice (some ⟨g, 0, none⟩) N cap) D) ∧ Hid (insInF ltP a f D j = R) ∧ Frm [some g] w wx)
      case atStart => exact ⟨i, k + 1, _, by omega, rfl, hiN, hik, hD0, hO, HR, hF⟩
      case round =>
        obtain ⟨j, f, D, hja, rfl, hjN, hf, hD, hO2, hT, hF2⟩ := hrel
        have hzr := hF2.size
        rcases Nat.eq_zero_or_pos gk with c | c
        · subst c
          obtain rfl : a = j := by omega
          clear hja
          have d1 : decide ((a : Int) > (a : Int)) = false := decide_eq_false (by omega)
          have d2 : decide (a > a) = false := decide_eq_false (by omega)
          have d3 : decide (a < a) = false := decide_eq_false (by omega)
          have hT2 : Hid (D = R) := Lib.hid (by rw [← hT.out, insIn_stop]; omega)
          go_wp2_with fail
          go_quiet (fail)
          go_wp2_with fail
          have hii : (i : Int) + 1 = ((a + 1 + (k + 1) : Nat) : Int) := by have := HI.out; omega
          go_roundg (b - a - 1 - (k + 1))
          case measure => have := HKk.out; omega
          case rel => exact ⟨k + 1, by omega, by rw [hii], Lib.hid (by rw [HR2.out, ← hT2.out]; exact hO2.out.kept (below_drewN' _)), hF2.below (below_drewN' _)⟩
        · obtain ⟨q, rfl⟩ : ∃ q, j = q + 1 := ⟨j - 1, by omega⟩
          obtain ⟨x, hx⟩ : ∃ x, atL D (q + 1) = x := ⟨_, rfl⟩
          obtain ⟨y, hy⟩ : ∃ y, atL D q = y := ⟨_, rfl⟩
          obtain ⟨x0, x1⟩ := row_at hO2.out (show q + 1 < D.length by rw [hD.out.1]; exact hjN) hx
          obtain ⟨y0, y1⟩ := row_at hO2.out (show q < D.length by rw [hD.out.1]; omega) hy
          have okx : ok x := hD.out.2 _ (by rw [← hx, atL_eq (by rw [hD.out.1]; exact hjN)]; exact List.getElem_mem _)
          have oky : ok y := hD.out.2 _ (by rw [← hy, atL_eq (by rw [hD.out.1]; omega)]; exact List.getElem_mem _)
          have hbr := frm_belowB hF2 hBg hBw
          have hgr : g < wr.heap.size := by
            obtain ⟨g', e, _, _, hlt⟩ := OwnF.some hO2.out (show 0 < D.length by rw [hD.out.1]; omega)
            cases e
            exact hlt
          have C1 := Lib.hid (HC.out wr.drew x y (h0.trans (hbr.trans ((Below.refl wr.heap.size wr).drew.mono (Nat.le_trans hBw hzr)))) okx oky)
          have HXY := Lib.hid (And.intro hx hy)
          have hq1 : IntKind.i64.wrap (q : Int) = (q : Int) := by rw [IntKind.wrap_i64]; omega
          have hq2 : (q : Int) < (N : Int) := by omega
          have hq3 : decide ((q : Int) + 1 > (a : Int)) = true := decide_eq_true (by omega)
          have hq4 : decide (q + 1 > a) = true := decide_eq_true (by omega)
          have hq5 : decide (a < q + 1) = true := decide_eq_true (by omega)
          have hq6 : ((q + 1 : Nat) : Int) < (N : Int) := by omega
          have hq8 : (q : Int) + 1 < (N : Int) := by omega
          have hq9 : (0 : Int) ≤ (q : Int) + 1 := by omega
          have hqa : ((q : Int) + 1).toNat = q + 1 := by omega
          have hD0 : Below wr.heap.size wr wr.drew := (Below.refl _ _).drew
          have haq : a ≤ q := by omega
          have HJA := Lib.hid hja
          clear hx hy okx oky hja
          cases hlt : ltP x y with
          | true =>
            have dc : decide (cmpP x y < 0) = true := by rw [cmpP_lt]; exact hlt
            have HLT := Lib.hid hlt
            clear hlt
            go_wp2_with fail
            go_region_held3 (fun w' => w'.cell? ⟨g, (q + 1) * 2, none⟩ = some (.int .i64 (x.i : Int)) ∧ w'.cell? ⟨g, (q + 1) * 2 + 1, none⟩ = some (.int .i64 (x.k : Int)) ∧ w'.cell? ⟨g, q * 2, none⟩ = some (.int .i64 (y.i : Int)) ∧ w'.cell? ⟨g, q * 2 + 1, none⟩ = some (.int .i64 (y.k : Int)))
              (first | go_keep | (refine ⟨?_, ?_, ?_, ?_⟩ <;> (rw [Below.cellB HB7 hgr]; assumption)))
              (first | (go_at_fn gf; refine C1.out.mono ?_; rintro e w7 ⟨rfl, hb7⟩; have HB7 : Below wr.heap.size wr w7 := hD0.trans hb7))
            clear dc hq1 hq3 hq4 hq5 x0 x1 y0 y1
            have hO7 : PRow w7 base (.slice (some ⟨g, 0, none⟩) D.length cap) D := by rw [hD.out.1]; exact hO2.out.kept HB7
            obtain ⟨ci, cj, l1, l2, li, lj, s1, s2, HS⟩ := swap_facts hO7 (i := q + 1) (j := q) (by rw [hD.out.1]; exact hjN) (by rw [hD.out.1]; omega)
            have HF7 := Lib.hid (hF2.below HB7)
            have HD7 : Hid ((swapL D (q + 1) q).length = N ∧ ∀ x ∈ swapL D (q + 1) q, ok x) := Lib.hid ⟨by rw [len_swapL, hD.out.1], fun x hx => hD.out.2 x ((perm_swapL (by rw [hD.out.1]; exact hjN) (by rw [hD.out.1]; omega)).subset hx)⟩
            rw [hD.out.1] at HS
            have hf1 : 1 ≤ f := by omega
            obtain ⟨f, rfl⟩ : ∃ f', f = f' + 1 := ⟨f - 1, by omega⟩
            have HT7 : Hid (insInF ltP a f (swapL D (q + 1) q) q = R) := Lib.hid (by
              rw [← hT.out, insIn_go ⟨by omega, by rw [show q + 1 - 1 = q by omega, HXY.out.1, HXY.out.2]; exact HLT.out⟩, show q + 1 - 1 = q by omega])
            have zE : ∀ w, (Go.sizeOf 72).run Try.prog w = .ok 2 w := Try.sizeOf72
            have aE : ∀ w, (isAgg 72).run Try.prog w = .ok true w := Try.isAgg72
            obtain ⟨k2, hk2⟩ : ∃ k, 2 = k := ⟨_, rfl⟩
            rw [hk2] at zE l1 l2 li lj s1 s2 HS
            have HK2 := Lib.hid hk2
            clear hk2 hO7 hf1 hD0
            have hqb : IntKind.i64.wrap ((q : Int) + 1 - 1) = (q : Int) := by rw [IntKind.wrap_i64]; omega
            go_wp2_with fail
            go_big_region
            all_goals go_wp2
            all_goals go_roundg (gk - 1)
            case measure => omega
            case rel =>
              obtain rfl := HK2.out
              exact ⟨q, f, _, by have := HJA.out; omega, by go_num, by omega, by omega, HD7, Lib.hid HS.out.1, HT7, HF7.out.grown HS.out.2 (by simp)⟩
          | false =>
            have dc : decide (cmpP x y < 0) = false := by rw [cmpP_lt]; exact hlt
            have hT2 : Hid (D = R) := Lib.hid (by
              rw [← hT.out, insIn_stop]
              intro h
              have h2 := h.2
              rw [show q + 1 - 1 = q by omega, HXY.out.1, HXY.out.2, hlt] at h2
              cases h2)
            clear hlt
            go_wp2_with fail
            go_region_held3 (fun w' => w'.cell? ⟨g, (q + 1) * 2, none⟩ = some (.int .i64 (x.i : Int)) ∧ w'.cell? ⟨g, (q + 1) * 2 + 1, none⟩ = some (.int .i64 (x.k : Int)) ∧ w'.cell? ⟨g, q * 2, none⟩ = some (.int .i64 (y.i : Int)) ∧ w'.cell? ⟨g, q * 2 + 1, none⟩ = some (.int .i64 (y.k : Int)))
              (first | go_keep | (refine ⟨?_, ?_, ?_, ?_⟩ <;> (rw [Below.cellB HB7 hgr]; assumption)))
              (first | (go_at_fn gf; refine C1.out.mono ?_; rintro e w7 ⟨rfl, hb7⟩; have HB7 : Below wr.heap.size wr w7 := hD0.trans hb7))
            go_wp2_with fail
            have hii : (i : Int) + 1 = ((a + 1 + (k + 1) : Nat) : Int) := by have := HI.out; omega
            go_roundg (b - a - 1 - (k + 1))
            case measure => have := HKk.out; omega
            case rel => exact ⟨k + 1, by omega, by rw [hii], Lib.hid (by rw [HR2.out, ← hT2.out]; exact hO2.out.kept HB7), hF2.below HB7⟩
    · have hk2 : Hid (k = b - a - 1) := Lib.hid (by omega)
      have d1 : decide (i < b) = false := decide_eq_false hib
      have d2 : ¬ ((i : Int) < (b : Int)) := by omega
      clear hi hk
      go_wp2_with fail
      refine bodyPost_end (results_none rfl _ _ _) rfl ?_
      refine ⟨rfl, ?_, hF⟩
      unfold insE
      rw [← hk2.out]
      exact hO.out

end Go.Proofs.Ytggnheekkbideaa
