/- slices.symMergeCmpFunc on a row of places. -/
import Derived.Test.YtggnheekkbideaaJobSort
set_option maxRecDepth 100000
namespace Go.Proofs.Ytggnheekkbideaa
open Go.RowKit

theorem row_lt {w : World} {base g n cap : Nat} {D : List PT} (h : PRow w base (.slice (some ⟨g, 0, none⟩) n cap) D) (hD : 0 < D.length) : g < w.heap.size := by
  obtain ⟨g', e, _, _, hlt⟩ := OwnF.some h hD
  cases e
  exact hlt

/-- What the walks of the sort share. -/
structure Srt (B base g cap N : Nat) (ok : PT → Prop) (w0 w : World) (D : List PT) : Prop where
  old : Below B w0 w
  hB : B ≤ w.heap.size
  row : PRow w base (.slice (some ⟨g, 0, none⟩) N cap) D
  len : D.length = N
  ok : ∀ x ∈ D, ok x
theorem Srt.below {B base g cap N : Nat} {ok : PT → Prop} {w0 w w' : World} {D : List PT} (h : Srt B base g cap N ok w0 w D) (hb : Below w.heap.size w w') : Srt B base g cap N ok w0 w' D :=
  ⟨h.old.trans (hb.mono h.hB), Nat.le_trans h.hB hb.size, h.row.kept hb, h.len, h.ok⟩
theorem Srt.turn {B base g cap N : Nat} {ok : PT → Prop} {w0 w w' : World} {D D' : List PT} (h : Srt B base g cap N ok w0 w D) (hg : B ≤ g) (hf : Frm [some g] w w') (hr : PRow w' base (.slice (some ⟨g, 0, none⟩) N cap) D') (hp : D'.Perm D) : Srt B base g cap N ok w0 w' D' :=
  ⟨h.old.trans (frm_belowB hf hg h.hB), Nat.le_trans h.hB hf.size, hr, hp.length_eq.trans h.len, fun x hx => h.ok x (hp.subset hx)⟩

set_option maxHeartbeats 8000000 in
theorem sym_one (w0 : World) (B base g cap N : Nat) (ok : PT → Prop) (gf : Nat) (lb : Array Value) (eg : ∀ args w, (callFunc gf args).run Try.prog w = .ok (.enter gf args) w) (hC : CmpC gf lb ok B w0) (_hBg : B ≤ g)
    (w : World) (d : List PT) (hS : Srt B base g cap N ok w0 w d) (hl : N ≤ 1048576) (a m b : Nat) (hb : b ≤ N) (ham : m = a + 1) (hmb : m < b) :
    Calls Try.prog 58 #[.slice (some ⟨g, 0, none⟩) N cap, .int .i64 (a : Int), .int .i64 (m : Int), .int .i64 (b : Int), .func (.func gf) #[] lb] w fun e w' => e = .returned (.tuple #[]) ∧ PRow w' base (.slice (some ⟨g, 0, none⟩) N cap) (upsF d a (searchF (fun h => !ltP (atL d h) (atL d a)) (b - m) m b - 1 - a)) ∧ Frm [some g] w w' := by
  have hm1 : a + 1 ≤ m := by omega
  have hm2 : m ≤ a + 1 := by omega
  clear ham
  have HC := Lib.hid hC
  have HS := Lib.hid hS
  clear hC hS
  obtain ⟨p, hp⟩ : ∃ p : Nat → Bool, (fun h => !ltP (atL d h) (atL d a)) = p := ⟨_, rfl⟩
  rw [hp]
  obtain ⟨T, hT⟩ : ∃ T, searchF p (b - m) m b = T := ⟨_, rfl⟩
  rw [hT]
  have hTb := searchF_ok p (b - m) m b (by omega) (by omega)
  rw [hT] at hTb
  obtain ⟨hT1, hT2, -, -⟩ := hTb
  have HT := Lib.hid hT
  have HP := Lib.hid hp
  clear hT hp
  obtain ⟨x, hx⟩ : ∃ x, atL d a = x := ⟨_, rfl⟩
  have HX := Lib.hid hx
  clear hx
  have d0 : ((m : Int) - (a : Int) == 1) = true := by rw [beq_iff_eq]; omega
  go_enter Try.func58, Try.ntmps58
  go_wp2_with fail
  go_loopg [10, 11] (b - m) (fun gh s10 s11 wx => ∃ s r : Nat, s10 = .int .i64 (s : Int) ∧ s11 = .int .i64 (r : Int) ∧ m ≤ s ∧ s ≤ r ∧ r ≤ b ∧ r - s ≤ gh ∧ Hid (searchF p gh s r = T) ∧ Below w.heap.size w wx)
  case atStart => exact ⟨m, b, rfl, rfl, Nat.le_refl _, by omega, Nat.le_refl _, Nat.le_refl _, HT, Below.refl _ _⟩
  case round =>
    obtain ⟨s, r, rfl, rfl, has, hsr, hrb, hgh, hse, hbr⟩ := hrel
    have hzr := hbr.size
    by_cases hlt : s < r
    · have HS2 := Lib.hid (HS.out.below hbr)
      obtain ⟨h, hh⟩ : ∃ h : Nat, (s + r) / 2 = h := ⟨_, rfl⟩
      have he : ((s : Int) + (r : Int)) / 2 = (h : Int) := by omega
      have hh1 : s ≤ h := by omega
      have hh2 : h < r := by omega
      have HH := Lib.hid hh
      obtain ⟨f, rfl⟩ : ∃ f, gk = f + 1 := ⟨gk - 1, by omega⟩
      obtain ⟨y, hy⟩ : ∃ y, atL d h = y := ⟨_, rfl⟩
      obtain ⟨x0, x1⟩ := row_at HS2.out.row (show a < d.length by rw [HS2.out.len]; omega) HX.out
      obtain ⟨y0, y1⟩ := row_at HS2.out.row (show h < d.length by rw [HS2.out.len]; omega) hy
      have okx : ok x := HS2.out.ok _ (by rw [← HX.out, atL_eq (by rw [HS2.out.len]; omega)]; exact List.getElem_mem _)
      have oky : ok y := HS2.out.ok _ (by rw [← hy, atL_eq (by rw [HS2.out.len]; omega)]; exact List.getElem_mem _)
      have hgr := row_lt HS2.out.row (by rw [HS2.out.len]; omega)
      have C1 := Lib.hid (HC.out wr.drew y x (HS2.out.below (Below.refl wr.heap.size wr).drew).old oky okx)
      have hD0 : Below wr.heap.size wr wr.drew := (Below.refl _ _).drew
      have hq1 : (h : Int) < (N : Int) := by omega
      have hq2 : (a : Int) < (N : Int) := by omega
      have hpy : Hid (p h = !ltP y x) := Lib.hid (by rw [← HP.out]; dsimp only; rw [hy, HX.out])
      have hstep : Hid (searchF p (f + 1) s r = if p h = true then searchF p f s h else searchF p f (h + 1) r) := Lib.hid (by
        rw [← HH.out]
        show (if s < r then _ else _) = _
        rw [if_pos hlt])
      clear hh hy okx oky
      cases hlx : ltP y x with
      | true =>
        have dc : decide (cmpP y x < 0) = true := by rw [cmpP_lt]; exact hlx
        have hse2 : Hid (searchF p f (h + 1) r = T) := Lib.hid (by
          rw [← hse.out, hstep.out, hpy.out, hlx, if_neg (by decide)])
        clear hlx
        go_wp2_with fail
        go_region_held3 (fun w' => w'.cell? ⟨g, h * 2, none⟩ = some (.int .i64 (y.i : Int)) ∧ w'.cell? ⟨g, h * 2 + 1, none⟩ = some (.int .i64 (y.k : Int)) ∧ w'.cell? ⟨g, a * 2, none⟩ = some (.int .i64 (x.i : Int)) ∧ w'.cell? ⟨g, a * 2 + 1, none⟩ = some (.int .i64 (x.k : Int)))
          (first | go_keep | (refine ⟨?_, ?_, ?_, ?_⟩ <;> (rw [Below.cellB HB7 hgr]; assumption)))
          (first | (go_at_fn gf; refine C1.out.mono ?_; rintro e w7 ⟨rfl, hb7⟩; have HB7 : Below wr.heap.size wr w7 := hD0.trans hb7))
        go_wp2_with fail
        go_roundg f
        case measure => omega
        case rel => exact ⟨h + 1, r, by go_num, rfl, by omega, by omega, hrb, by omega, hse2, hbr.trans (HB7.mono hzr)⟩
      | false =>
        have dc : decide (cmpP y x < 0) = false := by rw [cmpP_lt]; exact hlx
        have hse2 : Hid (searchF p f s h = T) := Lib.hid (by
          rw [← hse.out, hstep.out, hpy.out, hlx, if_pos (by decide)])
        clear hlx
        go_wp2_with fail
        go_region_held3 (fun w' => w'.cell? ⟨g, h * 2, none⟩ = some (.int .i64 (y.i : Int)) ∧ w'.cell? ⟨g, h * 2 + 1, none⟩ = some (.int .i64 (y.k : Int)) ∧ w'.cell? ⟨g, a * 2, none⟩ = some (.int .i64 (x.i : Int)) ∧ w'.cell? ⟨g, a * 2 + 1, none⟩ = some (.int .i64 (x.k : Int)))
          (first | go_keep | (refine ⟨?_, ?_, ?_, ?_⟩ <;> (rw [Below.cellB HB7 hgr]; assumption)))
          (first | (go_at_fn gf; refine C1.out.mono ?_; rintro e w7 ⟨rfl, hb7⟩; have HB7 : Below wr.heap.size wr w7 := hD0.trans hb7))
        go_wp2_with fail
        go_roundg f
        case measure => omega
        case rel => exact ⟨s, h, rfl, rfl, has, by omega, by omega, by omega, hse2, hbr.trans (HB7.mono hzr)⟩
    · have hsT : s = T := by
        rw [← hse.out]
        cases gk with
        | zero => rfl
        | succ f => show s = if s < r then _ else s; rw [if_neg hlt]
      have d1 : decide (s < r) = false := decide_eq_false hlt
      have HS2 := Lib.hid (HS.out.below hbr)
      have HF := Lib.hid (Frm.ofBelow (S := [some g]) hbr)
      subst hsT
      obtain ⟨Wb, rfl⟩ : ∃ Wb : World, Wb = wr := ⟨_, rfl⟩
      go_wp2_with fail
      clear hlt d1 hbr
      go_loopg [13] (s - 1 - a) (fun gh s13 wx => ∃ k : Nat, k + gh = s - 1 - a ∧ s13 = .int .i64 ((a + k : Nat) : Int) ∧ Hid (PRow wx base (.slice (some ⟨g, 0, none⟩) N cap) (upsF d a k)) ∧ Frm [some g] w wx)
      case atStart => exact ⟨0, by omega, by go_num, HS2.out.row, HF.out⟩
      case round =>
        obtain ⟨k, hk, rfl, hO, hF⟩ := hrel
        obtain ⟨K, hK⟩ : ∃ K, a + k = K := ⟨_, rfl⟩
        rw [hK]
        have hKa : a ≤ K := by omega
        have HKE := Lib.hid hK
        by_cases hkl : K + 1 < s
        · have hlen : Hid ((upsF d a k).length = N) := Lib.hid (by rw [len_upsF, HS2.out.len])
          have hO' : PRow wr base (.slice (some ⟨g, 0, none⟩) (upsF d a k).length cap) (upsF d a k) := by rw [hlen.out]; exact hO.out
          obtain ⟨ci, cj, l1, l2, li, lj, s1, s2, HR⟩ := swap_facts hO' (i := K) (j := K + 1) (by rw [hlen.out]; omega) (by rw [hlen.out]; omega)
          have HR2 : Hid (PRow ((wr.drew.setCells g (K * 2) cj).setCells g ((K + 1) * 2) ci) base (.slice (some ⟨g, 0, none⟩) N cap) (upsF d a (k + 1)) ∧ wr.grownBy ((wr.drew.setCells g (K * 2) cj).setCells g ((K + 1) * 2) ci) (some g)) := Lib.hid (by
            have := HR.out
            rw [hlen.out] at this
            refine ⟨?_, this.2⟩
            show PRow _ _ _ (swapL (upsF d a k) (a + k) (a + k + 1))
            rw [hK]
            exact this.1)
          have zE : ∀ w, (Go.sizeOf 72).run Try.prog w = .ok 2 w := Try.sizeOf72
          have aE : ∀ w, (isAgg 72).run Try.prog w = .ok true w := Try.isAgg72
          obtain ⟨k2, hk2⟩ : ∃ k, 2 = k := ⟨_, rfl⟩
          rw [hk2] at zE l1 l2 li lj s1 s2 HR2
          have HK2 := Lib.hid hk2
          have HKK := Lib.hid hk
          have q1 : (K : Int) < (s : Int) - 1 := by omega
          have q2 : (K : Int) + 1 < (N : Int) := by omega
          have q3 : (0 : Int) ≤ (K : Int) + 1 := by omega
          have q4 : ((K : Int) + 1).toNat = K + 1 := by omega
          have q5 : IntKind.i64.wrap ((K : Int) + 1) = (K : Int) + 1 := IntWalk.i64_in _ (by omega)
          have q6 : (K : Int) < (N : Int) := by omega
          clear hk hK hk2 hO' HR hO
          go_wp2_with fail
          go_big_region
          all_goals go_wp2
          all_goals go_roundg (s - 1 - a - (k + 1))
          case measure => have := HKK.out; have := HKE.out; omega
          case rel =>
            obtain rfl := HK2.out
            exact ⟨k + 1, by have := HKK.out; have := HKE.out; omega, by have := HKE.out; congr 1; omega, Lib.hid HR2.out.1, hF.grown HR2.out.2 (by simp)⟩
        · have d2 : ¬ ((K : Int) < (s : Int) - 1) := by omega
          have HKf : Hid (k = s - 1 - a) := Lib.hid (by omega)
          clear hk hK
          go_wp2_with fail
          refine bodyPost_ret (results_none rfl _ _ _) rfl ?_
          exact ⟨rfl, by rw [← HKf.out]; exact hO.out, hF⟩

set_option maxHeartbeats 8000000 in
theorem sym_last (w0 : World) (B base g cap N : Nat) (ok : PT → Prop) (gf : Nat) (lb : Array Value) (eg : ∀ args w, (callFunc gf args).run Try.prog w = .ok (.enter gf args) w) (hC : CmpC gf lb ok B w0) (_hBg : B ≤ g)
    (w : World) (d : List PT) (hS : Srt B base g cap N ok w0 w d) (hl : N ≤ 1048576) (a m b : Nat) (hb : b ≤ N) (ham : a < m) (hma : ¬ m - a = 1) (hmb : b = m + 1) :
    Calls Try.prog 58 #[.slice (some ⟨g, 0, none⟩) N cap, .int .i64 (a : Int), .int .i64 (m : Int), .int .i64 (b : Int), .func (.func gf) #[] lb] w fun e w' => e = .returned (.tuple #[]) ∧ PRow w' base (.slice (some ⟨g, 0, none⟩) N cap) (dnsF d m (m - searchF (fun h => ltP (atL d m) (atL d h)) (m - a) a m)) ∧ Frm [some g] w w' := by
  have hm1 : m + 1 ≤ b := by omega
  have hm2 : b ≤ m + 1 := by omega
  have d00 : ((m : Int) - (a : Int) == 1) = false := by rw [beq_eq_false_iff_ne]; omega
  have d0 : ((b : Int) - (m : Int) == 1) = true := by rw [beq_iff_eq]; omega
  clear hmb hma
  have HC := Lib.hid hC
  have HS := Lib.hid hS
  clear hC hS
  obtain ⟨p, hp⟩ : ∃ p : Nat → Bool, (fun h => ltP (atL d m) (atL d h)) = p := ⟨_, rfl⟩
  rw [hp]
  obtain ⟨T, hT⟩ : ∃ T, searchF p (m - a) a m = T := ⟨_, rfl⟩
  rw [hT]
  have hTb := searchF_ok p (m - a) a m (by omega) (by omega)
  rw [hT] at hTb
  obtain ⟨hT1, hT2, -, -⟩ := hTb
  have HT := Lib.hid hT
  have HP := Lib.hid hp
  clear hT hp
  obtain ⟨x, hx⟩ : ∃ x, atL d m = x := ⟨_, rfl⟩
  have HX := Lib.hid hx
  clear hx
  go_enter Try.func58, Try.ntmps58
  go_wp2_with fail
  go_loopg [14, 15] (m - a) (fun gh s14 s15 wx => ∃ s r : Nat, s14 = .int .i64 (s : Int) ∧ s15 = .int .i64 (r : Int) ∧ a ≤ s ∧ s ≤ r ∧ r ≤ m ∧ r - s ≤ gh ∧ Hid (searchF p gh s r = T) ∧ Below w.heap.size w wx)
  case atStart => exact ⟨a, m, rfl, rfl, Nat.le_refl _, by omega, Nat.le_refl _, Nat.le_refl _, HT, Below.refl _ _⟩
  case round =>
    obtain ⟨s, r, rfl, rfl, has, hsr, hrb, hgh, hse, hbr⟩ := hrel
    have hzr := hbr.size
    by_cases hlt : s < r
    · have HS2 := Lib.hid (HS.out.below hbr)
      obtain ⟨h, hh⟩ : ∃ h : Nat, (s + r) / 2 = h := ⟨_, rfl⟩
      have he : ((s : Int) + (r : Int)) / 2 = (h : Int) := by omega
      have hh1 : s ≤ h := by omega
      have hh2 : h < r := by omega
      have HH := Lib.hid hh
      obtain ⟨f, rfl⟩ : ∃ f, gk = f + 1 := ⟨gk - 1, by omega⟩
      obtain ⟨y, hy⟩ : ∃ y, atL d h = y := ⟨_, rfl⟩
      obtain ⟨x0, x1⟩ := row_at HS2.out.row (show m < d.length by rw [HS2.out.len]; omega) HX.out
      obtain ⟨y0, y1⟩ := row_at HS2.out.row (show h < d.length by rw [HS2.out.len]; omega) hy
      have okx : ok x := HS2.out.ok _ (by rw [← HX.out, atL_eq (by rw [HS2.out.len]; omega)]; exact List.getElem_mem _)
      have oky : ok y := HS2.out.ok _ (by rw [← hy, atL_eq (by rw [HS2.out.len]; omega)]; exact List.getElem_mem _)
      have hgr := row_lt HS2.out.row (by rw [HS2.out.len]; omega)
      have C1 := Lib.hid (HC.out wr.drew x y (HS2.out.below (Below.refl wr.heap.size wr).drew).old okx oky)
      have hD0 : Below wr.heap.size wr wr.drew := (Below.refl _ _).drew
      have hq1 : (h : Int) < (N : Int) := by omega
      have hq2 : (m : Int) < (N : Int) := by omega
      have hpy : Hid (p h = ltP x y) := Lib.hid (by rw [← HP.out]; dsimp only; rw [hy, HX.out])
      have hstep : Hid (searchF p (f + 1) s r = if p h = true then searchF p f s h else searchF p f (h + 1) r) := Lib.hid (by
        rw [← HH.out]
        show (if s < r then _ else _) = _
        rw [if_pos hlt])
      clear hh hy okx oky
      cases hlx : ltP x y with
      | true =>
        have dc : decide (cmpP x y < 0) = true := by rw [cmpP_lt]; exact hlx
        have hse2 : Hid (searchF p f s h = T) := Lib.hid (by
          rw [← hse.out, hstep.out, hpy.out, hlx, if_pos (by decide)])
        clear hlx
        go_wp2_with fail
        go_region_held3 (fun w' => w'.cell? ⟨g, h * 2, none⟩ = some (.int .i64 (y.i : Int)) ∧ w'.cell? ⟨g, h * 2 + 1, none⟩ = some (.int .i64 (y.k : Int)) ∧ w'.cell? ⟨g, m * 2, none⟩ = some (.int .i64 (x.i : Int)) ∧ w'.cell? ⟨g, m * 2 + 1, none⟩ = some (.int .i64 (x.k : Int)))
          (first | go_keep | (refine ⟨?_, ?_, ?_, ?_⟩ <;> (rw [Below.cellB HB7 hgr]; assumption)))
          (first | (go_at_fn gf; refine C1.out.mono ?_; rintro e w7 ⟨rfl, hb7⟩; have HB7 : Below wr.heap.size wr w7 := hD0.trans hb7))
        go_wp2_with fail
        go_roundg f
        case measure => omega
        case rel => exact ⟨s, h, rfl, rfl, has, by omega, by omega, by omega, hse2, hbr.trans (HB7.mono hzr)⟩
      | false =>
        have dc : decide (cmpP x y < 0) = false := by rw [cmpP_lt]; exact hlx
        have hse2 : Hid (searchF p f (h + 1) r = T) := Lib.hid (by
          rw [← hse.out, hstep.out, hpy.out, hlx, if_neg (by decide)])
        clear hlx
        go_wp2_with fail
        go_region_held3 (fun w' => w'.cell? ⟨g, h * 2, none⟩ = some (.int .i64 (y.i : Int)) ∧ w'.cell? ⟨g, h * 2 + 1, none⟩ = some (.int .i64 (y.k : Int)) ∧ w'.cell? ⟨g, m * 2, none⟩ = some (.int .i64 (x.i : Int)) ∧ w'.cell? ⟨g, m * 2 + 1, none⟩ = some (.int .i64 (x.k : Int)))
          (first | go_keep | (refine ⟨?_, ?_, ?_, ?_⟩ <;> (rw [Below.cellB HB7 hgr]; assumption)))
          (first | (go_at_fn gf; refine C1.out.mono ?_; rintro e w7 ⟨rfl, hb7⟩; have HB7 : Below wr.heap.size wr w7 := hD0.trans hb7))
        go_wp2_with fail
        go_roundg f
        case measure => omega
        case rel => exact ⟨h + 1, r, by go_num, rfl, by omega, by omega, hrb, by omega, hse2, hbr.trans (HB7.mono hzr)⟩
    · have hsT : s = T := by
        rw [← hse.out]
        cases gk with
        | zero => rfl
        | succ f => show s = if s < r then _ else s; rw [if_neg hlt]
      have d1 : decide (s < r) = false := decide_eq_false hlt
      have HS2 := Lib.hid (HS.out.below hbr)
      have HF := Lib.hid (Frm.ofBelow (S := [some g]) hbr)
      subst hsT
      obtain ⟨Wb, rfl⟩ : ∃ Wb : World, Wb = wr := ⟨_, rfl⟩
      go_wp2_with fail
      clear hlt d1 hbr
      go_loopg [17] (m - s) (fun gh s17 wx => ∃ k : Nat, k + gh = m - s ∧ s17 = .int .i64 ((m - k : Nat) : Int) ∧ Hid (PRow wx base (.slice (some ⟨g, 0, none⟩) N cap) (dnsF d m k)) ∧ Frm [some g] w wx)
      case atStart => exact ⟨0, by omega, rfl, HS2.out.row, HF.out⟩
      case round =>
        obtain ⟨k, hk, rfl, hO, hF⟩ := hrel
        by_cases hkl : s < m - k
        · obtain ⟨L, hL⟩ : ∃ L, m - k = L + 1 := ⟨m - k - 1, by omega⟩
          rw [hL]
          have hKE := Lib.hid hL
          have hLs : s ≤ L := by omega
          have hLm : L + 1 ≤ m := by omega
          have hlen : Hid ((dnsF d m k).length = N) := Lib.hid (by rw [len_dnsF, HS2.out.len])
          have hO' : PRow wr base (.slice (some ⟨g, 0, none⟩) (dnsF d m k).length cap) (dnsF d m k) := by rw [hlen.out]; exact hO.out
          obtain ⟨ci, cj, l1, l2, li, lj, s1, s2, HR⟩ := swap_facts hO' (i := L + 1) (j := L) (by rw [hlen.out]; omega) (by rw [hlen.out]; omega)
          have HR2 : Hid (PRow ((wr.drew.setCells g ((L + 1) * 2) cj).setCells g (L * 2) ci) base (.slice (some ⟨g, 0, none⟩) N cap) (dnsF d m (k + 1)) ∧ wr.grownBy ((wr.drew.setCells g ((L + 1) * 2) cj).setCells g (L * 2) ci) (some g)) := Lib.hid (by
            have := HR.out
            rw [hlen.out] at this
            refine ⟨?_, this.2⟩
            show PRow _ _ _ (swapL (dnsF d m k) (m - k) (m - k - 1))
            rw [hL]
            exact this.1)
          have zE : ∀ w, (Go.sizeOf 72).run Try.prog w = .ok 2 w := Try.sizeOf72
          have aE : ∀ w, (isAgg 72).run Try.prog w = .ok true w := Try.isAgg72
          obtain ⟨k2, hk2⟩ : ∃ k, 2 = k := ⟨_, rfl⟩
          rw [hk2] at zE l1 l2 li lj s1 s2 HR2
          have HK2 := Lib.hid hk2
          have HKK := Lib.hid hk
          have q1 : decide (((L + 1 : Nat) : Int) > (s : Int)) = true := decide_eq_true (by omega)
          have q1' : decide ((L : Int) + 1 > (s : Int)) = true := decide_eq_true (by omega)
          have q1'' : decide (s < L + 1) = true := decide_eq_true (by omega)
          have q2 : (L : Int) + 1 < (N : Int) := by omega
          have q3 : (0 : Int) ≤ (L : Int) + 1 := by omega
          have q4 : ((L : Int) + 1).toNat = L + 1 := by omega
          have q5 : IntKind.i64.wrap ((L : Int) + 1 - 1) = (L : Int) := by rw [IntKind.wrap_i64]; omega
          have q6 : IntKind.i64.wrap (L : Int) = (L : Int) := by rw [IntKind.wrap_i64]; omega
          have q7 : (L : Int) < (N : Int) := by omega
          clear hk hL hk2 hO' HR hO hkl
          go_wp2_with fail
          go_big_region
          all_goals go_wp2
          all_goals go_roundg (m - s - (k + 1))
          case measure => have := HKK.out; have := hKE.out; omega
          case rel =>
            obtain rfl := HK2.out
            exact ⟨k + 1, by have := HKK.out; have := hKE.out; omega, by have := hKE.out; congr 1; omega, Lib.hid HR2.out.1, hF.grown HR2.out.2 (by simp)⟩
        · obtain ⟨K, hK⟩ : ∃ K, m - k = K := ⟨_, rfl⟩
          have HKf : Hid (k = m - s) := Lib.hid (by omega)
          rw [hK] at hkl ⊢
          have d2 : decide ((K : Int) > (s : Int)) = false := decide_eq_false (by omega)
          have d3 : decide (s < K) = false := decide_eq_false hkl
          clear hk hK
          go_wp2_with fail
          refine bodyPost_ret (results_none rfl _ _ _) rfl ?_
          exact ⟨rfl, by rw [← HKf.out]; exact hO.out, hF⟩

end Go.Proofs.Ytggnheekkbideaa
