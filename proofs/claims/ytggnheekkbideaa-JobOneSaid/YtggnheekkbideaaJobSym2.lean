/- slices.symMergeCmpFunc on a row of places: the whole. -/
import Derived.Test.YtggnheekkbideaaJobSym
set_option maxRecDepth 100000
namespace Go.Proofs.Ytggnheekkbideaa
open Go.RowKit

theorem ext_atL {l m : List PT} (hl : l.length = m.length) (h : ∀ x, x < l.length → atL l x = atL m x) : l = m := by
  apply List.ext_getElem hl
  intro i h1 h2
  have := h i h1
  rwa [atL_eq h1, atL_eq h2] at this
/-- The fuel of a rotation does not matter. -/
theorem rot_fuel {f f' : Nat} {d : List PT} {m i j : Nat} (hi : 0 < i) (hj : 0 < j) (him : i ≤ m) (hmj : m + j ≤ d.length) (hf : i + j ≤ f) (hf' : i + j ≤ f') : rotF f d m i j = rotF f' d m i j :=
  ext_atL (by rw [len_rotF, len_rotF]) (fun x _ => by rw [atL_rotF f d m i j hi hj him hmj hf, atL_rotF f' d m i j hi hj him hmj hf'])
theorem perm_symF : ∀ (f : Nat) (d : List PT) (a m b : Nat), a < m → m < b → b ≤ d.length → (symF ltP f d a m b).Perm d
  | 0, _, _, _, _, _, _, _ => List.Perm.refl _
  | f + 1, d, a, m, b, h1, h2, hb => by
    unfold symF
    obtain ⟨s1, s2, s3, s4, s5, _⟩ := start_ok (lt := ltP) (d := d) h1 h2
    have ht := turn_perm (lt := ltP) h1 h2 hb
    split
    · obtain ⟨t1, t2, -, -⟩ := searchF_ok (fun h => !ltP (atL d h) (atL d a)) (b - m) m b (by omega) (by omega)
      exact perm_upsF _ (by omega)
    · split
      · exact perm_dnsF (by omega) _ (by omega)
      · dsimp only
        have hd2 : (if a < startF ltP d a m b ∧ startF ltP d a m b < (a + b) / 2 then symF ltP f (turnF ltP d a m b) a (startF ltP d a m b) ((a + b) / 2) else turnF ltP d a m b).Perm d := by
          split
          · rename_i c
            exact (perm_symF f _ _ _ _ c.1 c.2 (by rw [len_turnF]; omega)).trans ht
          · exact ht
        split
        · rename_i c
          exact (perm_symF f _ _ _ _ c.1 c.2 (by rw [hd2.length_eq]; omega)).trans hd2
        · exact hd2

def SymOk (base g cap N : Nat) (R : List PT) (w : World) (e : Ending) (w' : World) : Prop := e = .returned (.tuple #[]) ∧ PRow w' base (.slice (some ⟨g, 0, none⟩) N cap) R ∧ Frm [some g] w w'

set_option maxHeartbeats 16000000 in
theorem sym_step (f : Nat) (w0 : World) (B base g cap N : Nat) (ok : PT → Prop) (gf : Nat) (lb : Array Value) (eg : ∀ args w, (callFunc gf args).run Try.prog w = .ok (.enter gf args) w) (hC : CmpC gf lb ok B w0) (hBg : B ≤ g) (hl : N ≤ 1048576)
    (ih : ∀ (w : World) (d : List PT) (a m b : Nat), Srt B base g cap N ok w0 w d → b ≤ N → a < m → m < b → b - a ≤ f →
      Calls Try.prog 58 #[.slice (some ⟨g, 0, none⟩) N cap, .int .i64 (a : Int), .int .i64 (m : Int), .int .i64 (b : Int), .func (.func gf) #[] lb] w (SymOk base g cap N (symF ltP f d a m b) w))
    (w : World) (d : List PT) (hS : Srt B base g cap N ok w0 w d) (a m b : Nat) (hb : b ≤ N) (ham : a < m) (hmb : m < b) (h1 : ¬ m - a = 1) (h2 : ¬ b - m = 1) (hf : b - a ≤ f + 1) :
    Calls Try.prog 58 #[.slice (some ⟨g, 0, none⟩) N cap, .int .i64 (a : Int), .int .i64 (m : Int), .int .i64 (b : Int), .func (.func gf) #[] lb] w (SymOk base g cap N (symF ltP (f + 1) d a m b) w) := by
  have hdl : d.length = N := hS.len
  obtain ⟨g1, g2, g3, g4, g5, -, -⟩ := start_ok (lt := ltP) (d := d) ham hmb
  have hturn := turn_perm (lt := ltP) ham hmb (show b ≤ d.length by omega)
  obtain ⟨R, hR⟩ : ∃ R, symF ltP (f + 1) d a m b = R := ⟨_, rfl⟩
  rw [hR]
  obtain ⟨mid, hmid⟩ : ∃ mid, (a + b) / 2 = mid := ⟨_, rfl⟩
  obtain ⟨p, hp⟩ : ∃ p : Nat → Bool, (fun c => ltP (atL d (mid + m - 1 - c)) (atL d c)) = p := ⟨_, rfl⟩
  obtain ⟨T, hT⟩ : ∃ T, startF ltP d a m b = T := ⟨_, rfl⟩
  obtain ⟨d1, hd1⟩ : ∃ d1, turnF ltP d a m b = d1 := ⟨_, rfl⟩
  rw [hT, hmid] at g3 g4 g5
  rw [hT] at g1 g2
  rw [hd1] at hturn
  -- the ends of the search
  obtain ⟨lo, hi, hlh, hlo, hhi, hpc, hse0⟩ : ∃ lo hi : Nat, lo ≤ hi ∧ (if mid < m then lo + b = mid + m ∧ hi = mid else lo = a ∧ hi = m) ∧ hi ≤ b ∧ (∀ c, lo ≤ c → c < hi → mid + m - 1 - c < b ∧ c + 1 ≤ mid + m ∧ c < b) ∧ searchF p (hi - lo) lo hi = T := by
    unfold startF at hT
    rw [hmid, hp] at hT
    by_cases c : mid < m
    · rw [if_pos c] at hT
      refine ⟨mid + m - b, mid, by omega, by rw [if_pos c]; omega, by omega, fun c h1 h2 => by omega, hT⟩
    · rw [if_neg c] at hT
      refine ⟨a, m, by omega, by rw [if_neg c]; exact ⟨rfl, rfl⟩, by omega, fun c h1 h2 => by omega, hT⟩
  have HC := Lib.hid hC
  have HS := Lib.hid hS
  have HP := Lib.hid hp
  have HT := Lib.hid hT
  have HD1 := Lib.hid hd1
  have HM := Lib.hid hmid
  have HPC := Lib.hid hpc
  have HSE := Lib.hid hse0
  have HTU := Lib.hid hturn
  have HRR : Hid (∀ d2, (if a < T ∧ T < mid then symF ltP f d1 a T mid else d1) = d2 → (if mid < mid + m - T ∧ mid + m - T < b then symF ltP f d2 mid (mid + m - T) b else d2) = R) := Lib.hid (by
    intro d2 h
    rw [← hR, ← h, symF, if_neg h1, if_neg h2]
    dsimp only
    rw [hT, hmid, hd1])
  have HDL := Lib.hid hdl
  have IH := Lib.hid ih
  have hmid1 : a ≤ mid := by omega
  have hmid2 : mid < b := by omega
  have hmid3 : a < mid := by omega
  have e0 : ((a : Int) + (b : Int)) / 2 = (mid : Int) := by omega
  have d01 : ((m : Int) - (a : Int) == 1) = false := by rw [beq_eq_false_iff_ne]; omega
  have d02 : ((b : Int) - (m : Int) == 1) = false := by rw [beq_eq_false_iff_ne]; omega
  clear hC hS hp hT hd1 hmid hpc hse0 hR hdl ih hturn h1 h2
  go_enter Try.func58, Try.ntmps58
  go_upto_if 140 with fail
  clear e0
  go_cut [20, 21] (fun s20 s21 wx => s20 = .int .i64 (lo : Int) ∧ s21 = .int .i64 (hi : Int) ∧ w = wx)
  case first =>
    as_aux_lemma =>
      by_cases c : mid < m
      · rw [if_pos c] at hlo
        have e1 : (mid : Int) + (m : Int) - (b : Int) = (lo : Int) := by omega
        have e2 : mid = hi := hlo.2.symm
        have dd : decide ((m : Int) > (mid : Int)) = true := decide_eq_true (by omega)
        have dd2 : decide (mid < m) = true := decide_eq_true c
        have E2 := Lib.hid e2
        clear e2 hlo
        go_wp2_with fail
        go_meet
        exact ⟨rfl, by rw [E2.out], rfl⟩
      · rw [if_neg c] at hlo
        have dd : decide ((m : Int) > (mid : Int)) = false := decide_eq_false (by omega)
        have dd2 : decide (mid < m) = false := decide_eq_false c
        have E2 := Lib.hid hlo
        clear hlo
        go_wp2_with fail
        go_meet
        exact ⟨by rw [E2.out.1], by rw [E2.out.2], rfl⟩
  case rest =>
    obtain ⟨rfl, rfl, rfl⟩ := hcut
    clear hlo
    have e3 : (mid : Int) + (m : Int) - 1 = ((mid + m - 1 : Nat) : Int) := by omega
    go_wp2_with fail
    clear e3
    have hhb : hi ≤ b := hhi
    go_loopg [20, 21] (hi - lo) (fun gh s20 s21 wx => ∃ s r : Nat, s20 = .int .i64 (s : Int) ∧ s21 = .int .i64 (r : Int) ∧ lo ≤ s ∧ s ≤ r ∧ r ≤ hi ∧ r - s ≤ gh ∧ Hid (searchF p gh s r = T) ∧ Below w.heap.size w wx)
    case atStart => exact ⟨lo, hi, rfl, rfl, Nat.le_refl _, hlh, Nat.le_refl _, Nat.le_refl _, HSE, Below.refl _ _⟩
    case round =>
      obtain ⟨s, r, rfl, rfl, hls, hsr, hrh, hgh, hse, hbr⟩ := hrel
      have hzr := hbr.size
      by_cases hlt : s < r
      · have HS2 := Lib.hid (HS.out.below hbr)
        obtain ⟨h, hh⟩ : ∃ h : Nat, (s + r) / 2 = h := ⟨_, rfl⟩
        have he : ((s : Int) + (r : Int)) / 2 = (h : Int) := by omega
        have hh1 : s ≤ h := by omega
        have hh2 : h < r := by omega
        have HH := Lib.hid hh
        obtain ⟨gk, rfl⟩ : ∃ f, gk = f + 1 := ⟨gk - 1, by omega⟩
        obtain ⟨c1, c2, c3⟩ := HPC.out h (by omega) (by omega)
        obtain ⟨q, hq⟩ : ∃ q, mid + m - 1 - h = q := ⟨_, rfl⟩
        have e4 : ((mid + m - 1 : Nat) : Int) - (h : Int) = (q : Int) := by omega
        have hqb : q < b := by omega
        obtain ⟨x, hx⟩ : ∃ x, atL d q = x := ⟨_, rfl⟩
        obtain ⟨y, hy⟩ : ∃ y, atL d h = y := ⟨_, rfl⟩
        obtain ⟨x0, x1⟩ := row_at HS2.out.row (show q < d.length by rw [HDL.out]; omega) hx
        obtain ⟨y0, y1⟩ := row_at HS2.out.row (show h < d.length by rw [HDL.out]; omega) hy
        have okx : ok x := HS2.out.ok _ (by rw [← hx, atL_eq (by rw [HDL.out]; omega)]; exact List.getElem_mem _)
        have oky : ok y := HS2.out.ok _ (by rw [← hy, atL_eq (by rw [HDL.out]; omega)]; exact List.getElem_mem _)
        have hgr := row_lt HS2.out.row (by rw [HDL.out]; omega)
        have C1 := Lib.hid (HC.out wr.drew x y (HS2.out.below (Below.refl wr.heap.size wr).drew).old okx oky)
        have hD0 : Below wr.heap.size wr wr.drew := (Below.refl _ _).drew
        have hq1 : (h : Int) < (N : Int) := by omega
        have hq2 : (q : Int) < (N : Int) := by omega
        have hpy : Hid (p h = ltP x y) := Lib.hid (by rw [← HP.out]; dsimp only; rw [hq, hx, hy])
        have hstep : Hid (searchF p (gk + 1) s r = if p h = true then searchF p gk s h else searchF p gk (h + 1) r) := Lib.hid (by
          rw [← HH.out]
          show (if s < r then _ else _) = _
          rw [if_pos hlt])
        have hqw : IntKind.i64.wrap (((mid + m - 1 : Nat) : Int) - (h : Int)) = (q : Int) := by rw [e4, IntKind.wrap_i64]; omega
        have hqw2 : IntKind.i64.wrap (q : Int) = (q : Int) := by rw [IntKind.wrap_i64]; omega
        clear hh hx hy okx oky hq
        cases hlx : ltP x y with
        | true =>
          as_aux_lemma =>
            have dc : decide (cmpP x y < 0) = true := by rw [cmpP_lt]; exact hlx
            have hse2 : Hid (searchF p gk s h = T) := Lib.hid (by
              rw [← hse.out, hstep.out, hpy.out, hlx, if_pos (by decide)])
            clear hlx
            go_wp2_with fail
            go_region_held3 (fun w' => w'.cell? ⟨g, q * 2, none⟩ = some (.int .i64 (x.i : Int)) ∧ w'.cell? ⟨g, q * 2 + 1, none⟩ = some (.int .i64 (x.k : Int)) ∧ w'.cell? ⟨g, h * 2, none⟩ = some (.int .i64 (y.i : Int)) ∧ w'.cell? ⟨g, h * 2 + 1, none⟩ = some (.int .i64 (y.k : Int)))
              (first | go_keep | (refine ⟨?_, ?_, ?_, ?_⟩ <;> (rw [Below.cellB HB7 hgr]; assumption)))
              (first | (go_at_fn gf; refine C1.out.mono ?_; rintro e w7 ⟨rfl, hb7⟩; have HB7 : Below wr.heap.size wr w7 := hD0.trans hb7))
            go_wp2_with fail
            go_roundg gk
            case measure => omega
            case rel => exact ⟨s, h, rfl, rfl, hls, by omega, by omega, by omega, hse2, hbr.trans (HB7.mono hzr)⟩
        | false =>
          as_aux_lemma =>
            have dc : decide (cmpP x y < 0) = false := by rw [cmpP_lt]; exact hlx
            have hse2 : Hid (searchF p gk (h + 1) r = T) := Lib.hid (by
              rw [← hse.out, hstep.out, hpy.out, hlx, if_neg (by decide)])
            clear hlx
            go_wp2_with fail
            go_region_held3 (fun w' => w'.cell? ⟨g, q * 2, none⟩ = some (.int .i64 (x.i : Int)) ∧ w'.cell? ⟨g, q * 2 + 1, none⟩ = some (.int .i64 (x.k : Int)) ∧ w'.cell? ⟨g, h * 2, none⟩ = some (.int .i64 (y.i : Int)) ∧ w'.cell? ⟨g, h * 2 + 1, none⟩ = some (.int .i64 (y.k : Int)))
              (first | go_keep | (refine ⟨?_, ?_, ?_, ?_⟩ <;> (rw [Below.cellB HB7 hgr]; assumption)))
              (first | (go_at_fn gf; refine C1.out.mono ?_; rintro e w7 ⟨rfl, hb7⟩; have HB7 : Below wr.heap.size wr w7 := hD0.trans hb7))
            go_wp2_with fail
            go_roundg gk
            case measure => omega
            case rel => exact ⟨h + 1, r, by go_num, rfl, by omega, by omega, hrh, by omega, hse2, hbr.trans (HB7.mono hzr)⟩
      · have hsT : s = T := by
          rw [← hse.out]
          cases gk with
          | zero => rfl
          | succ f => show s = if s < r then _ else s; rw [if_neg hlt]
        have d1' : decide (s < r) = false := decide_eq_false hlt
        have HS2 := Lib.hid (HS.out.below hbr)
        have HF := Lib.hid (Frm.ofBelow (S := [some g]) hbr)
        obtain rfl : T = s := hsT.symm
        obtain ⟨E, hE⟩ : ∃ E, mid + m - T = E := ⟨_, rfl⟩
        have e5 : (mid : Int) + (m : Int) - (T : Int) = (E : Int) := by omega
        have hturn : Hid ((if T < m ∧ m < E then rotF (b - a) d m (m - T) (E - m) else d) = d1) := Lib.hid (by
          rw [← HD1.out]
          unfold turnF
          rw [HT.out, HM.out, hE])
        rw [hE] at HRR g4 g5
        clear hE hlt hbr hse
        obtain ⟨Wb, rfl⟩ : ∃ Wb : World, Wb = wr := ⟨_, rfl⟩
        obtain ⟨k1, hk1⟩ : ∃ c, decide (T < m ∧ m < E) = c := ⟨_, rfl⟩
        have Hk1 := Lib.hid hk1
        clear hk1
        go_upto_region 39 with fail
        go_cut [185] (fun s185 wx => s185 = .bool k1 ∧ Wb = wx)
        case first =>
          as_aux_lemma =>
            by_cases c1 : T < m
            · have q1 : decide (T < m) = true := decide_eq_true c1
              have q1' : decide ((T : Int) < (m : Int)) = true := decide_eq_true (by omega)
              by_cases c2 : m < E
              · have q2 : decide (m < E) = true := decide_eq_true c2
                have q2' : decide ((m : Int) < (E : Int)) = true := decide_eq_true (by omega)
                go_wp2_with fail
                go_meet
                exact ⟨by rw [← Hk1.out, decide_eq_true (⟨c1, c2⟩ : T < m ∧ m < E)], rfl⟩
              · have q2 : decide (m < E) = false := decide_eq_false c2
                have q2' : decide ((m : Int) < (E : Int)) = false := decide_eq_false (by omega)
                go_wp2_with fail
                go_meet
                exact ⟨by rw [← Hk1.out, decide_eq_false (fun h : T < m ∧ m < E => c2 h.2)], rfl⟩
            · have q1 : decide (T < m) = false := decide_eq_false c1
              have q1' : decide ((T : Int) < (m : Int)) = false := decide_eq_false (by omega)
              go_wp2_with fail
              go_meet
              exact ⟨by rw [← Hk1.out, decide_eq_false (fun h : T < m ∧ m < E => c1 h.1)], rfl⟩
        case' rest => obtain ⟨rfl, rfl⟩ := hcut
        clear e5 d1'
        go_upto_if 185 with fail
        go_cut [] (fun wx => ∃ w8, w8 = wx ∧ Hid (Srt B base g cap N ok w0 w8 d1) ∧ Hid (Frm [some g] w w8))
        case first =>
          as_aux_lemma =>
            cases k1 with
            | true =>
              obtain ⟨c1, c2⟩ := of_decide_eq_true Hk1.out
              have S1 := Lib.hid (rotate_any Wb base g cap d (.func (.func gf) #[] lb) (by rw [HDL.out]; exact HS2.out.row) (by rw [HDL.out]; exact hl) T m E c1 c2 (by rw [HDL.out]; omega))
              rw [HDL.out] at S1
              have hr : Hid (rotF (E - T) d m (m - T) (E - m) = d1) := Lib.hid (by
                rw [← hturn.out, if_pos ⟨c1, c2⟩]
                exact rot_fuel (by omega) (by omega) (by omega) (by rw [HDL.out]; omega) (by omega) (by omega))
              go_wp2_with (go_at_call 59; refine S1.out.mono ?_; rintro e w9 ⟨rfl, hO9, hF9⟩; refine Hid.out ?_)
              refine Lib.hid ?_
              rw [hr.out] at hO9
              have h9 := Lib.hid (HS2.out.turn hBg hF9 hO9 HTU.out)
              have hF := Lib.hid (HF.out.trans hF9 (fun r hr => Or.inl hr))
              clear hO9 hF9
              go_wp2_with fail
              go_meet
              exact ⟨_, rfl, h9, hF⟩
            | false =>
              have hr : Hid (d = d1) := Lib.hid (by rw [← hturn.out, if_neg (of_decide_eq_false Hk1.out)])
              have h9 : Hid (Srt B base g cap N ok w0 Wb d1) := by rw [← hr.out]; exact HS2
              go_wp2_with fail
              go_meet
              exact ⟨_, rfl, h9, HF⟩
        case rest =>
          obtain ⟨w8, rfl, h8, hF8⟩ := hcut
          clear HF HS2
          obtain ⟨k2, hk2⟩ : ∃ c, decide (a < T ∧ T < mid) = c := ⟨_, rfl⟩
          have Hk2 := Lib.hid hk2
          clear hk2
          go_upto_region 41 with fail
          go_cut [199] (fun s199 wx => s199 = .bool k2 ∧ w8 = wx)
          case first =>
            as_aux_lemma =>
              by_cases c1 : a < T
              · have q1 : decide (a < T) = true := decide_eq_true c1
                have q1' : decide ((a : Int) < (T : Int)) = true := decide_eq_true (by omega)
                by_cases c2 : T < mid
                · have q2 : decide (T < mid) = true := decide_eq_true c2
                  have q2' : decide ((T : Int) < (mid : Int)) = true := decide_eq_true (by omega)
                  go_wp2_with fail
                  go_meet
                  exact ⟨by rw [← Hk2.out, decide_eq_true (⟨c1, c2⟩ : a < T ∧ T < mid)], rfl⟩
                · have q2 : decide (T < mid) = false := decide_eq_false c2
                  have q2' : decide ((T : Int) < (mid : Int)) = false := decide_eq_false (by omega)
                  go_wp2_with fail
                  go_meet
                  exact ⟨by rw [← Hk2.out, decide_eq_false (fun h : a < T ∧ T < mid => c2 h.2)], rfl⟩
              · have q1 : decide (a < T) = false := decide_eq_false c1
                have q1' : decide ((a : Int) < (T : Int)) = false := decide_eq_false (by omega)
                go_wp2_with fail
                go_meet
                exact ⟨by rw [← Hk2.out, decide_eq_false (fun h : a < T ∧ T < mid => c1 h.1)], rfl⟩
          case' rest => obtain ⟨rfl, rfl⟩ := hcut
          go_upto_if 199 with fail
          go_cut [] (fun wx => ∃ w9 d2, w9 = wx ∧ Hid ((if a < T ∧ T < mid then symF ltP f d1 a T mid else d1) = d2) ∧ Hid (Srt B base g cap N ok w0 w9 d2) ∧ Hid (Frm [some g] w w9))
          case first =>
            as_aux_lemma =>
              cases k2 with
              | true =>
                obtain ⟨c1, c2⟩ := of_decide_eq_true Hk2.out
                have S1 := Lib.hid (IH.out w8 d1 a T mid h8.out (by omega) c1 c2 (by omega))
                have hp2 : Hid ((symF ltP f d1 a T mid).Perm d1) := Lib.hid (perm_symF f d1 a T mid c1 c2 (by rw [h8.out.len]; omega))
                have hr : Hid ((if a < T ∧ T < mid then symF ltP f d1 a T mid else d1) = symF ltP f d1 a T mid) := Lib.hid (if_pos ⟨c1, c2⟩)
                go_wp2_with (go_at_call 58; refine S1.out.mono ?_; rintro e w9 ⟨rfl, hO9, hF9⟩; refine Hid.out ?_)
                refine Lib.hid ?_
                have h9 := Lib.hid (h8.out.turn hBg hF9 hO9 hp2.out)
                have hF := Lib.hid (hF8.out.trans hF9 (fun r hr => Or.inl hr))
                clear hO9 hF9
                go_wp2_with fail
                go_meet
                exact ⟨_, _, rfl, hr, h9, hF⟩
              | false =>
                have hr : Hid ((if a < T ∧ T < mid then symF ltP f d1 a T mid else d1) = d1) := Lib.hid (if_neg (of_decide_eq_false Hk2.out))
                go_wp2_with fail
                go_meet
                exact ⟨_, _, rfl, hr, h8, hF8⟩
          case rest =>
            obtain ⟨w9, d2, rfl, hd2, h9, hF9⟩ := hcut
            have hR2 := Lib.hid (HRR.out d2 hd2.out)
            clear hd2 h8 hF8
            obtain ⟨k3, hk3⟩ : ∃ c, decide (mid < E ∧ E < b) = c := ⟨_, rfl⟩
            have Hk3 := Lib.hid hk3
            clear hk3
            go_upto_region 43 with fail
            go_cut [213] (fun s213 wx => s213 = .bool k3 ∧ w9 = wx)
            case first =>
              as_aux_lemma =>
                by_cases c1 : mid < E
                · have q1 : decide (mid < E) = true := decide_eq_true c1
                  have q1' : decide ((mid : Int) < (E : Int)) = true := decide_eq_true (by omega)
                  by_cases c2 : E < b
                  · have q2 : decide (E < b) = true := decide_eq_true c2
                    have q2' : decide ((E : Int) < (b : Int)) = true := decide_eq_true (by omega)
                    go_wp2_with fail
                    go_meet
                    exact ⟨by rw [← Hk3.out, decide_eq_true (⟨c1, c2⟩ : mid < E ∧ E < b)], rfl⟩
                  · have q2 : decide (E < b) = false := decide_eq_false c2
                    have q2' : decide ((E : Int) < (b : Int)) = false := decide_eq_false (by omega)
                    go_wp2_with fail
                    go_meet
                    exact ⟨by rw [← Hk3.out, decide_eq_false (fun h : mid < E ∧ E < b => c2 h.2)], rfl⟩
                · have q1 : decide (mid < E) = false := decide_eq_false c1
                  have q1' : decide ((mid : Int) < (E : Int)) = false := decide_eq_false (by omega)
                  go_wp2_with fail
                  go_meet
                  exact ⟨by rw [← Hk3.out, decide_eq_false (fun h : mid < E ∧ E < b => c1 h.1)], rfl⟩
            case' rest => obtain ⟨rfl, rfl⟩ := hcut
            cases k3 with
            | true =>
              as_aux_lemma =>
                obtain ⟨c1, c2⟩ := of_decide_eq_true Hk3.out
                have S1 := Lib.hid (IH.out w9 d2 mid E b h9.out hb c1 c2 (by omega))
                have hr : Hid (symF ltP f d2 mid E b = R) := Lib.hid (by rw [← hR2.out, if_pos ⟨c1, c2⟩])
                go_wp2_with (go_at_call 58; refine S1.out.mono ?_; rintro e w10 ⟨rfl, hO10, hF10⟩; refine Hid.out ?_)
                refine Lib.hid ?_
                rw [hr.out] at hO10
                go_wp2_with fail
                refine bodyPost_end (results_none rfl _ _ _) rfl ?_
                exact ⟨rfl, hO10, hF9.out.trans hF10 (fun r hr => Or.inl hr)⟩
            | false =>
              as_aux_lemma =>
                have hr : Hid (d2 = R) := Lib.hid (by rw [← hR2.out, if_neg (of_decide_eq_false Hk3.out)])
                go_wp2_with fail
                refine bodyPost_end (results_none rfl _ _ _) rfl ?_
                exact ⟨rfl, by rw [← hr.out]; exact h9.out.row, hF9.out⟩

end Go.Proofs.Ytggnheekkbideaa
