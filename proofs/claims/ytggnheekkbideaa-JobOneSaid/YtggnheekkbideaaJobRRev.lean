/- The document's Revive (tollgateref24). -/
import Derived.Test.YtggnheekkbideaaJobRFail
set_option maxRecDepth 100000
namespace Go.Proofs.Ytggnheekkbideaa
open Go.RowKit

set_option maxHeartbeats 8000000 in
theorem rrevive_any (w : World) (v : Value) (l : List Ins) (tok tries : Int) (hI : InsR w w.heap.size v l) (hS : SmL l) :
    Calls Try.prog 29 #[v, .int .i64 tok, .int .i64 tries] w fun e w' => ∃ vo R, e = .returned (.tuple #[vo, .int .i64 (chgE (mayRev tries) l tok)]) ∧ InsO w' w.heap.size vo R ∧ R.map (·.x) = chgL (mayRev tries) (revF tries) l tok ∧ Below w.heap.size w w' := by
  have S1 := Lib.hid (rfind_any w v l tok hI)
  have HI := Lib.hid hI
  have HS := Lib.hid hS
  unfold chgE chgL
  obtain ⟨a, c, rfl⟩ := hI.val
  cases hf : findT l tok with
  | none =>
    rw [hf] at S1
    unfold findV at S1
    clear hf hI hS
    go_enter Try.func29, Try.ntmps29
    go_wp2_with (go_at_call 21; refine S1.out.mono ?_; rintro e w1 ⟨rfl, hb1⟩)
    go_ret2
    exact ⟨_, [], rfl, insO_nil _ _, rfl, hb1⟩
  | some p =>
    rw [hf] at S1
    unfold findV at S1
    simp only
    have hpm := find_in hf
    obtain ⟨h1, h2, h3, _⟩ := allT_at hpm
    obtain ⟨b, o, rfl, _⟩ := hI.addr (by omega)
    have HPM := Lib.hid hpm
    have H3 := Lib.hid h3
    have i1 : (0 : Int) ≤ (p.i : Int) := by omega
    have i2 : (p.i : Int) < (l.length : Int) := by omega
    have S2 := Lib.hid (fun W => ris_any W p.t)
    have SP := Lib.hid (fun (W W' : World) (hb : Below W.heap.size W W') (h : InsR W W.heap.size (.slice (some ⟨b, o, none⟩) l.length c) l) => (h.at_all hb).placeT HPM.out)
    have hcase : (isB p.t = false ∧ mayRev tries p.t = 250) ∨ (isB p.t = true ∧ ((p.t.inc != 2) = true ∧ mayRev tries p.t = 250 ∨ (p.t.inc != 2) = false ∧ ((tries < 1 ∧ mayRev tries p.t = 1) ∨ (1 ≤ tries ∧ 100 < tries ∧ mayRev tries p.t = 1) ∨ (1 ≤ tries ∧ tries ≤ 100 ∧ mayRev tries p.t = 0)))) := by
      unfold mayRev
      cases hh : isB p.t with
      | false => simp
      | true =>
        by_cases hi : p.t.inc = 2
        · simp only [hi, and_self, if_true]
          by_cases h1 : tries < 1
          · rw [if_neg (by omega)]; simp [h1]
          · by_cases h2 : 100 < tries
            · rw [if_neg (by omega)]; simp; omega
            · rw [if_pos (by omega)]; simp; omega
        · simp [hi]
    clear hf hI hS hpm h3
    rcases hcase with ⟨hh, hm⟩ | ⟨hh, ⟨hq, hm⟩ | ⟨hq, ⟨g1, hm⟩ | ⟨g1, g2, hm⟩ | ⟨g1, g2, hm⟩⟩⟩
    · rw [hm, if_neg (by omega)]
      rw [hh] at S2
      clear hm hh
      go_enter Try.func29, Try.ntmps29
      go_wp2_with (go_at_call 21; refine S1.out.mono ?_; rintro e w1 ⟨rfl, hb1⟩; refine Hid.out ?_)
      refine Lib.hid ?_
      obtain ⟨bt, ot, n2, ct, k1, k2, q0, q4, t0, t1, t2, t3, t4, t5, t6, t7, t8, hbl, hbt⟩ := SP.out _ _ hb1 HI.out
      have k3 : (0 : Int) ≤ (p.k : Int) := by omega
      have k4 : (p.k : Int) < (n2 : Int) := by omega
      have HB1 := Lib.hid hb1
      clear hb1
      go_wp2_with (go_at_call 23; refine (S2.out _).mono ?_; rintro e w2 ⟨rfl, hb2⟩; have HB2 := Lib.hid hb2; clear hb2)
      go_ret2
      exact ⟨_, [], rfl, insO_nil _ _, rfl, HB1.out.trans (HB2.out.mono HB1.out.size)⟩
    all_goals
      rw [hh] at S2
      clear hh
    · rw [hm, if_neg (by omega)]
      clear hm
      go_enter Try.func29, Try.ntmps29
      go_wp2_with (go_at_call 21; refine S1.out.mono ?_; rintro e w1 ⟨rfl, hb1⟩; refine Hid.out ?_)
      refine Lib.hid ?_
      obtain ⟨bt, ot, n2, ct, k1, k2, q0, q4, t0, t1, t2, t3, t4, t5, t6, t7, t8, hbl, hbt⟩ := SP.out _ _ hb1 HI.out
      have k3 : (0 : Int) ≤ (p.k : Int) := by omega
      have k4 : (p.k : Int) < (n2 : Int) := by omega
      have HB1 := Lib.hid hb1
      have HC := Lib.hid (show ∀ W2, Below w1.heap.size w1 W2 → W2.cell? ⟨b, o + p.i * 5 + 4, none⟩ = some (.slice (some ⟨bt, ot, none⟩) n2 ct) ∧ W2.cell? ⟨bt, ot + p.k * 9 + 7, none⟩ = some (.int .u8 p.t.inc) from fun W2 hb => ⟨(Below.cellB hb hbl).trans q4, (Below.cellB hb hbt).trans t7⟩)
      clear hb1
      go_wp2_with (go_at_call 23; refine (S2.out _).mono ?_; rintro e w2 ⟨rfl, hb2⟩; obtain ⟨x4, x7⟩ := HC.out _ hb2; have HB2 := Lib.hid hb2; clear hb2)
      go_ret2
      exact ⟨_, [], rfl, insO_nil _ _, rfl, HB1.out.trans (HB2.out.mono HB1.out.size)⟩
    · rw [hm, if_neg (by omega)]
      have d1 : decide (tries < 1) = true := decide_eq_true g1
      clear hm g1
      go_enter Try.func29, Try.ntmps29
      go_wp2_with (go_at_call 21; refine S1.out.mono ?_; rintro e w1 ⟨rfl, hb1⟩; refine Hid.out ?_)
      refine Lib.hid ?_
      obtain ⟨bt, ot, n2, ct, k1, k2, q0, q4, t0, t1, t2, t3, t4, t5, t6, t7, t8, hbl, hbt⟩ := SP.out _ _ hb1 HI.out
      have k3 : (0 : Int) ≤ (p.k : Int) := by omega
      have k4 : (p.k : Int) < (n2 : Int) := by omega
      have HB1 := Lib.hid hb1
      have HC := Lib.hid (show ∀ W2, Below w1.heap.size w1 W2 → W2.cell? ⟨b, o + p.i * 5 + 4, none⟩ = some (.slice (some ⟨bt, ot, none⟩) n2 ct) ∧ W2.cell? ⟨bt, ot + p.k * 9 + 7, none⟩ = some (.int .u8 p.t.inc) from fun W2 hb => ⟨(Below.cellB hb hbl).trans q4, (Below.cellB hb hbt).trans t7⟩)
      clear hb1
      go_wp2_with (go_at_call 23; refine (S2.out _).mono ?_; rintro e w2 ⟨rfl, hb2⟩; obtain ⟨x4, x7⟩ := HC.out _ hb2; have HB2 := Lib.hid hb2; clear hb2)
      go_ret2
      exact ⟨_, [], rfl, insO_nil _ _, rfl, HB1.out.trans (HB2.out.mono HB1.out.size)⟩
    · rw [hm, if_neg (by omega)]
      have d1 : decide (tries < 1) = false := decide_eq_false (by omega)
      have d2 : decide (100 < tries) = true := decide_eq_true g2
      clear hm g1 g2
      go_enter Try.func29, Try.ntmps29
      go_wp2_with (go_at_call 21; refine S1.out.mono ?_; rintro e w1 ⟨rfl, hb1⟩; refine Hid.out ?_)
      refine Lib.hid ?_
      obtain ⟨bt, ot, n2, ct, k1, k2, q0, q4, t0, t1, t2, t3, t4, t5, t6, t7, t8, hbl, hbt⟩ := SP.out _ _ hb1 HI.out
      have k3 : (0 : Int) ≤ (p.k : Int) := by omega
      have k4 : (p.k : Int) < (n2 : Int) := by omega
      have HB1 := Lib.hid hb1
      have HC := Lib.hid (show ∀ W2, Below w1.heap.size w1 W2 → W2.cell? ⟨b, o + p.i * 5 + 4, none⟩ = some (.slice (some ⟨bt, ot, none⟩) n2 ct) ∧ W2.cell? ⟨bt, ot + p.k * 9 + 7, none⟩ = some (.int .u8 p.t.inc) from fun W2 hb => ⟨(Below.cellB hb hbl).trans q4, (Below.cellB hb hbt).trans t7⟩)
      clear hb1
      go_wp2_with (go_at_call 23; refine (S2.out _).mono ?_; rintro e w2 ⟨rfl, hb2⟩; obtain ⟨x4, x7⟩ := HC.out _ hb2; have HB2 := Lib.hid hb2; clear hb2)
      go_ret2
      exact ⟨_, [], rfl, insO_nil _ _, rfl, HB1.out.trans (HB2.out.mono HB1.out.size)⟩
    · rw [hm, if_pos rfl]
      have d1 : decide (tries < 1) = false := decide_eq_false (by omega)
      have d2 : decide (100 < tries) = false := decide_eq_false (by omega)
      clear hm g1 g2
      go_enter Try.func29, Try.ntmps29
      go_wp2_with (go_at_call 21; refine S1.out.mono ?_; rintro e w1 ⟨rfl, hb1⟩; refine Hid.out ?_)
      refine Lib.hid ?_
      obtain ⟨bt, ot, n2, ct, k1, k2, q0, q4, t0, t1, t2, t3, t4, t5, t6, t7, t8, hbl, hbt⟩ := SP.out _ _ hb1 HI.out
      have k3 : (0 : Int) ≤ (p.k : Int) := by omega
      have k4 : (p.k : Int) < (n2 : Int) := by omega
      have HB1 := Lib.hid hb1
      have HC := Lib.hid (show ∀ W2, Below w1.heap.size w1 W2 → W2.cell? ⟨b, o + p.i * 5 + 4, none⟩ = some (.slice (some ⟨bt, ot, none⟩) n2 ct) ∧ W2.cell? ⟨bt, ot + p.k * 9 + 7, none⟩ = some (.int .u8 p.t.inc) from fun W2 hb => ⟨(Below.cellB hb hbl).trans q4, (Below.cellB hb hbt).trans t7⟩)
      clear hb1
      go_wp2_with (go_at_call 23; refine (S2.out _).mono ?_; rintro e w2 ⟨rfl, hb2⟩; refine Hid.out ?_)
      refine Lib.hid ?_
      obtain ⟨x4, x7⟩ := HC.out _ hb2
      have HB2 := Lib.hid (HB1.out.trans (hb2.mono HB1.out.size))
      have S3 := Lib.hid (rtwin_any w2 _ l (HI.out.at_all HB2.out) HS.out)
      clear hb2 q0 q4 t0 t1 t2 t3 t4 t5 t6 t7 t8
      go_wp2_with (go_at_call 11; refine S3.out.mono ?_; rintro e w3 ⟨vo, R, rfl, hO, hR, hb3⟩; refine Hid.out ?_)
      refine Lib.hid ?_
      have HB3 := Lib.hid (HB2.out.trans (hb3.mono HB2.out.size))
      have hRl : R.length = l.length := by rw [← hR, List.length_map]
      obtain ⟨ao, co, hvo⟩ := OwnF.shape hO.row
      rw [hRl] at hvo
      subst hvo
      have hiR : p.i < R.length := by omega
      have hx : (atL R p.i).x = atL l p.i := by rw [← hR, atL_map_x R _ hiR]
      have hkR : p.k < (atL R p.i).x.toks.length := by rw [hx]; exact h2
      obtain ⟨y, hy⟩ : ∃ y, atL (atL R p.i).x.toks p.k = y := ⟨_, rfl⟩
      obtain ⟨g, rfl, -, hglo, hg⟩ := OwnF.some hO.row (by omega)
      have r4 : w3.cell? ⟨g, p.i * 5 + 4, none⟩ = some (tvI (atL R p.i)) := by
        have := OwnF.at cellI_len hO.row hiR (j := 4) (by omega)
        rw [this, ← atL_eq hiR]; rfl
      obtain ⟨gt, hta, hlo, hlt, ⟨cs, hcs⟩, -⟩ := hO.setT hiR hkR (j := 5) (by omega) (.string default) { atL (atL R p.i).x.toks p.k with worker := default } rfl
      obtain ⟨-, -, fr, ce, st⟩ := tok_own hO hiR hkR hta
      rw [hy] at ce
      obtain ⟨gcs, hgcs, -, -⟩ := OwnF.block hO.row
      have hne : ¬ g = gt := type_ne hgcs hcs (by decide)
      have hne' : ¬ gt = g := fun e => hne e.symm
      obtain ⟨nt, hnt⟩ : ∃ nt, (atL R p.i).x.toks.length = nt := ⟨_, rfl⟩
      obtain ⟨tc, htc⟩ : ∃ tc, (atL R p.i).tc = tc := ⟨_, rfl⟩
      rw [show tvI (atL R p.i) = .slice (some ⟨gt, 0, none⟩) nt tc by show Value.slice _ _ _ = _; rw [hta, hnt, htc]] at r4
      have k5 : (p.k : Int) < (nt : Int) := by omega
      have s4 : w3.cell? ⟨gt, p.k * 9 + 4, none⟩ = some (.int .i64 y.tries) := ce 4 (by omega)
      have s7 : w3.cell? ⟨gt, p.k * 9 + 7, none⟩ = some (.int .u8 y.inc) := ce 7 (by omega)
      have f4 := fr (p.k * 9 + 4)
      have f7 := fr (p.k * 9 + 7)
      have j1 := st 4 (.int .i64 tries) { y with tries := tries } (by omega) (by rw [hy]; rfl)
      obtain ⟨a1, b1, e1, e2⟩ := setT_at (y := { y with tries := tries }) hiR hkR
      obtain ⟨-, -, -, -, st2⟩ := tok_own j1 a1 b1 (e1.trans hta)
      have j2 := st2 7 (.int .u8 0) (revF tries y) (by omega) (by rw [e2]; rfl)
      rw [setT_twice _ _ _ _ _ hiR] at j2
      have hBF : Below w.heap.size w ((w3.setCell ⟨gt, p.k * 9 + 4, none⟩ (.int .i64 tries)).setCell ⟨gt, p.k * 9 + 7, none⟩ (.int .u8 0)) :=
        (HB3.out.setCell (p := ⟨gt, p.k * 9 + 4, none⟩) (Nat.le_trans HB2.out.size hlo) _).setCell (p := ⟨gt, p.k * 9 + 7, none⟩) (Nat.le_trans HB2.out.size hlo) _
      have HF := Lib.hid j2
      have HBF := Lib.hid hBF
      have HM2 : Hid ((setT R p.i p.k (revF tries y)).map (·.x) = markL (revF tries) l p.i p.k) := Lib.hid (by rw [setT_map R p.i p.k _ (revF tries) hiR (by rw [hy]), hR])
      have hz2 := HB2.out.size
      clear hO hR hb3 hx hta hnt htc ce hcs hgcs hy st st2 j1 j2 hBF e1 e2 fr x4 x7
      go_wp2_with fail
      go_ret2
      exact ⟨_, _, rfl, ⟨OwnF.lower HF.out.row hz2, HF.out.own.lower hz2⟩, HM2.out, HBF.out⟩

end Go.Proofs.Ytggnheekkbideaa
