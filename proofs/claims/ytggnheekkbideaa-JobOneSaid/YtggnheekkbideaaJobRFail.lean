/- The document's Fail and Revive (tollgateref24). -/
import Derived.Test.YtggnheekkbideaaJobDo
import Derived.Test.YtggnheekkbideaaJobRFind
import Derived.Test.YtggnheekkbideaaJobAwake
set_option maxRecDepth 100000
namespace Go.Proofs.Ytggnheekkbideaa
open Go.RowKit

/-- A whole token is stored. -/
abbrev chainT (w : World) (g o : Nat) (y : Tok) : World := (((((((((w).setCell ⟨g, o, none⟩ (.int .i64 y.id)).setCell ⟨g, o + 1, none⟩ (.string y.here)).setCell ⟨g, o + 2, none⟩ (.string y.on)).setCell ⟨g, o + 3, none⟩ (.int .i64 y.born)).setCell ⟨g, o + 4, none⟩ (.int .i64 y.tries)).setCell ⟨g, o + 5, none⟩ (.string y.worker)).setCell ⟨g, o + 6, none⟩ (.int .i64 y.til)).setCell ⟨g, o + 7, none⟩ (.int .u8 y.inc)).setCell ⟨g, o + 8, none⟩ (.int .i64 y.err)
theorem put_tok {W : World} {lo : Nat} {v : Value} {R : List Ih} {i k g : Nat} (hO : InsO W lo v R) (hi : i < R.length) (hk : k < (atL R i).x.toks.length) (hta : (atL R i).ta = some ⟨g, 0, none⟩) (y : Tok) :
    InsO (chainT W g (k * 9) y) lo v (setT R i k y) ∧ Below lo W (chainT W g (k * 9) y) := by
  obtain ⟨hlo, _, _, _, st0⟩ := tok_own hO hi hk hta
  obtain ⟨t, ht⟩ : ∃ t, atL (atL R i).x.toks k = t := ⟨_, rfl⟩
  have i0 := st0 0 (.int .i64 y.id) (⟨y.id, t.here, t.on, t.born, t.tries, t.worker, t.til, t.inc, t.err⟩ : Tok) (by omega) (by rw [ht]; rfl)
  obtain ⟨a1, b1, d1, e1⟩ := setT_at (y := (⟨y.id, t.here, t.on, t.born, t.tries, t.worker, t.til, t.inc, t.err⟩ : Tok)) hi hk
  obtain ⟨-, -, -, -, st1⟩ := tok_own i0 a1 b1 (d1.trans hta)
  have i1 := st1 1 (.string y.here) (⟨y.id, y.here, t.on, t.born, t.tries, t.worker, t.til, t.inc, t.err⟩ : Tok) (by omega) (by rw [e1]; rfl)
  rw [setT_twice _ _ _ _ _ hi] at i1
  obtain ⟨a2, b2, d2, e2⟩ := setT_at (y := (⟨y.id, y.here, t.on, t.born, t.tries, t.worker, t.til, t.inc, t.err⟩ : Tok)) hi hk
  obtain ⟨-, -, -, -, st2⟩ := tok_own i1 a2 b2 (d2.trans hta)
  have i2 := st2 2 (.string y.on) (⟨y.id, y.here, y.on, t.born, t.tries, t.worker, t.til, t.inc, t.err⟩ : Tok) (by omega) (by rw [e2]; rfl)
  rw [setT_twice _ _ _ _ _ hi] at i2
  obtain ⟨a3, b3, d3, e3⟩ := setT_at (y := (⟨y.id, y.here, y.on, t.born, t.tries, t.worker, t.til, t.inc, t.err⟩ : Tok)) hi hk
  obtain ⟨-, -, -, -, st3⟩ := tok_own i2 a3 b3 (d3.trans hta)
  have i3 := st3 3 (.int .i64 y.born) (⟨y.id, y.here, y.on, y.born, t.tries, t.worker, t.til, t.inc, t.err⟩ : Tok) (by omega) (by rw [e3]; rfl)
  rw [setT_twice _ _ _ _ _ hi] at i3
  obtain ⟨a4, b4, d4, e4⟩ := setT_at (y := (⟨y.id, y.here, y.on, y.born, t.tries, t.worker, t.til, t.inc, t.err⟩ : Tok)) hi hk
  obtain ⟨-, -, -, -, st4⟩ := tok_own i3 a4 b4 (d4.trans hta)
  have i4 := st4 4 (.int .i64 y.tries) (⟨y.id, y.here, y.on, y.born, y.tries, t.worker, t.til, t.inc, t.err⟩ : Tok) (by omega) (by rw [e4]; rfl)
  rw [setT_twice _ _ _ _ _ hi] at i4
  obtain ⟨a5, b5, d5, e5⟩ := setT_at (y := (⟨y.id, y.here, y.on, y.born, y.tries, t.worker, t.til, t.inc, t.err⟩ : Tok)) hi hk
  obtain ⟨-, -, -, -, st5⟩ := tok_own i4 a5 b5 (d5.trans hta)
  have i5 := st5 5 (.string y.worker) (⟨y.id, y.here, y.on, y.born, y.tries, y.worker, t.til, t.inc, t.err⟩ : Tok) (by omega) (by rw [e5]; rfl)
  rw [setT_twice _ _ _ _ _ hi] at i5
  obtain ⟨a6, b6, d6, e6⟩ := setT_at (y := (⟨y.id, y.here, y.on, y.born, y.tries, y.worker, t.til, t.inc, t.err⟩ : Tok)) hi hk
  obtain ⟨-, -, -, -, st6⟩ := tok_own i5 a6 b6 (d6.trans hta)
  have i6 := st6 6 (.int .i64 y.til) (⟨y.id, y.here, y.on, y.born, y.tries, y.worker, y.til, t.inc, t.err⟩ : Tok) (by omega) (by rw [e6]; rfl)
  rw [setT_twice _ _ _ _ _ hi] at i6
  obtain ⟨a7, b7, d7, e7⟩ := setT_at (y := (⟨y.id, y.here, y.on, y.born, y.tries, y.worker, y.til, t.inc, t.err⟩ : Tok)) hi hk
  obtain ⟨-, -, -, -, st7⟩ := tok_own i6 a7 b7 (d7.trans hta)
  have i7 := st7 7 (.int .u8 y.inc) (⟨y.id, y.here, y.on, y.born, y.tries, y.worker, y.til, y.inc, t.err⟩ : Tok) (by omega) (by rw [e7]; rfl)
  rw [setT_twice _ _ _ _ _ hi] at i7
  obtain ⟨a8, b8, d8, e8⟩ := setT_at (y := (⟨y.id, y.here, y.on, y.born, y.tries, y.worker, y.til, y.inc, t.err⟩ : Tok)) hi hk
  obtain ⟨-, -, -, -, st8⟩ := tok_own i7 a8 b8 (d8.trans hta)
  have i8 := st8 8 (.int .i64 y.err) y (by omega) (by rw [e8]; rfl)
  rw [setT_twice _ _ _ _ _ hi] at i8
  exact ⟨i8, (((((((((Below.refl lo W).setCell (p := ⟨g, k * 9 + 0, none⟩) hlo _).setCell (p := ⟨g, k * 9 + 1, none⟩) hlo _).setCell (p := ⟨g, k * 9 + 2, none⟩) hlo _).setCell (p := ⟨g, k * 9 + 3, none⟩) hlo _).setCell (p := ⟨g, k * 9 + 4, none⟩) hlo _).setCell (p := ⟨g, k * 9 + 5, none⟩) hlo _).setCell (p := ⟨g, k * 9 + 6, none⟩) hlo _).setCell (p := ⟨g, k * 9 + 7, none⟩) hlo _).setCell (p := ⟨g, k * 9 + 8, none⟩) hlo _⟩

set_option maxHeartbeats 4000000 in
theorem rfail_any (w : World) (v : Value) (l : List Ins) (clock : Int) (wk : ByteArray) (tok : Int) (hI : InsR w w.heap.size v l) (hS : SmL l) (hT : TriL l) :
    Calls Try.prog 27 #[v, .int .i64 clock, .string wk, .int .i64 tok] w fun e w' => ∃ vo R, e = .returned (.tuple #[vo, .int .i64 (chgE (mayFail wk clock) l tok)]) ∧ InsO w' w.heap.size vo R ∧ R.map (·.x) = chgL (mayFail wk clock) failF l tok ∧ Below w.heap.size w w' := by
  have S1 := Lib.hid (rfind_any w v l tok hI)
  have HI := Lib.hid hI
  have HS := Lib.hid hS
  unfold chgE chgL
  obtain ⟨a, c, rfl⟩ := hI.val
  cases hf : findT l tok with
  | none =>
    rw [hf] at S1
    unfold findV at S1
    clear hf hI hS hT
    go_enter Try.func27, Try.ntmps27
    go_wp2_with (go_at_call 21; refine S1.out.mono ?_; rintro e w1 ⟨rfl, hb1⟩)
    go_ret2
    exact ⟨_, [], rfl, insO_nil _ _, rfl, hb1⟩
  | some p =>
    rw [hf] at S1
    unfold findV at S1
    simp only
    have hpm := find_in hf
    obtain ⟨h1, h2, h3, _⟩ := allT_at hpm
    obtain ⟨b, o, rfl, _⟩ := hI.addr (by omega)
    have HPM := Lib.hid hpm
    have H3 := Lib.hid h3
    have i1 : (0 : Int) ≤ (p.i : Int) := by omega
    have i2 : (p.i : Int) < (l.length : Int) := by omega
    have htr : p.t.tries ≤ 9223372036854775807 := by
      rw [h3]
      exact hT (atL l p.i) (by rw [atL_eq h1]; exact List.getElem_mem _) (atL (atL l p.i).toks p.k) (by rw [atL_eq h2]; exact List.getElem_mem _)
    cases hh : holdsB wk clock p.t with
    | false =>
      have hm : Hid (mayFail wk clock p.t = 250) := Lib.hid (by unfold mayFail; rw [hh]; rfl)
      have S2 := Lib.hid (fun W => rholds_any W p.t wk clock)
      rw [hh] at S2
      rw [hm.out, if_neg (by omega)]
      clear hf hI hS hT hpm h3 hh
      go_enter Try.func27, Try.ntmps27
      go_wp2_with (go_at_call 21; refine S1.out.mono ?_; rintro e w1 ⟨rfl, hb1⟩; refine Hid.out ?_)
      refine Lib.hid ?_
      obtain ⟨bt, ot, n2, ct, k1, k2, q0, q4, t0, t1, t2, t3, t4, t5, t6, t7, t8, hbl, hbt⟩ := (HI.out.mono hb1 (Nat.le_refl _)).placeT HPM.out
      have k3 : (0 : Int) ≤ (p.k : Int) := by omega
      have k4 : (p.k : Int) < (n2 : Int) := by omega
      have HB1 := Lib.hid hb1
      clear hb1
      go_wp2_with (go_at_call 24; refine (S2.out _).mono ?_; rintro e w2 ⟨rfl, hb2⟩; have HB2 := Lib.hid hb2; clear hb2)
      go_ret2
      exact ⟨_, [], rfl, insO_nil _ _, rfl, HB1.out.trans (HB2.out.mono HB1.out.size)⟩
    | true =>
      have hm : Hid (mayFail wk clock p.t = 0) := Lib.hid (by unfold mayFail; rw [hh]; rfl)
      have S2 := Lib.hid (fun W => rholds_any W p.t wk clock)
      rw [hh] at S2
      rw [hm.out, if_pos rfl]
      have hpos : 0 < p.t.tries := by
        unfold holdsB isB at hh
        simp only [Bool.and_eq_true, Bool.or_eq_true, decide_eq_true_eq, beq_iff_eq] at hh
        omega
      clear hf hI hS hT hpm h3 hh
      go_enter Try.func27, Try.ntmps27
      go_wp2_with (go_at_call 21; refine S1.out.mono ?_; rintro e w1 ⟨rfl, hb1⟩; refine Hid.out ?_)
      refine Lib.hid ?_
      obtain ⟨bt, ot, n2, ct, k1, k2, q0, q4, t0, t1, t2, t3, t4, t5, t6, t7, t8, hbl, hbt⟩ := (HI.out.mono hb1 (Nat.le_refl _)).placeT HPM.out
      have k3 : (0 : Int) ≤ (p.k : Int) := by omega
      have k4 : (p.k : Int) < (n2 : Int) := by omega
      have HB1 := Lib.hid hb1
      clear hb1
      go_wp2_with (go_at_call 24; refine (S2.out _).mono ?_; rintro e w2 ⟨rfl, hb2⟩; refine Hid.out ?_)
      refine Lib.hid ?_
      have HB2 := Lib.hid (HB1.out.trans (hb2.mono HB1.out.size))
      have S3 := Lib.hid (rtwin_any w2 _ l (HI.out.at_all HB2.out) HS.out)
      clear hb2 q0 q4 t0 t1 t2 t3 t4 t5 t6 t7 t8
      go_wp2_with (go_at_call 11; refine S3.out.mono ?_; rintro e w3 ⟨vo, R, rfl, hO, hR, hb3⟩; refine Hid.out ?_)
      refine Lib.hid ?_
      have HB3 := Lib.hid (HB2.out.trans (hb3.mono HB2.out.size))
      have hRl : R.length = l.length := by rw [← hR, List.length_map]
      obtain ⟨ao, co, hvo⟩ := OwnF.shape hO.row
      rw [hRl] at hvo
      subst hvo
      have hiR : p.i < R.length := by omega
      have hx : (atL R p.i).x = atL l p.i := by rw [← hR, atL_map_x R _ hiR]
      have hkR : p.k < (atL R p.i).x.toks.length := by rw [hx]; exact h2
      have hty : atL (atL R p.i).x.toks p.k = p.t := by rw [hx, H3.out]
      obtain ⟨y, hy⟩ : ∃ y, p.t = y := ⟨_, rfl⟩
      rw [hy] at hty hpos htr
      obtain ⟨g, rfl, -, hglo, hg⟩ := OwnF.some hO.row (by omega)
      have r4 : w3.cell? ⟨g, p.i * 5 + 4, none⟩ = some (tvI (atL R p.i)) := by
        have := OwnF.at cellI_len hO.row hiR (j := 4) (by omega)
        rw [this, ← atL_eq hiR]; rfl
      obtain ⟨gt, hta, hlo, hlt, ⟨cs, hcs⟩, -⟩ := hO.setT hiR hkR (j := 5) (by omega) (.string default) { atL (atL R p.i).x.toks p.k with worker := default } rfl
      obtain ⟨-, -, fr, ce, -⟩ := tok_own hO hiR hkR hta
      rw [hty] at ce
      obtain ⟨gcs, hgcs, -, -⟩ := OwnF.block hO.row
      have hne : ¬ g = gt := type_ne hgcs hcs (by decide)
      have hne' : ¬ gt = g := fun e => hne e.symm
      obtain ⟨po, hpo⟩ : ∃ po, w3.heap.size = po := ⟨_, rfl⟩
      rw [hpo] at hlt hg
      have hnp : ¬ gt = po := by omega
      have hnp' : ¬ po = gt := by omega
      obtain ⟨nt, hnt⟩ : ∃ nt, (atL R p.i).x.toks.length = nt := ⟨_, rfl⟩
      obtain ⟨tc, htc⟩ : ∃ tc, (atL R p.i).tc = tc := ⟨_, rfl⟩
      rw [show tvI (atL R p.i) = .slice (some ⟨gt, 0, none⟩) nt tc by show Value.slice _ _ _ = _; rw [hta, hnt, htc]] at r4
      have k5 : (p.k : Int) < (nt : Int) := by omega
      have s0 : w3.cell? ⟨gt, p.k * 9, none⟩ = some (.int .i64 y.id) := ce 0 (by omega)
      have s1 : w3.cell? ⟨gt, p.k * 9 + 1, none⟩ = some (.string y.here) := ce 1 (by omega)
      have s2 : w3.cell? ⟨gt, p.k * 9 + 2, none⟩ = some (.string y.on) := ce 2 (by omega)
      have s3 : w3.cell? ⟨gt, p.k * 9 + 3, none⟩ = some (.int .i64 y.born) := ce 3 (by omega)
      have s4 : w3.cell? ⟨gt, p.k * 9 + 4, none⟩ = some (.int .i64 y.tries) := ce 4 (by omega)
      have s5 : w3.cell? ⟨gt, p.k * 9 + 5, none⟩ = some (.string y.worker) := ce 5 (by omega)
      have s6 : w3.cell? ⟨gt, p.k * 9 + 6, none⟩ = some (.int .i64 y.til) := ce 6 (by omega)
      have s7 : w3.cell? ⟨gt, p.k * 9 + 7, none⟩ = some (.int .u8 y.inc) := ce 7 (by omega)
      have s8 : w3.cell? ⟨gt, p.k * 9 + 8, none⟩ = some (.int .i64 y.err) := ce 8 (by omega)
      have hfin : ∀ (T : Array Value), InsO (chainT (w3.alloc (.cells T 41)) gt (p.k * 9) (failF y)) w2.heap.size (.slice (some ⟨g, 0, none⟩) l.length co) (setT R p.i p.k (failF y)) ∧ Below w.heap.size w (chainT (w3.alloc (.cells T 41)) gt (p.k * 9) (failF y)) := fun T => by
        have hb := (Below.refl w3.heap.size w3).alloc (Nat.le_refl _) (.cells T 41)
        obtain ⟨q1, q2⟩ := put_tok (hO.kept hb) hiR hkR hta (failF y)
        have hbb := HB3.out.trans (hb.mono HB3.out.size)
        exact ⟨q1, hbb.trans (q2.mono HB2.out.size)⟩
      have HF := Lib.hid hfin
      have HM2 : Hid ((setT R p.i p.k (failF y)).map (·.x) = markL failF l p.i p.k) := Lib.hid (by rw [setT_map R p.i p.k _ failF hiR (by rw [hty]), hR])
      have hz2 := HB2.out.size
      clear hO hR hb3 hx hty hta hnt htc ce hfin hcs hgcs hy
      by_cases hz : y.tries - 1 = 0
      · have e : Hid (failF y = (⟨y.id, y.here, y.on, y.born, y.tries - 1, ⟨#[]⟩, 0, 2, y.err⟩ : Tok)) := Lib.hid (by unfold failF; rw [if_pos hz])
        have d1 : (y.tries - 1 == 0) = true := by simpa using hz
        have hlt1 : (1 : Int) ≤ y.tries := by omega
        have hF0 := HF.out #[.int .i64 y.id, .string y.here, .string y.on, .int .i64 y.born, .int .i64 (y.tries - 1), .string ⟨#[]⟩, .int .i64 0, .int .u8 2, .int .i64 y.err]
        rw [e.out] at hF0
        obtain ⟨w4, hw4⟩ : ∃ w4, w3.alloc (.cells #[.int .i64 y.id, .string y.here, .string y.on, .int .i64 y.born, .int .i64 (y.tries - 1), .string ⟨#[]⟩, .int .i64 0, .int .u8 2, .int .i64 y.err] 41) = w4 := ⟨_, rfl⟩
        have hn4 : w4.heap[po]? = some (.cells #[.int .i64 y.id, .string y.here, .string y.on, .int .i64 y.born, .int .i64 (y.tries - 1), .string ⟨#[]⟩, .int .i64 0, .int .u8 2, .int .i64 y.err] 41) := by rw [← hw4, ← hpo]; exact heap_alloc_new w3 _
        have hb4 : Below po w3 w4 := by rw [← hw4]; exact (Below.refl po w3).alloc (by omega) _
        rw [hw4] at hF0
        have HF0 := Lib.hid hF0
        have HM3 : Hid ((setT R p.i p.k (⟨y.id, y.here, y.on, y.born, y.tries - 1, ⟨#[]⟩, 0, 2, y.err⟩ : Tok)).map (·.x) = markL failF l p.i p.k) := Lib.hid (by rw [← e.out]; exact HM2.out)
        have n0 : w4.cell? ⟨po, 0, none⟩ = some (.int .i64 y.id) := (cell_of_block hn4 0).trans rfl
        have n1 : w4.cell? ⟨po, 1, none⟩ = some (.string y.here) := (cell_of_block hn4 1).trans rfl
        have n2' : w4.cell? ⟨po, 2, none⟩ = some (.string y.on) := (cell_of_block hn4 2).trans rfl
        have n3 : w4.cell? ⟨po, 3, none⟩ = some (.int .i64 y.born) := (cell_of_block hn4 3).trans rfl
        have n4 : w4.cell? ⟨po, 4, none⟩ = some (.int .i64 (y.tries - 1)) := (cell_of_block hn4 4).trans rfl
        have n5 : w4.cell? ⟨po, 5, none⟩ = some (.string ⟨#[]⟩) := (cell_of_block hn4 5).trans rfl
        have n6 : w4.cell? ⟨po, 6, none⟩ = some (.int .i64 0) := (cell_of_block hn4 6).trans rfl
        have n7 : w4.cell? ⟨po, 7, none⟩ = some (.int .u8 2) := (cell_of_block hn4 7).trans rfl
        have n8 : w4.cell? ⟨po, 8, none⟩ = some (.int .i64 y.err) := (cell_of_block hn4 8).trans rfl
        have hgp : ¬ g = po := by omega
        have hgp' : ¬ po = g := by omega
        have r4' : w4.cell? ⟨g, p.i * 5 + 4, none⟩ = some (.slice (some ⟨gt, 0, none⟩) nt tc) := (Below.cellB hb4 hg).trans r4
        have HS0 := Lib.hid (show ∀ q, q < 9 → (w4.cell? ⟨gt, p.k * 9 + q, none⟩) = w3.cell? ⟨gt, p.k * 9 + q, none⟩ from fun q _ => Below.cellB hb4 hlt)
        have x0 := (HS0.out 0 (by omega)).trans s0
        have x1 := (HS0.out 1 (by omega)).trans s1
        have x2 := (HS0.out 2 (by omega)).trans s2
        have x3 := (HS0.out 3 (by omega)).trans s3
        have x4 := (HS0.out 4 (by omega)).trans s4
        have x5 := (HS0.out 5 (by omega)).trans s5
        have x6 := (HS0.out 6 (by omega)).trans s6
        have x7 := (HS0.out 7 (by omega)).trans s7
        have x8 := (HS0.out 8 (by omega)).trans s8
        have HFR := Lib.hid (show ∀ q, w4.frozen? ⟨gt, q, none⟩ = false from fun q => (hb4.frozen (p := ⟨gt, q, none⟩) hlt).trans (fr q))
        have y0 := HFR.out (p.k * 9)
        have y1 := HFR.out (p.k * 9 + 1)
        have y2 := HFR.out (p.k * 9 + 2)
        have y3 := HFR.out (p.k * 9 + 3)
        have y4 := HFR.out (p.k * 9 + 4)
        have y5 := HFR.out (p.k * 9 + 5)
        have y6 := HFR.out (p.k * 9 + 6)
        have y7 := HFR.out (p.k * 9 + 7)
        have y8 := HFR.out (p.k * 9 + 8)
        rw [Nat.add_zero] at x0
        have HW4 := Lib.hid hw4
        clear hz hF0 hn4 hb4 HM2 hw4 fr
        go_wp2_with fail
        rw [HW4.out]
        clear s0 s1 s2 s3 s4 s5 s6 s7 s8 r4
        go_region_held3 (fun w' => w'.cell? ⟨g, p.i * 5 + 4, none⟩ = some (.slice (some ⟨gt, 0, none⟩) nt tc) ∧ w'.cell? ⟨po, 0, none⟩ = some (.int .i64 y.id) ∧ w'.cell? ⟨po, 1, none⟩ = some (.string y.here) ∧ w'.cell? ⟨po, 2, none⟩ = some (.string y.on) ∧ w'.cell? ⟨po, 3, none⟩ = some (.int .i64 y.born) ∧ w'.cell? ⟨po, 4, none⟩ = some (.int .i64 (y.tries - 1)) ∧ w'.cell? ⟨po, 5, none⟩ = some (.string ⟨#[]⟩) ∧ w'.cell? ⟨po, 6, none⟩ = some (.int .i64 0) ∧ w'.cell? ⟨po, 7, none⟩ = some (.int .u8 2) ∧ w'.cell? ⟨po, 8, none⟩ = some (.int .i64 y.err)) (go_keep) (fail)
        all_goals go_wp2_with fail
        all_goals go_ret2
        all_goals exact ⟨_, _, rfl, ⟨OwnF.lower (OwnF.kept HF0.out.1.row (Below.refl _ _).drew) hz2, (HF0.out.1.own.kept (Below.refl _ _).drew).lower hz2⟩, HM3.out, HF0.out.2.drew⟩
      · have e : Hid (failF y = (⟨y.id, y.here, y.on, y.born, y.tries - 1, ⟨#[]⟩, 0, y.inc, y.err⟩ : Tok)) := Lib.hid (by unfold failF; rw [if_neg hz])
        have d1 : (y.tries - 1 == 0) = false := by simpa using hz
        have hlt1 : (1 : Int) ≤ y.tries := by omega
        have hF0 := HF.out #[.int .i64 y.id, .string y.here, .string y.on, .int .i64 y.born, .int .i64 (y.tries - 1), .string ⟨#[]⟩, .int .i64 0, .int .u8 y.inc, .int .i64 y.err]
        rw [e.out] at hF0
        obtain ⟨w4, hw4⟩ : ∃ w4, w3.alloc (.cells #[.int .i64 y.id, .string y.here, .string y.on, .int .i64 y.born, .int .i64 (y.tries - 1), .string ⟨#[]⟩, .int .i64 0, .int .u8 y.inc, .int .i64 y.err] 41) = w4 := ⟨_, rfl⟩
        have hn4 : w4.heap[po]? = some (.cells #[.int .i64 y.id, .string y.here, .string y.on, .int .i64 y.born, .int .i64 (y.tries - 1), .string ⟨#[]⟩, .int .i64 0, .int .u8 y.inc, .int .i64 y.err] 41) := by rw [← hw4, ← hpo]; exact heap_alloc_new w3 _
        have hb4 : Below po w3 w4 := by rw [← hw4]; exact (Below.refl po w3).alloc (by omega) _
        rw [hw4] at hF0
        have HF0 := Lib.hid hF0
        have HM3 : Hid ((setT R p.i p.k (⟨y.id, y.here, y.on, y.born, y.tries - 1, ⟨#[]⟩, 0, y.inc, y.err⟩ : Tok)).map (·.x) = markL failF l p.i p.k) := Lib.hid (by rw [← e.out]; exact HM2.out)
        have n0 : w4.cell? ⟨po, 0, none⟩ = some (.int .i64 y.id) := (cell_of_block hn4 0).trans rfl
        have n1 : w4.cell? ⟨po, 1, none⟩ = some (.string y.here) := (cell_of_block hn4 1).trans rfl
        have n2' : w4.cell? ⟨po, 2, none⟩ = some (.string y.on) := (cell_of_block hn4 2).trans rfl
        have n3 : w4.cell? ⟨po, 3, none⟩ = some (.int .i64 y.born) := (cell_of_block hn4 3).trans rfl
        have n4 : w4.cell? ⟨po, 4, none⟩ = some (.int .i64 (y.tries - 1)) := (cell_of_block hn4 4).trans rfl
        have n5 : w4.cell? ⟨po, 5, none⟩ = some (.string ⟨#[]⟩) := (cell_of_block hn4 5).trans rfl
        have n6 : w4.cell? ⟨po, 6, none⟩ = some (.int .i64 0) := (cell_of_block hn4 6).trans rfl
        have n7 : w4.cell? ⟨po, 7, none⟩ = some (.int .u8 y.inc) := (cell_of_block hn4 7).trans rfl
        have n8 : w4.cell? ⟨po, 8, none⟩ = some (.int .i64 y.err) := (cell_of_block hn4 8).trans rfl
        have hgp : ¬ g = po := by omega
        have hgp' : ¬ po = g := by omega
        have r4' : w4.cell? ⟨g, p.i * 5 + 4, none⟩ = some (.slice (some ⟨gt, 0, none⟩) nt tc) := (Below.cellB hb4 hg).trans r4
        have HS0 := Lib.hid (show ∀ q, q < 9 → (w4.cell? ⟨gt, p.k * 9 + q, none⟩) = w3.cell? ⟨gt, p.k * 9 + q, none⟩ from fun q _ => Below.cellB hb4 hlt)
        have x0 := (HS0.out 0 (by omega)).trans s0
        have x1 := (HS0.out 1 (by omega)).trans s1
        have x2 := (HS0.out 2 (by omega)).trans s2
        have x3 := (HS0.out 3 (by omega)).trans s3
        have x4 := (HS0.out 4 (by omega)).trans s4
        have x5 := (HS0.out 5 (by omega)).trans s5
        have x6 := (HS0.out 6 (by omega)).trans s6
        have x7 := (HS0.out 7 (by omega)).trans s7
        have x8 := (HS0.out 8 (by omega)).trans s8
        have HFR := Lib.hid (show ∀ q, w4.frozen? ⟨gt, q, none⟩ = false from fun q => (hb4.frozen (p := ⟨gt, q, none⟩) hlt).trans (fr q))
        have y0 := HFR.out (p.k * 9)
        have y1 := HFR.out (p.k * 9 + 1)
        have y2 := HFR.out (p.k * 9 + 2)
        have y3 := HFR.out (p.k * 9 + 3)
        have y4 := HFR.out (p.k * 9 + 4)
        have y5 := HFR.out (p.k * 9 + 5)
        have y6 := HFR.out (p.k * 9 + 6)
        have y7 := HFR.out (p.k * 9 + 7)
        have y8 := HFR.out (p.k * 9 + 8)
        rw [Nat.add_zero] at x0
        have HW4 := Lib.hid hw4
        clear hz hF0 hn4 hb4 HM2 hw4 fr
        go_wp2_with fail
        rw [HW4.out]
        clear s0 s1 s2 s3 s4 s5 s6 s7 s8 r4
        go_region_held3 (fun w' => w'.cell? ⟨g, p.i * 5 + 4, none⟩ = some (.slice (some ⟨gt, 0, none⟩) nt tc) ∧ w'.cell? ⟨po, 0, none⟩ = some (.int .i64 y.id) ∧ w'.cell? ⟨po, 1, none⟩ = some (.string y.here) ∧ w'.cell? ⟨po, 2, none⟩ = some (.string y.on) ∧ w'.cell? ⟨po, 3, none⟩ = some (.int .i64 y.born) ∧ w'.cell? ⟨po, 4, none⟩ = some (.int .i64 (y.tries - 1)) ∧ w'.cell? ⟨po, 5, none⟩ = some (.string ⟨#[]⟩) ∧ w'.cell? ⟨po, 6, none⟩ = some (.int .i64 0) ∧ w'.cell? ⟨po, 7, none⟩ = some (.int .u8 y.inc) ∧ w'.cell? ⟨po, 8, none⟩ = some (.int .i64 y.err)) (go_keep) (fail)
        all_goals go_wp2_with fail
        all_goals go_ret2
        all_goals exact ⟨_, _, rfl, ⟨OwnF.lower (OwnF.kept HF0.out.1.row (Below.refl _ _).drew) hz2, (HF0.out.1.own.kept (Below.refl _ _).drew).lower hz2⟩, HM3.out, HF0.out.2.drew⟩

end Go.Proofs.Ytggnheekkbideaa
