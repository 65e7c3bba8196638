/- job.Fail, job.Revive. -/
import Derived.Test.YtggnheekkbideaaJobChange
set_option maxRecDepth 100000
namespace Go.Proofs.Ytggnheekkbideaa
open Go.RowKit

def mayFail (wk : ByteArray) (c : Int) (t : Tok) : Int := if holdsB wk c t = true then 0 else 250
def failF (t : Tok) : Tok := { t with worker := ⟨#[]⟩, til := 0, tries := t.tries - 1, inc := if t.tries - 1 = 0 then 2 else t.inc }
def mayRev (tries : Int) (t : Tok) : Int := if isB t = true ∧ t.inc = 2 then (if 1 ≤ tries ∧ tries ≤ 100 then 0 else 1) else 250
def revF (tries : Int) (t : Tok) : Tok := { t with tries := tries, inc := 0 }

set_option maxHeartbeats 2000000 in
theorem fail1_any (w : World) (t : Tok) (bw bc : Nat) (wk : ByteArray) (c : Int) (hw : w.cell? ⟨bw, 0, none⟩ = some (.string wk)) (hc : w.cell? ⟨bc, 0, none⟩ = some (.int .i64 c)) (lw : bw < w.heap.size) (lc : bc < w.heap.size) :
    Calls Try.prog 40 #[valT t, .pointer (some ⟨bw, 0, none⟩), .pointer (some ⟨bc, 0, none⟩)] w fun e w' => e = .returned (.int .i64 (mayFail wk c t)) ∧ Below w.heap.size w w' := by
  obtain ⟨W, hW, hB, hs, hn⟩ := tok_new w t
  obtain ⟨t0, t1, t2, t3, t4, t5, t6, t7, t8⟩ := tok_cells hn
  have S1 := Lib.hid (holds_any W t wk c)
  have cw : W.cell? ⟨bw, 0, none⟩ = some (.string wk) := (Below.cellB hB lw).trans hw
  have cc : W.cell? ⟨bc, 0, none⟩ = some (.int .i64 c) := (Below.cellB hB lc).trans hc
  have HB := Lib.hid hB
  clear hn hB hw hc
  cases hh : holdsB wk c t with
  | false =>
    rw [hh] at S1
    have HH : Hid (mayFail wk c t = 250) := Lib.hid (by unfold mayFail; rw [hh]; rfl)
    clear hh
    go_enter Try.func40, Try.ntmps40
    go_wp2_with (go_at_call 14; refine S1.out.mono ?_; rintro e W2 ⟨rfl, hb2⟩; have HB2 := Lib.hid hb2; clear hb2)
    go_ret
    exact ⟨ret_int HH.out.symm, HB.out.trans (HB2.out.mono HB.out.size)⟩
  | true =>
    rw [hh] at S1
    have HH : Hid (mayFail wk c t = 0) := Lib.hid (by unfold mayFail; rw [hh]; rfl)
    clear hh
    go_enter Try.func40, Try.ntmps40
    go_wp2_with (go_at_call 14; refine S1.out.mono ?_; rintro e W2 ⟨rfl, hb2⟩; have HB2 := Lib.hid hb2; clear hb2)
    go_ret
    exact ⟨ret_int HH.out.symm, HB.out.trans (HB2.out.mono HB.out.size)⟩

set_option maxHeartbeats 2000000 in
theorem rev1_any (w : World) (t : Tok) (bc : Nat) (c : Int) (hc : w.cell? ⟨bc, 0, none⟩ = some (.int .i64 c)) (lc : bc < w.heap.size) :
    Calls Try.prog 46 #[valT t, .pointer (some ⟨bc, 0, none⟩)] w fun e w' => e = .returned (.int .i64 (mayRev c t)) ∧ Below w.heap.size w w' := by
  obtain ⟨W, hW, hB, hs, hn⟩ := tok_new w t
  obtain ⟨t0, t1, t2, t3, t4, t5, t6, t7, t8⟩ := tok_cells hn
  have S1 := Lib.hid (is_any W t)
  have cc : W.cell? ⟨bc, 0, none⟩ = some (.int .i64 c) := (Below.cellB hB lc).trans hc
  have HB := Lib.hid hB
  have HN := Lib.hid hn
  have HC := Lib.hid (show ∀ W2, Below W.heap.size W W2 → W2.cell? ⟨w.heap.size, 7, none⟩ = some (.int .u8 t.inc) ∧ W2.cell? ⟨bc, 0, none⟩ = some (.int .i64 c) from fun W2 hb => by
    obtain ⟨-, -, -, -, -, -, -, s7, -⟩ := tok_cells ((hb.block _ hs).trans hn)
    exact ⟨s7, (Below.cellB hb (Nat.lt_of_lt_of_le lc HB.out.size)).trans cc⟩)
  clear hn hB hc
  cases hh : isB t with
  | false =>
    rw [hh] at S1
    have HH : Hid (mayRev c t = 250) := Lib.hid (by unfold mayRev; rw [hh]; simp)
    clear hh
    go_enter Try.func46, Try.ntmps46
    go_wp2_with (go_at_call 22; refine S1.out.mono ?_; rintro e W2 ⟨rfl, hb2⟩; obtain ⟨s7, sc⟩ := HC.out _ hb2; have HB2 := Lib.hid hb2; clear hb2)
    go_ret
    exact ⟨ret_int HH.out.symm, HB.out.trans (HB2.out.mono HB.out.size)⟩
  | true =>
    rw [hh] at S1
    by_cases hi : t.inc = 2
    · by_cases h1 : c < 1
      · have HH : Hid (mayRev c t = 1) := Lib.hid (by unfold mayRev; rw [hh, if_pos ⟨rfl, hi⟩, if_neg (by omega)])
        have d1 : (t.inc != 2) = false := by simp [hi]
        have d2 : decide (c < 1) = true := decide_eq_true h1
        clear hh hi h1
        go_enter Try.func46, Try.ntmps46
        go_wp2_with (go_at_call 22; refine S1.out.mono ?_; rintro e W2 ⟨rfl, hb2⟩; obtain ⟨s7, sc⟩ := HC.out _ hb2; have HB2 := Lib.hid hb2; clear hb2)
        go_ret
        exact ⟨ret_int HH.out.symm, HB.out.trans (HB2.out.mono HB.out.size)⟩
      · by_cases h2 : 100 < c
        · have HH : Hid (mayRev c t = 1) := Lib.hid (by unfold mayRev; rw [hh, if_pos ⟨rfl, hi⟩, if_neg (by omega)])
          have d1 : (t.inc != 2) = false := by simp [hi]
          have d2 : decide (c < 1) = false := decide_eq_false h1
          have d3 : decide (100 < c) = true := decide_eq_true h2
          clear hh hi h1 h2
          go_enter Try.func46, Try.ntmps46
          go_wp2_with (go_at_call 22; refine S1.out.mono ?_; rintro e W2 ⟨rfl, hb2⟩; obtain ⟨s7, sc⟩ := HC.out _ hb2; have HB2 := Lib.hid hb2; clear hb2)
          go_ret
          exact ⟨ret_int HH.out.symm, HB.out.trans (HB2.out.mono HB.out.size)⟩
        · have HH : Hid (mayRev c t = 0) := Lib.hid (by unfold mayRev; rw [hh, if_pos ⟨rfl, hi⟩, if_pos (by omega)])
          have d1 : (t.inc != 2) = false := by simp [hi]
          have d2 : decide (c < 1) = false := decide_eq_false h1
          have d3 : decide (100 < c) = false := decide_eq_false h2
          clear hh hi h1 h2
          go_enter Try.func46, Try.ntmps46
          go_wp2_with (go_at_call 22; refine S1.out.mono ?_; rintro e W2 ⟨rfl, hb2⟩; obtain ⟨s7, sc⟩ := HC.out _ hb2; have HB2 := Lib.hid hb2; clear hb2)
          go_ret
          exact ⟨ret_int HH.out.symm, HB.out.trans (HB2.out.mono HB.out.size)⟩
    · have HH : Hid (mayRev c t = 250) := Lib.hid (by unfold mayRev; rw [hh, if_neg (fun h => hi h.2)])
      have d1 : (t.inc != 2) = true := by simpa using hi
      clear hh hi
      go_enter Try.func46, Try.ntmps46
      go_wp2_with (go_at_call 22; refine S1.out.mono ?_; rintro e W2 ⟨rfl, hb2⟩; obtain ⟨s7, sc⟩ := HC.out _ hb2; have HB2 := Lib.hid hb2; clear hb2)
      go_ret
      exact ⟨ret_int HH.out.symm, HB.out.trans (HB2.out.mono HB.out.size)⟩

/-- A token of an own instance: its cells, and what a store leaves. -/
theorem tok_own {W : World} {lo : Nat} {v : Value} {R : List Ih} {i k g : Nat} (hO : InsO W lo v R) (hi : i < R.length) (hk : k < (atL R i).x.toks.length) (hta : (atL R i).ta = some ⟨g, 0, none⟩) :
    lo ≤ g ∧ g < W.heap.size ∧ (∀ q, W.frozen? ⟨g, q, none⟩ = false) ∧ (∀ q, q < 9 → W.cell? ⟨g, k * 9 + q, none⟩ = (cellT (atL (atL R i).x.toks k))[q]?) ∧
      ∀ (q : Nat) (u : Value) (y : Tok), q < 9 → cellT y = (cellT (atL (atL R i).x.toks k)).set q u → InsO (W.setCell ⟨g, k * 9 + q, none⟩ u) lo v (setT R i k y) := by
  have hm : atL R i ∈ R := by rw [atL_eq hi]; exact List.getElem_mem _
  have hRT := hO.own.toks _ hm
  rw [show tvI (atL R i) = .slice (some ⟨g, 0, none⟩) (atL R i).x.toks.length (atL R i).tc by show Value.slice _ _ _ = _; rw [hta]] at hRT
  refine ⟨(OwnF.lt hRT g rfl).1, (OwnF.lt hRT g rfl).2, OwnF.free hRT, fun q hq => by rw [OwnF.at cellT_len hRT hk hq, ← atL_eq hk], fun q u y hq hy => ?_⟩
  obtain ⟨g2, h2, _, _, _, h6⟩ := hO.setT hi hk hq u y hy
  rw [hta] at h2
  injection h2 with h2
  injection h2 with h2
  subst h2
  exact h6
theorem setT_at {R : List Ih} {i k : Nat} {y : Tok} (hi : i < R.length) (hk : k < (atL R i).x.toks.length) : i < (setT R i k y).length ∧ k < (atL (setT R i k y) i).x.toks.length ∧ (atL (setT R i k y) i).ta = (atL R i).ta ∧ atL (atL (setT R i k y) i).x.toks k = y := by
  refine ⟨by rw [setT_len]; exact hi, ?_, ?_, ?_⟩
  · unfold setT; rw [atL_set, if_pos ⟨rfl, hi⟩]; simp only [List.length_set]; exact hk
  · unfold setT; rw [atL_set, if_pos ⟨rfl, hi⟩]
  · unfold setT; rw [atL_set, if_pos ⟨rfl, hi⟩]; simp only; rw [atL_set, if_pos ⟨rfl, hk⟩]

set_option maxHeartbeats 2000000 in
theorem fail2_turn (w : World) (wk : ByteArray) (c : Int) : TurnC 41 #[] (mayFail wk c) failF w := by
  intro W lo v R i k g _ _ hO hi hk hta hmay htr
  obtain ⟨hlo, hg, fr, ce, st⟩ := tok_own hO hi hk hta
  obtain ⟨y, hy⟩ : ∃ y, atL (atL R i).x.toks k = y := ⟨_, rfl⟩
  rw [hy] at ce hmay htr
  have hpos : 0 < y.tries := by
    unfold mayFail holdsB isB at hmay
    split at hmay
    · rename_i h
      simp only [Bool.and_eq_true, Bool.or_eq_true, decide_eq_true_eq, beq_iff_eq] at h
      omega
    · omega
  have c4 : W.cell? ⟨g, k * 9 + 4, none⟩ = some (.int .i64 y.tries) := ce 4 (by omega)
  have c5 : W.cell? ⟨g, k * 9 + 5, none⟩ = some (.string y.worker) := ce 5 (by omega)
  have c6 : W.cell? ⟨g, k * 9 + 6, none⟩ = some (.int .i64 y.til) := ce 6 (by omega)
  have c7 : W.cell? ⟨g, k * 9 + 7, none⟩ = some (.int .u8 y.inc) := ce 7 (by omega)
  have f4 := fr (k * 9 + 4)
  have f5 := fr (k * 9 + 5)
  have f6 := fr (k * 9 + 6)
  have f7 := fr (k * 9 + 7)
  have i1 := st 5 (.string ⟨#[]⟩) { y with worker := ⟨#[]⟩ } (by omega) (by rw [hy]; rfl)
  obtain ⟨a1, b1, d1, e1⟩ := setT_at (y := { y with worker := ⟨#[]⟩ }) hi hk
  obtain ⟨-, -, -, -, st2⟩ := tok_own i1 a1 b1 (d1.trans hta)
  have i2 := st2 6 (.int .i64 0) { y with worker := ⟨#[]⟩, til := 0 } (by omega) (by rw [e1]; rfl)
  rw [setT_twice _ _ _ _ _ hi] at i2
  obtain ⟨a2, b2, d2, e2⟩ := setT_at (y := { y with worker := ⟨#[]⟩, til := 0 }) hi hk
  obtain ⟨-, -, -, -, st3⟩ := tok_own i2 a2 b2 (d2.trans hta)
  have i3 := st3 4 (.int .i64 (y.tries - 1)) { y with worker := ⟨#[]⟩, til := 0, tries := y.tries - 1 } (by omega) (by rw [e2]; rfl)
  rw [setT_twice _ _ _ _ _ hi] at i3
  obtain ⟨a3, b3, d3, e3⟩ := setT_at (y := { y with worker := ⟨#[]⟩, til := 0, tries := y.tries - 1 }) hi hk
  obtain ⟨-, -, -, -, st4⟩ := tok_own i3 a3 b3 (d3.trans hta)
  have i4 := st4 7 (.int .u8 2) { y with worker := ⟨#[]⟩, til := 0, tries := y.tries - 1, inc := 2 } (by omega) (by rw [e3]; rfl)
  rw [setT_twice _ _ _ _ _ hi] at i4
  have hB3 : Below lo W (((W.setCell ⟨g, k * 9 + 5, none⟩ (.string ⟨#[]⟩)).setCell ⟨g, k * 9 + 6, none⟩ (.int .i64 0)).setCell ⟨g, k * 9 + 4, none⟩ (.int .i64 (y.tries - 1))) :=
    (((Below.refl lo W).setCell (p := ⟨g, k * 9 + 5, none⟩) hlo _).setCell (p := ⟨g, k * 9 + 6, none⟩) hlo _).setCell (p := ⟨g, k * 9 + 4, none⟩) hlo _
  have hB4 := hB3.setCell (p := ⟨g, k * 9 + 7, none⟩) hlo (.int .u8 2)
  have I3 := Lib.hid i3
  have I4 := Lib.hid i4
  have B3 := Lib.hid hB3
  have B4 := Lib.hid hB4
  rw [hy]
  by_cases hz : y.tries - 1 = 0
  · have e : Hid (failF y = { y with worker := ⟨#[]⟩, til := 0, tries := y.tries - 1, inc := 2 }) := Lib.hid (by unfold failF; rw [if_pos hz])
    have t1 : (y.tries - 1 == 0) = true := by simpa using hz
    have hlt : (1 : Int) ≤ y.tries := by omega
    clear st st2 st3 st4 i1 i2 i3 i4 hB3 hB4 ce fr hy hO e1 e2 e3 d1 d2 d3 hta hz hmay
    go_enter Try.func41, Try.ntmps41
    go_wp2_with fail
    refine bodyPost_end (results_none rfl _ _ _) rfl ?_
    exact ⟨rfl, by rw [e.out]; exact I4.out, B4.out⟩
  · have e : Hid (failF y = { y with worker := ⟨#[]⟩, til := 0, tries := y.tries - 1 }) := Lib.hid (by unfold failF; rw [if_neg hz])
    have t1 : (y.tries - 1 == 0) = false := by simpa using hz
    have hlt : (1 : Int) ≤ y.tries := by omega
    clear st st2 st3 st4 i1 i2 i3 i4 hB3 hB4 ce fr hy hO e1 e2 e3 d1 d2 d3 hta hz hmay
    go_enter Try.func41, Try.ntmps41
    go_wp2_with fail
    refine bodyPost_end (results_none rfl _ _ _) rfl ?_
    exact ⟨rfl, by rw [e.out]; exact I3.out, B3.out⟩

set_option maxHeartbeats 2000000 in
theorem rev2_turn (w : World) (bc : Nat) (c : Int) (hc : w.cell? ⟨bc, 0, none⟩ = some (.int .i64 c)) (lc : bc < w.heap.size) : TurnC 47 #[.pointer (some ⟨bc, 0, none⟩)] (mayRev c) (revF c) w := by
  intro W lo v R i k g hBW hlo0 hO hi hk hta hmay _
  obtain ⟨hlo, hg, fr, ce, st⟩ := tok_own hO hi hk hta
  obtain ⟨y, hy⟩ : ∃ y, atL (atL R i).x.toks k = y := ⟨_, rfl⟩
  rw [hy] at ce hmay
  have cc : W.cell? ⟨bc, 0, none⟩ = some (.int .i64 c) := (Below.cellB hBW lc).trans hc
  have c4 : W.cell? ⟨g, k * 9 + 4, none⟩ = some (.int .i64 y.tries) := ce 4 (by omega)
  have c7 : W.cell? ⟨g, k * 9 + 7, none⟩ = some (.int .u8 y.inc) := ce 7 (by omega)
  have f4 := fr (k * 9 + 4)
  have f7 := fr (k * 9 + 7)
  have i1 := st 4 (.int .i64 c) { y with tries := c } (by omega) (by rw [hy]; rfl)
  obtain ⟨a1, b1, d1, e1⟩ := setT_at (y := { y with tries := c }) hi hk
  obtain ⟨-, -, -, -, st2⟩ := tok_own i1 a1 b1 (d1.trans hta)
  have i2 := st2 7 (.int .u8 0) (revF c y) (by omega) (by rw [e1]; rfl)
  rw [setT_twice _ _ _ _ _ hi] at i2
  have hB2 : Below lo W ((W.setCell ⟨g, k * 9 + 4, none⟩ (.int .i64 c)).setCell ⟨g, k * 9 + 7, none⟩ (.int .u8 0)) :=
    ((Below.refl lo W).setCell (p := ⟨g, k * 9 + 4, none⟩) hlo _).setCell (p := ⟨g, k * 9 + 7, none⟩) hlo _
  have I2 := Lib.hid i2
  have B2 := Lib.hid hB2
  rw [hy]
  clear st st2 i1 i2 hB2 ce fr hy hO e1 d1 hta hmay hc hBW
  go_enter Try.func47, Try.ntmps47
  go_wp2_with fail
  refine bodyPost_end (results_none rfl _ _ _) rfl ?_
  exact ⟨rfl, I2.out, B2.out⟩

end Go.Proofs.Ytggnheekkbideaa
