/- The walk of the law ClockPlays. -/
import Derived.Test.YtofpmhkjagdmmaaClockPl
import Derived.Test.YtofpmhkjagdmmaaRTwice
import Derived.Test.YtofpmhkjagdmmaaOpenSt
import Derived.Deep.CutBlock
set_option maxRecDepth 100000
namespace Go.Proofs.Ytofpmhkjagdmmaa
open Go.RowKit

theorem StR.cells {w : World} {B b o n cap : Nat} {l : List St} (h : StR w B (.slice (some ⟨b, o, none⟩) n cap) l) {i : Nat} (hi : i < l.length) {x : St} (hx : l[i] = x) :
    w.cell? ⟨b, o + i * 6, none⟩ = some (.int .i64 x.kind) ∧ w.cell? ⟨b, o + i * 6 + 1, none⟩ = some (.int .i64 x.a.due) ∧ w.cell? ⟨b, o + i * 6 + 2, none⟩ = some (.int .i64 x.a.token) ∧ w.cell? ⟨b, o + i * 6 + 3, none⟩ = some (.string x.a.via) ∧ w.cell? ⟨b, o + i * 6 + 4, none⟩ = some (.int .i64 x.a.inst) ∧ w.cell? ⟨b, o + i * 6 + 5, none⟩ = some (.int .i64 x.n) := by
  obtain ⟨b', o', hab, _, hc⟩ := h.col i hi
  cases hab
  rw [hx] at hc
  exact ⟨hc 0 (by omega), hc 1 (by omega), hc 2 (by omega), hc 3 (by omega), hc 4 (by omega), hc 5 (by omega)⟩
theorem box6 {w : World} {b : Nat} {v0 v1 v2 v3 v4 v5 : Value} {t : TypeId} {fr : Nat × Nat} (h : w.heap[b]? = some (.cells #[v0, v1, v2, v3, v4, v5] t fr)) :
    w.cell? ⟨b, 0, none⟩ = some v0 ∧ w.cell? ⟨b, 1, none⟩ = some v1 ∧ w.cell? ⟨b, 2, none⟩ = some v2 ∧ w.cell? ⟨b, 3, none⟩ = some v3 ∧ w.cell? ⟨b, 4, none⟩ = some v4 ∧ w.cell? ⟨b, 5, none⟩ = some v5 :=
  ⟨by rw [cell_of_block h]; rfl, by rw [cell_of_block h]; rfl, by rw [cell_of_block h]; rfl, by rw [cell_of_block h]; rfl, by rw [cell_of_block h]; rfl, by rw [cell_of_block h]; rfl⟩

/-- What stands behind a step: both clocks, side by side. -/
def StepOk (W w' : World) (p1 p2 i : Nat) : Prop :=
  ∃ (v vx : Value) (C : List Ent) (L : List Al) (now many : Int), Pl w' W.heap.size p1 p2 v vx C L now many ∧ Below W.heap.size W w' ∧ 0 ≤ now ∧ now ≤ 1099511627776 ∧ 0 ≤ many ∧ many ≤ (i : Int) + 1 ∧ L.length ≤ i + 1

theorem new_bad (w : World) (now : Int) (h : ¬ (0 ≤ now ∧ now ≤ 1099511627776)) : Calls Try.prog 8 #[.int .i64 now] w fun r w' => r = .returned (.tuple #[.pointer none, .int .i64 1]) ∧ w = w' :=
  (new_any w now).mono fun r w' h' => by
    rcases h' with ⟨_, h1⟩ | ⟨h1, _⟩
    · exact h1
    · exact absurd h1 h
theorem rnew_bad (w : World) (now : Int) (h : ¬ (0 ≤ now ∧ now ≤ 1099511627776)) : Calls Try.prog 15 #[.int .i64 now] w fun r w' => r = .returned (.tuple #[.pointer none, .int .i64 1]) ∧ w = w' :=
  (rnew_any w now).mono fun r w' h' => by
    rcases h' with ⟨_, h1⟩ | ⟨h1, _⟩
    · exact h1
    · exact absurd h1 h
theorem rnew_ok (w : World) (now : Int) (h0 : 0 ≤ now) (h1 : now ≤ 1099511627776) : Calls Try.prog 15 #[.int .i64 now] w fun r w' => ∃ p, r = .returned (.tuple #[.pointer (some ⟨p, 0, none⟩), .int .i64 0]) ∧ w.heap.size ≤ p ∧ RClk w' p now (.slice none 0 0) ∧ Below w.heap.size w w' :=
  (rnew_any w now).mono fun r w' h => by
    rcases h with ⟨h, _⟩ | ⟨_, h⟩
    · omega
    · exact h

theorem box6m {w : World} {b : Nat} {v0 v1 v2 v3 v4 v5 : Value} {t : TypeId} {fr : Nat × Nat} (h : w.heap[b]? = some (.cells #[v0, v1, v2, v3, v4, v5] t fr)) :
    w.cell? ⟨b, 1, none⟩ = some v1 ∧ w.cell? ⟨b, 2, none⟩ = some v2 ∧ w.cell? ⟨b, 3, none⟩ = some v3 ∧ w.cell? ⟨b, 4, none⟩ = some v4 := by
  obtain ⟨_, y1, y2, y3, y4, _⟩ := box6 h
  exact ⟨y1, y2, y3, y4⟩
theorem drop_is (w : World) (base p : Nat) (now many : Int) (v : Value) (l : List Ent) (t K : Int) (hc : Clk w p now v many) (hr : Row w base v l) (hl : l.length ≤ 1048576) (hK : (l.length : Int) - ((l.filter (keepB t)).length : Int) = K) :
    Calls Try.prog 12 #[.pointer (some ⟨p, 0, none⟩), .int .i64 t] w fun r w' => r = .returned (.int .i64 K) ∧ ∃ v', Kept w w' base p now v v' (initE ltEnt (l.filter (keepB t))) many :=
  (drop_any w base p now many v l t hc hr hl).mono fun r w' ⟨h1, h2⟩ => ⟨by rw [h1, hK], h2⟩
theorem rdrop_is (w : World) (base p : Nat) (now : Int) (v : Value) (L : List Al) (t K : Int) (hc : RClk w p now v) (hr : RAls w base v L) (hbase : base ≤ w.heap.size) (hl : L.length ≤ 1048576) (hK : (L.length : Int) - ((L.filter (keepA t)).length : Int) = K) :
    Calls Try.prog 17 #[.pointer (some ⟨p, 0, none⟩), .int .i64 t] w fun r w' => r = .returned (.int .i64 K) ∧ ∃ v', RClk w' p now v' ∧ RAls w' base v' (L.filter (keepA t)) ∧ Frm [some p, v.ownBlock] w w' :=
  (rdrop_any w base p now v L t hc hr hl).mono fun r w' ⟨v', h1, h2, h3, h4⟩ => ⟨by rw [h1, hK], v', h2, OwnF.lower h3 hbase, h4.mono (by simp)⟩
theorem own_geA {w : World} {base : Nat} {v : Value} {A : List Al} (h : Als w base v A) : ∀ k, v.ownBlock = some k → base ≤ k := by
  intro k hk
  rcases h.val with ⟨e, _⟩ | ⟨g, c, e, hb, _⟩
  · rw [e] at hk; cases hk
  · rw [e] at hk; simp only [Value.ownBlock, Option.some.injEq] at hk; omega
theorem clen_is (w : World) (p : Nat) (now many : Int) (a : Option Addr) (n cap : Nat) {K : Int} (hc : Clk w p now (.slice a n cap) many) (hK : (n : Int) = K) : Calls Try.prog 14 #[.pointer (some ⟨p, 0, none⟩)] w fun r w' => r = .returned (.int .i64 K) ∧ w = w' :=
  (clen_any w p now many a n cap hc).mono fun r w' ⟨h1, h2⟩ => ⟨by rw [h1, hK], h2⟩
theorem all_is (w : World) (base p : Nat) (now many : Int) (v : Value) (l : List Ent) (A : List Al) (hc : Clk w p now v many) (hr : Row w base v l) (hbase : base ≤ w.heap.size) (hl : l.length ≤ 1048576) (hA : ∀ S : List Ent, S.Perm l → S.Pairwise (fun a b => ltEnt b a = false) → S.map Ent.al = A) :
    Calls Try.prog 23 #[.pointer (some ⟨p, 0, none⟩)] w fun r w' => ∃ vA, r = .returned vA ∧ Als w' w.heap.size vA A ∧ Below w.heap.size w w' :=
  (all_any w base p now many v l hc hr hbase hl).mono fun r w' ⟨vA, S, h1, h2, h3, h4, h5⟩ => ⟨vA, h1, by rw [← hA S h2 h3]; exact h4, h5⟩
theorem own_apart {w w' : World} {b : Nat} {v v' : Value} {A A' : List Al} (h : Als w b v A) (h' : Als w' w.heap.size v' A') : v.ownBlock = none ∨ v.ownBlock ≠ v'.ownBlock := by
  rcases h.val with ⟨e, _⟩ | ⟨g, c, e, _, hg⟩
  · exact Or.inl (by rw [e]; rfl)
  · refine Or.inr ?_
    rcases h'.val with ⟨e', _⟩ | ⟨g', c', e', hb', _⟩
    · rw [e, e']; simp [Value.ownBlock]
    · rw [e, e']; simp [Value.ownBlock]; omega
theorem rset_new (w : World) (base p : Nat) (now : Int) (v : Value) (L : List Al) (a : Al) (hc : RClk w p now v) (hr : RAls w base v L) (hbase : base ≤ w.heap.size) (hl : L.length ≤ 1048576) (h0 : 0 ≤ now) (ho : okA now a = true) (hh : L.any (pairB a) = false) :
    Calls Try.prog 16 #[.pointer (some ⟨p, 0, none⟩), valA a] w fun r w' => r = .returned (.int .i64 0) ∧ ∃ v', RClk w' p now v' ∧ RAls w' base v' (L ++ [a]) ∧ Frm [some p, v.ownBlock] w w' :=
  (rset_ok w base p now v L a hc hr hbase hl h0 ho).mono fun r w' h => by
    rcases h with ⟨h, _⟩ | ⟨_, h1, v', h2, h3, h4, _⟩
    · rw [hh] at h; cases h
    · exact ⟨h1, v', h2, h3, h4⟩

set_option maxHeartbeats 16000000 in
theorem clockPlays_walk (W : World) (now0 : Int) (_gn : (Lit.int .i64 now0).wf = true) (v1 : Value) (l : List St) (hl : StR W W.heap.size v1 l) (gl : ∀ s ∈ l, (Lit.int .i64 s.n).wf = true) :
    Calls Try.prog 5 #[.int .i64 now0, v1] W fun e w' => e = .returned (.bool true) ∧ Below W.heap.size W w' := by
  obtain ⟨a1, c1, rfl⟩ := hl.val
  have hll := hl.len
  by_cases hgood : 0 ≤ now0 ∧ now0 ≤ 1099511627776
  case neg =>
    have N1 := Lib.hid (new_bad W now0 hgood)
    have N2 := Lib.hid (rnew_bad W now0 hgood)
    clear hgood
    go_enter Try.func5, Try.ntmps5
    go_wp2_with (first | (go_at_call 8; refine N1.out.mono ?_; rintro e w1 ⟨rfl, rfl⟩) | (go_at_call 15; refine N2.out.mono ?_; rintro e w1 ⟨rfl, rfl⟩))
    go_loopg [9] l.length (fun gh s9 wx => s9 = .int .i64 0 ∧ W = wx)
    case atStart => exact ⟨rfl, rfl⟩
    case round =>
      obtain ⟨rfl, rfl⟩ := hrel
      by_cases hn : 0 < l.length
      · have d1 : decide ((0 : Int) < (l.length : Int)) = true := decide_eq_true (by omega)
        go_wp2_with (go_at_call 7; refine (awake_any _).mono ?_; rintro e w1 ⟨rfl, hb1⟩)
        go_ret
        exact ⟨rfl, hb1⟩
      · have d1 : decide ((0 : Int) < (l.length : Int)) = false := decide_eq_false (by omega)
        go_wp2_with (go_at_call 7; refine (awake_any _).mono ?_; rintro e w1 ⟨rfl, hb1⟩)
        go_ret
        exact ⟨rfl, hb1⟩
  case pos =>
    obtain ⟨h0, h01⟩ := hgood
    go_enter Try.func5, Try.ntmps5
    go_wp2_with (first | (go_at_call 8; refine (new_ok _ now0 h0 h01).mono ?_; rintro e w1 ⟨p1, rfl, hp1, hc1, hb1⟩; refine Hid.out ?_))
    refine Lib.hid ?_
    go_wp2_with (first | (go_at_call 15; refine (rnew_ok _ now0 h0 h01).mono ?_; rintro e w2 ⟨p2, rfl, hp2, hc2, hb2⟩; refine Hid.out ?_))
    refine Lib.hid ?_
    have z1 := hb1.size
    have B2 := hb1.trans (hb2.mono z1)
    have z2 := B2.size
    have HP2 : Hid (Pl w2 W.heap.size p1 p2 (.slice none 0 0) (.slice none 0 0) [] [] now0 0) := Lib.hid ⟨⟨hc1.below hb2 (Nat.le_refl _), row_nil _ _, heap_nil⟩, hc2, OwnF.nil _ _, Same22.nil⟩
    have HB2 := Lib.hid B2
    have q1 : W.heap.size ≤ p1 := hp1
    have q2 : W.heap.size ≤ p2 := by omega
    clear hc1 hc2 hb1 hb2 B2 hp1 hp2
    go_wp2_with fail
    go_loopg [9] l.length (fun gh s9 wx => ∃ (i : Nat) (v vx : Value) (C : List Ent) (L : List Al) (now many : Int), i + gh = l.length ∧ s9 = .int .i64 (i : Int) ∧ Hid (Pl wx W.heap.size p1 p2 v vx C L now many) ∧ Hid (Below W.heap.size W wx) ∧ 0 ≤ now ∧ now ≤ 1099511627776 ∧ 0 ≤ many ∧ many ≤ (i : Int) ∧ L.length ≤ i ∧ i ≤ 150)
    case atStart => exact ⟨0, _, _, [], [], now0, 0, by omega, rfl, HP2, HB2, h0, h01, by omega, by omega, by simp, by omega⟩
    case round =>
      clear HP2 HB2 z1 z2
      obtain ⟨i, v, vx, C, L, now, many, hig, rfl, hP, hB, n0, n1, m0, m1, hLi, hi150⟩ := hrel
      have hzr := hB.out.size
      by_cases hi : i < l.length
      · by_cases hi1 : i < 150
        · obtain ⟨b, o, hab, hbl, -⟩ := hl.col i hi
          subst hab
          obtain ⟨x, hx⟩ : ∃ x, l[i] = x := ⟨_, rfl⟩
          obtain ⟨x0, x1, x2, x3, x4, x5⟩ := (hl.mono hB.out hzr).cells hi hx
          have gx := gl _ (List.getElem_mem hi)
          rw [hx] at gx
          clear hx
          have d1 : decide ((i : Int) < (l.length : Int)) = true := decide_eq_true (by omega)
          have d2 : decide ((i : Int) < 150) = true := decide_eq_true (by omega)
          have hwb := (Below.refl wr.heap.size wr).alloc (Nat.le_refl _) (.cells #[.int .i64 x.kind, .int .i64 x.a.due, .int .i64 x.a.token, .string x.a.via, .int .i64 x.a.inst, .int .i64 x.n] 48)
          have hwn := heap_alloc_new wr (.cells #[.int .i64 x.kind, .int .i64 x.a.due, .int .i64 x.a.token, .string x.a.via, .int .i64 x.a.inst, .int .i64 x.n] 48)
          obtain ⟨w5, hw5⟩ : ∃ w5, wr.alloc (.cells #[.int .i64 x.kind, .int .i64 x.a.due, .int .i64 x.a.token, .string x.a.via, .int .i64 x.a.inst, .int .i64 x.n] 48) = w5 := ⟨_, rfl⟩
          rw [hw5] at hwb hwn
          obtain ⟨pb, hpb⟩ : ∃ pb, wr.heap.size = pb := ⟨_, rfl⟩
          have HP5 := Lib.hid (hP.out.below hwb)
          have HB5 := Lib.hid (hB.out.trans (hwb.mono hzr))
          rw [hpb] at hwn
          obtain ⟨y0, y1, y2, y3, y4, y5⟩ := box6 hwn
          have HN5 := Lib.hid hwn
          clear hwn hwb
          go_upto_block 2 with fail
          go_cut [10] (fun s10 wx => s10 = .bool true ∧ Hid (StepOk W wx p1 p2 i))
          case first =>
            clear x0 x1 x2 x3 x4 x5 d1 d2 hw5
            have hpl : pb < w5.heap.size := lt_of_block HN5.out
            have hz5 := HB5.out.size
            have hCl : C.length = L.length := HP5.out.same.len
            have FIN := Lib.hid (show ∀ (w' : World) (v vx : Value) (C : List Ent) (L : List Al) (now many : Int), Pl w' W.heap.size p1 p2 v vx C L now many → Below W.heap.size W w' → 0 ≤ now → now ≤ 1099511627776 → 0 ≤ many → many ≤ (i : Int) + 1 → L.length ≤ i + 1 → Hid (StepOk W w' p1 p2 i) from fun w' v vx C L now many h1 h2 h3 h4 h5 h6 h7 => Lib.hid ⟨v, vx, C, L, now, many, h1, h2, h3, h4, h5, h6, h7⟩)
            by_cases hk0 : x.kind = 0
            · have e0 : (x.kind == 0) = true := by rw [hk0]; rfl
              clear hk0
              by_cases hcase : okA now x.a = true ∧ hasA C x.a = false
              · obtain ⟨hok, hh⟩ := hcase
                have hhL : L.any (pairB x.a) = false := by rw [← HP5.out.same.has]; exact hh
                have HOK := Lib.hid hok
                have HH := Lib.hid hh
                have HHL := Lib.hid hhL
                have curN := Lib.hid (blk_below HN5.out ((Below.refl w5.heap.size w5).drew))
                have curB := Lib.hid (HB5.out.drew)
                have curC := Lib.hid ((HP5.out.below ((Below.refl w5.heap.size w5).drew)).c)
                have curR := Lib.hid (And.intro ((HP5.out.below ((Below.refl w5.heap.size w5).drew)).rc) ((HP5.out.below ((Below.refl w5.heap.size w5).drew)).rr))
                clear hok hh hhL
                go_wp2_with fail
                go_region_held3 (fun w' => w'.cell? ⟨pb, 1, none⟩ = some (.int .i64 x.a.due) ∧ w'.cell? ⟨pb, 2, none⟩ = some (.int .i64 x.a.token) ∧ w'.cell? ⟨pb, 3, none⟩ = some (.string x.a.via) ∧ w'.cell? ⟨pb, 4, none⟩ = some (.int .i64 x.a.inst))
                  (first | go_keep | exact box6m curN.out)
                  (first
                    | (go_at_call 10; refine (given_any _ x.a).mono ?_; rintro e wG ⟨rfl, hbG⟩; have curN := Lib.hid (blk_below curN.out hbG); have curC := Lib.hid (curC.out.below hbG); have curR := Lib.hid (And.intro (curR.out.1.below hbG (Nat.le_refl _)) (OwnF.kept curR.out.2 hbG)); have curB := Lib.hid (curB.out.trans (hbG.mono curB.out.size)))
                    | (go_at_call 9; refine (set_new _ W.heap.size p1 now many _ C x.a curC.out.clk curC.out.row curB.out.size (by omega) m0 (by omega) HOK.out HH.out).mono ?_; rintro e wS ⟨rfl, v6, hk6⟩; have curN := Lib.hid (blk_c curN.out curC.out hk6.frm (by decide) (by decide)); have curR := Lib.hid (cturn curR.out.1 curR.out.2 curC.out hk6.frm); have curB := Lib.hid (frm_below curB.out q1 (row_ge curC.out.row) curB.out.size hk6.frm); have curC := Lib.hid (show CkS _ _ p1 now v6 _ _ from ⟨hk6.clk, hk6.row, push_heap ltEnt_ord curC.out.heap _⟩); clear hk6)
                    | (go_at_call 16; refine (rset_new _ W.heap.size p2 now _ L x.a curR.out.1 curR.out.2 curB.out.size (by omega) n0 HOK.out HHL.out).mono ?_; rintro e wR ⟨rfl, v7, hc7, hr7, hf7⟩; have curN := Lib.hid (blk_r curN.out curR.out.1 curR.out.2 hf7 (by decide) (by decide)); have curC := Lib.hid (rturn curR.out.1 curR.out.2 curC.out hf7); have curB := Lib.hid (frm_below curB.out q2 (rals_ge curR.out.2) curB.out.size hf7); have curR := Lib.hid (And.intro hc7 hr7); clear hc7 hr7 hf7))
                all_goals go_wp2_with fail
                all_goals go_meet
                all_goals exact ⟨rfl, FIN.out _ _ _ _ _ _ _ ⟨curC.out, curR.out.1, curR.out.2, HP5.out.same.push x.a⟩ curB.out n0 n1 (by omega) (by omega) (by simp; omega)⟩
              · have hsame : ∃ e : Int, (∀ w', Below w5.heap.size w5 w' → Calls Try.prog 9 #[.pointer (some ⟨p1, 0, none⟩), valA x.a] w' fun r w2 => r = .returned (.int .i64 e) ∧ Below w'.heap.size w' w2) ∧
                    (∀ w', Below w5.heap.size w5 w' → Calls Try.prog 16 #[.pointer (some ⟨p2, 0, none⟩), valA x.a] w' fun r w2 => r = .returned (.int .i64 e) ∧ Below w'.heap.size w' w2) := by
                  cases hok : okA now x.a with
                  | false =>
                    exact ⟨1, fun w' hb => set_bad w' p1 now many v x.a ((HP5.out.below hb).c.clk) hok, fun w' hb => rset_bad w' p2 now vx x.a ((HP5.out.below hb).rc) n0 hok⟩
                  | true =>
                    have hh : hasA C x.a = true := by
                      cases h : hasA C x.a with
                      | true => rfl
                      | false => exact absurd ⟨hok, h⟩ hcase
                    refine ⟨6, fun w' hb => set_twice w' W.heap.size p1 now many v C x.a ((HP5.out.below hb).c.clk) ((HP5.out.below hb).c.row) (Nat.le_trans hz5 hb.size) (by omega) (by omega) (by omega) hok hh, fun w' hb => ?_⟩
                    refine (rset_ok w' W.heap.size p2 now vx L x.a ((HP5.out.below hb).rc) ((HP5.out.below hb).rr) (Nat.le_trans hz5 hb.size) (by omega) n0 hok).mono fun r w2 h => ?_
                    rcases h with ⟨_, h1, h2⟩ | ⟨h, _⟩
                    · exact ⟨h1, h2⟩
                    · rw [← HP5.out.same.has, hh] at h; cases h
                obtain ⟨e, HS, HR⟩ := hsame
                have HS := Lib.hid HS
                have HR := Lib.hid HR
                have cur : Below w5.heap.size w5 w5.drew := (Below.refl _ _).drew
                clear hcase
                go_wp2_with fail
                go_region_held3 (fun w' => w'.cell? ⟨pb, 1, none⟩ = some (.int .i64 x.a.due) ∧ w'.cell? ⟨pb, 2, none⟩ = some (.int .i64 x.a.token) ∧ w'.cell? ⟨pb, 3, none⟩ = some (.string x.a.via) ∧ w'.cell? ⟨pb, 4, none⟩ = some (.int .i64 x.a.inst))
                  (first | go_keep | (refine ⟨?_, ?_, ?_, ?_⟩ <;> (rw [Below.cellB cur hpl]; assumption)))
                  (first
                    | (go_at_call 10; refine (given_any _ x.a).mono ?_; rintro e wG ⟨rfl, hbG⟩; have cur := cur.trans (hbG.mono cur.size))
                    | (go_at_call 9; refine (HS.out _ cur).mono ?_; rintro e wS ⟨rfl, hbS⟩; have cur := cur.trans (hbS.mono cur.size))
                    | (go_at_call 16; refine (HR.out _ cur).mono ?_; rintro e wR ⟨rfl, hbR⟩; have cur := cur.trans (hbR.mono cur.size)))
                all_goals go_wp2_with fail
                all_goals go_meet
                all_goals exact ⟨rfl, FIN.out _ _ _ _ _ _ _ (HP5.out.below cur) (HB5.out.trans (cur.mono hz5)) n0 n1 m0 (by omega) (by omega)⟩
            · have e0 : (x.kind == 0) = false := by rw [beq_eq_false_iff_ne]; exact hk0
              clear hk0
              by_cases hk1 : x.kind = 1
              · have e1 : (x.kind == 1) = true := by rw [hk1]; rfl
                clear hk1
                obtain ⟨K, hK⟩ : ∃ K : Int, (C.length : Int) - ((C.filter (keepB x.n)).length : Int) = K := ⟨_, rfl⟩
                have hK2 : (L.length : Int) - ((L.filter (keepA x.n)).length : Int) = K := by rw [← hK, hCl, HP5.out.same.drop_len]
                have curN := Lib.hid (blk_below HN5.out ((Below.refl w5.heap.size w5).drew))
                have curB := Lib.hid (HB5.out.drew)
                have curC := Lib.hid ((HP5.out.below ((Below.refl w5.heap.size w5).drew)).c)
                have curR := Lib.hid (And.intro ((HP5.out.below ((Below.refl w5.heap.size w5).drew)).rc) ((HP5.out.below ((Below.refl w5.heap.size w5).drew)).rr))
                have HK := Lib.hid hK
                have HK2 := Lib.hid hK2
                clear hK hK2
                go_wp2_with fail
                go_region_held3 (fun w' => w'.cell? ⟨pb, 5, none⟩ = some (.int .i64 x.n))
                  (first | go_keep | exact (box6 curN.out).2.2.2.2.2)
                  (first
                    | (go_at_call 12; refine (drop_is _ W.heap.size p1 now many _ C x.n K curC.out.clk curC.out.row (by omega) HK.out).mono ?_; rintro e wS ⟨rfl, v6, hk6⟩; have curN := Lib.hid (blk_c curN.out curC.out hk6.frm (by decide) (by decide)); have curR := Lib.hid (cturn curR.out.1 curR.out.2 curC.out hk6.frm); have curB := Lib.hid (frm_below curB.out q1 (row_ge curC.out.row) curB.out.size hk6.frm); have curC := Lib.hid (show CkS _ _ p1 now v6 _ _ from ⟨hk6.clk, hk6.row, (init_heap ltEnt_ord _).1⟩); clear hk6)
                    | (go_at_call 17; refine (rdrop_is _ W.heap.size p2 now _ L x.n K curR.out.1 curR.out.2 curB.out.size (by omega) HK2.out).mono ?_; rintro e wR ⟨rfl, v7, hc7, hr7, hf7⟩; have curN := Lib.hid (blk_r curN.out curR.out.1 curR.out.2 hf7 (by decide) (by decide)); have curC := Lib.hid (rturn curR.out.1 curR.out.2 curC.out hf7); have curB := Lib.hid (frm_below curB.out q2 (rals_ge curR.out.2) curB.out.size hf7); have curR := Lib.hid (And.intro hc7 hr7); clear hc7 hr7 hf7))
                all_goals go_wp2_with fail
                all_goals go_meet
                all_goals exact ⟨by simp, FIN.out _ _ _ _ _ _ _ ⟨curC.out, curR.out.1, curR.out.2, HP5.out.same.drop x.n⟩ curB.out n0 n1 (by omega) (by omega) (by have := List.length_filter_le (keepA x.n) L; omega)⟩
              · have e1 : (x.kind == 1) = false := by rw [beq_eq_false_iff_ne]; exact hk1
                clear hk1
                have HC5 := Lib.hid HP5.out.c
                have HR5 := Lib.hid (And.intro HP5.out.rc HP5.out.rr)
                by_cases hbad : badT now x.n
                · have T1 := Lib.hid (tick_bad w5 p1 now many x.n v HP5.out.c.clk n0 n1 hbad)
                  have T2 := Lib.hid (rtick_bad w5 p2 now x.n vx HP5.out.rc n0 n1 hbad)
                  have S1 := Lib.hid (same_any w5 W.heap.size W.heap.size (.slice none 0 0) (.slice none 0 0) [] (OwnF.nil _ _) (OwnF.nil _ _) (by simp))
                  clear hbad
                  go_wp2_with (first
                    | (go_at_call 11; refine T1.out.mono ?_; rintro e w6 ⟨rfl, rfl⟩)
                    | (go_at_call 18; refine T2.out.mono ?_; rintro e w6 ⟨rfl, rfl⟩)
                    | (go_at_call 19; refine S1.out.mono ?_; rintro e w6 ⟨rfl, hb6⟩))
                  go_loopg [16] 0 (fun gh s16 wx => s16 = .int .i64 0 ∧ w6 = wx)
                  case atStart => exact ⟨rfl, rfl⟩
                  case round =>
                    obtain ⟨rfl, rfl⟩ := hrel
                    go_wp2_with fail
                    go_meet
                    exact ⟨rfl, FIN.out _ _ _ _ _ _ _ (HP5.out.below hb6) (HB5.out.trans (hb6.mono hz5)) n0 n1 m0 (by omega) (by omega)⟩
                · have hnx : 0 ≤ now + x.n ∧ now + x.n ≤ 1099511627776 := by unfold badT at hbad; omega
                  have T1 := Lib.hid (tick_any w5 W.heap.size p1 now many x.n v C HP5.out.c.clk HP5.out.c.row hz5 (by omega) n0 hbad)
                  have HBAD := Lib.hid hbad
                  clear hbad
                  go_wp2_with (go_at_call 11; refine T1.out.mono ?_; rintro e w6 ⟨va, v6, rfl, hA6, hk6⟩; refine Hid.out ?_)
                  refine Lib.hid ?_
                  have hR6 := cturn HR5.out.1 HR5.out.2 HC5.out hk6.frm
                  have hN6 := blk_c HN5.out HC5.out hk6.frm (by decide) (by decide)
                  have hB6 := frm_below HB5.out q1 (row_ge HC5.out.row) hz5 hk6.frm
                  have hC6 : CkS w6 W.heap.size p1 (now + x.n) v6 (tickE C (now + x.n)).2 many := ⟨hk6.clk, hk6.row, (tick_ok _ _ _ rfl HC5.out.heap).2.1⟩
                  have hz6 := hB6.size
                  have hz56 : w5.heap.size ≤ w6.heap.size := hk6.frm.size
                  have HR6 := Lib.hid hR6
                  have HN6 := Lib.hid hN6
                  have HB6 := Lib.hid hB6
                  have HC6 := Lib.hid hC6
                  have HA6 := Lib.hid hA6
                  clear hR6 hN6 hB6 hC6 hA6 hk6 T1 y0 y1 y2 y3 y4 y5
                  obtain ⟨y0, y1, y2, y3, y4, y5⟩ := box6 HN6.out
                  have T2 := Lib.hid (rtick_any w6 W.heap.size p2 now x.n vx L HR6.out.1 HR6.out.2 (by omega) n0 HBAD.out)
                  have HTK := Lib.hid (HP5.out.same.tick (now := now + x.n) HC5.out.heap)
                  go_wp2_with (go_at_call 18; refine T2.out.mono ?_; rintro e w7 ⟨vo, v7, rfl, hO7, hc7, hr7, hf7⟩; refine Hid.out ?_)
                  refine Lib.hid ?_
                  have hf7' : Frm [some p2, vx.ownBlock] w6 w7 := hf7.mono (by simp)
                  have hC7 := rturn HR6.out.1 HR6.out.2 HC6.out hf7'
                  have hB7 := frm_below HB6.out q2 (rals_ge HR6.out.2) hz6 hf7'
                  have hA7 : Als w7 w5.heap.size va ((tickE C (now + x.n)).1.map Ent.al) := own_frm HA6.out hf7 (fun r hr => by
                    rw [List.mem_singleton.1 hr]
                    exact Or.inr (Ne.symm (own_blk HA6.out HR6.out.1 (by decide))))
                  have hr7 := OwnF.lower hr7 hz6
                  rw [HTK.out.1] at hA7
                  have hO7 : RAls w7 w6.heap.size vo ((allA L).filter (fun a => decide (a.due ≤ now + x.n))) := hO7
                  obtain ⟨A, hAe⟩ : ∃ A, (allA L).filter (fun a => decide (a.due ≤ now + x.n)) = A := ⟨_, rfl⟩
                  have hAl : A.length ≤ 1048576 := by rw [← hAe]; have := List.length_filter_le (fun a : Al => decide (a.due ≤ now + x.n)) (allA L); rw [allA_len] at this; omega
                  rw [hAe] at hA7 hO7
                  have hz7 := hB7.size
                  have hz57 : w5.heap.size ≤ w7.heap.size := Nat.le_trans hz56 hf7.size
                  have S1 := Lib.hid (same_any w7 _ _ _ _ A hA7 hO7 hAl)
                  obtain ⟨aa, ca, rfl⟩ := OwnF.shape hA7
                  obtain ⟨ao, co, rfl⟩ := OwnF.shape hO7
                  have HA7 := Lib.hid hA7
                  have HB7 := Lib.hid hB7
                  have HC7 := Lib.hid hC7
                  have HR7 := Lib.hid (And.intro hc7 hr7)
                  clear hA7 hB7 hC7 hc7 hr7 hf7 hf7' hO7 hAe T2 HA6
                  go_wp2_with (go_at_call 19; refine S1.out.mono ?_; rintro e w8 ⟨rfl, hb8⟩; refine Hid.out ?_)
                  refine Lib.hid ?_
                  have HA8 := Lib.hid (OwnF.kept HA7.out hb8)
                  have HB8 := Lib.hid (HB7.out.trans (hb8.mono hz7))
                  have HC8 := Lib.hid (HC7.out.below hb8)
                  have HR8 := Lib.hid (And.intro (HR7.out.1.below hb8 (Nat.le_refl _)) (OwnF.kept HR7.out.2 hb8))
                  have hz8 := HB8.out.size
                  have hz58 : w5.heap.size ≤ w8.heap.size := Nat.le_trans hz57 hb8.size
                  clear S1 HA7 HB7 HC7 HR7 hb8 y0 y1 y2 y3 y4 y5
                  go_wp2_with fail
                  go_loopg [16] A.length (fun gh s16 wx => ∃ (k : Nat) (B : List Al), k + gh = A.length ∧ s16 = .int .i64 (k : Int) ∧ Hid (B.length = A.length) ∧ Als wx w5.heap.size (.slice aa A.length ca) B ∧ Frm [(Value.slice aa A.length ca).ownBlock] w8 wx)
                  case atStart => exact ⟨0, A, by omega, rfl, rfl, HA8.out, Frm.refl _ _⟩
                  case round =>
                    obtain ⟨k, D, hkg, rfl, hDl, hO, hF⟩ := hrel
                    by_cases hk : k < A.length
                    · have hkD : k < D.length := by rw [hDl.out]; exact hk
                      obtain ⟨g, rfl, -, -, hg⟩ := hO.some (by omega)
                      have x1 : wr.cell? ⟨g, k * 4 + 1, none⟩ = some (.int .i64 D[k].token) := hO.at cellA_len (i := k) (j := 1) hkD (by omega)
                      have fz := hO.free (k * 4 + 1)
                      have hset := hO.set cellA_len hkD (show 1 < 4 by omega) (.int .i64 (-1)) ⟨D[k].due, -1, D[k].via, D[k].inst⟩ rfl
                      have hF2 := hF.grown (grownBy_setCell wr g (k * 4 + 1) (.int .i64 (-1))) (by simp [Value.ownBlock])
                      obtain ⟨y, hy⟩ : ∃ y, D[k].token = y := ⟨_, rfl⟩
                      rw [hy] at x1
                      have HS := Lib.hid hset
                      have HF2 := Lib.hid hF2
                      have HL := Lib.hid (show ∀ z, (D.set k z).length = A.length from fun z => by rw [List.length_set, hDl.out])
                      clear hset hF2 hy hO hF
                      go_wp2_with fail
                      go_roundg (A.length - (k + 1))
                      case measure => omega
                      case rel => exact ⟨k + 1, _, by omega, by go_num, Lib.hid (HL.out _), HS.out, HF2.out⟩
                    · have hk1 : ¬ ((k : Int) < (A.length : Int)) := by omega
                      have hk2 : decide (k < A.length) = false := decide_eq_false hk
                      have HE := Lib.hid (FIN.out wr _ _ _ _ _ _ ⟨HC8.out.als HA8.out hF, hF.block HR8.out.1 (fun r hr => by rw [List.mem_singleton.1 hr]; exact own_blk HA8.out HR8.out.1 (by decide)), own_frm HR8.out.2 hF (fun r hr => by rw [List.mem_singleton.1 hr]; exact own_row HR8.out.2 HA8.out (by decide)), HTK.out.2⟩
                        (HB8.out.trans (hF.toBelow hz8 (fun r hr k e => by rw [List.mem_singleton.1 hr] at e; exact Nat.le_trans hz5 (own_geA HA8.out k e)))) hnx.1 hnx.2 m0 (by omega) (by have := List.length_filter_le (stayB (now + x.n)) L; omega))
                      clear hO hF
                      go_wp2_with fail
                      go_meet
                      exact ⟨rfl, HE.out⟩
          case rest =>
            obtain ⟨rfl, hS⟩ := hcut
            obtain ⟨v2, vx2, C2, L2, now2, many2, hP2, hB2, n20, n21, m20, m21, hL2⟩ := hS.out
            have HS := Lib.hid hS.out
            have hz2 := hB2.size
            have R1 := Lib.hid (rall_any wc W.heap.size p2 now2 vx2 L2 hP2.rc hP2.rr (by omega))
            have HP2 := Lib.hid hP2
            have HB2 := Lib.hid hB2
            clear hP2 hB2 hS HS x0 x1 x2 x3 x4 x5 y0 y1 y2 y3 y4 y5 d1 d2 hw5
            go_wp2_with (go_at_call 20; refine R1.out.mono ?_; rintro e w6 ⟨vX, rfl, hX, hb6⟩; refine Hid.out ?_)
            refine Lib.hid ?_
            have HP6 := Lib.hid (HP2.out.below hb6)
            have HB6 := Lib.hid (HB2.out.trans (hb6.mono hz2))
            have hz6 := HB6.out.size
            have hCl : C2.length = L2.length := HP2.out.same.len
            have hALL := Lib.hid (fun (S : List Ent) (h1 : S.Perm C2) (h2 : S.Pairwise (fun a b => ltEnt b a = false)) => HP2.out.same.all h1 h2)
            have hNX := Lib.hid (fun h0 => HP2.out.same.next HP2.out.c.heap h0)
            have hAL : (allA L2).length = L2.length := allA_len L2
            obtain ⟨A, hAe⟩ : ∃ A, allA L2 = A := ⟨_, rfl⟩
            rw [hAe] at hX hALL hNX hAL
            have hAl : A.length ≤ 1048576 := by omega
            obtain ⟨aX, cX, rfl⟩ := OwnF.shape hX
            have HX := Lib.hid hX
            have HLn := Lib.hid (And.intro hCl hAL)
            clear hX hAe R1 HP2 HB2 hb6
            rcases Nat.eq_zero_or_pos A.length with hA0 | hA0
            · have N1 := Lib.hid (next_any w6 W.heap.size p1 now2 many2 v2 C2 HP6.out.c.clk HP6.out.c.row (by omega) (x := 0) (b := false) (by rw [if_neg (by omega)]) (decide_eq_false (by omega)))
              have HCL := Lib.hid (show (C2.length : Int) = (A.length : Int) by omega)
              have hC2l : C2.length ≤ 1048576 := by omega
              clear hCl hAL
              have d0 : decide ((A.length : Int) > 0) = false := decide_eq_false (by omega)
              have d00 : decide (A.length > 0) = false := decide_eq_false (by omega)
              have d01 : decide ((0 : Int) < (A.length : Int)) = false := decide_eq_false (by omega)
              have d02 : decide (0 < A.length) = false := decide_eq_false (by omega)
              have HA0 := Lib.hid hA0
              clear hA0
              go_wp2_with (go_at_call 21; refine N1.out.mono ?_; rintro e w7 ⟨rfl, hb7⟩; refine Hid.out ?_)
              refine Lib.hid ?_
              have HP7 := Lib.hid (HP6.out.below hb7)
              have HB7 := Lib.hid (HB6.out.trans (hb7.mono hz6))
              have hz7 := HB7.out.size
              have HX7 := Lib.hid (OwnF.kept HX.out hb7)
              have hp2l : p2 < w7.heap.size := lt_of_block HP7.out.rc
              obtain ⟨c0, c1⟩ := box2 HP7.out.rc
              obtain ⟨qC, capC, rfl⟩ := HP7.out.c.row.shape
              clear N1 c1 hb7
              have cur : Below w7.heap.size w7 w7.drew := (Below.refl _ _).drew
              go_wp2_with fail
              refine wp_region_held_drew (S := fun w' => w'.cell? ⟨p2, 0, none⟩ = some (.int .i64 now2)) (by kernel_rfl) ?hSA (fun hHeld => ?hRA)
              case hSA => exact c0
              case' hRA => skip
              refine wpAnyH_take (i := 0) (v := ?vA0) rfl (by kernel_rfl) (by kernel_rfl) (by kernel_rfl) (fun _ _ _ h => h) (Or.inl ⟨by rfl, ?hyA0⟩) (by assumption) ?restA0
              case hyA0 => ((intro w hSw; (try dsimp only at hSw); go_simp); try with_reducible rfl)
              try simp only [Act.put, List.setIfInBounds_toArray, List.set_cons_zero, List.set_cons_succ, List.getElem_toArray, List.getElem_cons_zero]
              refine wpAnyH_take (i := 1) (v := ?vA1) rfl (by kernel_rfl) (by kernel_rfl) (by kernel_rfl) (fun _ _ _ h => h) (Or.inl ⟨by rfl, ?hyA1⟩) (by assumption) ?restA1
              case hyA1 => ((intro w hSw; (try dsimp only at hSw); go_simp); try with_reducible rfl)
              try simp only [Act.put, List.setIfInBounds_toArray, List.set_cons_zero, List.set_cons_succ, List.getElem_toArray, List.getElem_cons_succ, List.getElem_cons_zero]
              refine wpAnyH_take (i := 2) (v := ?vA2) rfl (by kernel_rfl) (by kernel_rfl) (by kernel_rfl) (fun _ _ _ h => h) (Or.inl ⟨by rfl, ?hyA2⟩) (by assumption) ?restA2
              case hyA2 => ((intro w hSw; (try dsimp only at hSw); go_simp); try with_reducible rfl)
              try simp only [Act.put, List.setIfInBounds_toArray, List.set_cons_zero, List.set_cons_succ, List.getElem_toArray, List.getElem_cons_succ, List.getElem_cons_zero]
              refine wpAnyH_take (i := 3) (v := ?vA3) rfl (by kernel_rfl) (by kernel_rfl) (by kernel_rfl) (fun _ _ _ h => h) (Or.inl ⟨by rfl, ?hyA3⟩) (by assumption) ?restA3
              case hyA3 => ((intro w hSw; (try dsimp only at hSw); go_simp); try with_reducible rfl)
              try simp only [Act.put, List.setIfInBounds_toArray, List.set_cons_zero, List.set_cons_succ, List.getElem_toArray, List.getElem_cons_succ, List.getElem_cons_zero]
              refine wpAnyH_take (i := 5) (v := ?vA5) rfl (by kernel_rfl) (by kernel_rfl) (by kernel_rfl) (fun _ _ _ h => h) (Or.inl ⟨by rfl, ?hyA5⟩) (by assumption) ?restA5
              case hyA5 => ((intro w hSw; (try dsimp only at hSw); go_simp); try with_reducible rfl)
              try simp only [Act.put, List.setIfInBounds_toArray, List.set_cons_zero, List.set_cons_succ, List.getElem_toArray, List.getElem_cons_succ, List.getElem_cons_zero]
              refine wpAnyH_take (i := 6) (v := ?vA6) rfl (by kernel_rfl) (by kernel_rfl) (by kernel_rfl) (fun _ _ _ h => h) (Or.inl ⟨by rfl, ?hyA6⟩) (by assumption) ?restA6
              case hyA6 => ((intro w hSw; (try dsimp only at hSw); go_simp); try with_reducible rfl)
              try simp only [Act.put, List.setIfInBounds_toArray, List.set_cons_zero, List.set_cons_succ, List.getElem_toArray, List.getElem_cons_succ, List.getElem_cons_zero]
              refine wpAnyH_take (i := 7) (v := ?vA7) rfl (by kernel_rfl) (by kernel_rfl) (by kernel_rfl) (fun _ _ _ h => h) (Or.inl ⟨by rfl, ?hyA7⟩) (by assumption) ?restA7
              case hyA7 => ((intro w hSw; (try dsimp only at hSw); go_simp); try with_reducible rfl)
              try simp only [Act.put, List.setIfInBounds_toArray, List.set_cons_zero, List.set_cons_succ, List.getElem_toArray, List.getElem_cons_succ, List.getElem_cons_zero]
              refine wpAnyH_take (i := 8) (v := ?vA8) rfl (by kernel_rfl) (by kernel_rfl) (by kernel_rfl) (fun _ _ _ h => h) (Or.inl ⟨by rfl, ?hyA8⟩) (by assumption) ?restA8
              case hyA8 => ((intro w hSw; (try dsimp only at hSw); go_simp); try with_reducible rfl)
              try simp only [Act.put, List.setIfInBounds_toArray, List.set_cons_zero, List.set_cons_succ, List.getElem_toArray, List.getElem_cons_succ, List.getElem_cons_zero]
              refine wpAnyH_ready (rs := [4]) (by kernel_rfl) (by simp) ?_
              refine AllReadyH.cons rfl (fun K hK => ?_) AllReadyH.nil
              try simp only [List.getElem_toArray, List.getElem_cons_succ, List.getElem_cons_zero]
              go_simp
              (go_at_call 13; refine (now_any _ p1 now2 many2 _ ((HP7.out.below cur).c.clk)).mono ?_; rintro e wN ⟨rfl, rfl⟩)
              refine hK.out _ _ ?hSA4 (fun hHeld => ?hRA4)
              case hSA4 => exact (Below.cellB cur hp2l).trans c0
              case' hRA4 => clear hK K
              try simp only [Act.put, List.setIfInBounds_toArray, List.set_cons_zero, List.set_cons_succ, List.getElem_toArray, List.getElem_cons_succ, List.getElem_cons_zero]
              refine wpAnyH_take (i := 9) (v := ?vA9) rfl (by kernel_rfl) (by kernel_rfl) (by kernel_rfl) (fun _ _ _ h => h) (Or.inl ⟨by rfl, ?hyA9⟩) (by assumption) ?restA9
              case hyA9 => ((intro w hSw; (try dsimp only at hSw); go_simp); try with_reducible rfl)
              try simp only [Act.put, List.setIfInBounds_toArray, List.set_cons_zero, List.set_cons_succ, List.getElem_toArray, List.getElem_cons_succ, List.getElem_cons_zero]
              refine wpAnyH_take (i := 10) (v := ?vA10) rfl (by kernel_rfl) (by kernel_rfl) (by kernel_rfl) (fun _ _ _ h => h) (Or.inl ⟨by rfl, ?hyA10⟩) (by assumption) ?restA10
              case hyA10 => ((intro w hSw; (try dsimp only at hSw); go_simp); try with_reducible rfl)
              try simp only [Act.put, List.setIfInBounds_toArray, List.set_cons_zero, List.set_cons_succ, List.getElem_toArray, List.getElem_cons_succ, List.getElem_cons_zero]
              refine wpAnyH_take (i := 11) (v := ?vA11) rfl (by kernel_rfl) (by kernel_rfl) (by kernel_rfl) (fun _ _ _ h => h) (Or.inl ⟨by rfl, ?hyA11⟩) (by assumption) ?restA11
              case hyA11 => ((intro w hSw; (try dsimp only at hSw); go_simp); try with_reducible rfl)
              try simp only [Act.put, List.setIfInBounds_toArray, List.set_cons_zero, List.set_cons_succ, List.getElem_toArray, List.getElem_cons_succ, List.getElem_cons_zero]
              refine wpAnyH_take (i := 12) (v := ?vA12) rfl (by kernel_rfl) (by kernel_rfl) (by kernel_rfl) (fun _ _ _ h => h) (Or.inl ⟨by rfl, ?hyA12⟩) (by assumption) ?restA12
              case hyA12 => ((intro w hSw; (try dsimp only at hSw); go_simp); try with_reducible rfl)
              try simp only [Act.put, List.setIfInBounds_toArray, List.set_cons_zero, List.set_cons_succ, List.getElem_toArray, List.getElem_cons_succ, List.getElem_cons_zero]
              refine wpAnyH_take (i := 14) (v := ?vA14) rfl (by kernel_rfl) (by kernel_rfl) (by kernel_rfl) (fun _ _ _ h => h) (Or.inl ⟨by rfl, ?hyA14⟩) (by assumption) ?restA14
              case hyA14 => ((intro w hSw; (try dsimp only at hSw); go_simp); try with_reducible rfl)
              try simp only [Act.put, List.setIfInBounds_toArray, List.set_cons_zero, List.set_cons_succ, List.getElem_toArray, List.getElem_cons_succ, List.getElem_cons_zero]
              refine wpAnyH_take (i := 15) (v := ?vA15) rfl (by kernel_rfl) (by kernel_rfl) (by kernel_rfl) (fun _ _ _ h => h) (Or.inl ⟨by rfl, ?hyA15⟩) (by assumption) ?restA15
              case hyA15 => ((intro w hSw; (try dsimp only at hSw); go_simp); try with_reducible rfl)
              try simp only [Act.put, List.setIfInBounds_toArray, List.set_cons_zero, List.set_cons_succ, List.getElem_toArray, List.getElem_cons_succ, List.getElem_cons_zero]
              refine wpAnyH_ready (rs := [13]) (by kernel_rfl) (by simp) ?_
              refine AllReadyH.cons rfl (fun K hK => ?_) AllReadyH.nil
              try simp only [List.getElem_toArray, List.getElem_cons_succ, List.getElem_cons_zero]
              go_simp
              (go_at_call 14; refine (clen_is _ p1 now2 many2 qC C2.length capC ((HP7.out.below cur).c.clk) HCL.out).mono ?_; rintro e wN ⟨rfl, rfl⟩)
              refine hK.out _ _ ?hSA13 (fun hHeld => ?hRA13)
              case hSA13 => exact (Below.cellB cur hp2l).trans c0
              case' hRA13 => clear hK K
              try simp only [Act.put, List.setIfInBounds_toArray, List.set_cons_zero, List.set_cons_succ, List.getElem_toArray, List.getElem_cons_succ, List.getElem_cons_zero]
              refine wpAnyH_take (i := 16) (v := ?vA16) rfl (by kernel_rfl) (by kernel_rfl) (by kernel_rfl) (fun _ _ _ h => h) (Or.inl ⟨by rfl, ?hyA16⟩) (by assumption) ?restA16
              case hyA16 => ((intro w hSw; (try dsimp only at hSw); go_simp); try with_reducible rfl)
              try simp only [Act.put, List.setIfInBounds_toArray, List.set_cons_zero, List.set_cons_succ, List.getElem_toArray, List.getElem_cons_succ, List.getElem_cons_zero]
              refine wpAnyH_take (i := 17) (v := ?vA17) rfl (by kernel_rfl) (by kernel_rfl) (by kernel_rfl) (fun _ _ _ h => h) (Or.inl ⟨by rfl, ?hyA17⟩) (by assumption) ?restA17
              case hyA17 => ((intro w hSw; (try dsimp only at hSw); go_simp); try with_reducible rfl)
              try simp only [Act.put, List.setIfInBounds_toArray, List.set_cons_zero, List.set_cons_succ, List.getElem_toArray, List.getElem_cons_succ, List.getElem_cons_zero]
              refine wpAnyH_take (i := 18) (v := ?vA18) rfl (by kernel_rfl) (by kernel_rfl) (by kernel_rfl) (fun _ _ _ h => h) (Or.inl ⟨by rfl, ?hyA18⟩) (by assumption) ?restA18
              case hyA18 => ((intro w hSw; (try dsimp only at hSw); go_simp); try with_reducible rfl)
              try simp only [Act.put, List.setIfInBounds_toArray, List.set_cons_zero, List.set_cons_succ, List.getElem_toArray, List.getElem_cons_succ, List.getElem_cons_zero]
              refine wpAnyH_take (i := 19) (v := ?vA19) rfl (by kernel_rfl) (by kernel_rfl) (by kernel_rfl) (fun _ _ _ h => h) (Or.inl ⟨by rfl, ?hyA19⟩) (by assumption) ?restA19
              case hyA19 => ((intro w hSw; (try dsimp only at hSw); go_simp); try with_reducible rfl)
              try simp only [Act.put, List.setIfInBounds_toArray, List.set_cons_zero, List.set_cons_succ, List.getElem_toArray, List.getElem_cons_succ, List.getElem_cons_zero]
              refine wpAnyH_take (i := 21) (v := ?vA21) rfl (by kernel_rfl) (by kernel_rfl) (by kernel_rfl) (fun _ _ _ h => h) (Or.inl ⟨by rfl, ?hyA21⟩) (by assumption) ?restA21
              case hyA21 => ((intro w hSw; (try dsimp only at hSw); go_simp); try with_reducible rfl)
              try simp only [Act.put, List.setIfInBounds_toArray, List.set_cons_zero, List.set_cons_succ, List.getElem_toArray, List.getElem_cons_succ, List.getElem_cons_zero]
              refine wpAnyH_take (i := 23) (v := ?vA23) rfl (by kernel_rfl) (by kernel_rfl) (by kernel_rfl) (fun _ _ _ h => h) (Or.inl ⟨by rfl, ?hyA23⟩) (by assumption) ?restA23
              case hyA23 => ((intro w hSw; (try dsimp only at hSw); go_simp); try with_reducible rfl)
              try simp only [Act.put, List.setIfInBounds_toArray, List.set_cons_zero, List.set_cons_succ, List.getElem_toArray, List.getElem_cons_succ, List.getElem_cons_zero]
              refine wpAnyH_ready (rs := [20]) (by kernel_rfl) (by simp) ?_
              refine AllReadyH.cons rfl (fun K hK => ?_) AllReadyH.nil
              try simp only [List.getElem_toArray, List.getElem_cons_succ, List.getElem_cons_zero]
              go_simp
              (go_at_call 23; refine (all_is _ W.heap.size p1 now2 many2 _ C2 A ((HP7.out.below cur).c.clk) ((HP7.out.below cur).c.row) (Nat.le_trans hz7 cur.size) (by omega) hALL.out).mono ?_; rintro e w8 ⟨vA, rfl, hA1, hb8⟩; have cur := cur.trans (hb8.mono cur.size))
              refine hK.out _ _ ?hSA20 (fun hHeld => ?hRA20)
              case hSA20 => exact (Below.cellB cur hp2l).trans c0
              case' hRA20 => clear hK K
              try simp only [Act.put, List.setIfInBounds_toArray, List.set_cons_zero, List.set_cons_succ, List.getElem_toArray, List.getElem_cons_succ, List.getElem_cons_zero]
              refine wpAnyH_ready (rs := [22]) (by kernel_rfl) (by simp) ?_
              refine AllReadyH.cons rfl (fun K hK => ?_) AllReadyH.nil
              try simp only [List.getElem_toArray, List.getElem_cons_succ, List.getElem_cons_zero]
              go_simp
              (go_at_call 23; refine (all_is _ W.heap.size p1 now2 many2 _ C2 A ((HP7.out.below cur).c.clk) ((HP7.out.below cur).c.row) (Nat.le_trans hz7 cur.size) (by omega) hALL.out).mono ?_; rintro e w9 ⟨vB, rfl, hA2, hb9⟩; have hA12 := OwnF.kept hA1 hb9; have cur := cur.trans (hb9.mono cur.size))
              refine hK.out _ _ ?hSA22 (fun hHeld => ?hRA22)
              case hSA22 => exact (Below.cellB cur hp2l).trans c0
              case' hRA22 => clear hK K
              try simp only [Act.put, List.setIfInBounds_toArray, List.set_cons_zero, List.set_cons_succ, List.getElem_toArray, List.getElem_cons_succ, List.getElem_cons_zero]
              refine wpAnyH_ready (rs := [24]) (by kernel_rfl) (by simp) ?_
              refine AllReadyH.cons rfl (fun K hK => ?_) AllReadyH.nil
              try simp only [List.getElem_toArray, List.getElem_cons_succ, List.getElem_cons_zero]
              go_simp
              (go_at_call 22; refine (twice_any _ _ _ _ _ _ _ A hA12 hA2 (OwnF.kept HX7.out cur) hAl (by have := hb9.size; have := hb8.size; omega) (own_apart hA1 hA2)).mono ?_; rintro e wT ⟨rfl, hfT⟩; have cur := als_below cur (OwnF.lower hA12 (by simp)) hfT)
              refine hK.out _ _ ?hSA24 (fun hHeld => ?hRA24)
              case hSA24 => exact (Below.cellB cur hp2l).trans c0
              case' hRA24 => clear hK K
              try simp only [Act.put, List.setIfInBounds_toArray, List.set_cons_zero, List.set_cons_succ, List.getElem_toArray, List.getElem_cons_succ, List.getElem_cons_zero]
              refine wpAnyH_take (i := 25) (v := ?vA25) rfl (by kernel_rfl) (by kernel_rfl) (by kernel_rfl) (fun _ _ _ h => h) (Or.inl ⟨by rfl, ?hyA25⟩) (by assumption) ?restA25
              case hyA25 => ((intro w hSw; (try dsimp only at hSw); go_simp); try with_reducible rfl)
              try simp only [Act.put, List.setIfInBounds_toArray, List.set_cons_zero, List.set_cons_succ, List.getElem_toArray, List.getElem_cons_succ, List.getElem_cons_zero]
              refine wpAnyH_take (i := 26) (v := ?vA26) rfl (by kernel_rfl) (by kernel_rfl) (by kernel_rfl) (fun _ _ _ h => h) (Or.inl ⟨by rfl, ?hyA26⟩) (by assumption) ?restA26
              case hyA26 => ((intro w hSw; (try dsimp only at hSw); go_simp); try with_reducible rfl)
              try simp only [Act.put, List.setIfInBounds_toArray, List.set_cons_zero, List.set_cons_succ, List.getElem_toArray, List.getElem_cons_succ, List.getElem_cons_zero]
              refine wpAnyH_take (i := 27) (v := ?vA27) rfl (by kernel_rfl) (by kernel_rfl) (by kernel_rfl) (fun _ _ _ h => h) (Or.inl ⟨by rfl, ?hyA27⟩) (by assumption) ?restA27
              case hyA27 => ((intro w hSw; (try dsimp only at hSw); go_simp); try with_reducible rfl)
              try simp only [Act.put, List.setIfInBounds_toArray, List.set_cons_zero, List.set_cons_succ, List.getElem_toArray, List.getElem_cons_succ, List.getElem_cons_zero]
              refine wpAnyH_take (i := 28) (v := ?vA28) rfl (by kernel_rfl) (by kernel_rfl) (by kernel_rfl) (fun _ _ _ h => h) (Or.inl ⟨by rfl, ?hyA28⟩) (by assumption) ?restA28
              case hyA28 => ((intro w hSw; (try dsimp only at hSw); go_simp); try with_reducible rfl)
              try simp only [Act.put, List.setIfInBounds_toArray, List.set_cons_zero, List.set_cons_succ, List.getElem_toArray, List.getElem_cons_succ, List.getElem_cons_zero]
              refine wpAnyH_take (i := 29) (v := ?vA29) rfl (by kernel_rfl) (by kernel_rfl) (by kernel_rfl) (fun _ _ _ h => h) (Or.inl ⟨by rfl, ?hyA29⟩) (by assumption) ?restA29
              case hyA29 => ((intro w hSw; (try dsimp only at hSw); go_simp); try with_reducible rfl)
              try simp only [Act.put, List.setIfInBounds_toArray, List.set_cons_zero, List.set_cons_succ, List.getElem_toArray, List.getElem_cons_succ, List.getElem_cons_zero]
              refine wpAnyH_take (i := 30) (v := ?vA30) rfl (by kernel_rfl) (by kernel_rfl) (by kernel_rfl) (fun _ _ _ h => h) (Or.inl ⟨by rfl, ?hyA30⟩) (by assumption) ?restA30
              case hyA30 => ((intro w hSw; (try dsimp only at hSw); go_simp); try with_reducible rfl)
              try simp only [Act.put, List.setIfInBounds_toArray, List.set_cons_zero, List.set_cons_succ, List.getElem_toArray, List.getElem_cons_succ, List.getElem_cons_zero]
              refine wpAnyH_take (i := 31) (v := ?vA31) rfl (by kernel_rfl) (by kernel_rfl) (by kernel_rfl) (fun _ _ _ h => h) (Or.inl ⟨by rfl, ?hyA31⟩) (by assumption) ?restA31
              case hyA31 => ((intro w hSw; (try dsimp only at hSw); go_simp); try with_reducible rfl)
              try simp only [Act.put, List.setIfInBounds_toArray, List.set_cons_zero, List.set_cons_succ, List.getElem_toArray, List.getElem_cons_succ, List.getElem_cons_zero]
              refine wpAnyH_take (i := 32) (v := ?vA32) rfl (by kernel_rfl) (by kernel_rfl) (by kernel_rfl) (fun _ _ _ h => h) (Or.inl ⟨by rfl, ?hyA32⟩) (by assumption) ?restA32
              case hyA32 => ((intro w hSw; (try dsimp only at hSw); go_simp); try with_reducible rfl)
              try simp only [Act.put, List.setIfInBounds_toArray, List.set_cons_zero, List.set_cons_succ, List.getElem_toArray, List.getElem_cons_succ, List.getElem_cons_zero]
              refine wpAnyH_take (i := 33) (v := ?vA33) rfl (by kernel_rfl) (by kernel_rfl) (by kernel_rfl) (fun _ _ _ h => h) (Or.inl ⟨by rfl, ?hyA33⟩) (by assumption) ?restA33
              case hyA33 => ((intro w hSw; (try dsimp only at hSw); go_simp); try with_reducible rfl)
              try simp only [Act.put, List.setIfInBounds_toArray, List.set_cons_zero, List.set_cons_succ, List.getElem_toArray, List.getElem_cons_succ, List.getElem_cons_zero]
              refine wpAnyH_take (i := 34) (v := ?vA34) rfl (by kernel_rfl) (by kernel_rfl) (by kernel_rfl) (fun _ _ _ h => h) (Or.inl ⟨by rfl, ?hyA34⟩) (by assumption) ?restA34
              case hyA34 => ((intro w hSw; (try dsimp only at hSw); go_simp); try with_reducible rfl)
              try simp only [Act.put, List.setIfInBounds_toArray, List.set_cons_zero, List.set_cons_succ, List.getElem_toArray, List.getElem_cons_succ, List.getElem_cons_zero]
              refine wpAnyH_take (i := 35) (v := ?vA35) rfl (by kernel_rfl) (by kernel_rfl) (by kernel_rfl) (fun _ _ _ h => h) (Or.inl ⟨by rfl, ?hyA35⟩) (by assumption) ?restA35
              case hyA35 => ((intro w hSw; (try dsimp only at hSw); go_simp); try with_reducible rfl)
              try simp only [Act.put, List.setIfInBounds_toArray, List.set_cons_zero, List.set_cons_succ, List.getElem_toArray, List.getElem_cons_succ, List.getElem_cons_zero]
              refine wpAnyH_take (i := 36) (v := ?vA36) rfl (by kernel_rfl) (by kernel_rfl) (by kernel_rfl) (fun _ _ _ h => h) (Or.inl ⟨by rfl, ?hyA36⟩) (by assumption) ?restA36
              case hyA36 => ((intro w hSw; (try dsimp only at hSw); go_simp); try with_reducible rfl)
              try simp only [Act.put, List.setIfInBounds_toArray, List.set_cons_zero, List.set_cons_succ, List.getElem_toArray, List.getElem_cons_succ, List.getElem_cons_zero]
              refine wpAnyH_take (i := 37) (v := undef) rfl (by kernel_rfl) (by kernel_rfl) (by kernel_rfl) (fun _ _ _ h => h) (Or.inr ⟨by rfl, rfl⟩) (by assumption) ?_
              try simp only [Act.put, List.setIfInBounds_toArray, List.set_cons_zero, List.set_cons_succ, List.getElem_toArray, List.getElem_cons_succ, List.getElem_cons_zero]
              refine wpAnyH_take (i := 38) (v := undef) rfl (by kernel_rfl) (by kernel_rfl) (by kernel_rfl) (fun _ _ _ h => h) (Or.inr ⟨by rfl, rfl⟩) (by assumption) ?_
              try simp only [Act.put, List.setIfInBounds_toArray, List.set_cons_zero, List.set_cons_succ, List.getElem_toArray, List.getElem_cons_succ, List.getElem_cons_zero]
              refine wpAnyH_take (i := 39) (v := undef) rfl (by kernel_rfl) (by kernel_rfl) (by kernel_rfl) (fun _ _ _ h => h) (Or.inr ⟨by rfl, rfl⟩) (by assumption) ?_
              try simp only [Act.put, List.setIfInBounds_toArray, List.set_cons_zero, List.set_cons_succ, List.getElem_toArray, List.getElem_cons_succ, List.getElem_cons_zero]
              refine wpAnyH_take (i := 40) (v := undef) rfl (by kernel_rfl) (by kernel_rfl) (by kernel_rfl) (fun _ _ _ h => h) (Or.inr ⟨by rfl, rfl⟩) (by assumption) ?_
              try simp only [Act.put, List.setIfInBounds_toArray, List.set_cons_zero, List.set_cons_succ, List.getElem_toArray, List.getElem_cons_succ, List.getElem_cons_zero]
              refine wpAnyH_take (i := 41) (v := undef) rfl (by kernel_rfl) (by kernel_rfl) (by kernel_rfl) (fun _ _ _ h => h) (Or.inr ⟨by rfl, rfl⟩) (by assumption) ?_
              try simp only [Act.put, List.setIfInBounds_toArray, List.set_cons_zero, List.set_cons_succ, List.getElem_toArray, List.getElem_cons_succ, List.getElem_cons_zero]
              refine wpAnyH_take (i := 42) (v := undef) rfl (by kernel_rfl) (by kernel_rfl) (by kernel_rfl) (fun _ _ _ h => h) (Or.inr ⟨by rfl, rfl⟩) (by assumption) ?_
              try simp only [Act.put, List.setIfInBounds_toArray, List.set_cons_zero, List.set_cons_succ, List.getElem_toArray, List.getElem_cons_succ, List.getElem_cons_zero]
              refine wpAnyH_take (i := 43) (v := ?vA43) rfl (by kernel_rfl) (by kernel_rfl) (by kernel_rfl) (fun _ _ _ h => h) (Or.inl ⟨by rfl, ?hyA43⟩) (by assumption) ?restA43
              case hyA43 => ((intro w hSw; (try dsimp only at hSw); go_simp); try with_reducible rfl)
              try simp only [Act.put, List.setIfInBounds_toArray, List.set_cons_zero, List.set_cons_succ, List.getElem_toArray, List.getElem_cons_succ, List.getElem_cons_zero]
              refine wpAnyH_take (i := 44) (v := ?vA44) rfl (by kernel_rfl) (by kernel_rfl) (by kernel_rfl) (fun _ _ _ h => h) (Or.inl ⟨by rfl, ?hyA44⟩) (by assumption) ?restA44
              case hyA44 => ((intro w hSw; (try dsimp only at hSw); go_simp); try with_reducible rfl)
              try simp only [Act.put, List.setIfInBounds_toArray, List.set_cons_zero, List.set_cons_succ, List.getElem_toArray, List.getElem_cons_succ, List.getElem_cons_zero]
              refine wpAnyH_take (i := 45) (v := ?vA45) rfl (by kernel_rfl) (by kernel_rfl) (by kernel_rfl) (fun _ _ _ h => h) (Or.inl ⟨by rfl, ?hyA45⟩) (by assumption) ?restA45
              case hyA45 => ((intro w hSw; (try dsimp only at hSw); go_simp); try with_reducible rfl)
              try simp only [Act.put, List.setIfInBounds_toArray, List.set_cons_zero, List.set_cons_succ, List.getElem_toArray, List.getElem_cons_succ, List.getElem_cons_zero]
              refine wpAnyH_take (i := 46) (v := ?vA46) rfl (by kernel_rfl) (by kernel_rfl) (by kernel_rfl) (fun _ _ _ h => h) (Or.inl ⟨by rfl, ?hyA46⟩) (by assumption) ?restA46
              case hyA46 => ((intro w hSw; (try dsimp only at hSw); go_simp); try with_reducible rfl)
              try simp only [Act.put, List.setIfInBounds_toArray, List.set_cons_zero, List.set_cons_succ, List.getElem_toArray, List.getElem_cons_succ, List.getElem_cons_zero]
              refine wpAnyH_take (i := 47) (v := ?vA47) rfl (by kernel_rfl) (by kernel_rfl) (by kernel_rfl) (fun _ _ _ h => h) (Or.inl ⟨by rfl, ?hyA47⟩) (by assumption) ?restA47
              case hyA47 => ((intro w hSw; (try dsimp only at hSw); go_simp); try with_reducible rfl)
              try simp only [Act.put, List.setIfInBounds_toArray, List.set_cons_zero, List.set_cons_succ, List.getElem_toArray, List.getElem_cons_succ, List.getElem_cons_zero]
              refine wpAnyH_take (i := 48) (v := ?vA48) rfl (by kernel_rfl) (by kernel_rfl) (by kernel_rfl) (fun _ _ _ h => h) (Or.inl ⟨by rfl, ?hyA48⟩) (by assumption) ?restA48
              case hyA48 => ((intro w hSw; (try dsimp only at hSw); go_simp); try with_reducible rfl)
              try simp only [Act.put, List.setIfInBounds_toArray, List.set_cons_zero, List.set_cons_succ, List.getElem_toArray, List.getElem_cons_succ, List.getElem_cons_zero]
              refine wpAnyH_take (i := 49) (v := ?vA49) rfl (by kernel_rfl) (by kernel_rfl) (by kernel_rfl) (fun _ _ _ h => h) (Or.inl ⟨by rfl, ?hyA49⟩) (by assumption) ?restA49
              case hyA49 => ((intro w hSw; (try dsimp only at hSw); go_simp); try with_reducible rfl)
              try simp only [Act.put, List.setIfInBounds_toArray, List.set_cons_zero, List.set_cons_succ, List.getElem_toArray, List.getElem_cons_succ, List.getElem_cons_zero]
              refine wpAnyH_take (i := 50) (v := ?vA50) rfl (by kernel_rfl) (by kernel_rfl) (by kernel_rfl) (fun _ _ _ h => h) (Or.inl ⟨by rfl, ?hyA50⟩) (by assumption) ?restA50
              case hyA50 => ((intro w hSw; (try dsimp only at hSw); go_simp); try with_reducible rfl)
              try simp only [Act.put, List.setIfInBounds_toArray, List.set_cons_zero, List.set_cons_succ, List.getElem_toArray, List.getElem_cons_succ, List.getElem_cons_zero]
              refine wpAnyH_take (i := 51) (v := ?vA51) rfl (by kernel_rfl) (by kernel_rfl) (by kernel_rfl) (fun _ _ _ h => h) (Or.inl ⟨by rfl, ?hyA51⟩) (by assumption) ?restA51
              case hyA51 => ((intro w hSw; (try dsimp only at hSw); go_simp); try with_reducible rfl)
              try simp only [Act.put, List.setIfInBounds_toArray, List.set_cons_zero, List.set_cons_succ, List.getElem_toArray, List.getElem_cons_succ, List.getElem_cons_zero]
              refine wpAnyH_take (i := 52) (v := ?vA52) rfl (by kernel_rfl) (by kernel_rfl) (by kernel_rfl) (fun _ _ _ h => h) (Or.inl ⟨by rfl, ?hyA52⟩) (by assumption) ?restA52
              case hyA52 => ((intro w hSw; (try dsimp only at hSw); go_simp); try with_reducible rfl)
              try simp only [Act.put, List.setIfInBounds_toArray, List.set_cons_zero, List.set_cons_succ, List.getElem_toArray, List.getElem_cons_succ, List.getElem_cons_zero]
              refine wpAnyH_done (by kernel_rfl) ?_ _
              go_wp2_with fail
              go_roundg (gk - 1)
              case measure => omega
              case rel => exact ⟨i + 1, _, _, C2, L2, now2, many2, by omega, by go_num, Lib.hid (HP7.out.below cur), Lib.hid (HB7.out.trans (cur.mono hz7)), n20, n21, m20, by omega, by omega, by omega⟩
            · have h0C : 0 < C2.length := by omega
              obtain ⟨gX, rfl, -, -, hgX⟩ := OwnF.some HX.out hA0
              have xD := OwnF.at cellA_len HX.out (i := 0) (j := 0) hA0 (by omega)
              rw [show 0 * 4 + 0 = 0 by omega] at xD
              have xD : w6.cell? ⟨gX, 0, none⟩ = some (.int .i64 A[0].due) := xD
              have hnx := hNX.out h0C
              rw [atL_eq hA0] at hnx
              obtain ⟨D, hD⟩ : ∃ D, A[0].due = D := ⟨_, rfl⟩
              rw [hD] at xD hnx
              have N1 := Lib.hid (next_any w6 W.heap.size p1 now2 many2 v2 C2 HP6.out.c.clk HP6.out.c.row (by omega) (x := D) (b := true) (by rw [if_pos h0C]; exact hnx) (decide_eq_true h0C))
              have HCL := Lib.hid (show (C2.length : Int) = (A.length : Int) by omega)
              have hC2l : C2.length ≤ 1048576 := by omega
              clear hCl hAL hnx hD
              have d0 : decide ((A.length : Int) > 0) = true := decide_eq_true (by omega)
              have d00 : decide (A.length > 0) = true := decide_eq_true (by omega)
              have d01 : decide ((0 : Int) < (A.length : Int)) = true := decide_eq_true (by omega)
              have d02 : decide (0 < A.length) = true := decide_eq_true (by omega)
              have d03 : (0 : Int) < (A.length : Int) := by omega
              go_wp2_with (go_at_call 21; refine N1.out.mono ?_; rintro e w7 ⟨rfl, hb7⟩; refine Hid.out ?_)
              refine Lib.hid ?_
              have HP7 := Lib.hid (HP6.out.below hb7)
              have HB7 := Lib.hid (HB6.out.trans (hb7.mono hz6))
              have hz7 := HB7.out.size
              have HX7 := Lib.hid (OwnF.kept HX.out hb7)
              have hp2l : p2 < w7.heap.size := lt_of_block HP7.out.rc
              have hgX7 : gX < w7.heap.size := Nat.lt_of_lt_of_le hgX hb7.size
              obtain ⟨c0, c1⟩ := box2 HP7.out.rc
              have xD : w7.cell? ⟨gX, 0, none⟩ = some (.int .i64 D) := (Below.cellB hb7 hgX).trans xD
              obtain ⟨qC, capC, rfl⟩ := HP7.out.c.row.shape
              clear N1 c1 hb7
              have cur : Below w7.heap.size w7 w7.drew := (Below.refl _ _).drew
              go_wp2_with fail
              refine wp_region_held_drew (S := fun w' => w'.cell? ⟨p2, 0, none⟩ = some (.int .i64 now2) ∧ w'.cell? ⟨gX, 0, none⟩ = some (.int .i64 D)) (by kernel_rfl) ?hSB (fun hHeld => ?hRB)
              case hSB => exact ⟨c0, xD⟩
              case' hRB => skip
              refine wpAnyH_take (i := 0) (v := ?vB0) rfl (by kernel_rfl) (by kernel_rfl) (by kernel_rfl) (fun _ _ _ h => h) (Or.inl ⟨by rfl, ?hyB0⟩) (by assumption) ?restB0
              case hyB0 => ((intro w hSw; (try dsimp only at hSw); go_simp); try with_reducible rfl)
              try simp only [Act.put, List.setIfInBounds_toArray, List.set_cons_zero, List.set_cons_succ, List.getElem_toArray, List.getElem_cons_zero]
              refine wpAnyH_take (i := 1) (v := ?vB1) rfl (by kernel_rfl) (by kernel_rfl) (by kernel_rfl) (fun _ _ _ h => h) (Or.inl ⟨by rfl, ?hyB1⟩) (by assumption) ?restB1
              case hyB1 => ((intro w hSw; (try dsimp only at hSw); go_simp); try with_reducible rfl)
              try simp only [Act.put, List.setIfInBounds_toArray, List.set_cons_zero, List.set_cons_succ, List.getElem_toArray, List.getElem_cons_succ, List.getElem_cons_zero]
              refine wpAnyH_take (i := 2) (v := ?vB2) rfl (by kernel_rfl) (by kernel_rfl) (by kernel_rfl) (fun _ _ _ h => h) (Or.inl ⟨by rfl, ?hyB2⟩) (by assumption) ?restB2
              case hyB2 => ((intro w hSw; (try dsimp only at hSw); go_simp); try with_reducible rfl)
              try simp only [Act.put, List.setIfInBounds_toArray, List.set_cons_zero, List.set_cons_succ, List.getElem_toArray, List.getElem_cons_succ, List.getElem_cons_zero]
              refine wpAnyH_take (i := 3) (v := ?vB3) rfl (by kernel_rfl) (by kernel_rfl) (by kernel_rfl) (fun _ _ _ h => h) (Or.inl ⟨by rfl, ?hyB3⟩) (by assumption) ?restB3
              case hyB3 => ((intro w hSw; (try dsimp only at hSw); go_simp); try with_reducible rfl)
              try simp only [Act.put, List.setIfInBounds_toArray, List.set_cons_zero, List.set_cons_succ, List.getElem_toArray, List.getElem_cons_succ, List.getElem_cons_zero]
              refine wpAnyH_take (i := 5) (v := ?vB5) rfl (by kernel_rfl) (by kernel_rfl) (by kernel_rfl) (fun _ _ _ h => h) (Or.inl ⟨by rfl, ?hyB5⟩) (by assumption) ?restB5
              case hyB5 => ((intro w hSw; (try dsimp only at hSw); go_simp); try with_reducible rfl)
              try simp only [Act.put, List.setIfInBounds_toArray, List.set_cons_zero, List.set_cons_succ, List.getElem_toArray, List.getElem_cons_succ, List.getElem_cons_zero]
              refine wpAnyH_take (i := 6) (v := ?vB6) rfl (by kernel_rfl) (by kernel_rfl) (by kernel_rfl) (fun _ _ _ h => h) (Or.inl ⟨by rfl, ?hyB6⟩) (by assumption) ?restB6
              case hyB6 => ((intro w hSw; (try dsimp only at hSw); go_simp); try with_reducible rfl)
              try simp only [Act.put, List.setIfInBounds_toArray, List.set_cons_zero, List.set_cons_succ, List.getElem_toArray, List.getElem_cons_succ, List.getElem_cons_zero]
              refine wpAnyH_take (i := 7) (v := ?vB7) rfl (by kernel_rfl) (by kernel_rfl) (by kernel_rfl) (fun _ _ _ h => h) (Or.inl ⟨by rfl, ?hyB7⟩) (by assumption) ?restB7
              case hyB7 => ((intro w hSw; (try dsimp only at hSw); go_simp); try with_reducible rfl)
              try simp only [Act.put, List.setIfInBounds_toArray, List.set_cons_zero, List.set_cons_succ, List.getElem_toArray, List.getElem_cons_succ, List.getElem_cons_zero]
              refine wpAnyH_take (i := 8) (v := ?vB8) rfl (by kernel_rfl) (by kernel_rfl) (by kernel_rfl) (fun _ _ _ h => h) (Or.inl ⟨by rfl, ?hyB8⟩) (by assumption) ?restB8
              case hyB8 => ((intro w hSw; (try dsimp only at hSw); go_simp); try with_reducible rfl)
              try simp only [Act.put, List.setIfInBounds_toArray, List.set_cons_zero, List.set_cons_succ, List.getElem_toArray, List.getElem_cons_succ, List.getElem_cons_zero]
              refine wpAnyH_ready (rs := [4]) (by kernel_rfl) (by simp) ?_
              refine AllReadyH.cons rfl (fun K hK => ?_) AllReadyH.nil
              try simp only [List.getElem_toArray, List.getElem_cons_succ, List.getElem_cons_zero]
              go_simp
              (go_at_call 13; refine (now_any _ p1 now2 many2 _ ((HP7.out.below cur).c.clk)).mono ?_; rintro e wN ⟨rfl, rfl⟩)
              refine hK.out _ _ ?hSB4 (fun hHeld => ?hRB4)
              case hSB4 => exact ⟨(Below.cellB cur hp2l).trans c0, (Below.cellB cur hgX7).trans xD⟩
              case' hRB4 => clear hK K
              try simp only [Act.put, List.setIfInBounds_toArray, List.set_cons_zero, List.set_cons_succ, List.getElem_toArray, List.getElem_cons_succ, List.getElem_cons_zero]
              refine wpAnyH_take (i := 9) (v := ?vB9) rfl (by kernel_rfl) (by kernel_rfl) (by kernel_rfl) (fun _ _ _ h => h) (Or.inl ⟨by rfl, ?hyB9⟩) (by assumption) ?restB9
              case hyB9 => ((intro w hSw; (try dsimp only at hSw); go_simp); try with_reducible rfl)
              try simp only [Act.put, List.setIfInBounds_toArray, List.set_cons_zero, List.set_cons_succ, List.getElem_toArray, List.getElem_cons_succ, List.getElem_cons_zero]
              refine wpAnyH_take (i := 10) (v := ?vB10) rfl (by kernel_rfl) (by kernel_rfl) (by kernel_rfl) (fun _ _ _ h => h) (Or.inl ⟨by rfl, ?hyB10⟩) (by assumption) ?restB10
              case hyB10 => ((intro w hSw; (try dsimp only at hSw); go_simp); try with_reducible rfl)
              try simp only [Act.put, List.setIfInBounds_toArray, List.set_cons_zero, List.set_cons_succ, List.getElem_toArray, List.getElem_cons_succ, List.getElem_cons_zero]
              refine wpAnyH_take (i := 11) (v := ?vB11) rfl (by kernel_rfl) (by kernel_rfl) (by kernel_rfl) (fun _ _ _ h => h) (Or.inl ⟨by rfl, ?hyB11⟩) (by assumption) ?restB11
              case hyB11 => ((intro w hSw; (try dsimp only at hSw); go_simp); try with_reducible rfl)
              try simp only [Act.put, List.setIfInBounds_toArray, List.set_cons_zero, List.set_cons_succ, List.getElem_toArray, List.getElem_cons_succ, List.getElem_cons_zero]
              refine wpAnyH_take (i := 12) (v := ?vB12) rfl (by kernel_rfl) (by kernel_rfl) (by kernel_rfl) (fun _ _ _ h => h) (Or.inl ⟨by rfl, ?hyB12⟩) (by assumption) ?restB12
              case hyB12 => ((intro w hSw; (try dsimp only at hSw); go_simp); try with_reducible rfl)
              try simp only [Act.put, List.setIfInBounds_toArray, List.set_cons_zero, List.set_cons_succ, List.getElem_toArray, List.getElem_cons_succ, List.getElem_cons_zero]
              refine wpAnyH_take (i := 14) (v := ?vB14) rfl (by kernel_rfl) (by kernel_rfl) (by kernel_rfl) (fun _ _ _ h => h) (Or.inl ⟨by rfl, ?hyB14⟩) (by assumption) ?restB14
              case hyB14 => ((intro w hSw; (try dsimp only at hSw); go_simp); try with_reducible rfl)
              try simp only [Act.put, List.setIfInBounds_toArray, List.set_cons_zero, List.set_cons_succ, List.getElem_toArray, List.getElem_cons_succ, List.getElem_cons_zero]
              refine wpAnyH_take (i := 15) (v := ?vB15) rfl (by kernel_rfl) (by kernel_rfl) (by kernel_rfl) (fun _ _ _ h => h) (Or.inl ⟨by rfl, ?hyB15⟩) (by assumption) ?restB15
              case hyB15 => ((intro w hSw; (try dsimp only at hSw); go_simp); try with_reducible rfl)
              try simp only [Act.put, List.setIfInBounds_toArray, List.set_cons_zero, List.set_cons_succ, List.getElem_toArray, List.getElem_cons_succ, List.getElem_cons_zero]
              refine wpAnyH_ready (rs := [13]) (by kernel_rfl) (by simp) ?_
              refine AllReadyH.cons rfl (fun K hK => ?_) AllReadyH.nil
              try simp only [List.getElem_toArray, List.getElem_cons_succ, List.getElem_cons_zero]
              go_simp
              (go_at_call 14; refine (clen_is _ p1 now2 many2 qC C2.length capC ((HP7.out.below cur).c.clk) HCL.out).mono ?_; rintro e wN ⟨rfl, rfl⟩)
              refine hK.out _ _ ?hSB13 (fun hHeld => ?hRB13)
              case hSB13 => exact ⟨(Below.cellB cur hp2l).trans c0, (Below.cellB cur hgX7).trans xD⟩
              case' hRB13 => clear hK K
              try simp only [Act.put, List.setIfInBounds_toArray, List.set_cons_zero, List.set_cons_succ, List.getElem_toArray, List.getElem_cons_succ, List.getElem_cons_zero]
              refine wpAnyH_take (i := 16) (v := ?vB16) rfl (by kernel_rfl) (by kernel_rfl) (by kernel_rfl) (fun _ _ _ h => h) (Or.inl ⟨by rfl, ?hyB16⟩) (by assumption) ?restB16
              case hyB16 => ((intro w hSw; (try dsimp only at hSw); go_simp); try with_reducible rfl)
              try simp only [Act.put, List.setIfInBounds_toArray, List.set_cons_zero, List.set_cons_succ, List.getElem_toArray, List.getElem_cons_succ, List.getElem_cons_zero]
              refine wpAnyH_take (i := 17) (v := ?vB17) rfl (by kernel_rfl) (by kernel_rfl) (by kernel_rfl) (fun _ _ _ h => h) (Or.inl ⟨by rfl, ?hyB17⟩) (by assumption) ?restB17
              case hyB17 => ((intro w hSw; (try dsimp only at hSw); go_simp); try with_reducible rfl)
              try simp only [Act.put, List.setIfInBounds_toArray, List.set_cons_zero, List.set_cons_succ, List.getElem_toArray, List.getElem_cons_succ, List.getElem_cons_zero]
              refine wpAnyH_take (i := 18) (v := ?vB18) rfl (by kernel_rfl) (by kernel_rfl) (by kernel_rfl) (fun _ _ _ h => h) (Or.inl ⟨by rfl, ?hyB18⟩) (by assumption) ?restB18
              case hyB18 => ((intro w hSw; (try dsimp only at hSw); go_simp); try with_reducible rfl)
              try simp only [Act.put, List.setIfInBounds_toArray, List.set_cons_zero, List.set_cons_succ, List.getElem_toArray, List.getElem_cons_succ, List.getElem_cons_zero]
              refine wpAnyH_take (i := 19) (v := ?vB19) rfl (by kernel_rfl) (by kernel_rfl) (by kernel_rfl) (fun _ _ _ h => h) (Or.inl ⟨by rfl, ?hyB19⟩) (by assumption) ?restB19
              case hyB19 => ((intro w hSw; (try dsimp only at hSw); go_simp); try with_reducible rfl)
              try simp only [Act.put, List.setIfInBounds_toArray, List.set_cons_zero, List.set_cons_succ, List.getElem_toArray, List.getElem_cons_succ, List.getElem_cons_zero]
              refine wpAnyH_take (i := 21) (v := ?vB21) rfl (by kernel_rfl) (by kernel_rfl) (by kernel_rfl) (fun _ _ _ h => h) (Or.inl ⟨by rfl, ?hyB21⟩) (by assumption) ?restB21
              case hyB21 => ((intro w hSw; (try dsimp only at hSw); go_simp); try with_reducible rfl)
              try simp only [Act.put, List.setIfInBounds_toArray, List.set_cons_zero, List.set_cons_succ, List.getElem_toArray, List.getElem_cons_succ, List.getElem_cons_zero]
              refine wpAnyH_take (i := 23) (v := ?vB23) rfl (by kernel_rfl) (by kernel_rfl) (by kernel_rfl) (fun _ _ _ h => h) (Or.inl ⟨by rfl, ?hyB23⟩) (by assumption) ?restB23
              case hyB23 => ((intro w hSw; (try dsimp only at hSw); go_simp); try with_reducible rfl)
              try simp only [Act.put, List.setIfInBounds_toArray, List.set_cons_zero, List.set_cons_succ, List.getElem_toArray, List.getElem_cons_succ, List.getElem_cons_zero]
              refine wpAnyH_ready (rs := [20]) (by kernel_rfl) (by simp) ?_
              refine AllReadyH.cons rfl (fun K hK => ?_) AllReadyH.nil
              try simp only [List.getElem_toArray, List.getElem_cons_succ, List.getElem_cons_zero]
              go_simp
              (go_at_call 23; refine (all_is _ W.heap.size p1 now2 many2 _ C2 A ((HP7.out.below cur).c.clk) ((HP7.out.below cur).c.row) (Nat.le_trans hz7 cur.size) (by omega) hALL.out).mono ?_; rintro e w8 ⟨vA, rfl, hA1, hb8⟩; have cur := cur.trans (hb8.mono cur.size))
              refine hK.out _ _ ?hSB20 (fun hHeld => ?hRB20)
              case hSB20 => exact ⟨(Below.cellB cur hp2l).trans c0, (Below.cellB cur hgX7).trans xD⟩
              case' hRB20 => clear hK K
              try simp only [Act.put, List.setIfInBounds_toArray, List.set_cons_zero, List.set_cons_succ, List.getElem_toArray, List.getElem_cons_succ, List.getElem_cons_zero]
              refine wpAnyH_ready (rs := [22]) (by kernel_rfl) (by simp) ?_
              refine AllReadyH.cons rfl (fun K hK => ?_) AllReadyH.nil
              try simp only [List.getElem_toArray, List.getElem_cons_succ, List.getElem_cons_zero]
              go_simp
              (go_at_call 23; refine (all_is _ W.heap.size p1 now2 many2 _ C2 A ((HP7.out.below cur).c.clk) ((HP7.out.below cur).c.row) (Nat.le_trans hz7 cur.size) (by omega) hALL.out).mono ?_; rintro e w9 ⟨vB, rfl, hA2, hb9⟩; have hA12 := OwnF.kept hA1 hb9; have cur := cur.trans (hb9.mono cur.size))
              refine hK.out _ _ ?hSB22 (fun hHeld => ?hRB22)
              case hSB22 => exact ⟨(Below.cellB cur hp2l).trans c0, (Below.cellB cur hgX7).trans xD⟩
              case' hRB22 => clear hK K
              try simp only [Act.put, List.setIfInBounds_toArray, List.set_cons_zero, List.set_cons_succ, List.getElem_toArray, List.getElem_cons_succ, List.getElem_cons_zero]
              refine wpAnyH_ready (rs := [24]) (by kernel_rfl) (by simp) ?_
              refine AllReadyH.cons rfl (fun K hK => ?_) AllReadyH.nil
              try simp only [List.getElem_toArray, List.getElem_cons_succ, List.getElem_cons_zero]
              go_simp
              (go_at_call 22; refine (twice_any _ _ _ _ _ _ _ A hA12 hA2 (OwnF.kept HX7.out cur) hAl (by have := hb9.size; have := hb8.size; omega) (own_apart hA1 hA2)).mono ?_; rintro e wT ⟨rfl, hfT⟩; have cur := als_below cur (OwnF.lower hA12 (by simp)) hfT)
              refine hK.out _ _ ?hSB24 (fun hHeld => ?hRB24)
              case hSB24 => exact ⟨(Below.cellB cur hp2l).trans c0, (Below.cellB cur hgX7).trans xD⟩
              case' hRB24 => clear hK K
              try simp only [Act.put, List.setIfInBounds_toArray, List.set_cons_zero, List.set_cons_succ, List.getElem_toArray, List.getElem_cons_succ, List.getElem_cons_zero]
              refine wpAnyH_take (i := 25) (v := ?vB25) rfl (by kernel_rfl) (by kernel_rfl) (by kernel_rfl) (fun _ _ _ h => h) (Or.inl ⟨by rfl, ?hyB25⟩) (by assumption) ?restB25
              case hyB25 => ((intro w hSw; (try dsimp only at hSw); go_simp); try with_reducible rfl)
              try simp only [Act.put, List.setIfInBounds_toArray, List.set_cons_zero, List.set_cons_succ, List.getElem_toArray, List.getElem_cons_succ, List.getElem_cons_zero]
              refine wpAnyH_take (i := 26) (v := ?vB26) rfl (by kernel_rfl) (by kernel_rfl) (by kernel_rfl) (fun _ _ _ h => h) (Or.inl ⟨by rfl, ?hyB26⟩) (by assumption) ?restB26
              case hyB26 => ((intro w hSw; (try dsimp only at hSw); go_simp); try with_reducible rfl)
              try simp only [Act.put, List.setIfInBounds_toArray, List.set_cons_zero, List.set_cons_succ, List.getElem_toArray, List.getElem_cons_succ, List.getElem_cons_zero]
              refine wpAnyH_take (i := 27) (v := ?vB27) rfl (by kernel_rfl) (by kernel_rfl) (by kernel_rfl) (fun _ _ _ h => h) (Or.inl ⟨by rfl, ?hyB27⟩) (by assumption) ?restB27
              case hyB27 => ((intro w hSw; (try dsimp only at hSw); go_simp); try with_reducible rfl)
              try simp only [Act.put, List.setIfInBounds_toArray, List.set_cons_zero, List.set_cons_succ, List.getElem_toArray, List.getElem_cons_succ, List.getElem_cons_zero]
              refine wpAnyH_take (i := 28) (v := ?vB28) rfl (by kernel_rfl) (by kernel_rfl) (by kernel_rfl) (fun _ _ _ h => h) (Or.inl ⟨by rfl, ?hyB28⟩) (by assumption) ?restB28
              case hyB28 => ((intro w hSw; (try dsimp only at hSw); go_simp); try with_reducible rfl)
              try simp only [Act.put, List.setIfInBounds_toArray, List.set_cons_zero, List.set_cons_succ, List.getElem_toArray, List.getElem_cons_succ, List.getElem_cons_zero]
              refine wpAnyH_take (i := 29) (v := ?vB29) rfl (by kernel_rfl) (by kernel_rfl) (by kernel_rfl) (fun _ _ _ h => h) (Or.inl ⟨by rfl, ?hyB29⟩) (by assumption) ?restB29
              case hyB29 => ((intro w hSw; (try dsimp only at hSw); go_simp); try with_reducible rfl)
              try simp only [Act.put, List.setIfInBounds_toArray, List.set_cons_zero, List.set_cons_succ, List.getElem_toArray, List.getElem_cons_succ, List.getElem_cons_zero]
              refine wpAnyH_take (i := 30) (v := ?vB30) rfl (by kernel_rfl) (by kernel_rfl) (by kernel_rfl) (fun _ _ _ h => h) (Or.inl ⟨by rfl, ?hyB30⟩) (by assumption) ?restB30
              case hyB30 => ((intro w hSw; (try dsimp only at hSw); go_simp); try with_reducible rfl)
              try simp only [Act.put, List.setIfInBounds_toArray, List.set_cons_zero, List.set_cons_succ, List.getElem_toArray, List.getElem_cons_succ, List.getElem_cons_zero]
              refine wpAnyH_take (i := 31) (v := ?vB31) rfl (by kernel_rfl) (by kernel_rfl) (by kernel_rfl) (fun _ _ _ h => h) (Or.inl ⟨by rfl, ?hyB31⟩) (by assumption) ?restB31
              case hyB31 => ((intro w hSw; (try dsimp only at hSw); go_simp); try with_reducible rfl)
              try simp only [Act.put, List.setIfInBounds_toArray, List.set_cons_zero, List.set_cons_succ, List.getElem_toArray, List.getElem_cons_succ, List.getElem_cons_zero]
              refine wpAnyH_take (i := 32) (v := ?vB32) rfl (by kernel_rfl) (by kernel_rfl) (by kernel_rfl) (fun _ _ _ h => h) (Or.inl ⟨by rfl, ?hyB32⟩) (by assumption) ?restB32
              case hyB32 => ((intro w hSw; (try dsimp only at hSw); go_simp); try with_reducible rfl)
              try simp only [Act.put, List.setIfInBounds_toArray, List.set_cons_zero, List.set_cons_succ, List.getElem_toArray, List.getElem_cons_succ, List.getElem_cons_zero]
              refine wpAnyH_take (i := 33) (v := ?vB33) rfl (by kernel_rfl) (by kernel_rfl) (by kernel_rfl) (fun _ _ _ h => h) (Or.inl ⟨by rfl, ?hyB33⟩) (by assumption) ?restB33
              case hyB33 => ((intro w hSw; (try dsimp only at hSw); go_simp); try with_reducible rfl)
              try simp only [Act.put, List.setIfInBounds_toArray, List.set_cons_zero, List.set_cons_succ, List.getElem_toArray, List.getElem_cons_succ, List.getElem_cons_zero]
              refine wpAnyH_take (i := 34) (v := ?vB34) rfl (by kernel_rfl) (by kernel_rfl) (by kernel_rfl) (fun _ _ _ h => h) (Or.inl ⟨by rfl, ?hyB34⟩) (by assumption) ?restB34
              case hyB34 => ((intro w hSw; (try dsimp only at hSw); go_simp); try with_reducible rfl)
              try simp only [Act.put, List.setIfInBounds_toArray, List.set_cons_zero, List.set_cons_succ, List.getElem_toArray, List.getElem_cons_succ, List.getElem_cons_zero]
              refine wpAnyH_take (i := 35) (v := ?vB35) rfl (by kernel_rfl) (by kernel_rfl) (by kernel_rfl) (fun _ _ _ h => h) (Or.inl ⟨by rfl, ?hyB35⟩) (by assumption) ?restB35
              case hyB35 => ((intro w hSw; (try dsimp only at hSw); go_simp); try with_reducible rfl)
              try simp only [Act.put, List.setIfInBounds_toArray, List.set_cons_zero, List.set_cons_succ, List.getElem_toArray, List.getElem_cons_succ, List.getElem_cons_zero]
              refine wpAnyH_take (i := 36) (v := ?vB36) rfl (by kernel_rfl) (by kernel_rfl) (by kernel_rfl) (fun _ _ _ h => h) (Or.inl ⟨by rfl, ?hyB36⟩) (by assumption) ?restB36
              case hyB36 => ((intro w hSw; (try dsimp only at hSw); go_simp); try with_reducible rfl)
              try simp only [Act.put, List.setIfInBounds_toArray, List.set_cons_zero, List.set_cons_succ, List.getElem_toArray, List.getElem_cons_succ, List.getElem_cons_zero]
              refine wpAnyH_take (i := 37) (v := ?vB37) rfl (by kernel_rfl) (by kernel_rfl) (by kernel_rfl) (fun _ _ _ h => h) (Or.inl ⟨by rfl, ?hyB37⟩) (by assumption) ?restB37
              case hyB37 => ((intro w hSw; (try dsimp only at hSw); go_simp); try with_reducible rfl)
              try simp only [Act.put, List.setIfInBounds_toArray, List.set_cons_zero, List.set_cons_succ, List.getElem_toArray, List.getElem_cons_succ, List.getElem_cons_zero]
              refine wpAnyH_take (i := 38) (v := ?vB38) rfl (by kernel_rfl) (by kernel_rfl) (by kernel_rfl) (fun _ _ _ h => h) (Or.inl ⟨by rfl, ?hyB38⟩) (by assumption) ?restB38
              case hyB38 => ((intro w hSw; (try dsimp only at hSw); go_simp); try with_reducible rfl)
              try simp only [Act.put, List.setIfInBounds_toArray, List.set_cons_zero, List.set_cons_succ, List.getElem_toArray, List.getElem_cons_succ, List.getElem_cons_zero]
              refine wpAnyH_take (i := 39) (v := ?vB39) rfl (by kernel_rfl) (by kernel_rfl) (by kernel_rfl) (fun _ _ _ h => h) (Or.inl ⟨by rfl, ?hyB39⟩) (by assumption) ?restB39
              case hyB39 => ((intro w hSw; (try dsimp only at hSw); go_simp); try with_reducible rfl)
              try simp only [Act.put, List.setIfInBounds_toArray, List.set_cons_zero, List.set_cons_succ, List.getElem_toArray, List.getElem_cons_succ, List.getElem_cons_zero]
              refine wpAnyH_take (i := 40) (v := ?vB40) rfl (by kernel_rfl) (by kernel_rfl) (by kernel_rfl) (fun _ _ _ h => h) (Or.inl ⟨by rfl, ?hyB40⟩) (by assumption) ?restB40
              case hyB40 => ((intro w hSw; (try dsimp only at hSw); go_simp); try with_reducible rfl)
              try simp only [Act.put, List.setIfInBounds_toArray, List.set_cons_zero, List.set_cons_succ, List.getElem_toArray, List.getElem_cons_succ, List.getElem_cons_zero]
              refine wpAnyH_take (i := 41) (v := ?vB41) rfl (by kernel_rfl) (by kernel_rfl) (by kernel_rfl) (fun _ _ _ h => h) (Or.inl ⟨by rfl, ?hyB41⟩) (by assumption) ?restB41
              case hyB41 => ((intro w hSw; (try dsimp only at hSw); go_simp); try with_reducible rfl)
              try simp only [Act.put, List.setIfInBounds_toArray, List.set_cons_zero, List.set_cons_succ, List.getElem_toArray, List.getElem_cons_succ, List.getElem_cons_zero]
              refine wpAnyH_take (i := 42) (v := ?vB42) rfl (by kernel_rfl) (by kernel_rfl) (by kernel_rfl) (fun _ _ _ h => h) (Or.inl ⟨by rfl, ?hyB42⟩) (by assumption) ?restB42
              case hyB42 => ((intro w hSw; (try dsimp only at hSw); go_simp); try with_reducible rfl)
              try simp only [Act.put, List.setIfInBounds_toArray, List.set_cons_zero, List.set_cons_succ, List.getElem_toArray, List.getElem_cons_succ, List.getElem_cons_zero]
              refine wpAnyH_take (i := 43) (v := ?vB43) rfl (by kernel_rfl) (by kernel_rfl) (by kernel_rfl) (fun _ _ _ h => h) (Or.inl ⟨by rfl, ?hyB43⟩) (by assumption) ?restB43
              case hyB43 => ((intro w hSw; (try dsimp only at hSw); go_simp); try with_reducible rfl)
              try simp only [Act.put, List.setIfInBounds_toArray, List.set_cons_zero, List.set_cons_succ, List.getElem_toArray, List.getElem_cons_succ, List.getElem_cons_zero]
              refine wpAnyH_take (i := 44) (v := ?vB44) rfl (by kernel_rfl) (by kernel_rfl) (by kernel_rfl) (fun _ _ _ h => h) (Or.inl ⟨by rfl, ?hyB44⟩) (by assumption) ?restB44
              case hyB44 => ((intro w hSw; (try dsimp only at hSw); go_simp); try with_reducible rfl)
              try simp only [Act.put, List.setIfInBounds_toArray, List.set_cons_zero, List.set_cons_succ, List.getElem_toArray, List.getElem_cons_succ, List.getElem_cons_zero]
              refine wpAnyH_take (i := 45) (v := ?vB45) rfl (by kernel_rfl) (by kernel_rfl) (by kernel_rfl) (fun _ _ _ h => h) (Or.inl ⟨by rfl, ?hyB45⟩) (by assumption) ?restB45
              case hyB45 => ((intro w hSw; (try dsimp only at hSw); go_simp); try with_reducible rfl)
              try simp only [Act.put, List.setIfInBounds_toArray, List.set_cons_zero, List.set_cons_succ, List.getElem_toArray, List.getElem_cons_succ, List.getElem_cons_zero]
              refine wpAnyH_take (i := 46) (v := ?vB46) rfl (by kernel_rfl) (by kernel_rfl) (by kernel_rfl) (fun _ _ _ h => h) (Or.inl ⟨by rfl, ?hyB46⟩) (by assumption) ?restB46
              case hyB46 => ((intro w hSw; (try dsimp only at hSw); go_simp); try with_reducible rfl)
              try simp only [Act.put, List.setIfInBounds_toArray, List.set_cons_zero, List.set_cons_succ, List.getElem_toArray, List.getElem_cons_succ, List.getElem_cons_zero]
              refine wpAnyH_take (i := 47) (v := ?vB47) rfl (by kernel_rfl) (by kernel_rfl) (by kernel_rfl) (fun _ _ _ h => h) (Or.inl ⟨by rfl, ?hyB47⟩) (by assumption) ?restB47
              case hyB47 => ((intro w hSw; (try dsimp only at hSw); go_simp); try with_reducible rfl)
              try simp only [Act.put, List.setIfInBounds_toArray, List.set_cons_zero, List.set_cons_succ, List.getElem_toArray, List.getElem_cons_succ, List.getElem_cons_zero]
              refine wpAnyH_take (i := 48) (v := ?vB48) rfl (by kernel_rfl) (by kernel_rfl) (by kernel_rfl) (fun _ _ _ h => h) (Or.inl ⟨by rfl, ?hyB48⟩) (by assumption) ?restB48
              case hyB48 => ((intro w hSw; (try dsimp only at hSw); go_simp); try with_reducible rfl)
              try simp only [Act.put, List.setIfInBounds_toArray, List.set_cons_zero, List.set_cons_succ, List.getElem_toArray, List.getElem_cons_succ, List.getElem_cons_zero]
              refine wpAnyH_take (i := 49) (v := undef) rfl (by kernel_rfl) (by kernel_rfl) (by kernel_rfl) (fun _ _ _ h => h) (Or.inr ⟨by rfl, rfl⟩) (by assumption) ?_
              try simp only [Act.put, List.setIfInBounds_toArray, List.set_cons_zero, List.set_cons_succ, List.getElem_toArray, List.getElem_cons_succ, List.getElem_cons_zero]
              refine wpAnyH_take (i := 50) (v := undef) rfl (by kernel_rfl) (by kernel_rfl) (by kernel_rfl) (fun _ _ _ h => h) (Or.inr ⟨by rfl, rfl⟩) (by assumption) ?_
              try simp only [Act.put, List.setIfInBounds_toArray, List.set_cons_zero, List.set_cons_succ, List.getElem_toArray, List.getElem_cons_succ, List.getElem_cons_zero]
              refine wpAnyH_take (i := 51) (v := ?vB51) rfl (by kernel_rfl) (by kernel_rfl) (by kernel_rfl) (fun _ _ _ h => h) (Or.inl ⟨by rfl, ?hyB51⟩) (by assumption) ?restB51
              case hyB51 => ((intro w hSw; (try dsimp only at hSw); go_simp); try with_reducible rfl)
              try simp only [Act.put, List.setIfInBounds_toArray, List.set_cons_zero, List.set_cons_succ, List.getElem_toArray, List.getElem_cons_succ, List.getElem_cons_zero]
              refine wpAnyH_take (i := 52) (v := ?vB52) rfl (by kernel_rfl) (by kernel_rfl) (by kernel_rfl) (fun _ _ _ h => h) (Or.inl ⟨by rfl, ?hyB52⟩) (by assumption) ?restB52
              case hyB52 => ((intro w hSw; (try dsimp only at hSw); go_simp); try with_reducible rfl)
              try simp only [Act.put, List.setIfInBounds_toArray, List.set_cons_zero, List.set_cons_succ, List.getElem_toArray, List.getElem_cons_succ, List.getElem_cons_zero]
              refine wpAnyH_done (by kernel_rfl) ?_ _
              go_wp2_with fail
              go_roundg (gk - 1)
              case measure => omega
              case rel => exact ⟨i + 1, _, _, C2, L2, now2, many2, by omega, by go_num, Lib.hid (HP7.out.below cur), Lib.hid (HB7.out.trans (cur.mono hz7)), n20, n21, m20, by omega, by omega, by omega⟩
        · obtain rfl : i = 150 := by omega
          have d1 : decide (((150 : Nat) : Int) < (l.length : Int)) = true := decide_eq_true (by omega)
          go_wp2_with (go_at_call 7; refine (awake_any _).mono ?_; rintro e w9 ⟨rfl, hb9⟩)
          go_ret
          exact ⟨rfl, hB.out.trans (hb9.mono hzr)⟩
      · have d1 : decide ((i : Int) < (l.length : Int)) = false := decide_eq_false (by omega)
        go_wp2_with (go_at_call 7; refine (awake_any _).mono ?_; rintro e w9 ⟨rfl, hb9⟩)
        go_ret
        exact ⟨rfl, hB.out.trans (hb9.mono hzr)⟩

end Go.Proofs.Ytofpmhkjagdmmaa
