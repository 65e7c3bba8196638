/- JobPlays: jobs are handed out, fail, and are tried again as the document says. -/
import Derived.Test.YtggnheekkbideaaJobPlaysM
import Derived.Test.YtggnheekkbideaaJobRFetchM
import Derived.Deep.CutBlock
set_option maxRecDepth 100000
namespace Go.Proofs.Ytggnheekkbideaa
open Go.RowKit

theorem rfetch_any (w : World) (v : Value) (l : List Ins) (clock : Int) (wk : ByteArray) (n ticks : Int) (hI : InsR w w.heap.size v l) (hS : SmL l) :
    Calls Try.prog 26 #[v, .int .i64 clock, .string wk, .int .i64 n, .int .i64 ticks] w fun e w' => ∃ vo vt R, e = .returned (.tuple #[vo, vt, .int .i64 (fetE clock wk n ticks)]) ∧ InsO w' w.heap.size vo R ∧
      R.map (·.x) = fetL l clock wk n ticks ∧ OwnI w' w.heap.size vt (fetT l clock wk n ticks) ∧ Below w.heap.size w w' := by
  by_cases h : fetchOk clock wk n ticks
  · unfold fetE fetL fetT
    rw [if_pos h, if_pos h, if_pos h]
    exact rfetch_yes w v l clock wk n ticks hI hS h
  · unfold fetE fetL fetT
    rw [if_neg h, if_neg h, if_neg h]
    obtain ⟨a, c, rfl⟩ := hI.val
    exact (rfetch_no w a l.length c clock wk n ticks h).mono (fun e w' ⟨h1, h2⟩ => ⟨_, _, [], h1, insO_nil _ _, rfl, OwnI.nil _ _, h2⟩)

set_option maxHeartbeats 16000000 in
theorem jobPlays_walk (W : World) (v0 : Value) (l : List Ins) (hl : InsR W W.heap.size v0 l) (gl : ∀ x ∈ l, InsI x) (v1 : Value) (S : List Js) (hS : JsR W W.heap.size v1 S) (_gS : ∀ x ∈ S, JsI x) :
    Calls Try.prog 5 #[v0, v1] W fun e w' => e = .returned (.bool true) ∧ Below W.heap.size W w' := by
  have S0 := Lib.hid (large_any W v0 l hl)
  have HL := Lib.hid hl
  have HSt := Lib.hid hS
  obtain ⟨a0, c0, rfl⟩ := hl.val
  obtain ⟨a1, c1, rfl⟩ := hS.val
  cases hlg : largeB l with
  | true =>
    rw [hlg] at S0
    clear hl hlg
    go_enter Try.func5, Try.ntmps5
    go_wp2_with (first | (go_at_call 8; refine S0.out.mono ?_; rintro e w1 ⟨rfl, n1, rfl⟩) | (go_at_call 10; refine (awake_any _).mono ?_; rintro e w2 ⟨rfl, hb⟩))
    go_ret
    exact ⟨ret_bool rfl, (below_drewN (Below.refl _ _) n1).trans hb⟩
  | false =>
    rw [hlg] at S0
    have hgood : GoodL l := ⟨small_SmL hlg, fun x hx t ht => by
      obtain ⟨_, _, _, g⟩ := gl x hx
      obtain ⟨_, _, g3, _⟩ := g t ht
      simp [Lit.wf] at g3
      exact g3.2, by have := small_many hlg; omega⟩
    have HG := Lib.hid hgood
    have hSl := hS.len
    clear hl hlg hS gl
    go_enter Try.func5, Try.ntmps5
    go_wp2_with (go_at_call 8; refine S0.out.mono ?_; rintro e w1 ⟨rfl, n1, rfl⟩; refine Hid.out ?_)
    refine Lib.hid ?_
    obtain ⟨w1, hw1⟩ : ∃ w1, W.drewN n1 = w1 := ⟨_, rfl⟩
    have HB1 : Hid (Below W.heap.size W w1) := Lib.hid (by rw [← hw1]; exact below_drewN (Below.refl _ _) n1)
    rw [hw1]
    clear hw1
    have S1 := Lib.hid (rtwin_any w1 _ l (HL.out.at_all HB1.out) HG.out.sm)
    go_wp2_with (go_at_call 11; refine S1.out.mono ?_; rintro e w2 ⟨vx, R, rfl, hO2, hR2, hb2⟩; refine Hid.out ?_)
    refine Lib.hid ?_
    have HX0 := Lib.hid (hO2.readL hR2 HG.out.sm)
    have HB2 := Lib.hid (HB1.out.trans (hb2.mono HB1.out.size))
    clear hO2 hR2 hb2
    go_wp2_with fail
    go_loopg [5, 6] S.length (fun gh s5 s6 wx => ∃ (i : Nat) (X : List Ins), i + gh = S.length ∧ s6 = .int .i64 (i : Int) ∧ Hid (InsR wx wx.heap.size s5 X) ∧ Hid (GoodL X) ∧ Hid (Below W.heap.size W wx))
    case atStart => exact ⟨0, l, by omega, rfl, HX0, HG, HB2⟩
    case round =>
      obtain ⟨i, X, hig, rfl, HX, HGX, HBx⟩ := hrel
      obtain ⟨wo, rfl⟩ : ∃ wo : World, wo = wr := ⟨_, rfl⟩
      by_cases hi : i < S.length ∧ i < 40
      · obtain ⟨hi, hi4⟩ := hi
        have hz := HBx.out.size
        obtain ⟨b, o, rfl, hb, c0, c1, c2, c3, c4, c5⟩ := jsR_at (HSt.out.mono HBx.out (Nat.le_refl _)) hi
        obtain ⟨s, hs⟩ : ∃ s, S[i] = s := ⟨_, rfl⟩
        rw [hs] at c0 c1 c2 c3 c4 c5
        obtain ⟨p0, hp0⟩ : ∃ p0, wo.heap.size = p0 := ⟨_, rfl⟩
        obtain ⟨w1, p1, hw1, hp1, ep1, hb1, hn1⟩ := alloc_named wo (.cells (cellS s).toArray 30) hp0
        have l01 : p0 < w1.heap.size := by omega
        have hw1' : wo.alloc (.cells #[.int .i64 s.kind, .int .i64 s.clock, .string s.wk, .int .i64 s.tok, .int .i64 s.n, .int .i64 s.ticks] 30) = w1 := hw1
        have hb1' : Below wo.heap.size wo w1 := by rw [hp0]; exact hb1
        have HX1 := Lib.hid (HX.out.at_all hb1')
        have HN1 := Lib.hid hn1
        have HB1 := Lib.hid (HBx.out.trans (hb1'.mono hz))
        have S2 := Lib.hid (rtwin_any w1 _ X HX1.out HGX.out.sm)
        have d1 : decide ((i : Int) < (S.length : Int)) = true := decide_eq_true (by omega)
        have d2 : decide ((i : Int) < 40) = true := decide_eq_true (by omega)
        have i1 : (0 : Int) ≤ (i : Int) := by omega
        have i2 : (i : Int) < (S.length : Int) := by omega
        clear hs hw1 hn1 hb1 hb1' ep1
        go_upto_block 2 with (go_at_call 11; refine S2.out.mono ?_; rintro e w2 ⟨vi, Ri, rfl, hO, hR, hb2⟩; have HO2 := Lib.hid hO; have HR2 := Lib.hid hR; have HB22 := Lib.hid hb2; have hn2 := js_box ((hb2.block p0 l01).trans HN1.out); obtain ⟨n0, n1, n2, n3, n4, n5⟩ := hn2; clear hO hR hb2 c0 c1 c2 c3 c4 c5)
        have hO := HO2.out
        have hR := HR2.out
        have hb2 := HB22.out
        clear HO2 HR2 HB22
        have HIn := Lib.hid (hO.readL hR HGX.out.sm)
        have HX2 := Lib.hid (HX1.out.at_all hb2)
        have l02 : p0 < w2.heap.size := Nat.lt_of_lt_of_le l01 hb2.size
        have HN2 := Lib.hid ((hb2.block p0 l01).trans HN1.out)
        have HB2 := Lib.hid (HB1.out.trans (hb2.mono HB1.out.size))
        clear hO hR hb2 d1 d2 hw1' hp1
        go_cut [9, 10, 11, 12, 13, 14, 15] (fun s9 s10 s11 s12 s13 s14 s15 wx => Hid (PlayedV w2 s9 s10 s11 s12 s13 s14 s15 wx))
        case first =>
          by_cases hk0 : s.kind = 0
          · have e0 : (s.kind == 0) = true := by simpa using hk0
            clear hk0
            have T1 := Lib.hid (fetch_any w2 vi X s.clock s.wk s.n s.ticks HIn.out HGX.out.sm HGX.out.many)
            go_wp2_with (go_at_call 12; refine T1.out.mono ?_; rintro e w3 ⟨va, vt, Ra, rfl, hA, hRa, hT, hb3⟩; refine Hid.out ?_)
            refine Lib.hid ?_
            have HA := Lib.hid hA
            have HRa := Lib.hid hRa
            have HT := Lib.hid hT
            have HBa := Lib.hid hb3
            have HIn3 := Lib.hid (HIn.out.at_all hb3)
            have HX3 := Lib.hid (HX2.out.at_all hb3)
            have l03 : p0 < w3.heap.size := Nat.lt_of_lt_of_le l02 hb3.size
            have HN3 := Lib.hid ((hb3.block p0 l02).trans HN2.out)
            clear hA hRa hb3 n0 n1 n2 n3 n4 n5 T1
            clear hT
            obtain ⟨n0, n1, n2, n3, n4, n5⟩ := js_box HN3.out
            have T2 := Lib.hid (fetch_any w3 vi X s.clock s.wk s.n s.ticks HIn3.out HGX.out.sm HGX.out.many)
            go_wp2_with (go_at_call 12; refine T2.out.mono ?_; rintro e w4 ⟨vb, vu, Rb, rfl, hA, hRa, -, hb3⟩; refine Hid.out ?_)
            refine Lib.hid ?_
            have HB := Lib.hid hA
            have HRb := Lib.hid hRa
            have HBb := Lib.hid hb3
            have HX4 := Lib.hid (HX3.out.at_all hb3)
            have HN4 := Lib.hid ((hb3.block p0 l03).trans HN3.out)
            clear hA hRa hb3 n0 n1 n2 n3 n4 n5 T2
            obtain ⟨n0, n1, n2, n3, n4, n5⟩ := js_box HN4.out
            have T3 := Lib.hid (rfetch_any w4 _ X s.clock s.wk s.n s.ticks HX4.out HGX.out.sm)
            go_wp2_with (go_at_call 26; refine T3.out.mono ?_; rintro e w5 ⟨vw, vq, Rw, rfl, hA, hRa, hT, hb3⟩; refine Hid.out ?_)
            refine Lib.hid ?_
            have HF := Lib.hid (playedV_mk (E := fetE s.clock s.wk s.n s.ticks) (T := fetT X s.clock s.wk s.n s.ticks) (HGX.out.fet s.clock s.wk s.n s.ticks) (by have := fetT_len (l := X) (clock := s.clock) (wk := s.wk) (n := s.n) (ticks := s.ticks); omega) HA.out HRa.out HT.out HBa.out HB.out HRb.out HBb.out hA hRa hT hb3)
            clear hA hRa hb3 n0 n1 n2 n3 n4 n5 T3
            go_wp2_with fail
            go_meet
            exact HF
          · have e0 : (s.kind == 0) = false := by simpa using hk0
            clear hk0
            by_cases hk1 : s.kind = 1
            · have e1 : (s.kind == 1) = true := by simpa using hk1
              clear hk1
              have T1 := Lib.hid (fail_any w2 vi X s.clock s.wk s.tok HIn.out HGX.out.sm HGX.out.tri)
              go_wp2_with (go_at_call 15; refine T1.out.mono ?_; rintro e w3 ⟨va, Ra, rfl, hA, hRa, hb3⟩; refine Hid.out ?_)
              refine Lib.hid ?_
              have HA := Lib.hid hA
              have HRa := Lib.hid hRa
              have HT := Lib.hid (OwnI.nil w3 w2.heap.size)
              have HBa := Lib.hid hb3
              have HIn3 := Lib.hid (HIn.out.at_all hb3)
              have HX3 := Lib.hid (HX2.out.at_all hb3)
              have l03 : p0 < w3.heap.size := Nat.lt_of_lt_of_le l02 hb3.size
              have HN3 := Lib.hid ((hb3.block p0 l02).trans HN2.out)
              clear hA hRa hb3 n0 n1 n2 n3 n4 n5 T1
              obtain ⟨n0, n1, n2, n3, n4, n5⟩ := js_box HN3.out
              have T2 := Lib.hid (fail_any w3 vi X s.clock s.wk s.tok HIn3.out HGX.out.sm HGX.out.tri)
              go_wp2_with (go_at_call 15; refine T2.out.mono ?_; rintro e w4 ⟨vb, Rb, rfl, hA, hRa, hb3⟩; refine Hid.out ?_)
              refine Lib.hid ?_
              have HB := Lib.hid hA
              have HRb := Lib.hid hRa
              have HBb := Lib.hid hb3
              have HX4 := Lib.hid (HX3.out.at_all hb3)
              have HN4 := Lib.hid ((hb3.block p0 l03).trans HN3.out)
              clear hA hRa hb3 n0 n1 n2 n3 n4 n5 T2
              obtain ⟨n0, n1, n2, n3, n4, n5⟩ := js_box HN4.out
              have T3 := Lib.hid (rfail_any w4 _ X s.clock s.wk s.tok HX4.out HGX.out.sm HGX.out.tri)
              go_wp2_with (go_at_call 27; refine T3.out.mono ?_; rintro e w5 ⟨vw, Rw, rfl, hA, hRa, hb3⟩; refine Hid.out ?_)
              refine Lib.hid ?_
              have HF := Lib.hid (playedV_mk (E := chgE (mayFail s.wk s.clock) X s.tok) (T := []) (HGX.out.chg (mayFail s.wk s.clock) failF s.tok (fun t _ h => by show t.tries - 1 ≤ _; omega)) (by simp) HA.out HRa.out HT.out HBa.out HB.out HRb.out HBb.out hA hRa (OwnI.nil w5 w4.heap.size) hb3)
              clear hA hRa hb3 n0 n1 n2 n3 n4 n5 T3
              go_wp2_with fail
              go_meet
              exact HF
            · have e1 : (s.kind == 1) = false := by simpa using hk1
              clear hk1
              have T1 := Lib.hid (revive_any w2 vi X s.tok s.n HIn.out HGX.out.sm HGX.out.tri)
              go_wp2_with (go_at_call 28; refine T1.out.mono ?_; rintro e w3 ⟨va, Ra, rfl, hA, hRa, hb3⟩; refine Hid.out ?_)
              refine Lib.hid ?_
              have HA := Lib.hid hA
              have HRa := Lib.hid hRa
              have HT := Lib.hid (OwnI.nil w3 w2.heap.size)
              have HBa := Lib.hid hb3
              have HIn3 := Lib.hid (HIn.out.at_all hb3)
              have HX3 := Lib.hid (HX2.out.at_all hb3)
              have l03 : p0 < w3.heap.size := Nat.lt_of_lt_of_le l02 hb3.size
              have HN3 := Lib.hid ((hb3.block p0 l02).trans HN2.out)
              clear hA hRa hb3 n0 n1 n2 n3 n4 n5 T1
              obtain ⟨n0, n1, n2, n3, n4, n5⟩ := js_box HN3.out
              have T2 := Lib.hid (revive_any w3 vi X s.tok s.n HIn3.out HGX.out.sm HGX.out.tri)
              go_wp2_with (go_at_call 28; refine T2.out.mono ?_; rintro e w4 ⟨vb, Rb, rfl, hA, hRa, hb3⟩; refine Hid.out ?_)
              refine Lib.hid ?_
              have HB := Lib.hid hA
              have HRb := Lib.hid hRa
              have HBb := Lib.hid hb3
              have HX4 := Lib.hid (HX3.out.at_all hb3)
              have HN4 := Lib.hid ((hb3.block p0 l03).trans HN3.out)
              clear hA hRa hb3 n0 n1 n2 n3 n4 n5 T2
              obtain ⟨n0, n1, n2, n3, n4, n5⟩ := js_box HN4.out
              have T3 := Lib.hid (rrevive_any w4 _ X s.tok s.n HX4.out HGX.out.sm)
              go_wp2_with (go_at_call 29; refine T3.out.mono ?_; rintro e w5 ⟨vw, Rw, rfl, hA, hRa, hb3⟩; refine Hid.out ?_)
              refine Lib.hid ?_
              have HF := Lib.hid (playedV_mk (E := chgE (mayRev s.n) X s.tok) (T := []) (HGX.out.chg (mayRev s.n) (revF s.n) s.tok (fun t h _ => by have := mayRev_ok h; show s.n ≤ _; omega)) (by simp) HA.out HRa.out HT.out HBa.out HB.out HRb.out HBb.out hA hRa (OwnI.nil w5 w4.heap.size) hb3)
              clear hA hRa hb3 n0 n1 n2 n3 n4 n5 T3
              go_wp2_with fail
              go_meet
              exact HF
        case rest =>
          obtain ⟨E, L, T, Ra, Rb, Rw, h1, h2, rfl, rfl, hP⟩ := hcut.out
          clear hcut n0 n1 n2 n3 n4 n5
          have HP := Lib.hid hP
          have hz2 := HB2.out.size
          have hlc : w2.heap.size ≤ wc.heap.size := hP.below.size
          have Q1 := Lib.hid (same_any wc _ _ L (hP.a.readL hP.ar hP.good.sm) (hP.c.readL hP.cr hP.good.sm))
          obtain ⟨at_, ct, rfl⟩ := hP.t.shape
          have hTl := hP.tl
          have e1 : (E != E) = false := by simp
          clear hP
          go_wp2_with (go_at_call 25; refine Q1.out.mono ?_; rintro e w6 ⟨rfl, hb6⟩; refine Hid.out ?_)
          refine Lib.hid ?_
          have HB6 := Lib.hid hb6
          have Q2 := Lib.hid (numbers_any w6 _ _ T T ((OwnI.kept HP.out.t hb6 (Nat.le_refl _)).col (by omega) (Nat.le_refl _)) ((OwnI.kept HP.out.q hb6 (Nat.le_refl _)).col (by omega) (Nat.le_refl _)))
          rw [show (T == T) = true by simp] at Q2
          clear hb6 Q1
          go_wp2_with (go_at_call 30; refine Q2.out.mono ?_; rintro e w7 ⟨rfl, n7, rfl⟩; refine Hid.out ?_)
          refine Lib.hid ?_
          obtain ⟨w7, hw7⟩ : ∃ w7, w6.drewN n7 = w7 := ⟨_, rfl⟩
          have HB7 : Hid (Below wc.heap.size wc w7) := Lib.hid (by rw [← hw7]; exact below_drewN HB6.out n7)
          rw [hw7]
          clear hw7 Q2
          have HB7b := Lib.hid (HP.out.below.trans (HB7.out.mono hlc))
          have Q3 := Lib.hid (same_any w7 vi _ X (HIn.out.at_all HB7b.out) (HX2.out.at_all HB7b.out))
          go_wp2_with (go_at_call 25; refine Q3.out.mono ?_; rintro e w8 ⟨rfl, hb8⟩; refine Hid.out ?_)
          refine Lib.hid ?_
          have HB8 := Lib.hid (HB7.out.trans (hb8.mono HB7.out.size))
          have hz8 := HB8.out.size
          have HT8 := Lib.hid (OwnI.kept HP.out.t HB8.out (Nat.le_refl _))
          clear hb8 Q3
          go_wp2_with fail
          go_loopg [16] T.length (fun gh s16 wx => ∃ (k : Nat) (T' : List Int), k + gh = T.length ∧ s16 = .int .i64 (k : Int) ∧ Hid (T'.length = T.length) ∧ OwnI wx w2.heap.size (.slice at_ T.length ct) T' ∧ Hid (Frm [(Value.slice at_ T.length ct).ownBlock] w8 wx))
          case atStart => exact ⟨0, T, by omega, rfl, rfl, HT8.out, Lib.hid (Frm.refl _ _)⟩
          case round =>
            obtain ⟨k, T', hkg, rfl, hTl', hT, hF⟩ := hrel
            obtain ⟨wp, rfl⟩ : ∃ wp : World, wp = wr := ⟨_, rfl⟩
            by_cases hk : k < T.length
            · have hkT : k < T'.length := by rw [hTl'.out]; exact hk
              rcases hT.val with ⟨_, h0⟩ | ⟨g, cap, hv, hg1, hg2⟩
              · subst h0; simp at hkT
              · rw [hTl'.out] at hv
                injection hv with hv1 _ hv2
                subst hv1 hv2
                obtain ⟨z, hz⟩ : ∃ z, T'[k] = z := ⟨_, rfl⟩
                have x0 : wp.cell? ⟨g, k, none⟩ = some (.int .i64 z) := by rw [← hz]; exact (hT.at hkT).1
                have x1 : wp.frozen? ⟨g, k, none⟩ = false := (hT.at hkT).2
                have HS := Lib.hid (hT.set k (-1))
                have HS2 := Lib.hid (hF.out.grown (grownBy_setCell wp g k (.int .i64 (-1))) (by simp [Value.ownBlock]))
                have HL2 : Hid ((T'.set k (-1)).length = T.length) := Lib.hid (by rw [List.length_set, hTl'.out])
                have dk : decide ((k : Int) < (T.length : Int)) = true := decide_eq_true (by omega)
                have k1 : (0 : Int) ≤ (k : Int) := by omega
                have k2 : (k : Int) < (T.length : Int) := by omega
                clear hT hz hkT
                go_wp2_with fail
                go_roundg (T.length - (k + 1))
                case measure => omega
                case rel => exact ⟨k + 1, _, by omega, by go_num, HL2, HS.out, HS2⟩
            · have dk : decide ((k : Int) < (T.length : Int)) = false := decide_eq_false (by omega)
              have hg := hF.out.toGrown
              have hge : ∀ r ∈ [(Value.slice at_ T.length ct).ownBlock], ∀ q, r = some q → w2.heap.size ≤ q := fun r hr q e => by
                rw [List.mem_singleton.1 hr] at e
                exact (World.ownsRow.lt HT8.out q e).1
              have HA9 := Lib.hid ((HP.out.a.kept HB8.out).grownI HT8.out hg)
              have HB9 := Lib.hid ((HP.out.b.kept HB8.out).grownI HT8.out hg)
              have HC9 := Lib.hid ((HP.out.c.kept HB8.out).grownI HT8.out hg)
              have hl3 := HP.out.l3
              have hl1 := HP.out.l1
              have hl2 := HP.out.l2
              have hz9 : w8.heap.size ≤ wp.heap.size := hF.out.size
              have HBP := Lib.hid ((HB7b.out.mono (Nat.le_refl _)))
              have HB29 := Lib.hid ((HP.out.below.trans (HB8.out.mono hlc)).trans (hF.out.toBelow (by omega) hge))
              have hsp := spoil_any wp w2.heap.size h1 _ Ra (HA9.out.spo HP.out.au) (lenR_of HP.out.ar HP.out.good.sm).1 (lenR_of HP.out.ar HP.out.good.sm).2
              have HSP := Lib.hid hsp
              clear hT hg hge hsp
              go_wp2_with (go_at_call 31; refine HSP.out.mono ?_; rintro e w10 ⟨N, rfl, hsh⟩; refine Hid.out ?_)
              refine Lib.hid ?_
              have HB10 := Lib.hid (HB9.out.far HP.out.bu hsh (by omega) (Or.inr (Nat.le_refl _)))
              have HC10 := Lib.hid (HC9.out.far HC9.out.und hsh (Nat.le_refl _) (Or.inr hl2))
              have HB210 := Lib.hid (HB29.out.trans (hsh.toBelow (by omega)))
              have Q4 := Lib.hid (same_any w10 _ _ L (HB10.out.readL HP.out.br HP.out.good.sm) (HC10.out.readL HP.out.cr HP.out.good.sm))
              have dN : decide ((N : Int) < 0) = false := decide_eq_false (by omega)
              clear hsh
              go_wp2_with (go_at_call 25; refine Q4.out.mono ?_; rintro e w11 ⟨rfl, hb11⟩; refine Hid.out ?_)
              refine Lib.hid ?_
              have HB11 := Lib.hid hb11
              have HB211 := Lib.hid (HB210.out.trans (hb11.mono HB210.out.size))
              have Q5 := Lib.hid (same_any w11 vi _ X (HIn.out.at_all HB211.out) (HX2.out.at_all HB211.out))
              clear hb11 Q4
              go_wp2_with (go_at_call 25; refine Q5.out.mono ?_; rintro e w12 ⟨rfl, hb12⟩; refine Hid.out ?_)
              refine Lib.hid ?_
              have HC12 := Lib.hid ((HC10.out.readL HP.out.cr HP.out.good.sm).at_all (HB11.out.trans (hb12.mono HB11.out.size)))
              have HB212 := Lib.hid (HB211.out.trans (hb12.mono HB211.out.size))
              have HX12 := Lib.hid (HX2.out.at_all HB212.out)
              have HBW := Lib.hid (HB2.out.trans (HB212.out.mono hz2))
              have HGL := Lib.hid HP.out.good
              clear hb12 Q5
              by_cases hE : E = 0
              · have e2 : (E == 0) = true := by simpa using hE
                clear hE
                go_wp2_with fail
                go_roundg (S.length - (i + 1))
                case measure => omega
                case rel => exact ⟨i + 1, L, by omega, by go_num, HC12, HGL, HBW⟩
              · have e2 : (E == 0) = false := by simpa using hE
                clear hE
                go_wp2_with fail
                go_roundg (S.length - (i + 1))
                case measure => omega
                case rel => exact ⟨i + 1, X, by omega, by go_num, HX12, HGX, HBW⟩
      · have hexit : Hid (Below W.heap.size W wo) := HBx
        have fin : (decide (i < S.length) = false) ∨ (decide (i < S.length) = true ∧ decide ((i : Int) < 40) = false ∧ decide (i < 40) = false) := by
          by_cases h : i < S.length
          · exact Or.inr ⟨decide_eq_true h, decide_eq_false (by omega), decide_eq_false (by omega)⟩
          · exact Or.inl (decide_eq_false h)
        clear hi
        rcases fin with d1 | ⟨d1, d2, d3⟩
        all_goals
          go_wp2_with (go_at_call 10; refine (awake_any _).mono ?_; rintro e w2 ⟨rfl, hb⟩)
          go_ret
          exact ⟨ret_bool rfl, hexit.out.trans (hb.mono hexit.out.size)⟩

end Go.Proofs.Ytggnheekkbideaa
