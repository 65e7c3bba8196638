/- JobTells: which tokens are jobs, which are free, who holds them, and where a token is. -/
import Derived.Test.YtggnheekkbideaaJobJobs
import Derived.Test.YtggnheekkbideaaJobSame
import Derived.Test.YtggnheekkbideaaJobLarge
import Derived.Test.YtggnheekkbideaaJobRFind
import Derived.Test.YtggnheekkbideaaOpenIns
set_option maxRecDepth 100000
namespace Go.Proofs.Ytggnheekkbideaa
open Go.RowKit

theorem jrow_read {w : World} {base : Nat} {v : Value} {A : List Jb} (h : JRow w base v A) (hA : A.length ≤ 1048576) : JbR w w.heap.size v A := OwnF.sl cellJ_len h (fun g hg => (OwnF.lt h g hg).2) hA
theorem rj_read {w : World} {base : Nat} {v : Value} {A : List Jb} (h : RJ w base v A) (hA : A.length ≤ 1048576) : JbR w w.heap.size v A := OwnF.sl cellJ_len h (fun g hg => (OwnF.lt h g hg).2) hA
theorem jobsP_len (q : Tok → Bool) {l : List Ins} (h : (allT l).length ≤ 300) : (jobsP q l).length ≤ 1048576 := by
  unfold jobsP
  rw [List.length_map]
  have := (stable_mem l q).2
  omega

set_option maxHeartbeats 16000000 in
theorem jobTells_walk (W : World) (v0 : Value) (l : List Ins) (hl : InsR W W.heap.size v0 l) (_gl : ∀ x ∈ l, InsI x) (clock : Int) (_gc : (Lit.int .i64 clock).wf = true) (wk : ByteArray) (_gw : wk.size ≤ maxLen) (tok : Int) (_gt : (Lit.int .i64 tok).wf = true) :
    Calls Try.prog 4 #[v0, .int .i64 clock, .string wk, .int .i64 tok] W fun e w' => e = .returned (.bool true) ∧ Below W.heap.size W w' := by
  have S0 := Lib.hid (large_any W v0 l hl)
  have HL := Lib.hid hl
  obtain ⟨a0, c0, rfl⟩ := hl.val
  cases hlg : largeB l with
  | true =>
    rw [hlg] at S0
    clear hl hlg
    go_enter Try.func4, Try.ntmps4
    go_wp2_with (first | (go_at_call 8; refine S0.out.mono ?_; rintro e w1 ⟨rfl, n1, rfl⟩) | (go_at_call 10; refine (awake_any _).mono ?_; rintro e w2 ⟨rfl, hb⟩))
    go_ret
    exact ⟨ret_bool rfl, (below_drewN (Below.refl _ _) n1).trans hb⟩
  | false =>
    rw [hlg] at S0
    have hsm := small_SmL hlg
    have hmany := small_many hlg
    have HSM := Lib.hid hsm
    have HMany := Lib.hid hmany
    have hm2 : (allT l).length ≤ 1048576 := by omega
    have hll := hl.len
    clear hl hlg
    go_enter Try.func4, Try.ntmps4
    go_wp2_with (go_at_call 8; refine S0.out.mono ?_; rintro e w1 ⟨rfl, n1, rfl⟩; refine Hid.out ?_)
    refine Lib.hid ?_
    obtain ⟨w1, hw1⟩ : ∃ w1, W.drewN n1 = w1 := ⟨_, rfl⟩
    have HB1 : Hid (Below W.heap.size W w1) := Lib.hid (by rw [← hw1]; exact below_drewN (Below.refl _ _) n1)
    rw [hw1]
    clear hw1
    have S1 := Lib.hid (rtwin_any w1 _ l (HL.out.at_all HB1.out) HSM.out)
    go_wp2_with (go_at_call 11; refine S1.out.mono ?_; rintro e w2 ⟨vi, R, rfl, hO2, hR2, hb2⟩; refine Hid.out ?_)
    refine Lib.hid ?_
    have HIn := Lib.hid (hO2.readL hR2 HSM.out)
    have HO2 := Lib.hid hO2
    have HR2 := Lib.hid hR2
    have HB2 := Lib.hid (HB1.out.trans (hb2.mono HB1.out.size))
    have S2 := Lib.hid (jlist_any w2 vi l HIn.out hm2)
    clear hO2 hR2 hb2
    go_wp2_with (go_at_call 16; refine S2.out.mono ?_; rintro e w3 ⟨va, rfl, hA3, hb3⟩; refine Hid.out ?_)
    refine Lib.hid ?_
    have HB3 := Lib.hid hb3
    have HA3 := Lib.hid hA3
    have HA3l := Lib.hid (fun g hg => (OwnF.lt hA3 g hg).2)
    have S3 := Lib.hid (jlist_any w3 vi l (HIn.out.at_all hb3) hm2)
    clear hA3 hb3
    go_wp2_with (go_at_call 16; refine S3.out.mono ?_; rintro e w4 ⟨vb, rfl, hA4, hb4⟩; refine Hid.out ?_)
    refine Lib.hid ?_
    have HB4 := Lib.hid (HB3.out.trans (hb4.mono HB3.out.size))
    have HB34 := Lib.hid hb4.size
    have HA4 := Lib.hid hA4
    have HB4W := Lib.hid (HB2.out.trans (HB4.out.mono HB2.out.size))
    have HA34 := Lib.hid (OwnF.kept HA3.out hb4)
    have S4 := Lib.hid (rlist_any w4 _ l (HL.out.at_all HB4W.out) hm2)
    clear hA4 hb4
    go_wp2_with (go_at_call 17; refine S4.out.mono ?_; rintro e w5 ⟨vw, rfl, hA5, hb5⟩; refine Hid.out ?_)
    refine Lib.hid ?_
    have HA5 := Lib.hid hA5
    have HAa5 := Lib.hid (OwnF.kept HA34.out hb5)
    have HAb5 := Lib.hid (OwnF.kept HA4.out hb5)
    have HB5 := Lib.hid (HB4.out.trans (hb5.mono HB4.out.size))
    have hJl := jobsP_len isB HMany.out
    have S5 := Lib.hid (jobs_any w5 va vw _ (jrow_read HAa5.out hJl) (rj_read HA5.out hJl))
    clear hA5 hb5
    go_wp2_with (go_at_call 18; refine S5.out.mono ?_; rintro e w6 ⟨rfl, hb6⟩; refine Hid.out ?_)
    refine Lib.hid ?_
    have HB6 := Lib.hid (HB5.out.trans (hb6.mono HB5.out.size))
    have HB56 := Lib.hid hb6
    have S6 := Lib.hid (jfree_any w6 vi l clock (HIn.out.at_all HB6.out) hm2)
    clear hb6
    go_wp2_with (go_at_call 19; refine S6.out.mono ?_; rintro e w7 ⟨vf, rfl, hA7, hb7⟩; refine Hid.out ?_)
    refine Lib.hid ?_
    have HB7 := Lib.hid (HB6.out.trans (hb7.mono HB6.out.size))
    have HB57 := Lib.hid (HB56.out.trans (hb7.mono HB56.out.size))
    have HB7W := Lib.hid (HB2.out.trans (HB7.out.mono HB2.out.size))
    have HA7 := Lib.hid hA7
    have S7 := Lib.hid (rfree2_any w7 _ l clock (HL.out.at_all HB7W.out) hm2)
    clear hA7 hb7
    go_wp2_with (go_at_call 20; refine S7.out.mono ?_; rintro e w8 ⟨vg, rfl, hA8, hb8⟩; refine Hid.out ?_)
    refine Lib.hid ?_
    have HB8 := Lib.hid (HB7.out.trans (hb8.mono HB7.out.size))
    have HB58 := Lib.hid (HB57.out.trans (hb8.mono HB57.out.size))
    have hJf := jobsP_len (freeB clock) HMany.out
    have S8 := Lib.hid (jobs_any w8 vf vg _ (jrow_read (OwnF.kept HA7.out hb8) hJf) (rj_read hA8 hJf))
    clear hA8 hb8
    go_wp2_with (go_at_call 18; refine S8.out.mono ?_; rintro e w9 ⟨rfl, hb9⟩; refine Hid.out ?_)
    refine Lib.hid ?_
    have HB9 := Lib.hid (HB8.out.trans (hb9.mono HB8.out.size))
    have HB59 := Lib.hid (HB58.out.trans (hb9.mono HB58.out.size))
    clear hb9
    have HAa9 := Lib.hid (OwnF.kept HAa5.out HB59.out)
    have HAb9 := Lib.hid (OwnF.kept HAb5.out HB59.out)
    have HAw9 := Lib.hid (OwnF.kept HA5.out HB59.out)
    obtain ⟨J, hJ⟩ : ∃ J, jobsP isB l = J := ⟨_, rfl⟩
    rw [hJ] at HAa9 HAb9 HAw9 hJl
    obtain ⟨aa, ca, rfl⟩ := OwnF.shape HAa9.out
    clear hJ
    go_wp2_with fail
    go_loopg [13] J.length (fun gh s13 wx => ∃ (i : Nat) (A : List Jb), i + gh = J.length ∧ s13 = .int .i64 (i : Int) ∧ A.length = J.length ∧ JRow wx w2.heap.size (.slice aa J.length ca) A ∧ Hid (Frm [(Value.slice aa J.length ca).ownBlock] w9 wx))
    case atStart => exact ⟨0, J, by omega, rfl, rfl, HAa9.out, Lib.hid (Frm.refl _ _)⟩
    case round =>
      obtain ⟨i, A, hig, rfl, hAl, hA, hF⟩ := hrel
      obtain ⟨wo, rfl⟩ : ∃ wo : World, wo = wr := ⟨_, rfl⟩
      by_cases hi : i < J.length
      · have hiA : i < A.length := by omega
        obtain ⟨ga, rfl, -, hlo, hlt⟩ := OwnF.some hA (by omega)
        obtain ⟨z, hz⟩ : ∃ z, A[i] = z := ⟨_, rfl⟩
        have hc : ∀ j, j < 7 → wo.cell? ⟨ga, i * 7 + j, none⟩ = (cellJ z)[j]? := fun j hj => by rw [← hz]; exact OwnF.at cellJ_len hA hiA hj
        have c0' : wo.cell? ⟨ga, i * 7, none⟩ = some (.int .i64 z.inst) := hc 0 (by omega)
        have c1 : wo.cell? ⟨ga, i * 7 + 1, none⟩ = some (.int .i64 z.tok) := hc 1 (by omega)
        have c2 : wo.cell? ⟨ga, i * 7 + 2, none⟩ = some (.string z.here) := hc 2 (by omega)
        have c3 : wo.cell? ⟨ga, i * 7 + 3, none⟩ = some (.int .i64 z.tries) := hc 3 (by omega)
        have c4 : wo.cell? ⟨ga, i * 7 + 4, none⟩ = some (.string z.worker) := hc 4 (by omega)
        have c5 : wo.cell? ⟨ga, i * 7 + 5, none⟩ = some (.int .i64 z.til) := hc 5 (by omega)
        have c6 : wo.cell? ⟨ga, i * 7 + 6, none⟩ = some (.int .u8 z.inc) := hc 6 (by omega)
        have f0 := OwnF.free hA (i * 7)
        have f1 := OwnF.free hA (i * 7 + 1)
        have f2 := OwnF.free hA (i * 7 + 2)
        have f3 := OwnF.free hA (i * 7 + 3)
        have f4 := OwnF.free hA (i * 7 + 4)
        have f5 := OwnF.free hA (i * 7 + 5)
        have f6 := OwnF.free hA (i * 7 + 6)
        have hst := Lib.hid (ownK_set (w := wo) cellJ_len hA hiA ⟨0, -1, ⟨#[]⟩, 0, ⟨#[]⟩, 0, 0⟩)
        have hl2 : Hid ((A.set i ⟨0, -1, ⟨#[]⟩, 0, ⟨#[]⟩, 0, 0⟩).length = J.length) := Lib.hid (by rw [List.length_set]; exact hAl)
        have hF2 := Lib.hid (hF.out.grown hst.out.2 (by simp [Value.ownBlock]))
        have di : decide ((i : Int) < (J.length : Int)) = true := decide_eq_true (by omega)
        have i1 : (0 : Int) ≤ (i : Int) := by omega
        have i2 : (i : Int) < (J.length : Int) := by omega
        clear hc hA hz hiA
        go_wp2_with fail
        go_roundg (J.length - (i + 1))
        case measure => omega
        case rel => exact ⟨i + 1, _, by omega, by go_num, hl2.out, hst.out.1, hF2⟩
      · have di : decide ((i : Int) < (J.length : Int)) = false := decide_eq_false (by omega)
        have hge : ∀ r ∈ [(Value.slice aa J.length ca).ownBlock], ∀ k, r = some k → w2.heap.size ≤ k := fun r hr k e => by
          rw [List.mem_singleton.1 hr] at e
          exact (OwnF.lt hA k e).1
        have hBx : Below w2.heap.size w9 wo := hF.out.toBelow HB9.out.size hge
        have HBx := Lib.hid (HB9.out.trans hBx)
        have HBW := Lib.hid (HB2.out.trans (HBx.out.mono HB2.out.size))
        have hAb : JRow wo w3.heap.size vb J := HAb9.out.keepB fun g hg => hF.out.keep g (OwnF.lt HAb9.out g hg).2 (fun r hr e => by
          rw [List.mem_singleton.1 hr] at e
          have h1 := HA3l.out g e
          have h2 := (OwnF.lt HAb9.out g hg).1
          omega)
        have hAw : RJ wo w4.heap.size vw J := HAw9.out.keepB fun g hg => hF.out.keep g (OwnF.lt HAw9.out g hg).2 (fun r hr e => by
          rw [List.mem_singleton.1 hr] at e
          have h1 := HA3l.out g e
          have h2 := (OwnF.lt HAw9.out g hg).1
          have h3 := HB34.out
          omega)
        have HAb := Lib.hid hAb
        have HAw := Lib.hid hAw
        obtain ⟨fi, fk, fb, hfv⟩ : ∃ fi fk fb, findV (findT l tok) = .tuple #[.int .i64 fi, .int .i64 fk, .bool fb] := by
          cases findT l tok with
          | none => exact ⟨_, _, _, rfl⟩
          | some p => exact ⟨_, _, _, rfl⟩
        have S9 := Lib.hid (find_any wo vi l tok (HIn.out.at_all HBx.out))
        rw [hfv] at S9
        have d1 : (fi != fi) = false := by simp
        have d2 : (fk != fk) = false := by simp
        have d3 : (fb != fb) = false := by simp
        clear hA hge hBx hAb hAw
        go_wp2_with (go_at_call 13; refine S9.out.mono ?_; rintro e w10 ⟨rfl, hb10⟩; refine Hid.out ?_)
        refine Lib.hid ?_
        have HB10 := Lib.hid hb10
        have S10 := Lib.hid (rfind_any w10 _ l tok (HL.out.at_all (HBW.out.trans (hb10.mono HBW.out.size))))
        rw [hfv] at S10
        clear hb10 hfv
        go_wp2_with (go_at_call 21; refine S10.out.mono ?_; rintro e w11 ⟨rfl, hb11⟩; refine Hid.out ?_)
        refine Lib.hid ?_
        have HB11 := Lib.hid (HB10.out.trans (hb11.mono HB10.out.size))
        have S11 := Lib.hid (jobs_any w11 vb vw _ (jrow_read (OwnF.kept HAb.out HB11.out) hJl) (rj_read (OwnF.kept HAw.out HB11.out) hJl))
        clear hb11
        go_wp2_with (go_at_call 18; refine S11.out.mono ?_; rintro e w12 ⟨rfl, hb12⟩; refine Hid.out ?_)
        refine Lib.hid ?_
        have HB12 := Lib.hid (HB11.out.trans (hb12.mono HB11.out.size))
        have HBW12 := Lib.hid (HBW.out.trans (HB12.out.mono HBW.out.size))
        have HBI12 := Lib.hid (HBx.out.trans (HB12.out.mono HBx.out.size))
        clear hb12
        go_wp2_with fail
        go_loopg [20] l.length (fun gh s20 wx => ∃ i : Nat, i + gh = l.length ∧ s20 = .int .i64 (i : Int) ∧ Below w12.heap.size w12 wx)
        case atStart => exact ⟨0, by omega, rfl, Below.refl _ _⟩
        case round =>
          obtain ⟨i, hig, rfl, hB⟩ := hrel
          obtain ⟨wp, rfl⟩ : ∃ wp : World, wp = wr := ⟨_, rfl⟩
          have HBp := Lib.hid hB
          by_cases hi : i < l.length
          · have di : decide ((i : Int) < (l.length : Int)) = true := decide_eq_true (by omega)
            have i1 : (0 : Int) ≤ (i : Int) := by omega
            have i2 : (i : Int) < (l.length : Int) := by omega
            clear hB
            go_wp2_with fail
            go_loopg [21] (atL l i).toks.length (fun gh s21 wx => ∃ k : Nat, k + gh = (atL l i).toks.length ∧ s21 = .int .i64 (k : Int) ∧ Below w12.heap.size w12 wx)
            case atStart => exact ⟨0, by omega, rfl, HBp.out⟩
            case round =>
              obtain ⟨k, hkg, rfl, hB⟩ := hrel
              obtain ⟨wq, rfl⟩ : ∃ wq : World, wq = wr := ⟨_, rfl⟩
              have HBq := Lib.hid hB
              have hBW : Below W.heap.size W wq := HBW12.out.trans (hB.mono HBW12.out.size)
              have hI := HL.out.mono hBW (Nat.le_refl _)
              obtain ⟨b, o, rfl, _⟩ := hI.addr (by omega)
              obtain ⟨av, cv, at_, ct, q0, q1, q2, q3, q4, -, qT⟩ := hI.at hi (x := atL l i) (by rw [atL_eq hi])
              have hTl := qT.len
              by_cases hk : k < (atL l i).toks.length
              · obtain ⟨bt, ot, rfl, _⟩ := qT.addr (by omega)
                obtain ⟨y, hy⟩ : ∃ y, (atL l i).toks[k] = y := ⟨_, rfl⟩
                obtain ⟨t0, t1, t2, t3, t4, t5, t6, t7, t8⟩ := tsR_at qT hk hy
                obtain ⟨nt, hnt⟩ : ∃ nt, (atL l i).toks.length = nt := ⟨_, rfl⟩
                rw [hnt] at q4 hk
                have dk : decide ((k : Int) < (nt : Int)) = true := decide_eq_true (by omega)
                have k1 : (0 : Int) ≤ (k : Int) := by omega
                have k2 : (k : Int) < (nt : Int) := by omega
                obtain ⟨p0, hp0⟩ : ∃ p0, wq.heap.size = p0 := ⟨_, rfl⟩
                obtain ⟨wb, s, hwb, hs, es, hb0, hn0⟩ := alloc_named wq (.cells (tokA y) 41) hp0
                have ls : p0 < s := by omega
                have HBb := Lib.hid hb0
                have HN0 := Lib.hid hn0
                have HNT := Lib.hid hnt
                have hkeep : ∀ W', Below s wb W' → W'.cell? ⟨p0, 0, none⟩ = some (.int .i64 y.id) ∧ W'.cell? ⟨p0, 1, none⟩ = some (.string y.here) ∧ W'.cell? ⟨p0, 2, none⟩ = some (.string y.on) ∧ W'.cell? ⟨p0, 3, none⟩ = some (.int .i64 y.born) ∧ W'.cell? ⟨p0, 4, none⟩ = some (.int .i64 y.tries) ∧ W'.cell? ⟨p0, 5, none⟩ = some (.string y.worker) ∧ W'.cell? ⟨p0, 6, none⟩ = some (.int .i64 y.til) ∧ W'.cell? ⟨p0, 7, none⟩ = some (.int .u8 y.inc) ∧ W'.cell? ⟨p0, 8, none⟩ = some (.int .i64 y.err) :=
                  fun W' hW' => tok_cells ((hW'.block p0 ls).trans HN0.out)
                obtain ⟨n0, n1, n2, n3, n4, n5, n6, n7, n8⟩ := hkeep wb (Below.refl _ _)
                have HK := Lib.hid hkeep
                obtain ⟨bi, hbi⟩ : ∃ b, isB y = b := ⟨_, rfl⟩
                obtain ⟨bh, hbh⟩ : ∃ b, holdsB wk clock y = b := ⟨_, rfl⟩
                have C1 := Lib.hid (fun Wc (hc : Below s wb Wc) => (is_any Wc y).mono (fun e w' ⟨h1, h2⟩ => (⟨h1.trans (by rw [hbi]), hc.trans (h2.mono (by rw [← hs]; exact hc.size))⟩ : e = Ending.returned (.bool bi) ∧ Below s wb w')))
                have C2 := Lib.hid (fun Wc (hc : Below s wb Wc) => (ris_any Wc y).mono (fun e w' ⟨h1, h2⟩ => (⟨h1.trans (by rw [hbi]), hc.trans (h2.mono (by rw [← hs]; exact hc.size))⟩ : e = Ending.returned (.bool bi) ∧ Below s wb w')))
                have C3 := Lib.hid (fun Wc (hc : Below s wb Wc) => (holds_any Wc y wk clock).mono (fun e w' ⟨h1, h2⟩ => (⟨h1.trans (by rw [hbh]), hc.trans (h2.mono (by rw [← hs]; exact hc.size))⟩ : e = Ending.returned (.bool bh) ∧ Below s wb w')))
                have C4 := Lib.hid (fun Wc (hc : Below s wb Wc) => (rholds_any Wc y wk clock).mono (fun e w' ⟨h1, h2⟩ => (⟨h1.trans (by rw [hbh]), hc.trans (h2.mono (by rw [← hs]; exact hc.size))⟩ : e = Ending.returned (.bool bh) ∧ Below s wb w')))
                have e1 : (bi != bi) = false := by simp
                have e2 : (bh != bh) = false := by simp
                have hwb' : wq.alloc (.cells #[.int .i64 y.id, .string y.here, .string y.on, .int .i64 y.born, .int .i64 y.tries, .string y.worker, .int .i64 y.til, .int .u8 y.inc, .int .i64 y.err] 41) = wb := hwb
                have hcur : Hid (Below s wb wb) := Lib.hid (Below.refl _ _)
                clear hbi hbh hwb hb0 hn0 hnt hkeep hy qT q0 q1 q2 q3 hI hBW hB es
                go_wp2_with fail
                go_region_held3 (fun w' => w'.cell? ⟨p0, 0, none⟩ = some (.int .i64 y.id) ∧ w'.cell? ⟨p0, 1, none⟩ = some (.string y.here) ∧ w'.cell? ⟨p0, 2, none⟩ = some (.string y.on) ∧ w'.cell? ⟨p0, 3, none⟩ = some (.int .i64 y.born) ∧ w'.cell? ⟨p0, 4, none⟩ = some (.int .i64 y.tries) ∧ w'.cell? ⟨p0, 5, none⟩ = some (.string y.worker) ∧ w'.cell? ⟨p0, 6, none⟩ = some (.int .i64 y.til) ∧ w'.cell? ⟨p0, 7, none⟩ = some (.int .u8 y.inc) ∧ w'.cell? ⟨p0, 8, none⟩ = some (.int .i64 y.err)) (first | go_keep | exact HK.out _ hcur.out)
                  (first
                    | (go_at_call 22; refine (C1.out _ ?_).mono ?_; (focus (first | exact hcur.out.drew | exact hcur.out)); rintro e wz ⟨rfl, hbz⟩; clear hcur; have hcur := Lib.hid hbz; clear hbz)
                    | (go_at_call 23; refine (C2.out _ ?_).mono ?_; (focus (first | exact hcur.out.drew | exact hcur.out)); rintro e wz ⟨rfl, hbz⟩; clear hcur; have hcur := Lib.hid hbz; clear hbz)
                    | (go_at_call 14; refine (C3.out _ ?_).mono ?_; (focus (first | exact hcur.out.drew | exact hcur.out)); rintro e wz ⟨rfl, hbz⟩; clear hcur; have hcur := Lib.hid hbz; clear hbz)
                    | (go_at_call 24; refine (C4.out _ ?_).mono ?_; (focus (first | exact hcur.out.drew | exact hcur.out)); rintro e wz ⟨rfl, hbz⟩; clear hcur; have hcur := Lib.hid hbz; clear hbz))
                all_goals
                  have HBn := Lib.hid (HBq.out.trans ((HBb.out.trans (hcur.out.mono (by omega))).mono (by rw [← hp0]; exact HBq.out.size)))
                  clear n0 n1 n2 n3 n4 n5 n6 n7 n8 t0 t1 t2 t3 t4 t5 t6 t7 t8 hcur
                  go_wp2_with fail
                  go_roundg (nt - (k + 1))
                  case measure => have := HNT.out; omega
                  case rel => exact ⟨k + 1, by have := HNT.out; omega, by go_num, HBn.out⟩
              · obtain ⟨nt, hnt⟩ : ∃ nt, (atL l i).toks.length = nt := ⟨_, rfl⟩
                rw [hnt] at q4 hk
                have dk : decide ((k : Int) < (nt : Int)) = false := decide_eq_false (by omega)
                clear hnt q0 q1 q2 q3 qT hI hBW hB
                go_wp2_with fail
                go_roundg (l.length - (i + 1))
                case measure => omega
                case rel => exact ⟨i + 1, by omega, by go_num, HBq.out⟩
          · have di : decide ((i : Int) < (l.length : Int)) = false := decide_eq_false (by omega)
            have HBI := Lib.hid (HBI12.out.trans (hB.mono HBI12.out.size))
            have HBF := Lib.hid (HBW12.out.trans (hB.mono HBW12.out.size))
            have S20 := Lib.hid (same_any wp vi _ l (HIn.out.at_all HBI.out) (HL.out.at_all HBF.out))
            clear hB
            go_wp2_with (first | (go_at_call 25; refine S20.out.mono ?_; rintro e wz ⟨rfl, hbz⟩) | (go_at_call 10; refine (awake_any _).mono ?_; rintro e wy ⟨rfl, hby⟩))
            go_ret
            have hz := HBF.out.trans (hbz.mono HBF.out.size)
            exact ⟨ret_bool rfl, hz.trans (hby.mono hz.size)⟩

end Go.Proofs.Ytggnheekkbideaa
