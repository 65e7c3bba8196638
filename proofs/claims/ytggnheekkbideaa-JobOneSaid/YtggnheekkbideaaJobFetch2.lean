/- job.Fetch where it is let. -/
import Derived.Test.YtggnheekkbideaaJobFetch
set_option maxRecDepth 100000
namespace Go.Proofs.Ytggnheekkbideaa
open Go.RowKit

def fetchF (wk : ByteArray) (til : Int) (t : Tok) : Tok := { t with worker := wk, til := til }
def fetchP (l : List Ins) (clock n : Int) : List PT := (stableE ltP (someL (freeB clock) (allT l))).take n.toNat
theorem fetchP_mem {l : List Ins} {clock n : Int} : ∀ p ∈ fetchP l clock n, p ∈ allT l := fun p hp => (stable_mem l (freeB clock)).1 p (List.mem_of_mem_take hp)

theorem ownsRow_keepB {w w' : World} {base n k : Nat} {e : TypeId} {v : Value} {xs : List Value} (h : w.ownsRow base e k v n xs) (hk : ∀ g, v.ownBlock = some g → w'.heap[g]? = w.heap[g]?) : w'.ownsRow base e k v n xs := by
  refine ⟨h.1, ?_⟩
  rcases h.2 with h0 | ⟨g, cap, cur, rfl, hb, hg, rest⟩
  · exact Or.inl h0
  · exact Or.inr ⟨g, cap, cur, rfl, hb, (hk g rfl).trans hg, rest⟩
theorem row_ne {w : World} {base n k b : Nat} {e t : TypeId} {v : Value} {xs : List Value} {cs : Array Value} {fr : Nat × Nat} (h : w.ownsRow base e k v n xs) (hb : w.heap[b]? = some (.cells cs t fr)) (hne : t ≠ e) : ∀ g, v.ownBlock = some g → g ≠ b := by
  intro g hg e1
  subst e1
  rcases h.2 with ⟨e2, _⟩ | ⟨g1, c1, cur1, e2, _, h1, _⟩
  · rw [e2] at hg; cases hg
  · rw [e2] at hg; injection hg with hg
    simp only at hg
    subst hg
    rw [hb] at h1
    injection h1 with h1
    injection h1 with _ h1
    exact hne h1
theorem setCell_far (w : World) (b i g : Nat) (v : Value) (h : g ≠ b) : (w.setCell ⟨b, i, none⟩ v).heap[g]? = w.heap[g]? := heap_setCell_other w ⟨b, i, none⟩ g v h
/-- Two cells of a token turned and a number's block more: what stands. -/
theorem fetch_mid {wo wb : World} {po s gt k9 nq lo q3 : Nat} {x5 x6 : Value} {vt : Value} {L : List Int} {vP : Value} {D : List PT} {loP pb : Nat} {cb : Array Value} {cs : Array Value} {w : World} (hpo : wo.heap.size = po) (hb0 : Below wo.heap.size wo wb) (hs : wb.heap.size = s) (hcs : wb.heap[gt]? = some (.cells cs 41 (0, 0)))
    (hT : OwnI wo q3 vt L) (hP : PRow wo loP vP D) (hN : wb.heap[pb]? = some (.cells cb 3)) (hB : Below lo w wo) (hlo : lo ≤ gt) (hlp : lo ≤ po) (id : Int) :
    ∃ (w7 w8 : World) (s8 : Nat), ((wb.drewN nq).setCell ⟨gt, k9 + 5, none⟩ x5).setCell ⟨gt, k9 + 6, none⟩ x6 = w7 ∧ w7.heap.size = s ∧ w7.alloc (.cells #[.int .i64 id] 3) = w8 ∧ w8.heap.size = s8 ∧ s8 = s + 1 ∧ Hid (∀ g : Nat, w7.heap[g]? = ((wb.setCell ⟨gt, k9 + 5, none⟩ x5).setCell ⟨gt, k9 + 6, none⟩ x6).heap[g]?) ∧
      Hid (OwnI w8 q3 vt L) ∧ Hid (PRow w8 loP vP D) ∧ Hid (w8.heap[pb]? = some (.cells cb 3)) ∧ Hid (Below lo w w8) ∧ Hid (∀ j u, ([.int .i64 id] : List Value)[j]? = some u → w8.cell? ((⟨s, 0, none⟩ : Addr).add j) = some u) := by
  have hw7s : (((wb.drewN nq).setCell ⟨gt, k9 + 5, none⟩ x5).setCell ⟨gt, k9 + 6, none⟩ x6).heap.size = s := by rw [World.size_setCell, World.size_setCell]; exact hs
  obtain ⟨w7, hw7⟩ : ∃ w7, ((wb.drewN nq).setCell ⟨gt, k9 + 5, none⟩ x5).setCell ⟨gt, k9 + 6, none⟩ x6 = w7 := ⟨_, rfl⟩
  rw [hw7] at hw7s
  obtain ⟨w8, s8, hw8, hs8, es8, hb8, -⟩ := alloc_named w7 (.cells #[.int .i64 id] 3) hw7s
  have hz : po ≤ s := by rw [← hpo, ← hs]; exact hb0.size
  have far7 : ∀ g, g ≠ gt → w7.heap[g]? = wb.heap[g]? := fun g hg => by rw [← hw7, setCell_far _ _ _ _ _ hg, setCell_far _ _ _ _ _ hg]; rfl
  have far8 : ∀ g, g < s → g ≠ gt → w8.heap[g]? = wb.heap[g]? := fun g hg hne => (hb8.block g hg).trans (far7 g hne)
  have far : ∀ g, g < po → g ≠ gt → w8.heap[g]? = wo.heap[g]? := fun g hg hne => (far8 g (by omega) hne).trans (hb0.block g (by omega))
  refine ⟨w7, w8, s8, hw7, hw7s, hw8, hs8, es8, Lib.hid (fun g => by rw [← hw7]; rfl), Lib.hid ?_, Lib.hid ?_, Lib.hid ?_, Lib.hid ?_, Lib.hid ?_⟩
  · have hTb : OwnI wb q3 vt L := OwnI.kept hT hb0 (Nat.le_refl _)
    exact ownsRow_keepB hT (fun g hg => far g (by rw [← hpo]; exact (World.ownsRow.lt hT g hg).2) (row_ne hTb hcs (by decide) g hg))
  · have hPb := OwnF.kept hP hb0
    exact OwnF.keepB hP (fun g hg => far g (by rw [← hpo]; exact (OwnF.lt hP g hg).2) (row_ne hPb hcs (by decide) g hg))
  · exact (far8 pb (by rw [← hs]; exact lt_of_block hN) (fun e => by rw [e] at hN; rw [hcs] at hN; injection hN with hN; injection hN with _ hN; exact absurd hN (by decide))).trans hN
  · have h7 : Below lo w w7 := by
      rw [← hw7]
      exact ((below_drewN (hB.trans (hb0.mono (by rw [hpo]; exact hlp))) nq).setCell (p := ⟨gt, k9 + 5, none⟩) hlo x5).setCell (p := ⟨gt, k9 + 6, none⟩) hlo x6
    exact h7.trans (hb8.mono (by omega))
  · have := cells_new w7 #[.int .i64 id] 3
    rw [hw8, hw7s] at this
    exact this
/-- .. and the number put behind. -/
theorem fetch_end {w w7 w8 w9 : World} {lo q3 pb s g co N loP : Nat} {vt v9 : Value} {L : List Int} {id : Int} {R : List Ih} {vP : Value} {D : List PT} {cb : Array Value} (_h7s : w7.heap.size = s) (hI : InsO w7 lo (.slice (some ⟨g, 0, none⟩) N co) R) (h8 : w7.alloc (.cells #[.int .i64 id] 3) = w8)
    (hT : OwnI w8 q3 vt L) (hown : w9.ownsRow q3 3 1 v9 (L.length + 1) (L.map (Value.int .i64) ++ [.int .i64 id])) (hg : w8.grownBy w9 vt.ownBlock) (hP : PRow w8 loP vP D) (hN : w8.heap[pb]? = some (.cells cb 3)) (hB : Below lo w w8) (hpq : pb < q3) (hlq : lo ≤ q3) (hq8 : q3 ≤ w8.heap.size) :
    OwnI w9 q3 v9 (L ++ [id]) ∧ InsO w9 lo (.slice (some ⟨g, 0, none⟩) N co) R ∧ PRow w9 loP vP D ∧ w9.heap[pb]? = some (.cells cb 3) ∧ Below lo w w9 ∧ q3 ≤ w9.heap.size := by
  have hI8 : InsO w8 lo (.slice (some ⟨g, 0, none⟩) N co) R := hI.kept (by rw [← h8]; exact (Below.refl _ _).alloc (Nat.le_refl _) _)
  refine ⟨?_, ⟨OwnF.grownT hI8.row hT (by decide) hg, OwnH.grownT hI8.own hT (by decide) (by decide) hg⟩, OwnF.grownT hP hT (by decide) hg, ?_, hB.grown hg (by omega) (fun k hk => Nat.le_trans hlq (World.ownsRow.lt hT k hk).1), Nat.le_trans hq8 hg.size⟩
  · unfold OwnI
    rw [List.length_append, List.length_singleton, List.map_append]
    exact hown
  · exact (hg.block pb (lt_of_block hN) (fun e => by have := (World.ownsRow.lt hT pb e.symm).1; omega)).trans hN

set_option maxHeartbeats 8000000 in
theorem fetch_yes (w : World) (v : Value) (l : List Ins) (clock : Int) (wk : ByteArray) (n ticks : Int) (hI : InsR w w.heap.size v l) (hS : SmL l) (hl : (allT l).length ≤ 1048576) (h : fetchOk clock wk n ticks) :
    Calls Try.prog 12 #[v, .int .i64 clock, .string wk, .int .i64 n, .int .i64 ticks] w fun e w' => ∃ vo vt R, e = .returned (.tuple #[vo, vt, .int .i64 0]) ∧ InsO w' w.heap.size vo R ∧
      R.map (·.x) = marks (fetchF wk (clock + ticks)) l (fetchP l clock n) ∧ OwnI w' w.heap.size vt ((fetchP l clock n).map (·.t.id)) ∧ Below w.heap.size w w' := by
  obtain ⟨i0, hti, iz0, iz1, iz2⟩ := info_parts info_int
  obtain ⟨h1, h2, h3, h4, h5, h6, h7⟩ := h
  have S1 := Lib.hid (fun W => name_any W wk)
  rw [h3] at S1
  have hb0 := (Below.refl w.heap.size w).alloc (Nat.le_refl _) (.cells #[.int .i64 clock] 3)
  have hn0 := heap_alloc_new w (.cells #[.int .i64 clock] 3)
  have hs0 : w.heap.size < (w.alloc (.cells #[.int .i64 clock] 3)).heap.size := by simp
  obtain ⟨w0, hw0⟩ : ∃ w0, w.alloc (.cells #[.int .i64 clock] 3) = w0 := ⟨_, rfl⟩
  rw [hw0] at hb0 hn0 hs0
  obtain ⟨pb, hpb⟩ : ∃ pb, w.heap.size = pb := ⟨_, rfl⟩
  have HI := Lib.hid hI
  have HS := Lib.hid hS
  obtain ⟨a, c, rfl⟩ := hI.val
  rw [hpb] at hs0
  have c0 : w0.cell? ⟨pb, 0, none⟩ = some (.int .i64 clock) := by rw [← hpb]; exact (cell_of_block hn0 0).trans rfl
  have HN0 := Lib.hid hn0
  have HB0 := Lib.hid hb0
  have d1 : decide (clock < 0) = false := decide_eq_false (by omega)
  have d2 : decide (1099511627776 < clock) = false := decide_eq_false (by omega)
  have d3 : decide (n < 1) = false := decide_eq_false (by omega)
  have d4 : decide (64 < n) = false := decide_eq_false (by omega)
  have d5 : decide (ticks < 1) = false := decide_eq_false (by omega)
  have d6 : decide (1048576 < ticks) = false := decide_eq_false (by omega)
  clear hI hS hb0 hn0 h3
  go_enter Try.func12, Try.ntmps12
  go_wp2_with (go_at_call 33; refine (S1.out _).mono ?_; rintro e w1 ⟨rfl, hb1⟩; have HB1 := Lib.hid hb1; clear hb1)
  clear c0 d1 d2 d3 d4 d5 d6
  have HB1w := Lib.hid (HB0.out.trans (HB1.out.mono HB0.out.size))
  have hz1 := HB1w.out.size
  have S2 := Lib.hid (twins_any w1 _ l ((HI.out.mono HB1w.out (Nat.le_refl _)).mono (Below.refl _ _) hz1) HS.out)
  go_wp2_with (go_at_call 34; refine S2.out.mono ?_; rintro e w2 ⟨vo, R, rfl, hO, hR, hb2⟩; refine Hid.out ?_)
  refine Lib.hid ?_
  have HO := Lib.hid hO
  have HR := Lib.hid hR
  have HB2 := Lib.hid hb2
  have HB2w := Lib.hid (HB1w.out.trans (hb2.mono hz1))
  have hz2w := HB2w.out.size
  have hpb2 : pb < w2.heap.size := Nat.lt_of_lt_of_le hs0 (Nat.le_trans HB1.out.size hb2.size)
  have hN2 : w2.heap[pb]? = some (.cells #[.int .i64 clock] 3) := (hb2.block pb (Nat.lt_of_lt_of_le hs0 HB1.out.size)).trans ((HB1.out.block pb hs0).trans (by rw [← hpb]; exact HN0.out))
  have HN2 := Lib.hid hN2
  have S3 := Lib.hid (some_any w2 _ l 36 #[.pointer (some ⟨pb, 0, none⟩)] (freeB clock) (enters_of Try.func36 (by kernel_rfl) rfl) (fun W t hb => fetch1_any W t pb clock ((Below.cellB hb hpb2).trans ((cell_of_block HN2.out 0).trans rfl)) (Nat.lt_of_lt_of_le hpb2 hb.size)) ((HI.out.mono HB2w.out (Nat.le_refl _)).mono (Below.refl _ _) hz2w) hl)
  clear hO hR hb2 hN2
  go_wp2_with (go_at_call 35; refine S3.out.mono ?_; rintro e w3 ⟨vp, rfl, hP, hb3⟩; refine Hid.out ?_)
  refine Lib.hid ?_
  obtain ⟨D, hD⟩ : ∃ D, stableE ltP (someL (freeB clock) (allT l)) = D := ⟨_, rfl⟩
  rw [hD] at hP
  obtain ⟨ap, cp, rfl⟩ := OwnF.shape hP
  have hcp := OwnF.cap hP
  have hDl : D.length ≤ 1048576 := by rw [← hD]; exact Nat.le_trans (stable_mem l (freeB clock)).2 hl
  obtain ⟨m, hm⟩ : ∃ m, min n.toNat D.length = m := ⟨_, rfl⟩
  have hmin : min n (D.length : Int) = (m : Int) := by omega
  have hm1 : (0 : Int) ≤ (m : Int) := by omega
  have hm2 : (m : Int) ≤ (cp : Int) := by omega
  have HB3 := Lib.hid hb3
  have HP := Lib.hid hP
  have HD := Lib.hid hD
  clear hP hb3 hD
  go_wp2_with fail
  obtain ⟨ao, co, hvo⟩ := OwnF.shape HO.out.row
  rw [show R.length = l.length by rw [← HR.out, List.length_map]] at hvo
  subst hvo
  obtain ⟨q3, hq3⟩ : ∃ q3, w3.heap.size = q3 := ⟨_, rfl⟩
  have hz3 : w2.heap.size ≤ q3 := by rw [← hq3]; exact HB3.out.size
  have hpq : pb < q3 := by omega
  have hmD : m ≤ D.length := by omega
  have hRl := Lib.hid (show R.map (·.x) = marks (fetchF wk (clock + ticks)) l (D.take 0) by rw [List.take_zero]; exact HR.out)
  have HI3 := Lib.hid (show InP l D from fun p hp => allT_at ((stable_mem l (freeB clock)).1 p (by rw [HD.out]; exact hp)))
  go_loopg [15, 58] m (fun gh s15 s58 wx => ∃ (j : Nat) (R : List Ih), j + gh = m ∧ s58 = .int .i64 (j : Int) ∧ OwnI wx q3 s15 ((D.take j).map (·.t.id)) ∧ InsO wx w.heap.size (.slice ao l.length co) R ∧ Hid (R.map (·.x) = marks (fetchF wk (clock + ticks)) l (D.take j)) ∧
    PRow wx w2.heap.size (.slice ap D.length cp) D ∧ Hid (wx.heap[pb]? = some (.cells #[.int .i64 clock] 3)) ∧ Below w.heap.size w wx ∧ q3 ≤ wx.heap.size)
  case atStart => exact ⟨0, R, by omega, rfl, OwnI.nil _ _, (⟨OwnF.lower HO.out.row hz1, HO.out.own.lower hz1⟩ : InsO w2 w.heap.size (.slice ao l.length co) R).kept HB3.out, hRl, HP.out, Lib.hid ((HB3.out.block pb hpb2).trans HN2.out), HB2w.out.trans (HB3.out.mono hz2w), by omega⟩
  case round =>
    obtain ⟨j, R, hjg, rfl, hT, hO, hR, hP, hN, hB, hq⟩ := hrel
    obtain ⟨wo, rfl⟩ : ∃ wo : World, wo = wr := ⟨_, rfl⟩
    have HT := Lib.hid hT
    have HO := Lib.hid hO
    have HP := Lib.hid hP
    have HB := Lib.hid hB
    by_cases hj : j < m
    · obtain ⟨p, hp⟩ : ∃ p, D[j] = p := ⟨_, rfl⟩
      have hpm : p ∈ D := by rw [← hp]; exact List.getElem_mem _
      obtain ⟨hi, hk, hpt, -⟩ := HI3.out p hpm
      have hRlen : R.length = l.length := by have := congrArg List.length hR.out; rw [List.length_map, marks_len] at this; exact this
      have hiR : p.i < R.length := by omega
      have hin : ∀ q ∈ D.take j, q.i < l.length ∧ q.k < (atL l q.i).toks.length := fun q hq => by
        obtain ⟨a, b, _⟩ := HI3.out q (List.mem_of_mem_take hq)
        exact ⟨a, b⟩
      have hx : (atL R p.i).x = atL (marks (fetchF wk (clock + ticks)) l (D.take j)) p.i := by rw [← hR.out, atL_map_x R _ hiR]
      have hkR : p.k < (atL R p.i).x.toks.length := by rw [hx, marks_toks _ _ _ (fun q hq => (hin q hq).1)]; exact hk
      have hid : (atL (atL R p.i).x.toks p.k).id = p.t.id := by rw [hx, marks_id (fetchF wk (clock + ticks)) (fun _ => rfl) _ _ hin, hpt]
      obtain ⟨y, hy⟩ : ∃ y, atL (atL R p.i).x.toks p.k = y := ⟨_, rfl⟩
      rw [hy] at hid
      -- the place
      obtain ⟨gp, rfl, -, -, hgp⟩ := OwnF.some hP (by omega)
      have z0 : wo.cell? ⟨gp, j * 2, none⟩ = some (.int .i64 (p.i : Int)) := by have := OwnF.at cellP_len hP (i := j) (by omega) (j := 0) (by omega); rw [hp] at this; exact this
      have z1 : wo.cell? ⟨gp, j * 2 + 1, none⟩ = some (.int .i64 (p.k : Int)) := by have := OwnF.at cellP_len hP (i := j) (by omega) (j := 1) (by omega); rw [hp] at this; exact this
      obtain ⟨po, hpo⟩ : ∃ po, wo.heap.size = po := ⟨_, rfl⟩
      obtain ⟨wb, s, hwb, hs, es, hb0, hn0⟩ := alloc_named wo (.cells #[.int .i64 (p.i : Int), .int .i64 (p.k : Int)] 72) hpo
      have ls : po < s := by omega
      clear es
      have hbW : Below wo.heap.size wo wb := by rw [hpo]; exact hb0
      have HOb := Lib.hid (hO.kept hbW)
      -- the token
      obtain ⟨g, rfl, -, hglo, hg⟩ := OwnF.some HOb.out.row (by omega)
      have r4 : wb.cell? ⟨g, p.i * 5 + 4, none⟩ = some (tvI (atL R p.i)) := by
        have := OwnF.at cellI_len HOb.out.row hiR (j := 4) (by omega)
        rw [this, ← atL_eq hiR]; rfl
      obtain ⟨gt, hta, hlo, hlt, ⟨cs, hcs⟩, hI1⟩ := HOb.out.setT hiR hkR (j := 5) (by omega) (.string wk) { y with worker := wk } (by rw [hy]; rfl)
      obtain ⟨nt, hnt⟩ : ∃ nt, (atL R p.i).x.toks.length = nt := ⟨_, rfl⟩
      obtain ⟨tc, htc⟩ : ∃ tc, (atL R p.i).tc = tc := ⟨_, rfl⟩
      rw [show tvI (atL R p.i) = .slice (some ⟨gt, 0, none⟩) nt tc by show Value.slice _ _ _ = _; rw [hta, hnt, htc]] at r4
      have hm : atL R p.i ∈ R := by rw [atL_eq hiR]; exact List.getElem_mem _
      have hRT := HOb.out.own.toks _ hm
      rw [show tvI (atL R p.i) = .slice (some ⟨gt, 0, none⟩) (atL R p.i).x.toks.length tc by show Value.slice _ _ _ = _; rw [hta, htc]] at hRT
      have hct : ∀ q, q < 9 → wb.cell? ⟨gt, p.k * 9 + q, none⟩ = (cellT y)[q]? := fun q hq => by
        rw [OwnF.at cellT_len hRT hkR hq, ← atL_eq hkR, hy]
      have t0 : wb.cell? ⟨gt, p.k * 9, none⟩ = some (.int .i64 y.id) := hct 0 (by omega)
      have t5 : wb.cell? ⟨gt, p.k * 9 + 5, none⟩ = some (.string y.worker) := hct 5 (by omega)
      have t6 : wb.cell? ⟨gt, p.k * 9 + 6, none⟩ = some (.int .i64 y.til) := hct 6 (by omega)
      have e5 := free_of_block hcs (p.k * 9 + 5)
      have e6 := free_of_block hcs (p.k * 9 + 6)
      have hI2 : InsO ((wb.setCell ⟨gt, p.k * 9 + 5, none⟩ (.string wk)).setCell ⟨gt, p.k * 9 + 6, none⟩ (.int .i64 (clock + ticks))) w.heap.size (.slice (some ⟨g, 0, none⟩) l.length co) (setT R p.i p.k (fetchF wk (clock + ticks) y)) := by
        obtain ⟨gt2, hta2, -, -, -, h2⟩ := hI1.setT (i := p.i) (k := p.k) (by rw [setT_len]; exact hiR) (by
          unfold setT
          rw [atL_set, if_pos ⟨rfl, hiR⟩]
          simp only [List.length_set]
          exact hkR) (j := 6) (by omega) (.int .i64 (clock + ticks)) (fetchF wk (clock + ticks) y) (by
          unfold setT
          rw [atL_set, if_pos ⟨rfl, hiR⟩]
          simp only
          rw [atL_set, if_pos ⟨rfl, hkR⟩]; rfl)
        rw [setT_twice _ _ _ _ _ hiR] at h2
        have e : gt2 = gt := by
          unfold setT at hta2
          rw [atL_set, if_pos ⟨rfl, hiR⟩] at hta2
          simp only at hta2
          rw [hta] at hta2
          injection hta2 with hta2
          injection hta2 with hta2
          exact hta2.symm
        subst e
        exact h2
      have hM2 : Hid ((setT R p.i p.k (fetchF wk (clock + ticks) y)).map (·.x) = marks (fetchF wk (clock + ticks)) l (D.take (j + 1))) := Lib.hid (by
        rw [setT_map R p.i p.k _ (fetchF wk (clock + ticks)) hiR (by rw [hy]), hR.out, List.take_succ_eq_append_getElem (by omega), hp, marks_snoc])
      have b0 : wb.cell? ⟨po, 0, none⟩ = some (.int .i64 (p.i : Int)) := (cell_of_block hn0 0).trans rfl
      have b1 : wb.cell? ⟨po, 1, none⟩ = some (.int .i64 (p.k : Int)) := (cell_of_block hn0 1).trans rfl
      have hpbo : pb < po := by omega
      have hNb : wb.heap[pb]? = some (.cells #[.int .i64 clock] 3) := (hb0.block pb hpbo).trans hN.out
      have c1 : wb.cell? ⟨pb, 0, none⟩ = some (.int .i64 clock) := (cell_of_block hNb 0).trans rfl
      have hne1 : ¬ gt = pb := type_ne hcs hNb (by decide)
      have hne2 : ¬ pb = gt := fun e => hne1 e.symm
      have i1 : (0 : Int) ≤ (p.i : Int) := by omega
      have i2 : (p.i : Int) < (l.length : Int) := by omega
      have k1 : (0 : Int) ≤ (p.k : Int) := by omega
      have k2 : (p.k : Int) < (nt : Int) := by omega
      have HI2 := Lib.hid hI2
      have HNb := Lib.hid hNb
      have HBW := Lib.hid hbW
      have HCS := Lib.hid hcs
      have HHID := Lib.hid hid
      have HPP := Lib.hid hp
      clear hI1 hI2 hNb hbW hn0 hcs hct hRT hm hpt hpm hx hkR hiR hin hid hnt htc hta hT hO hP hB hN hy
      have hn0q := Lib.hid (fun nq => fetch_mid (k9 := p.k * 9) (nq := nq) (x5 := .string wk) (x6 := .int .i64 (clock + ticks)) hpo HBW.out hs HCS.out HT.out HP.out HNb.out HB.out hlo (show w.heap.size ≤ po by omega) y.id)
      go_wp2_with fail
      go_quiet (fail)
      obtain ⟨w7, w8, s8, hw7, hs7, hw8, hs8, es8, HE7, HT8, HP8, HN8, HB8, HC8⟩ := hn0q.out (nq + 1)
      have ls8 : s < s8 := by omega
      clear es8
      have v0 : w7.cell? ⟨gt, p.k * 9, none⟩ = some (.int .i64 y.id) := by
        rw [← hw7, World.cell?_setCell_other, World.cell?_setCell_other]
        · exact t0
        · simp
        · simp
      have HI7 : Hid (InsO w7 w.heap.size (.slice (some ⟨g, 0, none⟩) l.length co) (setT R p.i p.k (fetchF wk (clock + ticks) y))) := Lib.hid (HI2.out.range (hi := s) ((HI2.out.und).mono (by rw [World.size_setCell, World.size_setCell]; omega)) (fun g _ _ => HE7.out g))
      go_wp2_with fail
      go_region_held3 (fun w' => w'.cell? ⟨pb, 0, none⟩ = some (.int .i64 clock)) (go_keep) (fail)
      all_goals go_wp2_with (at_builtin; refine wpList_append_own_at _ rfl (.tmp 81) (.tmp 86) 33 rfl q3 3 i0 (.int .i64 0) 1 8 Try.underlying33 hti iz0 iz1 iz2 rfl (by decide) _ _ _ (by rfl) HT8.out ⟨s, 0, none⟩ 1 1 [.int .i64 y.id] (by rfl) rfl HC8.out (by simp [Value.oneCell']) (by unfold maxLen; rw [List.length_map, List.length_take]; omega) (by rw [List.length_map, List.length_take]; omega) (by omega) ?_; intro v9 w9 hown9 hg9 _ _)
      all_goals
        have HF := Lib.hid (fetch_end hs7 HI7.out hw8 HT8.out hown9 hg9 HP8.out HN8.out HB8.out hpq (show w.heap.size ≤ q3 by omega) (by omega))
        clear hown9 hg9
        go_wp2_with fail
        go_roundg (m - (j + 1))
        case measure => omega
        case rel => exact ⟨j + 1, _, by omega, by go_num, by rw [List.take_succ_eq_append_getElem (by omega), HPP.out, List.map_append, List.map_singleton, ← HHID.out]; exact HF.out.1, HF.out.2.1, hM2, HF.out.2.2.1, Lib.hid HF.out.2.2.2.1, HF.out.2.2.2.2.1, HF.out.2.2.2.2.2⟩
    · have e : j = m := by omega
      subst e
      have he : D.take j = fetchP l clock n := by
        unfold fetchP
        rw [HD.out]
        by_cases h : n.toNat ≤ D.length
        · rw [show j = n.toNat by omega]
        · rw [show j = D.length by omega, List.take_of_length_le (Nat.le_refl _), List.take_of_length_le (by omega)]
      have HE := Lib.hid he
      clear he hT hO hP hB
      go_wp2_with fail
      go_ret3
      exact ⟨_, _, R, rfl, HO.out, by rw [← HE.out]; exact hR.out, by rw [← HE.out]; exact OwnI.lower HT.out (by omega), HB.out⟩

end Go.Proofs.Ytggnheekkbideaa
