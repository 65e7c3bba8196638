/- Texts fused by fuse.py: KRuleIndex. -/
import Derived.Test.YtjcaaahbfkjipaaGreatDoorKZ21
/- Of RuleIndex: what FRuleNames uses (shake.py). -/
set_option maxRecDepth 100000
/- rule.indexOf, walked. -/
namespace Go.Proofs.YtjcaaahbfkjipaaGreatDoor
open Go.RowKit
section
variable {w w6 : World} {px eb ib ob p6 : Nat} {m : Md} {vv ve vf : Value} {E : List El} {R : Bool → ByteArray → Option Value} {L : Bool → ByteArray → List Fl}
/-- A flow goes behind the others of its id: what the region leaves. -/
theorem IoR.step (h : IoR w w6 px eb ib ob m vv ve vf E R L) (c : Bool) (s : ByteArray) (f : Fl) {V : Value} (hv : (R c s).getD nilS = V) {n : Nat} (hn : (L c s).length = n) (hp : w6.heap[p6]? = some (oFl f)) (hne : some p6 ≠ V.ownBlock)
    (W' w7 : World) (v7 : Value) (hb : Below w6.heap.size w6 W') (hg : W'.grownBy w7 V.ownBlock) (ho : w7.ownsRow w.heap.size 36 4 v7 (n + 1) (cellsF cellFl (L c s) ++ cellFl f)) (hat : v7.ownBlock = V.ownBlock ∨ v7.ownBlock = some W'.heap.size) :
    ∃ w8, (Instr.mapUpdate 68 (.map (some (if c then ib else ob))) (.string s) v7).run Tryz.prog w7 = .ok () w8 ∧ IoR w w8 px eb ib ob m vv ve vf E (updR R c s v7) (updL L c s (L c s ++ [f])) ∧
      w7.heap[px]? = w6.heap[px]? ∧ w7.heap[p6]? = some (oFl f) ∧ w8.heap[p6]? = some (oFl f) := by
  have ho2 : OwnF cellFl 36 4 w7 w.heap.size v7 (L c s ++ [f]) := by
    unfold OwnF
    rw [List.length_append, List.length_singleton, hn, cellsF_app]
    exact ho
  obtain ⟨w8, r8, h8, g8, hpx⟩ := (h.below hb).grow (c := c) (s := s) (by rw [hv]; exact hg) ho2 (by rw [hv]; exact hat)
  have hp' : W'.heap[p6]? = some (oFl f) := (hb.block p6 (lt_of_block hp)).trans hp
  have hp7 : w7.heap[p6]? = some (oFl f) := (hg.block p6 (lt_of_block hp') hne).trans hp'
  have hm : ∃ es ck, w7.heap[if c then ib else ob]? = some (.map es ck) := by
    have hraw : RawS w7 (if c then ib else ob) (R c) := ((h.below hb).flo.raw c).kept hg (fun e2 => (h.below hb).flo.apart c c s (by rw [hv]; exact e2.symm))
    exact hraw.isMap
  refine ⟨w8, r8, h8, hpx.trans (hb.block px (lt_of_block h.blk)), hp7, (g8.block p6 (lt_of_block hp7) (fun e2 => ?_)).trans hp7⟩
  obtain ⟨es, ck, h2⟩ := hm
  rw [← Option.some.inj e2, hp7] at h2
  cases h2
end
theorem rowsF_of {w : World} {base : Nat} {v : Value} {l : List Fl} (h : OwnF cellFl 36 4 w base v l) (hl : l.length ≤ 2500000000000) (hok : ∀ y ∈ l, FlW y) : FlsR w w.heap.size v l := by
  obtain ⟨a, cap, rfl⟩ := OwnF.shape h
  exact ⟨a, cap, rfl, hl, OwnF.cap h, OwnF.col cellFl_len h (Nat.le_refl _), hok⟩
section
variable {w : World} {m : Md}
set_option maxHeartbeats 16000000 in
theorem indexOf_any (vv ve vf : Value) (h : MdR w w.heap.size vv ve vf m) (hfl : m.fls.length ≤ 1000000) : Calls Tryz.prog 32 #[valMd m vv ve vf] w fun e w' => ∃ x : IX, x.vv = vv ∧ x.ve = ve ∧ x.vf = vf ∧ e = .returned (.pointer (some ⟨x.p, 0, none⟩)) ∧ IdxR w' w'.heap.size x m ∧ Below w.heap.size w w' := by
  have hmm := @run_makeMap Tryz.prog
  obtain ⟨i0, hti, hz0, hz1, hz2⟩ := info_parts info_fl
  obtain ⟨a1, k1, a2, k2, a3, k3, rfl, rfl, rfl⟩ := h.shape
  have HH := Lib.hid h
  have hle := h.els.len
  have hlf := h.fls.len
  obtain ⟨w1, pm, hp1, hw1, l1, n1, b1⟩ := box_new w (.cells #[.string m.id, .string m.name, .slice a1 m.vars.length k1, .slice a2 m.els.length k2, .slice a3 m.fls.length k3] 26)
  obtain ⟨w2, eb, hp2, hw2, l2, n2, b2⟩ := box_new w1 (.map #[] 0)
  obtain ⟨w3, ib, hp3, hw3, l3, n3, b3⟩ := box_new w2 (.map #[] 0)
  obtain ⟨w4, ob, hp4, hw4, l4, n4, b4⟩ := box_new w3 (.map #[] 0)
  obtain ⟨w5, px, hp5, hw5, l5, n5, b5⟩ := box_new w4 (.cells #[.string m.id, .string m.name, .slice a1 m.vars.length k1, .slice a2 m.els.length k2, .slice a3 m.fls.length k3, .map (some eb), .map (some ib), .map (some ob)] 70)
  have c0 : w1.cell? ⟨pm, 0, none⟩ = some (.string m.id) := (cell_of_block n1 0).trans rfl
  have c1 : w1.cell? ⟨pm, 1, none⟩ = some (.string m.name) := (cell_of_block n1 1).trans rfl
  have c2 : w1.cell? ⟨pm, 2, none⟩ = some (.slice a1 m.vars.length k1) := (cell_of_block n1 2).trans rfl
  have c3 : w1.cell? ⟨pm, 3, none⟩ = some (.slice a2 m.els.length k2) := (cell_of_block n1 3).trans rfl
  have c4 : w1.cell? ⟨pm, 4, none⟩ = some (.slice a3 m.fls.length k3) := (cell_of_block n1 4).trans rfl
  have b15 : Below w1.heap.size w1 w5 := b2.trans ((b3.trans ((b4.trans (b5.mono b4.size)).mono b3.size)).mono b2.size)
  have raw0 : ∀ {W : World} {b : Nat} {α : Type} (F : ByteArray → Option Value), (∀ s, F s = none) → W.heap[b]? = some (.map #[] 0) → RawS W b F := fun F hF hb => ⟨#[], 0, hb, MapKept.stamped_empty 0, by simp, by simp [hF]⟩
  have hI : IoR w w5 px eb ib ob m (.slice a1 m.vars.length k1) (.slice a2 m.els.length k2) (.slice a3 m.fls.length k3) [] (fun _ _ => none) (floL []) :=
    ⟨n5, (RawS.below (⟨#[], 0, n2, MapKept.stamped_empty 0, by simp, by simp [findE]⟩ : RawS w2 eb _) (b3.trans ((b4.trans (b5.mono b4.size)).mono b3.size))),
      ⟨fun c => by cases c with
        | true => exact RawS.below (⟨#[], 0, n3, MapKept.stamped_empty 0, by simp, by simp⟩ : RawS w3 ib (fun _ => none)) (b4.trans (b5.mono b4.size))
        | false => exact RawS.below (⟨#[], 0, n4, MapKept.stamped_empty 0, by simp, by simp⟩ : RawS w4 ob (fun _ => none)) b5,
       fun c s => by
        have : floL [] c s = [] := by cases c <;> rfl
        rw [this]; exact OwnF.nil _ _, (fun _ _ _ _ _ hg _ => by cases hg), (by simp; omega)⟩,
      b1.trans (b15.mono b1.size), by omega, by omega, by omega, by omega, by omega, by omega⟩
  have HI := Lib.hid hI
  have d3 := (Below.cellB b15 l1).trans c3
  have HM5 := Lib.hid (show ∀ W, Below w5.heap.size w5 W → W.cell? ⟨pm, 4, none⟩ = some (.slice a3 m.fls.length k3) from fun W hW => (Below.cellB hW (Nat.lt_of_lt_of_le l1 b15.size)).trans ((Below.cellB b15 l1).trans c4))
  have HLP := Lib.hid (show pm < w5.heap.size ∧ (∀ b, (b = eb ∨ b = ib ∨ b = ob) → b ≠ pm) from ⟨Nat.lt_of_lt_of_le l1 b15.size, fun b hb => by omega⟩)
  have HN1 := Lib.hid ((b15.block pm l1).trans n1)
  clear n1 n2 n3 n4 n5 b1 b2 b3 b4 b5 b15 raw0 hI h
  go_enter Tryz.func32, Tryz.ntmps32
  go_wp2_with fail
  go_loopg [19] m.els.length (fun g s19 wr => ∃ k : Nat, k + g = m.els.length ∧ s19 = .int .i64 (k : Int) ∧ Hid (IoR w wr px eb ib ob m (.slice a1 m.vars.length k1) (.slice a2 m.els.length k2) (.slice a3 m.fls.length k3) (m.els.take k) (fun _ _ => none) (floL [])) ∧ Hid (wr.heap[pm]? = w5.heap[pm]?))
  case atStart => exact ⟨0, by omega, rfl, HI, Lib.hid rfl⟩
  case round =>
    obtain ⟨k, hkg, rfl, hI, hP⟩ := hrel
    by_cases hk : k < m.els.length
    · have hE := HH.out.els.mono hI.out.bel (Nat.le_refl _)
      obtain ⟨b, o, ha2, hb, hw, h0, h1, h2, h3, h4, h5, h6, h7, h8, h9, h10⟩ := elsR_at hE hk
      have HT := Lib.hid (List.take_succ_eq_append_getElem hk)
      obtain ⟨e, he⟩ : ∃ e, m.els[k] = e := ⟨_, rfl⟩
      rw [he] at HT
      simp only [he] at h0 h1 h2 h3 h4 h5 h6 h7 h8 h9 h10
      obtain ⟨L, hL⟩ : ∃ L, m.els.take k = L := ⟨_, rfl⟩
      rw [hL] at HT hI
      obtain ⟨w6, p6, hp6, hw6, l6, n6, b6⟩ := box_new wr (oEl e)
      have hI6 := hI.out.below b6
      have lk1 := (hI6.below (Below.refl _ _).drew).lookE e.id
      have lk2 := (hI6.below ((Below.refl _ w6).alloc (Nat.le_refl _) oElZ).drew).lookE e.id
      obtain ⟨x5, -, -⟩ := hI6.cells
      obtain ⟨c0, -⟩ := boxEl n6
      obtain ⟨is, his⟩ : ∃ b, (findE L e.id).isSome = b := ⟨_, rfl⟩
      obtain ⟨E, hEE⟩ : ∃ E, elemE L e.id = E := ⟨_, rfl⟩
      rw [his, hEE] at lk1 lk2
      obtain ⟨w7, p7, hp7, hw7, l7, n7, b7⟩ := box_new w6 (oEl E)
      obtain ⟨w8, hw8⟩ : ∃ W, w7.drew = W := ⟨_, rfl⟩
      have b8 : Below w6.heap.size w6 w8 := hw8 ▸ b7.drew
      have hI8 := hI6.below b8
      obtain ⟨y5, -, -⟩ := hI8.cells
      obtain ⟨d0, d1, d2, d3', d4, d5, d6, d7, d8, d9, d10⟩ := boxEl ((b8.block p6 l6).trans n6)
      have hpm : pm < wr.heap.size := by have := HLP.out.1; have := hI.out.bel.size; have h := hP.out; rcases Nat.lt_or_ge pm wr.heap.size with h2 | h2; exact h2; rw [Array.getElem?_eq_none h2, HN1.out] at h; cases h
      have HP8 : Hid (w8.heap[pm]? = w5.heap[pm]?) := Lib.hid (((b8.block pm (Nat.lt_of_lt_of_le hpm b6.size)).trans (b6.block pm hpm)).trans hP.out)
      have dk : decide (k < m.els.length) = true := decide_eq_true hk
      have j1 : (0 : Int) ≤ (k : Int) := by omega
      have j2 : (k : Int) < (m.els.length : Int) := by omega
      have HI8 := Lib.hid hI8
      subst ha2
      clear hE hw he hL hI n6 b6 n7 b7 b8 hI6 hI8 hEE hP hpm
      cases is with
      | true =>
        have HE : Hid (IoR w w8 px eb ib ob m (.slice a1 m.vars.length k1) (.slice (some ⟨b, o, none⟩) m.els.length k2) (.slice a3 m.fls.length k3) (m.els.take (k + 1)) (fun _ _ => none) (floL [])) := Lib.hid (by
          rw [HT.out]
          exact { HI8.out with els := by rw [find_old his]; exact HI8.out.els })
        clear his
        go_wp2_with fail
        go_region_held3 (fun w' => w'.cell? ⟨px, 5, none⟩ = some (.map (some eb)) ∧ w'.cell? ⟨p6, 0, none⟩ = some (.string e.id)) (go_keep) (fail)
        all_goals
          go_wp2_with fail
          go_roundg (gk - 1)
          case measure => omega
          case rel => exact ⟨k + 1, by omega, by go_num, HE, HP8⟩
      | false =>
        obtain ⟨w9, r9, hI9, g9⟩ := (HI8.out.below (Below.refl w8.heap.size w8).drew).put his
        have HE : Hid (IoR w w9 px eb ib ob m (.slice a1 m.vars.length k1) (.slice (some ⟨b, o, none⟩) m.els.length k2) (.slice a3 m.fls.length k3) (m.els.take (k + 1)) (fun _ _ => none) (floL [])) := Lib.hid (by rw [HT.out]; exact hI9)
        have HP9 : Hid (w9.heap[pm]? = w5.heap[pm]?) := Lib.hid ((g9.block pm (by have := HLP.out.1; have := HI8.out.bel.size; have h := HP8.out; rcases Nat.lt_or_ge pm w8.heap.size with h2 | h2; exact h2; rw [Array.getElem?_eq_none h2, HN1.out] at h; cases h) (fun e2 => HLP.out.2 eb (Or.inl rfl) (Option.some.inj e2).symm)).trans HP8.out)
        obtain ⟨z5, -, -⟩ := hI9.cells
        have hE8 := HI8.out.els
        have far : ∀ {j : Nat} {v : Value}, w8.cell? ⟨p6, j, none⟩ = some v → w9.cell? ⟨p6, j, none⟩ = some v := fun hc => grown_cell (w := w8.drew) hc g9 (fun e2 => cell_map hc hE8 (Option.some.inj e2))
        have u := And.intro (far d0) (And.intro (far d1) (And.intro (far d2) (And.intro (far d3') (And.intro (far d4) (And.intro (far d5) (And.intro (far d6) (And.intro (far d7) (And.intro (far d8) (And.intro (far d9) (far d10))))))))))
        have HU := Lib.hid (And.intro z5 u)
        clear his hI9 g9 z5 hE8 far u
        go_wp2_with fail
        go_region_held3 (fun w' => w'.cell? ⟨px, 5, none⟩ = some (.map (some eb)) ∧ w'.cell? ⟨p6, 0, none⟩ = some (.string e.id)) (go_keep) (fail)
        all_goals
          go_wp2_with fail
          go_region_held3 (fun w' => w'.cell? ⟨px, 5, none⟩ = some (.map (some eb)) ∧ w'.cell? ⟨p6, 0, none⟩ = some (.string e.id) ∧ w'.cell? ⟨p6, 1, none⟩ = some (.string e.name) ∧ w'.cell? ⟨p6, 2, none⟩ = some (.int .u8 e.kind) ∧ w'.cell? ⟨p6, 3, none⟩ = some (.string e.inn) ∧ w'.cell? ⟨p6, 4, none⟩ = some (.string e.dflt) ∧ w'.cell? ⟨p6, 5, none⟩ = some (.string e.att) ∧ w'.cell? ⟨p6, 6, none⟩ = some (.int .u8 e.event) ∧ w'.cell? ⟨p6, 7, none⟩ = some (.string e.ref) ∧ w'.cell? ⟨p6, 8, none⟩ = some (.string e.key) ∧ w'.cell? ⟨p6, 9, none⟩ = some (.int .i64 e.ticks) ∧ w'.cell? ⟨p6, 10, none⟩ = some (.int .i64 e.tries)) (first | go_keep | exact HU.out) (fail)
          all_goals
            go_wp2_with fail
            go_roundg (gk - 1)
            case measure => omega
            case rel => exact ⟨k + 1, by omega, by go_num, HE, HP9⟩
    · obtain rfl : k = m.els.length := by omega
      have dk : decide (m.els.length < m.els.length) = false := decide_eq_false hk
      have HI2 := Lib.hid hI.out
      rw [List.take_length] at HI2
      have g4 : wr.cell? ⟨pm, 4, none⟩ = some (.slice a3 m.fls.length k3) := (cell_of_block (hP.out.trans HN1.out) 4).trans rfl
      clear hI hP
      go_wp2_with fail
      go_loopg [46] m.fls.length (fun g s46 wx => ∃ (k : Nat) (R : Bool → ByteArray → Option Value), k + g = m.fls.length ∧ s46 = .int .i64 (k : Int) ∧ Hid (IoR w wx px eb ib ob m (.slice a1 m.vars.length k1) (.slice a2 m.els.length k2) (.slice a3 m.fls.length k3) m.els R (floL (m.fls.take k))))
      case atStart => exact ⟨0, _, by omega, rfl, HI2⟩
      case round =>
        obtain ⟨k, R, hkg, rfl, hI⟩ := hrel
        by_cases hk : k < m.fls.length
        · have hE := HH.out.fls.mono hI.out.bel (Nat.le_refl _)
          obtain ⟨b, o, ha3, hb, hw, h0, h1, h2, h3⟩ := flsR_at hE hk
          have HT := Lib.hid (List.take_succ_eq_append_getElem hk)
          obtain ⟨f, he⟩ : ∃ e, m.fls[k] = e := ⟨_, rfl⟩
          rw [he] at HT
          simp only [he] at h0 h1 h2 h3
          obtain ⟨L, hL⟩ : ∃ L, m.fls.take k = L := ⟨_, rfl⟩
          have hLl : L.length ≤ m.fls.length := by rw [← hL, List.length_take]; omega
          have hl1 : (insF L f.into).length ≤ 1000000 := Nat.le_trans (List.length_filter_le _ _) (by omega)
          have hl2 : (outsF L f.frm).length ≤ 1000000 := Nat.le_trans (List.length_filter_le _ _) (by omega)
          rw [hL] at HT hI
          obtain ⟨w6, p6, hp6, hw6, l6, n6, b6⟩ := box_new wr (oFl f)
          have hI6 := hI.out.below b6
          have HI6 := Lib.hid hI6
          have lk1 := (hI6.below (Below.refl _ _).drew).lookF true f.into
          have lk2 := (hI6.below ((Below.refl _ w6).alloc (Nat.le_refl _) (oFl f)).drew).lookF true f.into
          simp only [if_true] at lk1 lk2
          have hO := hI6.flo.own true f.into
          have hO2 := hI6.flo.own false f.frm
          obtain ⟨av, cv, hv⟩ := OwnF.shape hO
          obtain ⟨av2, cv2, hv2⟩ := OwnF.shape hO2
          obtain ⟨n, hn⟩ : ∃ n, (floL L true f.into).length = n := ⟨_, rfl⟩
          obtain ⟨n2, hn2⟩ : ∃ n, (floL L false f.frm).length = n := ⟨_, rfl⟩
          have hl1 : n ≤ 1000000 := by rw [← hn]; exact hl1
          have hl2 : n2 ≤ 1000000 := by rw [← hn2]; exact hl2
          rw [hn] at hv
          rw [hn2] at hv2
          rw [hv] at lk1 lk2
          have HV2 := Lib.hid hv2
          have HN2 := Lib.hid hn2
          have hne : ∀ c s, some p6 ≠ ((R c s).getD nilS).ownBlock := fun c s e2 => by
            obtain ⟨cur, h9, _⟩ := ownF_cells (hI.out.flo.own c s) e2.symm
            have := lt_of_block h9
            omega
          have HO1 : Hid (∀ W, Below w6.heap.size w6 W → W.ownsRow w.heap.size 36 4 (.slice av n cv) n (cellsF cellFl (floL L true f.into))) := Lib.hid (fun W hb => by
            have := OwnF.kept hO hb
            unfold OwnF at this
            rw [hn, hv] at this
            exact this)
          have HST := Lib.hid (hI6.step (p6 := p6) true f.into f hv hn n6 (by rw [← hv]; exact hne _ _))
          have HNE2 : Hid (some p6 ≠ (Value.slice av2 n2 cv2).ownBlock) := Lib.hid (by rw [← hv2]; exact hne _ _)
          obtain ⟨-, x6, -⟩ := hI6.cells
          obtain ⟨c0, c1, c2, c3⟩ := boxFl n6
          have dk : decide (k < m.fls.length) = true := decide_eq_true hk
          have j1 : (0 : Int) ≤ (k : Int) := by omega
          have j2 : (k : Int) < (m.fls.length : Int) := by omega
          have hzb : w.heap.size ≤ w6.heap.size := hI6.bel.size
          have HPX := Lib.hid hI6.blk
          subst ha3
          clear hE hw he hL hI n6 b6 hI6 hv hn hv2 hn2 hO hO2 hne
          go_wp2_with fail
          go_region_held3 (fun w' => w'.cell? ⟨px, 6, none⟩ = some (.map (some ib)) ∧ w'.cell? ⟨p6, 0, none⟩ = some (.string f.id) ∧ w'.cell? ⟨p6, 1, none⟩ = some (.string f.frm) ∧ w'.cell? ⟨p6, 2, none⟩ = some (.string f.into) ∧ w'.cell? ⟨p6, 3, none⟩ = some (.string f.cond)) (first | go_keep | exact hkeep | exact hkeep8)
            (first | (refine step_append_own _ (by rfl) (.tmp 62) (.tmp 64) 24 (by rfl) w.heap.size 36 i0 _ 4 64 Tryz.underlying24 hti hz0 hz1 hz2 rfl (by decide) (.slice av n cv) n (cellsF cellFl (floL L true f.into)) (by rfl) (by first | exact HO1.out _ (((Below.refl _ _).drew).alloc (Nat.le_refl _) _) | exact HO1.out _ (((Below.refl _ _).alloc (Nat.le_refl _) _).drew)) _ 1 1 (cellFl f) (by rfl) rfl (cells_new _ _ _) (cellFl_one f) (by unfold maxLen; omega) (by omega) (by simp; omega) ?_; intro v7 w7 hown7 hg7 hat7; have hst := (by first | exact HST.out _ w7 v7 (((Below.refl _ _).drew).alloc (Nat.le_refl _) _) hg7 hown7 hat7 | exact HST.out _ w7 v7 (((Below.refl _ _).alloc (Nat.le_refl _) _).drew) hg7 hown7 hat7 : ∃ w8, (Instr.mapUpdate 68 (.map (some (if true = true then ib else ob))) (.string f.into) v7).run Tryz.prog w7 = .ok () w8 ∧ IoR w w8 px eb ib ob m (.slice a1 m.vars.length k1) (.slice a2 m.els.length k2) (.slice (some ⟨b, o, none⟩) m.fls.length k3) m.els (updR R true f.into v7) (updL (floL L) true f.into (floL L true f.into ++ [f])) ∧ w7.heap[px]? = w6.heap[px]? ∧ w7.heap[p6]? = some (oFl f) ∧ w8.heap[p6]? = some (oFl f)); obtain ⟨w8, r8, hI8, hpx7, hp7, hp8⟩ := hst; simp only [if_true] at r8; have hkeep : w7.cell? ⟨px, 6, none⟩ = some (.map (some ib)) ∧ w7.cell? ⟨p6, 0, none⟩ = some (.string f.id) ∧ w7.cell? ⟨p6, 1, none⟩ = some (.string f.frm) ∧ w7.cell? ⟨p6, 2, none⟩ = some (.string f.into) ∧ w7.cell? ⟨p6, 3, none⟩ = some (.string f.cond) := And.intro ((cell_of_block (hpx7.trans HPX.out) 6).trans rfl) (boxFl hp7); have hkeep8 : w8.cell? ⟨px, 6, none⟩ = some (.map (some ib)) ∧ w8.cell? ⟨p6, 0, none⟩ = some (.string f.id) ∧ w8.cell? ⟨p6, 1, none⟩ = some (.string f.frm) ∧ w8.cell? ⟨p6, 2, none⟩ = some (.string f.into) ∧ w8.cell? ⟨p6, 3, none⟩ = some (.string f.cond) := And.intro hI8.cells.2.1 (boxFl hp8); have HI8 := Lib.hid (And.intro hI8 hp8); clear hI8 hp8 hp7 hpx7 hg7 hown7 hat7))
          all_goals
            have eR : ((updR R true f.into v7) false f.frm).getD nilS = .slice av2 n2 cv2 := by
              rw [← HV2.out]; unfold updR; rw [if_neg (by simp)]
            have eL : updL (floL L) true f.into (floL L true f.into ++ [f]) false f.frm = floL L false f.frm := by
              unfold updL; rw [if_neg (by simp)]
            have lm1 := (HI8.out.1.below (Below.refl w8.heap.size w8).drew).lookF false f.frm
            have lm2 := (HI8.out.1.below ((Below.refl w8.heap.size w8).alloc (Nat.le_refl _) (oFl f)).drew).lookF false f.frm
            rw [eR] at lm1 lm2
            simp only [Bool.false_eq_true, if_false] at lm1 lm2
            have hst2 := HI8.out.1.step (p6 := p6) false f.frm f eR (n := n2) (by rw [eL]; exact HN2.out) HI8.out.2 HNE2.out
            rw [eL, show updL (updL (floL L) true f.into (floL L true f.into ++ [f])) false f.frm (floL L false f.frm ++ [f]) = floL (L ++ [f]) from floL_snoc L f] at hst2
            have HST2 := Lib.hid hst2
            have HO2 : Hid (∀ W, Below w8.heap.size w8 W → W.ownsRow w.heap.size 36 4 (.slice av2 n2 cv2) n2 (cellsF cellFl (floL L false f.frm))) := Lib.hid (fun W hb => by
              have := OwnF.kept (HI8.out.1.flo.own false f.frm) hb
              unfold OwnF at this
              rw [eL, eR, HN2.out] at this
              exact this)
            obtain ⟨-, -, x7⟩ := HI8.out.1.cells
            obtain ⟨e0, e1, e2, e3⟩ := boxFl HI8.out.2
            have hz8 : w.heap.size ≤ w8.heap.size := HI8.out.1.bel.size
            have HPX8 := Lib.hid HI8.out.1.blk
            clear eR eL hst2 hkeep hkeep8
            go_wp2_with fail
            go_region_held3 (fun w' => w'.cell? ⟨px, 7, none⟩ = some (.map (some ob)) ∧ w'.cell? ⟨p6, 0, none⟩ = some (.string f.id) ∧ w'.cell? ⟨p6, 1, none⟩ = some (.string f.frm) ∧ w'.cell? ⟨p6, 2, none⟩ = some (.string f.into) ∧ w'.cell? ⟨p6, 3, none⟩ = some (.string f.cond)) (first | go_keep | exact hkeep | exact hkeep8)
              (first | (refine step_append_own _ (by rfl) (.tmp 78) (.tmp 80) 24 (by rfl) w.heap.size 36 i0 _ 4 64 Tryz.underlying24 hti hz0 hz1 hz2 rfl (by decide) (.slice av2 n2 cv2) n2 (cellsF cellFl (floL L false f.frm)) (by rfl) (by first | exact HO2.out _ (((Below.refl _ _).drew).alloc (Nat.le_refl _) _) | exact HO2.out _ (((Below.refl _ _).alloc (Nat.le_refl _) _).drew)) _ 1 1 (cellFl f) (by rfl) rfl (cells_new _ _ _) (cellFl_one f) (by unfold maxLen; omega) (by omega) (by simp; omega) ?_; intro v9 w9 hown9 hg9 hat9; have hst := (by first | exact HST2.out _ w9 v9 (((Below.refl _ _).drew).alloc (Nat.le_refl _) _) hg9 hown9 hat9 | exact HST2.out _ w9 v9 (((Below.refl _ _).alloc (Nat.le_refl _) _).drew) hg9 hown9 hat9 : ∃ w10, (Instr.mapUpdate 68 (.map (some (if false = true then ib else ob))) (.string f.frm) v9).run Tryz.prog w9 = .ok () w10 ∧ IoR w w10 px eb ib ob m (.slice a1 m.vars.length k1) (.slice a2 m.els.length k2) (.slice (some ⟨b, o, none⟩) m.fls.length k3) m.els (updR (updR R true f.into v7) false f.frm v9) (floL (L ++ [f])) ∧ w9.heap[px]? = w8.heap[px]? ∧ w9.heap[p6]? = some (oFl f) ∧ w10.heap[p6]? = some (oFl f)); obtain ⟨w10, r10, hI10, hpx9, hp9, hp10⟩ := hst; simp only [Bool.false_eq_true, if_false] at r10; have hkeep : w9.cell? ⟨px, 7, none⟩ = some (.map (some ob)) ∧ w9.cell? ⟨p6, 0, none⟩ = some (.string f.id) ∧ w9.cell? ⟨p6, 1, none⟩ = some (.string f.frm) ∧ w9.cell? ⟨p6, 2, none⟩ = some (.string f.into) ∧ w9.cell? ⟨p6, 3, none⟩ = some (.string f.cond) := And.intro ((cell_of_block (hpx9.trans HPX8.out) 7).trans rfl) (boxFl hp9); have hkeep8 : w10.cell? ⟨px, 7, none⟩ = some (.map (some ob)) ∧ w10.cell? ⟨p6, 0, none⟩ = some (.string f.id) ∧ w10.cell? ⟨p6, 1, none⟩ = some (.string f.frm) ∧ w10.cell? ⟨p6, 2, none⟩ = some (.string f.into) ∧ w10.cell? ⟨p6, 3, none⟩ = some (.string f.cond) := And.intro hI10.cells.2.2 (boxFl hp10); have HE : Hid (IoR w w10 px eb ib ob m (.slice a1 m.vars.length k1) (.slice a2 m.els.length k2) (.slice (some ⟨b, o, none⟩) m.fls.length k3) m.els (updR (updR R true f.into v7) false f.frm v9) (floL (m.fls.take (k + 1)))) := Lib.hid (by rw [HT.out]; exact hI10); clear hI10 hp10 hp9 hpx9 hg9 hown9 hat9))
            all_goals
              go_wp2_with fail
              go_roundg (gk - 1)
              case measure => omega
              case rel => exact ⟨k + 1, _, by omega, by go_num, HE⟩
        · obtain rfl : k = m.fls.length := by omega
          have dk : decide (m.fls.length < m.fls.length) = false := decide_eq_false hk
          have hF := hI.out
          rw [List.take_length] at hF
          have hP := hF.cells
          have lx : px < wr.heap.size := lt_of_block hF.blk
          have HX : Hid (IdxR wr wr.heap.size ⟨px, eb, ib, ob, R true, R false, .slice a1 m.vars.length k1, .slice a2 m.els.length k2, .slice a3 m.fls.length k3⟩ m) := Lib.hid
            { blk := hF.blk, els := hF.els, ins := hF.flo.raw true, outs := hF.flo.raw false,
              insR := fun s => rowsF_of (hF.flo.own true s) (Nat.le_trans (List.length_filter_le _ _) (by omega)) (fun y hy => HH.out.fls.ok y (List.mem_filter.1 hy).1),
              outsR := fun s => rowsF_of (hF.flo.own false s) (Nat.le_trans (List.length_filter_le _ _) (by omega)) (fun y hy => HH.out.fls.ok y (List.mem_filter.1 hy).1),
              md := HH.out.mono hF.bel hF.bel.size, lp := lx, le := hF.els.lt, li := (hF.flo.raw true).lt, lo := (hF.flo.raw false).lt }
          have HB := Lib.hid hF.bel
          clear hI hF hP
          go_wp2_with fail
          go_ret
          exact ⟨_, rfl, rfl, rfl, rfl, HX.out, HB.out⟩
end
end Go.Proofs.YtjcaaahbfkjipaaGreatDoor
