/- Texts fused by fuse.py: KRuleFive. -/
import Derived.Test.YtjcaaahbfkjipaaGreatDoorKZ19
import Derived.Test.YtjcaaahbfkjipaaGreatDoorKZ16
/- Of RuleFive: what FRuleNames uses (shake.py). -/
set_option maxRecDepth 100000
/- rule.five: starts and ends, scope by scope. -/
namespace Go.Proofs.YtjcaaahbfkjipaaGreatDoor
open Go.RowKit
abbrev cntV (a b : Nat) : Value := .agg #[.int .i64 (a : Int), .int .i64 (b : Int)]
/-- What the map of counts has. -/
def cntH (l : List El) : ByteArray → Option Value := fun s => if l.any (fun e => sEq e.inn s) then some (cntV (countE l 1 s) (countE l 2 s)) else none
theorem count_zero {l : List El} {s : ByteArray} (h : l.any (fun e => sEq e.inn s) = false) (k : Int) : countE l k s = 0 := by
  unfold countE
  rw [List.length_eq_zero_iff, List.filter_eq_nil_iff]
  intro e he
  have := List.any_eq_false.1 h e he
  simp only [Bool.not_eq_true] at this
  rw [this]
  simp
theorem cntH_get (l : List El) (s : ByteArray) : (cntH l s).getD (cntV 0 0) = cntV (countE l 1 s) (countE l 2 s) := by
  unfold cntH
  cases h : l.any (fun e => sEq e.inn s) with
  | true => rfl
  | false => rw [count_zero h, count_zero h]; rfl
theorem count_snoc (l : List El) (e : El) (k : Int) (s : ByteArray) : countE (l ++ [e]) k s = countE l k s + (if sEq e.inn s && (e.kind == k) then 1 else 0) := by
  unfold countE
  rw [List.filter_append, List.length_append, List.filter_cons, List.filter_nil]
  split <;> rfl
theorem cntH_snoc (l : List El) (e : El) : putSt (cntH l) e.inn (cntV (countE (l ++ [e]) 1 e.inn) (countE (l ++ [e]) 2 e.inn)) = cntH (l ++ [e]) := by
  funext s
  unfold putSt cntH
  rw [List.any_append]
  by_cases h : s = e.inn
  · subst h
    rw [if_pos rfl]
    have : ([e].any fun x => sEq x.inn e.inn) = true := by rw [List.any_cons, sEq_refl]; rfl
    rw [this, Bool.or_true]
    rfl
  · rw [if_neg h]
    have hs : sEq e.inn s = false := by rw [← Bool.not_eq_true, sEq_iff]; exact fun e2 => h e2.symm
    have : ([e].any fun x => sEq x.inn s) = false := by rw [List.any_cons, hs]; rfl
    rw [this, Bool.or_false, count_snoc, count_snoc, hs]
    rfl
theorem zeroCnt (w : World) : (zeroValue 83).run Tryz.prog w = .ok (cntV 0 0) w := by kernel_rfl
theorem idx0 (a b : Nat) (W : World) : (Instr.index 83 (cntV a b) (.int .i64 0)).run Tryz.prog W = .ok (.int .i64 (a : Int)) W := by kernel_rfl
theorem idx1 (a b : Nat) (W : World) : (Instr.index 83 (cntV a b) (.int .i64 1)).run Tryz.prog W = .ok (.int .i64 (b : Int)) W := by kernel_rfl
section
variable {w : World} {mb : Nat} {l : List El}
theorem cnt_look (hm : RawS w mb (cntH l)) (s : ByteArray) : (Instr.lookup 82 (.map (some mb)) (.string s) false).run Tryz.prog w = .ok (cntV (countE l 1 s) (countE l 2 s)) w := by
  rw [← cntH_get]
  exact (hm.look (k := 9) (e := 83) Tryz.underlying9 Tryz.underlying82 (zeroCnt w) s).1
theorem cnt_put (hm : RawS w mb (cntH l)) (e : El) : ∃ w', (Instr.mapUpdate 82 (.map (some mb)) (.string e.inn) (cntV (countE (l ++ [e]) 1 e.inn) (countE (l ++ [e]) 2 e.inn))).run Tryz.prog w = .ok () w' ∧ RawS w' mb (cntH (l ++ [e])) ∧ w.grownBy w' (some mb) := by
  rw [← cntH_snoc]
  exact hm.put (k := 9) (e := 83) Tryz.underlying9 Tryz.underlying82 e.inn _ zeroCnt
theorem five1_any (s : ByteArray) : Calls Tryz.prog 77 #[.string s] w fun e w' => e = .returned (.string s) ∧ Below w.heap.size w w' := by
  have HB := Lib.hid (Below.refl w.heap.size w)
  go_enter Tryz.func77, Tryz.ntmps77
  go_wp2_with fail
  go_ret
  exact ⟨rfl, HB.out⟩
set_option maxHeartbeats 2000000 in
theorem five2_any {pc : Nat} (hc : w.cell? ⟨pc, 0, none⟩ = some (.map (some mb))) (hm : RawS w mb (cntH l)) (s : ByteArray) : Calls Tryz.prog 78 #[.string s, .pointer (some ⟨pc, 0, none⟩)] w fun e w' => e = .returned (.bool ((countE l 1 s == 1) && decide (1 ≤ countE l 2 s))) ∧ Below w.heap.size w w' := by
  have HB := Lib.hid (Below.refl w.heap.size w)
  have lk := cnt_look hm s
  obtain ⟨a, ha⟩ : ∃ a, countE l 1 s = a := ⟨_, rfl⟩
  obtain ⟨b, hb⟩ : ∃ a, countE l 2 s = a := ⟨_, rfl⟩
  rw [ha, hb] at lk ⊢
  have i0 := idx0 a b w
  have i1 := idx1 a b w
  obtain ⟨r1, q1, q1'⟩ : ∃ r, ((a : Int) == 1) = r ∧ (a == 1) = r := ⟨a == 1, by rw [Bool.eq_iff_iff, beq_iff_eq, beq_iff_eq]; omega, rfl⟩
  obtain ⟨r2, q2, q2'⟩ : ∃ r, decide ((1 : Int) ≤ (b : Int)) = r ∧ decide (1 ≤ b) = r := ⟨decide (1 ≤ b), by rw [decide_eq_decide]; omega, rfl⟩
  rw [q1', q2']
  clear hm ha hb q1' q2'
  cases r1 <;> (go_enter Tryz.func78, Tryz.ntmps78; go_wp2_with fail; go_ret; exact ⟨rfl, HB.out⟩)
end
theorem count_le (l : List El) (k : Int) (s : ByteArray) : countE l k s ≤ l.length := List.length_filter_le _ _
section
variable {w : World} {x : IX} {m : Md}
theorem sub_snoc (l : List El) (e : El) : ((⟨#[]⟩ : ByteArray) :: ((l ++ [e]).filter isS).map El.id) = ((⟨#[]⟩ : ByteArray) :: (l.filter isS).map El.id) ++ (if isS e then [e.id] else []) := by
  rw [List.filter_append, List.map_append, List.filter_cons, List.filter_nil]
  split <;> simp
def scL (l : List El) : List ByteArray := ⟨#[]⟩ :: (l.filter isS).map El.id
/-- What the second loop keeps. -/
structure ScR (w : World) (m : Md) (mb pc : Nat) (L : List El) (v : Value) (wx : World) : Prop where
  own : OwnT wx w.heap.size v (scL L)
  map : RawS wx mb (cntH m.els)
  cell : wx.cell? ⟨pc, 0, none⟩ = some (.map (some mb))
  bel : Below w.heap.size w wx
theorem ScR.below {mb pc : Nat} {L : List El} {v : Value} {wx wy : World} (h : ScR w m mb pc L v wx) (hb : Below wx.heap.size wx wy) : ScR w m mb pc L v wy :=
  ⟨OwnF.kept h.own hb, h.map.below hb, (Below.cellB hb (cellLt h.cell)).trans h.cell, h.bel.trans (hb.mono h.bel.size)⟩
set_option maxHeartbeats 8000000 in
theorem five_any (h : IdxR w w.heap.size x m) (hl : m.els.length ≤ 1000) : Calls Tryz.prog 37 #[.pointer (some ⟨x.p, 0, none⟩)] w (RuleR (fiveR m) w) := by
  have hmm := @run_makeMap Tryz.prog
  obtain ⟨r, hrr⟩ : ∃ r, fiveR m = r := ⟨_, rfl⟩
  have HRR := Lib.hid hrr
  rw [hrr]
  clear hrr
  obtain ⟨i0, hti, hz0, hz1, hz2⟩ := info_parts info_strR
  obtain ⟨w0, mb, hb0, hw0, l0, n0, k0⟩ := box_new w (.map #[] 0)
  obtain ⟨w1, pc, hp1, hw1, l1, n1, k1⟩ := box_new w0 (.cells #[.map (some mb)] 82)
  have m1 : RawS w1 mb (cntH []) := RawS.below (⟨#[], 0, n0, MapKept.stamped_empty 0, by simp, by simp [cntH]⟩ : RawS w0 mb (cntH [])) k1
  have c1 : w1.cell? ⟨pc, 0, none⟩ = some (.map (some mb)) := (cell_of_block n1 0).trans rfl
  have HB1 := Lib.hid (k0.trans (k1.mono (by omega)))
  have HS := Lib.hid (And.intro m1 c1)
  have HH := Lib.hid h
  have e1 : w.heap.size ≤ mb := by omega
  have e2 : w.heap.size ≤ pc := by omega
  obtain ⟨a1, k1', a2, k2', a3, k3', v1, v2, v3⟩ := h.md.shape
  have HV := Lib.hid v2
  obtain ⟨-, -, -, x3, -, -, -, -⟩ := (h.mono HB1.out (Nat.le_refl _)).cells
  rw [v2] at x3
  clear n0 n1 k0 k1 m1 c1 h v1 v2 v3
  go_enter Tryz.func37, Tryz.ntmps37
  go_wp2_with fail
  go_loopg [18] m.els.length (fun g s18 wr => ∃ k : Nat, k + g = m.els.length ∧ s18 = .int .i64 (k : Int) ∧ Hid (RawS wr mb (cntH (m.els.take k))) ∧ Hid (wr.cell? ⟨pc, 0, none⟩ = some (.map (some mb))) ∧ Hid (Below w.heap.size w wr))
  case atStart => exact ⟨0, by omega, rfl, Lib.hid HS.out.1, Lib.hid HS.out.2, HB1⟩
  case round =>
    obtain ⟨k, hkg, rfl, hM, hC, hB⟩ := hrel
    by_cases hk : k < m.els.length
    · have hE := (HH.out.mono hB.out (Nat.le_refl _)).md.els
      rw [HV.out] at hE
      obtain ⟨b, o, ha2, hb, hw, h0, h1, h2, h3, h4, h5, h6, h7, h8, h9, h10⟩ := elsR_at hE hk
      have HT := Lib.hid (List.take_succ_eq_append_getElem hk)
      obtain ⟨e, he⟩ : ∃ e, m.els[k] = e := ⟨_, rfl⟩
      rw [he] at HT
      simp only [he] at h0 h1 h2 h3 h4 h5 h6 h7 h8 h9 h10
      obtain ⟨L, hL⟩ : ∃ L, m.els.take k = L := ⟨_, rfl⟩
      have hLl : L.length ≤ 1000 := by rw [← hL, List.length_take]; omega
      rw [hL] at HT hM
      obtain ⟨w2, p2, hp2, hw2, l2, n2, b2⟩ := box_new wr (oEl e)
      have lk := cnt_look (hM.out.below b2) e.inn
      have q1 := count_le L 1 e.inn
      have q2 := count_le L 2 e.inn
      have s1 := count_snoc L e 1 e.inn
      have s2 := count_snoc L e 2 e.inn
      rw [sEq_refl, Bool.true_and] at s1 s2
      have HP := Lib.hid (fun (W : World) (hm : RawS W mb (cntH L)) => cnt_put hm e)
      rw [s1, s2] at HP
      obtain ⟨c1, hc1⟩ : ∃ c, countE L 1 e.inn = c := ⟨_, rfl⟩
      obtain ⟨c2, hc2⟩ : ∃ c, countE L 2 e.inn = c := ⟨_, rfl⟩
      rw [hc1, hc2] at lk HP
      rw [hc1] at q1
      rw [hc2] at q2
      have cc := hC.out
      have cc2 : w2.cell? ⟨pc, 0, none⟩ = some (.map (some mb)) := (Below.cellB b2 (cellLt hC.out)).trans hC.out
      obtain ⟨g0, g1, g2, g3, g4, g5, g6, g7, g8, g9, g10⟩ := boxEl n2
      obtain ⟨K, hK⟩ : ∃ K, e.kind = K := ⟨_, rfl⟩
      rw [hK] at g2 HP
      have HKK := Lib.hid hK
      have dk : decide (k < m.els.length) = true := decide_eq_true hk
      have j1 : (0 : Int) ≤ (k : Int) := by omega
      have j2 : (k : Int) < (m.els.length : Int) := by omega
      subst ha2
      have HM2 := Lib.hid (hM.out.below b2)
      have HB2 := Lib.hid (hB.out.trans (b2.mono hB.out.size))
      have HQ := Lib.hid (And.intro hc1 hc2)
      clear hE hw he hL s1 s2 hc1 hc2 hK
      obtain ⟨w3, p3, hp3, hw3, l3, n3, b3⟩ := box_new w2 (.cells #[.int .i64 (c1 : Int), .int .i64 (c2 : Int)] 83)
      obtain ⟨-, -, u2, u3, -⟩ := boxEl ((b3.block p2 l2).trans n2)
      rw [HKK.out] at u2
      have v0 : w3.cell? ⟨p3, 0, none⟩ = some (.int .i64 (c1 : Int)) := (cell_of_block n3 0).trans rfl
      have v1 : w3.cell? ⟨p3, 1, none⟩ = some (.int .i64 (c2 : Int)) := (cell_of_block n3 1).trans rfl
      have vf := free_of_block n3
      have cc3 : w3.cell? ⟨pc, 0, none⟩ = some (.map (some mb)) := (Below.cellB b3 (cellLt cc2)).trans cc2
      have HB3 := Lib.hid (HB2.out.trans (b3.mono HB2.out.size))
      have HM3 := Lib.hid (HM2.out.below b3)
      have hfar : ∀ (j : Nat) (v : Value), some p3 = some p3 ∧ w3.grownBy (w3.setCell ⟨p3, j, none⟩ v) (some p3) := fun j v => ⟨rfl, grownBy_setCell w3 p3 j v⟩
      have HF := Lib.hid hfar
      have hp3le : w.heap.size ≤ p3 := by have := HB2.out.size; omega
      have np2 : p2 ≠ p3 := by omega
      have npc : pc ≠ p3 := by have := cellLt cc2; omega
      have nmb : mb ≠ p3 := by have := HM2.out.lt; omega
      have HN3 := Lib.hid (And.intro n2 n3)
      by_cases hk1 : K = 1
      · subst hk1
        rw [show (if ((1 : Int) == 1) = true then 1 else 0) = 1 from rfl, show (if ((1 : Int) == 2) = true then 1 else 0) = 0 from rfl] at HP
        obtain ⟨w4, hw4⟩ : ∃ W, w3.setCell ⟨p3, 0, none⟩ (.int .i64 ((c1 : Int) + 1)) = W := ⟨_, rfl⟩
        have g4 : w3.grownBy w4 (some p3) := hw4 ▸ grownBy_setCell w3 p3 0 _
        have n4 : w4.heap[p3]? = some (.cells #[.int .i64 ((c1 : Int) + 1), .int .i64 (c2 : Int)] 83 (0, 0)) := hw4 ▸ heap_setCell_self _ n3
        have m4 : RawS w4 mb (cntH L) := HM3.out.kept g4 (fun e => nmb (Option.some.inj e))
        obtain ⟨w5, r5, m5, g5'⟩ := HP.out w4 m4
        rw [show cntV (c1 + 1) (c2 + 0) = .agg #[.int .i64 ((c1 : Int) + 1), .int .i64 (c2 : Int)] from rfl] at r5
        have cc4 := grown_cell cc3 g4 (fun e => npc (Option.some.inj e))
        have u34 := grown_cell u3 g4 (fun e => np2 (Option.some.inj e))
        have y0 : w4.cell? ⟨p3, 0, none⟩ = some (.int .i64 ((c1 : Int) + 1)) := (cell_of_block n4 0).trans rfl
        have y1 : w4.cell? ⟨p3, 1, none⟩ = some (.int .i64 (c2 : Int)) := (cell_of_block n4 1).trans rfl
        have HE : Hid (RawS w5 mb (cntH (m.els.take (k + 1))) ∧ w5.cell? ⟨pc, 0, none⟩ = some (.map (some mb)) ∧ Below w.heap.size w w5) := Lib.hid ⟨by rw [HT.out]; exact m5, grown_cell cc4 g5' (fun e => cell_map cc4 m4 (Option.some.inj e)), (HB3.out.grown g4 HB3.out.size (fun r hr => by cases hr; exact hp3le)).grown g5' (HB3.out.grown g4 HB3.out.size (fun r hr => by cases hr; exact hp3le)).size (fun r hr => by cases hr; exact e1)⟩
        clear n2 n3 b3 b2 g4 n4 m4 m5 g5' hfar
        go_wp2_with fail
        go_roundg (gk - 1)
        case measure => omega
        case rel => exact ⟨k + 1, by omega, by go_num, Lib.hid HE.out.1, Lib.hid HE.out.2.1, Lib.hid HE.out.2.2⟩
      · have t1 : (K == 1) = false := beq_eq_false_iff_ne.2 hk1
        by_cases hk2 : K = 2
        · subst hk2
          rw [show (if ((2 : Int) == 1) = true then 1 else 0) = 0 from rfl, show (if ((2 : Int) == 2) = true then 1 else 0) = 1 from rfl] at HP
          obtain ⟨w4, hw4⟩ : ∃ W, w3.setCell ⟨p3, 1, none⟩ (.int .i64 ((c2 : Int) + 1)) = W := ⟨_, rfl⟩
          have g4 : w3.grownBy w4 (some p3) := hw4 ▸ grownBy_setCell w3 p3 1 _
          have n4 : w4.heap[p3]? = some (.cells #[.int .i64 (c1 : Int), .int .i64 ((c2 : Int) + 1)] 83 (0, 0)) := hw4 ▸ heap_setCell_self _ n3
          have m4 : RawS w4 mb (cntH L) := HM3.out.kept g4 (fun e => nmb (Option.some.inj e))
          obtain ⟨w5, r5, m5, g5'⟩ := HP.out w4 m4
          rw [show cntV (c1 + 0) (c2 + 1) = .agg #[.int .i64 (c1 : Int), .int .i64 ((c2 : Int) + 1)] from rfl] at r5
          have cc4 := grown_cell cc3 g4 (fun e => npc (Option.some.inj e))
          have u34 := grown_cell u3 g4 (fun e => np2 (Option.some.inj e))
          have y0 : w4.cell? ⟨p3, 0, none⟩ = some (.int .i64 (c1 : Int)) := (cell_of_block n4 0).trans rfl
          have y1 : w4.cell? ⟨p3, 1, none⟩ = some (.int .i64 ((c2 : Int) + 1)) := (cell_of_block n4 1).trans rfl
          have HE : Hid (RawS w5 mb (cntH (m.els.take (k + 1))) ∧ w5.cell? ⟨pc, 0, none⟩ = some (.map (some mb)) ∧ Below w.heap.size w w5) := Lib.hid ⟨by rw [HT.out]; exact m5, grown_cell cc4 g5' (fun e => cell_map cc4 m4 (Option.some.inj e)), (HB3.out.grown g4 HB3.out.size (fun r hr => by cases hr; exact hp3le)).grown g5' (HB3.out.grown g4 HB3.out.size (fun r hr => by cases hr; exact hp3le)).size (fun r hr => by cases hr; exact e1)⟩
          clear n2 n3 b3 b2 g4 n4 m4 m5 g5' hfar
          go_wp2_with fail
          go_roundg (gk - 1)
          case measure => omega
          case rel => exact ⟨k + 1, by omega, by go_num, Lib.hid HE.out.1, Lib.hid HE.out.2.1, Lib.hid HE.out.2.2⟩
        · have t2 : (K == 2) = false := beq_eq_false_iff_ne.2 hk2
          rw [t1, t2] at HP
          obtain ⟨w5, r5, m5, g5'⟩ := HP.out w3 HM3.out
          rw [show cntV (c1 + (if false = true then 1 else 0)) (c2 + (if false = true then 1 else 0)) = .agg #[.int .i64 (c1 : Int), .int .i64 (c2 : Int)] from rfl] at r5
          have HE : Hid (RawS w5 mb (cntH (m.els.take (k + 1))) ∧ w5.cell? ⟨pc, 0, none⟩ = some (.map (some mb)) ∧ Below w.heap.size w w5) := Lib.hid ⟨by rw [HT.out]; exact m5, grown_cell cc3 g5' (fun e => cell_map cc3 HM3.out (Option.some.inj e)), HB3.out.grown g5' HB3.out.size (fun r hr => by cases hr; exact e1)⟩
          clear n2 n3 b3 b2 m5 g5' hfar hk1 hk2
          go_wp2_with fail
          go_roundg (gk - 1)
          case measure => omega
          case rel => exact ⟨k + 1, by omega, by go_num, Lib.hid HE.out.1, Lib.hid HE.out.2.1, Lib.hid HE.out.2.2⟩
    · obtain rfl : k = m.els.length := by omega
      have hM' := Lib.hid hM.out
      rw [List.take_length] at hM'
      have dk : decide (m.els.length < m.els.length) = false := decide_eq_false hk
      have cc := hC.out
      obtain ⟨ws, ps, hps, hws, ls, ns, bs⟩ := box_new wr (.cells #[.string ⟨#[]⟩] 9)
      have hBs := hB.out.trans (bs.mono hB.out.size)
      have cs := (Below.cellB bs (cellLt cc)).trans cc
      have HM2 : Hid (RawS ws mb (cntH m.els)) := Lib.hid (hM'.out.below bs)
      obtain ⟨-, -, -, z3, -, -, -, -⟩ := (HH.out.mono hBs (Nat.le_refl _)).cells
      rw [HV.out] at z3
      have HST : Hid (ScR w m mb pc [] (.slice (some ⟨ps, 0, none⟩) 1 1) ws) := Lib.hid ⟨⟨by simp [cellsF, cB, scL], .inr ⟨ps, 1, #[.string ⟨#[]⟩], rfl, by have := hB.out.size; omega, ns, Nat.le_refl _, by unfold maxLen; omega, rfl, by simp [cellsF, cB, scL]⟩⟩, HM2.out, cs, hBs⟩
      clear hM ns bs hBs
      go_wp2_with fail
      go_loopg [8, 52] m.els.length (fun g s8 s52 wx => ∃ (k : Nat) (v : Value), k + g = m.els.length ∧ s8 = v ∧ s52 = .int .i64 (k : Int) ∧ Hid (ScR w m mb pc (m.els.take k) v wx))
      case atStart => exact ⟨0, _, by omega, rfl, rfl, HST⟩
      case round =>
        obtain ⟨k, v, hkg, rfl, rfl, hS⟩ := hrel
        obtain ⟨a, cap, hv⟩ := hS.out.own.shape
        subst hv
        by_cases hk : k < m.els.length
        · have hE := (HH.out.mono hS.out.bel (Nat.le_refl _)).md.els
          rw [HV.out] at hE
          obtain ⟨b, o, ha2, hb, hw, h0, h1, h2, h3, h4, h5, h6, h7, h8, h9, h10⟩ := elsR_at hE hk
          have HT := Lib.hid (List.take_succ_eq_append_getElem hk)
          obtain ⟨e, he⟩ : ∃ e, m.els[k] = e := ⟨_, rfl⟩
          rw [he] at HT
          simp only [he] at h0 h1 h2 h3 h4 h5 h6 h7 h8 h9 h10
          obtain ⟨L, hL⟩ : ∃ L, m.els.take k = L := ⟨_, rfl⟩
          have hLl : (scL L).length ≤ 1001 := by
            have h1 := List.length_filter_le isS L
            have h2 : L.length ≤ 1000 := by rw [← hL, List.length_take]; omega
            unfold scL
            rw [List.length_cons, List.length_map]; omega
          rw [hL] at HT hS
          obtain ⟨w2, p2, hp2, hw2, l2, n2, b2⟩ := box_new wr (oEl e)
          have hS2 := hS.out.below b2
          obtain ⟨n, hn⟩ : ∃ n, (scL L).length = n := ⟨_, rfl⟩
          have HS2 := Lib.hid hS2
          have hO : w2.ownsRow w.heap.size 9 1 (.slice a n cap) n (cellsF cB (scL L)) := by
            have := hS2.own
            unfold OwnT OwnF at this
            rw [hn] at this
            exact this
          rw [hn] at HS2
          have HN := Lib.hid hn
          rw [hL, hn]
          rw [hn] at hLl
          obtain ⟨g0, g1, g2, g3, g4, g5, g6, g7, g8, g9, g10⟩ := boxEl n2
          have dk : decide (k < m.els.length) = true := decide_eq_true hk
          have j1 : (0 : Int) ≤ (k : Int) := by omega
          have j2 : (k : Int) < (m.els.length : Int) := by omega
          have hzw : w.heap.size ≤ w2.heap.size := hS2.bel.size
          have hsn := sub_snoc L e
          subst ha2
          clear hE hw he hL hn hS n2 b2 hS2
          by_cases hk10 : e.kind = 10
          · have t10 : (e.kind == 10) = true := beq_iff_eq.2 hk10
            have HSN : Hid (scL (L ++ [e]) = scL L ++ [e.id]) := Lib.hid (by unfold scL; rw [hsn]; unfold isS; rw [t10]; rfl)
            clear hk10 hsn
            go_wp2_with (at_builtin; refine wpList_append_own_at _ rfl _ _ 47 rfl w.heap.size 9 i0 _ 1 16 Tryz.underlying47 hti hz0 hz1 hz2 rfl (by decide) (.slice a n cap) n (cellsF cB (scL L)) rfl (hO.alloc _) _ 1 1 [.string e.id] rfl rfl (cells_new w2 _ _) (by simp [Value.oneCell']) (by unfold maxLen; omega) (by omega) (by simp; omega) ?_; intro v6 w6 hown6 hg6 _ hat6; refine Hid.out ?_)
            refine Lib.hid ?_
            have o6 : OwnT w6 w.heap.size v6 (scL (L ++ [e])) := by rw [HSN.out]; exact ownT_push (by rw [HN.out]; exact hown6)
            have gne : ∀ r, (Value.slice a n cap).ownBlock = some r → w.heap.size ≤ r := fun r hr => ownT_base HS2.out.own r hr
            have b6 : Below w.heap.size w w6 := (HS2.out.bel.alloc hzw _).grown hg6 (Nat.le_trans hzw ((Below.refl w2.heap.size w2).alloc (Nat.le_refl _) _).size) gne
            have ba := (Below.refl w2.heap.size w2).alloc (Nat.le_refl _) (.cells #[.string e.id] 9)
            have mapne : ∀ (q : Nat), (∃ es ck, w2.heap[q]? = some (.map es ck)) → some q ≠ (Value.slice a n cap).ownBlock := fun q ⟨es, ck, hq⟩ e2 => by
              rcases HS2.out.own.val with ⟨e3, _⟩ | ⟨g, c3, e3, _, _⟩
              · rw [e3] at e2; cases e2
              · rw [e3] at e2
                have e2 : some q = some g := e2
                injection e2 with e2
                have h5 := HS2.out.own
                rw [e3] at h5
                obtain ⟨cur, hcur, _⟩ := OwnF.block h5
                rw [← e2, hq] at hcur
                cases hcur
            have m6 : RawS w6 mb (cntH m.els) := (HS2.out.map.below ba).kept hg6 (mapne mb HS2.out.map.isMap)
            have pcne : some pc ≠ (Value.slice a n cap).ownBlock := fun e2 => by
              rcases HS2.out.own.val with ⟨e3, _⟩ | ⟨g, c3, e3, _, _⟩
              · rw [e3] at e2; cases e2
              · rw [e3] at e2
                have e2 : some pc = some g := e2
                injection e2 with e2
                have h5 := HS2.out.own
                rw [e3] at h5
                have h6 := OwnF.at cB_len h5 (i := 0) (j := 0) (by simp [scL]) (by omega)
                rw [← e2, Nat.zero_mul, Nat.add_zero, HS2.out.cell] at h6
                have h6 : some (Value.map (some mb)) = some (Value.string ⟨#[]⟩) := h6
                cases h6
            have c6 : w6.cell? ⟨pc, 0, none⟩ = some (.map (some mb)) := grown_cell ((Below.cellB ba (cellLt HS2.out.cell)).trans HS2.out.cell) hg6 pcne
            have HE : Hid (ScR w m mb pc (m.els.take (k + 1)) v6 w6) := Lib.hid (by rw [HT.out]; exact ⟨o6, m6, c6, b6⟩)
            clear o6 b6 ba m6 c6 hown6 hg6 hat6 gne mapne pcne
            go_wp2_with fail
            go_roundg (gk - 1)
            case measure => omega
            case rel => exact ⟨k + 1, v6, by omega, rfl, by go_num, HE⟩
          · have t10 : (e.kind == 10) = false := beq_eq_false_iff_ne.2 hk10
            have HSN : Hid (scL (L ++ [e]) = scL L) := Lib.hid (by unfold scL; rw [hsn]; unfold isS; rw [t10]; simp)
            have HE : Hid (ScR w m mb pc (m.els.take (k + 1)) (.slice a n cap) w2) := Lib.hid (by
              rw [HT.out]
              have h7 := HS2.out
              exact ⟨by rw [HSN.out]; exact h7.own, h7.map, h7.cell, h7.bel⟩)
            clear hk10 hsn
            go_wp2_with fail
            go_roundg (gk - 1)
            case measure => omega
            case rel => exact ⟨k + 1, _, by omega, rfl, by go_num, HE⟩
        · obtain rfl : k = m.els.length := by omega
          have hE := Lib.hid hS.out
          have dk : decide (m.els.length < m.els.length) = false := decide_eq_false hk
          rw [List.take_length] at hE ⊢
          have hll : (scL m.els).length ≤ 1001 := by
            have h1 := List.length_filter_le isS m.els
            unfold scL
            rw [List.length_cons, List.length_map]; omega
          have hSt : StsR wr wr.heap.size (.slice a (scL m.els).length cap) (scL m.els) := ⟨a, cap, rfl, by omega, OwnF.cap hE.out.own, OwnF.col cB_len hE.out.own (Nat.le_refl _), fun s hs => by
            unfold scL at hs
            rcases List.mem_cons.1 hs with rfl | hs
            · show 0 ≤ _; omega
            · obtain ⟨e, he, rfl⟩ := List.mem_map.1 hs
              exact (HH.out.md.els.ok e (List.mem_filter.1 he).1).id⟩
          have HF := Lib.hid (firstSt (w := wr) (base := wr.heap.size) (row := none) (Nat.le_refl _) (fun _ h => by cases h) (.slice a (scL m.els).length cap) (scL m.els) hSt 77 78 #[] #[.pointer (some ⟨pc, 0, none⟩)] (fun s => s) (fun _ _ => True) (pAt (scopeB m) (scL m.els)) (enters_of Tryz.func77 (by kernel_rfl) rfl) (enters_of Tryz.func78 (by kernel_rfl) rfl) trivial (fun _ _ _ _ _ => trivial) (fun _ h => by cases h)
            (fun i hi W _ => (five1_any (w := W) (scL m.els)[i]).mono fun _ _ h => h)
            (fun i hi W hW _ _ => by
              have hb := below_row (fun _ h => by cases h) (Nat.le_refl wr.heap.size) hW
              refine (five2_any (w := W) ((Below.cellB hb (cellLt hE.out.cell)).trans hE.out.cell) (hE.out.map.below hb) (scL m.els)[i]).mono fun e w' ⟨he, hb2⟩ => ⟨?_, below_grownBy hb2 none, fun _ => trivial⟩
              rw [he, pAt_get hi]
              rfl))
          rw [firstO_firstBad] at HF
          have hr : firstBad (fun s => s) (scopeB m) (scL m.els) = fiveR m := by
            unfold firstBad fiveR scL
            rw [Option.map_id']
          rw [hr, HRR.out] at HF
          have HB := Lib.hid hE.out.bel
          clear hS hSt hr hE
          go_wp2_with (go_at_call 76; refine HF.out.mono ?_; rintro e w9 ⟨rfl, hb9, _⟩; have HB9 := Lib.hid (HB.out.trans ((below_row (fun _ h => by cases h) (Nat.le_refl wr.heap.size) hb9).mono HB.out.size)); clear hb9)
          go_ret2
          exact ⟨rfl, HB9.out⟩
end
end Go.Proofs.YtjcaaahbfkjipaaGreatDoor
