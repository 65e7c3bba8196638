/- Texts fused by fuse.py: KExprPar4. -/
import Derived.Test.YtjcaaahbfkjipaaGreatDoorKZ30
/- Of ExprPar4: what FRuleNames uses (shake.py). -/
set_option maxRecDepth 100000
/- The closures of expr.Parse: brackets (seat expr). -/
namespace Go.Proofs.YtjcaaahbfkjipaaGreatDoor
open Go.RowKit
def tailE (s : List UInt8) (n : Nd) (st2 : Tk × Nat) : Rs (Nd × (Tk × Nat)) :=
  match st2.1 with
  | .say [41] _ => do
    let st3 ← nextE s st2.2
    .ok (n, st3)
  | t => .error (4, t.at_)
theorem brackE_is (s : List UInt8) (f : Nat) (st : Tk × Nat) : brackE s f st = (nextE s st.2 >>= fun st1 => prsE s f none 1 st1 >>= fun r => tailE s r.1 r.2) := by
  unfold brackE tailE
  rfl
theorem tailE_yes {s : List UInt8} {n : Nd} {st2 : Tk × Nat} (h : (sayOf st2.1).data.toList = [41]) : tailE s n st2 = (nextE s st2.2 >>= fun st3 => .ok (n, st3)) := by
  obtain ⟨tk, i⟩ := st2
  cases tk with
  | say u a =>
    have h' : u = [41] := h
    subst h'
    rfl
  | nd m a => cases h
  | fin a => cases h
theorem tailE_no {s : List UInt8} {n : Nd} {st2 : Tk × Nat} (h : ¬ (sayOf st2.1).data.toList = [41]) : tailE s n st2 = .error (4, st2.1.at_) := by
  obtain ⟨tk, i⟩ := st2
  unfold tailE
  simp only
  split
  · exact absurd rfl h
  · rfl
/-- What stands behind the part within the brackets. -/
def TailR (w : World) (px : Nat) (s : ByteArray) (p0 : Nat) (n : Nd) (vk : Value) (r : Rs (Nd × (Tk × Nat))) : Prop :=
  (∃ (x : Int) (y : Nat), x ≠ 0 ∧ LxE w px s x (y : Int) ∧ r = .error (x, y)) ∨ (∃ st2, LxT w px s st2 ∧ StW s.data.toList.length st2 ∧ MadeR w (fun b => p0 + 1 ≤ b) vk n.kids ∧ HeadW n ∧ r = tailE s.data.toList n st2)
set_option maxHeartbeats 8000000 in
theorem brack_any {s : ByteArray} (hs : s.size ≤ 256) {B px cx cf c7 c8 c9 c10 f : Nat} (HF : FromC s B px cx cf c7 c8 c9 c10 f) {w : World} (hX : PX w B px cx cf c7 c8 c9 c10) {st : Tk × Nat} (hlx : LxT w px s st) (hst : StW s.data.toList.length st) (hfin : isFin st.1 = false) (hmu : mu s.data.toList.length st ≤ f) :
    Calls Tryz.prog 129 #[.pointer (some ⟨cx, 0, none⟩), .pointer (some ⟨cf, 0, none⟩)] w (PartC w px s (brackE s.data.toList f st)) := by
  obtain ⟨w1, p0, hp0, hw1, l0, n0, b0⟩ := box_new w nilObj
  have hX1 := hX.below b0
  obtain ⟨c, hc⟩ := hlx.lex
  have hpx := lt_of_block hc
  have hlx1 := hlx.kept (b0.block _ hpx)
  have k0 : w1.cell? ⟨cx, 0, none⟩ = some (.pointer (some ⟨px, 0, none⟩)) := cell_of_block hX1.pw.hx 0
  have HB := Lib.hid b0
  have HX1 := Lib.hid hX1
  have HN0 := Lib.hid n0
  have HLX := Lib.hid hlx1
  have HP0 := Lib.hid hp0
  have HBR := Lib.hid (brackE_is s.data.toList f st)
  have hpx0 : px < p0 := by omega
  clear hX hX1 hlx hlx1 hc b0 n0
  go_enter Tryz.func129, Tryz.ntmps129
  go_upto_region 1 with fail
  go_cut [] (fun wx => ∃ w2, w2 = wx ∧ Frm [some px] w1 w2 ∧ nextR w2 px s (nextE s.data.toList st.2))
  case first =>
    go_wp2_with (go_at_call 125; refine (nextT HX1.out hs HLX.out hst).mono ?_; rintro e w2 ⟨rfl, hF2, hn2⟩)
    go_meet
    exact ⟨_, rfl, hF2, hn2⟩
  case rest =>
    obtain ⟨w2, rfl, hF2, hn2⟩ := hcut
    have hlex2 : ∃ c, w2.heap[px]? = some (.cells c 125 (0, 0)) := by
      cases hne : nextE s.data.toList st.2 with
      | error x => rw [hne] at hn2; exact LxE.lex hn2
      | ok st1 => rw [hne] at hn2; exact LxT.lex hn2
    have hX2 := HX1.out.kept hF2 hlex2
    have k2 : w2.cell? ⟨cf, 0, none⟩ = some (.func (.func 131) #[] #[.pointer (some ⟨cx, 0, none⟩), .pointer (some ⟨c10, 0, none⟩), .pointer (some ⟨cf, 0, none⟩)]) := cell_of_block hX2.pw.hf 0
    have HX2 := Lib.hid hX2
    have HF2 := Lib.hid hF2
    have HN2 := Lib.hid hn2
    clear hF2 hn2 hX2 hlex2
    go_upto_region 2 with fail
    go_cut [3] (fun s3 wx => ∃ w4 p1 n a c d, w4 = wx ∧ s3 = .pointer (some ⟨p1, 0, none⟩) ∧ Hid (w4.heap[p1]? = some (.cells #[.int .u8 n.op, .int .u8 n.v.kind, .int .i64 n.v.num, .bool n.v.tr, .string n.v.text, .string n.name, .slice a c d] 108 (0, 0))) ∧ p0 < p1 ∧ Hid (Frm [some px] w1 w4) ∧ Hid (TailR w4 px s p0 n (.slice a c d) (brackE s.data.toList f st)))
    case first =>
      cases hne : nextE s.data.toList st.2 with
      | error x =>
        obtain ⟨x, y⟩ := x
        have hx0 : x ≠ 0 := by have := (nextE_err hne).1; omega
        have hbr : Hid (brackE s.data.toList f st = .error (x, y)) := Lib.hid (by rw [HBR.out, bind_no hne])
        have hl2 : Hid (LxE w2 px s x (y : Int)) := Lib.hid (by have := HN2.out; rw [hne] at this; exact this)
        have HX0 := Lib.hid hx0
        clear hne hx0
        go_wp2_with (go_at_call 131; refine (fromerr_any HX2.out HX0.out hl2.out _).mono ?_; rintro e w3 ⟨rfl, hb3⟩; have HB3 := Lib.hid hb3; clear hb3)
        go_meet
        obtain ⟨cc, hcc⟩ := hl2.out.lex
        have hl3 := hl2.out.kept (HB3.out.block _ (lt_of_block hcc))
        have hz3 := HB3.out.size
        have hz2 := HF2.out.size
        refine ⟨_, w3.heap.size, nilN, none, 0, 0, rfl, rfl, Lib.hid (heap_alloc_new w3 _), by omega, Lib.hid ((HF2.out.below HB3.out).below ((Below.refl _ _).alloc (Nat.le_refl _) _)), Lib.hid (.inl ⟨x, y, HX0.out, hl3.kept (((Below.refl _ _).alloc (Nat.le_refl _) _).block _ (by omega)), hbr.out⟩)⟩
      | ok st1 =>
        have hst1 := next_stw (by have := sl_len s; omega) hst.1 hne
        have hm1 := next_mu (by have := sl_len s; omega) hst.1 hfin hne
        have hlt : mu s.data.toList.length st1 < f := by omega
        have hl2 : Hid (LxT w2 px s st1) := Lib.hid (by have := HN2.out; rw [hne] at this; exact this)
        have hbr : Hid (brackE s.data.toList f st = (prsE s.data.toList f none 1 st1 >>= fun r => tailE s.data.toList r.1 r.2)) := Lib.hid (by rw [HBR.out, bind_is hne])
        have HST := Lib.hid hst1
        clear hne hst1 hm1
        go_wp2_with (go_at_call 131; refine (HF _ 1 st1 HX2.out hl2.out HST.out (by omega) hlt).mono ?_; rintro e w3 ⟨n, a, c3, d, rfl, hF23, hr3⟩; have H3 := Lib.hid (And.intro hF23 hr3); clear hF23 hr3)
        go_meet
        have hz2 := HF2.out.size
        have hz3 := H3.out.1.size
        have hal := (Below.refl w3.heap.size w3).alloc (Nat.le_refl _) (.cells #[.int .u8 n.op, .int .u8 n.v.kind, .int .i64 n.v.num, .bool n.v.tr, .string n.v.text, .string n.name, .slice a c3 d] 108)
        have hpk := hal.block px (by omega)
        refine ⟨_, w3.heap.size, n, a, c3, d, rfl, rfl, Lib.hid (heap_alloc_new w3 _), by omega, Lib.hid ((HF2.out.trans H3.out.1 (by intro r hr; exact .inl hr)).below hal), Lib.hid ?_⟩
        have hr3 := H3.out.2
        rw [hbr.out]
        cases hq : prsE s.data.toList f none 1 st1 with
        | error x =>
          rw [hq] at hr3
          obtain ⟨x, y⟩ := x
          rw [bind_no rfl]
          exact .inl ⟨x, y, hr3.2, hr3.1.kept hpk, rfl⟩
        | ok r =>
          obtain ⟨m, st2⟩ := r
          rw [hq] at hr3
          obtain ⟨rfl, h2, h3, h4, h5⟩ := hr3
          rw [bind_is rfl]
          exact .inr ⟨st2, h4.kept hpk, h5, (h2.keptB hal).weak (fun b _ hb => by omega), h3, rfl⟩
    case rest =>
      obtain ⟨w4, p1, n, a, c4, d, rfl, rfl, hN4, hp1, hF4, hT⟩ := hcut
      have hz4 := hF4.out.size
      have hl1 := lt_of_block hN4.out
      have hm4 : Hid (w4.heap[p0]? = some nilObj) := Lib.hid (hF4.out.block HN0.out (by intro r hr e; simp only [List.mem_singleton] at hr; rw [hr] at e; injection e with e; omega))
      have hX4 : PX w4 B px cx cf c7 c8 c9 c10 := by
        refine HX1.out.kept hF4.out ?_
        rcases hT.out with ⟨x, y, hx, hlE, hbr⟩ | ⟨st2, hlT, hst2, hmk, hhw, hbr⟩
        · exact hlE.lex
        · exact hlT.lex
      have kx4 : w4.cell? ⟨cx, 0, none⟩ = some (.pointer (some ⟨px, 0, none⟩)) := cell_of_block hX4.pw.hx 0
      have HX4 := Lib.hid hX4
      have hpl4 : px < w4.heap.size := by omega
      obtain ⟨sy, ta, k9, k10, hcase⟩ : ∃ (sy : ByteArray) (ta : Int), w4.cell? ⟨px, 9, none⟩ = some (.string sy) ∧ w4.cell? ⟨px, 10, none⟩ = some (.int .i64 ta) ∧
          ((sy.data.toList ≠ [41] ∧ ∃ (X : Int) (Y : Nat), X ≠ 0 ∧ brackE s.data.toList f st = .error (X, Y) ∧ ∀ W, Below w4.heap.size w4 W → Calls Tryz.prog 128 #[.pointer (some ⟨px, 0, none⟩), .int .i64 4, .int .i64 ta] W fun r w' => r = .returned (.tuple #[]) ∧ Frm [some px] W w' ∧ LxE w' px s X (Y : Int) ∧ w'.cell? ⟨px, 10, none⟩ = W.cell? ⟨px, 10, none⟩) ∨
           (sy.data.toList = [41] ∧ ∃ (X : Int) (Y : Nat), X ≠ 0 ∧ brackE s.data.toList f st = .error (X, Y) ∧ LxE w4 px s X (Y : Int)) ∨
           (sy.data.toList = [41] ∧ ∃ st2, LxT w4 px s st2 ∧ StW s.data.toList.length st2 ∧ MadeR w4 (fun b => p0 + 1 ≤ b) (.slice a c4 d) n.kids ∧ HeadW n ∧ brackE s.data.toList f st = (nextE s.data.toList st2.2 >>= fun st3 => .ok (n, st3)))) := by
        rcases hT.out with ⟨x, y, hx, hlE, hbr⟩ | ⟨st2, hlT, hst2, hmk, hhw, hbr⟩
        · obtain ⟨say, ta, _, q9, q10⟩ := hlE.c9
          refine ⟨say, ta, q9, q10, ?_⟩
          by_cases h41 : say.data.toList = [41]
          · exact .inr (.inl ⟨h41, x, y, hx, hbr, hlE⟩)
          · exact .inl ⟨h41, x, y, hx, hbr, fun W hW => failX hx (hlE.kept (hW.block _ hpl4)) _ _⟩
        · refine ⟨_, _, hlT.c9, hlT.c10, ?_⟩
          by_cases h41 : (sayOf st2.1).data.toList = [41]
          · exact .inr (.inr ⟨h41, st2, hlT, hst2, hmk, hhw, hbr.trans (tailE_yes h41)⟩)
          · exact .inl ⟨h41, 4, st2.1.at_, by decide, hbr.trans (tailE_no h41), fun W hW => failT (hlT.kept (hW.block _ hpl4)) hst2 _ _⟩
      have s41 : (sy.toList == [41]) = decide (sy.data.toList = [41]) := by rw [Lib.toList_data]; exact beq_dec _ _
      have s41n : (sy.toList != [41]) = !decide (sy.data.toList = [41]) := by rw [← s41]; rfl
      clear hT hX4
      rcases hcase with ⟨h41, X, Y, hX0, hbr, hfl⟩ | ⟨h41, X, Y, hX0, hbr, hlE⟩ | ⟨h41, st2, hlT, hst2, hmk, hhw, hbr⟩
      · rw [decide_eq_false h41] at s41 s41n
        have HFL := Lib.hid hfl
        have HBR2 := Lib.hid hbr
        have HX0 := Lib.hid hX0
        clear h41 hX0 hbr hfl
        go_upto_region 4 with fail
        go_cut [] (fun wx => ∃ w5, w5 = wx ∧ Hid (Frm [some px] w4 w5) ∧ Hid (LxE w5 px s X (Y : Int)))
        case first =>
          go_region_held3 (fun w' => w'.cell? ⟨cx, 0, none⟩ = some (.pointer (some ⟨px, 0, none⟩)) ∧ w'.cell? ⟨px, 10, none⟩ = some (.int .i64 ta)) (first | go_keep | exact ⟨qcx, q10⟩) (first | (go_at_call 128; refine (HFL.out _ (Below.drew (Below.refl _ _))).mono ?_; rintro e w5 ⟨rfl, hF5, hb5, he5⟩; have q10 : w5.cell? ⟨px, 10, none⟩ = some (.int .i64 ta) := he5.trans k10; have qcx : w5.cell? ⟨cx, 0, none⟩ = some (.pointer (some ⟨px, 0, none⟩)) := cell_of_block ((HX4.out.below (Below.drew (Below.refl _ _))).kept hF5 hb5.lex).pw.hx 0; have H5 := Lib.hid (And.intro hF5 hb5); clear hF5 hb5 he5))
          all_goals
            go_wp2_with fail
            go_meet
            exact ⟨_, rfl, Lib.hid ((Frm.ofBelow (Below.drew (Below.refl _ _))).trans H5.out.1 (by intro r hr; exact .inl hr)), Lib.hid H5.out.2⟩
        case rest =>
          obtain ⟨w5, rfl, hF5, hl5⟩ := hcut
          have hz5 := hF5.out.size
          have kx5 : w5.cell? ⟨cx, 0, none⟩ = some (.pointer (some ⟨px, 0, none⟩)) := cell_of_block (HX4.out.kept hF5.out hl5.out.lex).pw.hx 0
          clear HFL
          go_wp2_with (go_at_call 125; refine (nextX hs HX0.out hl5.out).mono ?_; rintro e w6 ⟨rfl, hF6, hn6⟩; have hF46 := hF5.out.trans hF6 (by intro r hr; exact .inl hr); have m0 := hF46.block hm4.out (by intro r hr e; simp only [List.mem_singleton] at hr; rw [hr] at e; injection e with e; omega); have m1 := hF46.block hN4.out (by intro r hr e; simp only [List.mem_singleton] at hr; rw [hr] at e; injection e with e; omega); obtain ⟨d0, d1, d2, d3, d4, d5, d6, df⟩ := n7_cells m0; obtain ⟨g0, g1, g2, g3, g4, g5, g6, gf⟩ := n7_cells m1; have HF46 := Lib.hid hF46; have H6 := Lib.hid (And.intro (hF4.out.trans hF46 (by intro r hr; exact .inl hr)) hn6); clear hF46 hF6 hn6 m0 m1)
          refine bodyPost_ret (v := valN n (.slice a c4 d)) (by simp [results, Tryz.results129, go_sem, d0, d1, d2, d3, d4, d5, d6]) rfl ?_
          have hd := put_done (w := w) (w3 := w6) (p0 := p0) (lo := p0 + 1) (n := n) (vk := .slice a c4 d) (s := s) (r := .error (X, Y)) HP0.out hpx (Nat.le_refl _) ((Frm.ofBelow HB.out).trans H6.out.1 (by intro r hr; exact .inl hr)) ⟨H6.out.2, HX0.out⟩
          rw [HBR2.out]
          exact ⟨_, _, _, _, rfl, hd.1, hd.2⟩
      · rw [decide_eq_true h41] at s41 s41n
        have HLE := Lib.hid hlE
        have HBR2 := Lib.hid hbr
        have HX0 := Lib.hid hX0
        clear h41 hX0 hbr hlE
        go_wp2_with (go_at_call 125; refine (nextX hs HX0.out HLE.out).mono ?_; rintro e w6 ⟨rfl, hF6, hn6⟩; have hF46 := hF6; have m0 := hF46.block hm4.out (by intro r hr e; simp only [List.mem_singleton] at hr; rw [hr] at e; injection e with e; omega); have m1 := hF46.block hN4.out (by intro r hr e; simp only [List.mem_singleton] at hr; rw [hr] at e; injection e with e; omega); obtain ⟨d0, d1, d2, d3, d4, d5, d6, df⟩ := n7_cells m0; obtain ⟨g0, g1, g2, g3, g4, g5, g6, gf⟩ := n7_cells m1; have HF46 := Lib.hid hF46; have H6 := Lib.hid (And.intro (hF4.out.trans hF46 (by intro r hr; exact .inl hr)) hn6); clear hF46 hF6 hn6 m0 m1)
        refine bodyPost_ret (v := valN n (.slice a c4 d)) (by simp [results, Tryz.results129, go_sem, d0, d1, d2, d3, d4, d5, d6]) rfl ?_
        have hd := put_done (w := w) (w3 := w6) (p0 := p0) (lo := p0 + 1) (n := n) (vk := .slice a c4 d) (s := s) (r := .error (X, Y)) HP0.out hpx (Nat.le_refl _) ((Frm.ofBelow HB.out).trans H6.out.1 (by intro r hr; exact .inl hr)) ⟨H6.out.2, HX0.out⟩
        rw [HBR2.out]
        exact ⟨_, _, _, _, rfl, hd.1, hd.2⟩
      · rw [decide_eq_true h41] at s41 s41n
        have HLT := Lib.hid hlT
        have HBR2 := Lib.hid hbr
        have HM := Lib.hid (And.intro hmk hhw)
        clear h41 hbr hlT hmk hhw
        go_wp2_with (go_at_call 125; refine (nextT HX4.out hs HLT.out hst2).mono ?_; rintro e w6 ⟨rfl, hF6, hn6⟩; have hF46 := hF6; have m0 := hF46.block hm4.out (by intro r hr e; simp only [List.mem_singleton] at hr; rw [hr] at e; injection e with e; omega); have m1 := hF46.block hN4.out (by intro r hr e; simp only [List.mem_singleton] at hr; rw [hr] at e; injection e with e; omega); obtain ⟨d0, d1, d2, d3, d4, d5, d6, df⟩ := n7_cells m0; obtain ⟨g0, g1, g2, g3, g4, g5, g6, gf⟩ := n7_cells m1; have HF46 := Lib.hid hF46; have H6 := Lib.hid (And.intro (hF4.out.trans hF46 (by intro r hr; exact .inl hr)) hn6); clear hF46 hF6 hn6 m0 m1)
        refine bodyPost_ret (v := valN n (.slice a c4 d)) (by simp [results, Tryz.results129, go_sem, d0, d1, d2, d3, d4, d5, d6]) rfl ?_
        have hd := put_done (w := w) (w3 := w6) (p0 := p0) (lo := p0 + 1) (n := n) (vk := .slice a c4 d) (s := s) (r := brackE s.data.toList f st) HP0.out hpx (Nat.le_refl _) ((Frm.ofBelow HB.out).trans H6.out.1 (by intro r hr; exact .inl hr)) (by
          rw [HBR2.out]
          have hn6 := H6.out.2
          cases hne : nextE s.data.toList st2.2 with
          | error x =>
            obtain ⟨x, y⟩ := x
            rw [hne] at hn6
            rw [bind_no rfl]
            exact ⟨hn6, by have := (nextE_err hne).1; omega⟩
          | ok st3 =>
            rw [hne] at hn6
            rw [bind_is rfl]
            exact ⟨rfl, HM.out.1.kept HF46.out (fun b hb r hr => by simp only [List.mem_singleton] at hr; subst hr; intro e; injection e with e; omega), HM.out.2, hn6, next_stw (by have := sl_len s; omega) hst2.1 hne⟩)
        exact ⟨_, _, _, _, rfl, hd.1, hd.2⟩
end Go.Proofs.YtjcaaahbfkjipaaGreatDoor
