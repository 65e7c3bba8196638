/- EvalLaws: the walk. -/
import Derived.Test.YtjfiijbmkcfooaaDoorEvalGood2
set_option maxRecDepth 100000
namespace Go.Proofs.YtjfiijbmkcfooaaDoor
open Go.RowKit

theorem Good.re {w : World} {L : List (Value × Nd)} {M : List (Value × List Bd)} {W : World} (h : Good w L M W) : Good W L M W := ⟨Below.refl _ _, h.nds, h.bds, h.tabs⟩
theorem works_good {w : World} {L : List (Value × Nd)} {M : List (Value × List Bd)} {W : World} (h : Good w L M W) :
    Calls Tryd.prog 7 #[] W fun e w' => e = .returned (.bool true) ∧ Good w L M w' :=
  (works_any W h.tabs).mono fun _ _ ⟨he, hbe⟩ => ⟨he, h.to hbe⟩
def NdC2 (V : World) (p0 p1 : Nat) (a b : Nd) (va vb : Value) : Prop := V.cell? ⟨p0, 0, none⟩ = some (.int .u8 a.op) ∧ V.cell? ⟨p0, 1, none⟩ = some (.int .u8 a.v.kind) ∧ V.cell? ⟨p0, 2, none⟩ = some (.int .i64 a.v.num) ∧ V.cell? ⟨p0, 3, none⟩ = some (.bool a.v.tr) ∧ V.cell? ⟨p0, 4, none⟩ = some (.string a.v.text) ∧ V.cell? ⟨p0, 5, none⟩ = some (.string a.name) ∧ V.cell? ⟨p0, 6, none⟩ = some (va) ∧ V.cell? ⟨p1, 0, none⟩ = some (.int .u8 b.op) ∧ V.cell? ⟨p1, 1, none⟩ = some (.int .u8 b.v.kind) ∧ V.cell? ⟨p1, 2, none⟩ = some (.int .i64 b.v.num) ∧ V.cell? ⟨p1, 3, none⟩ = some (.bool b.v.tr) ∧ V.cell? ⟨p1, 4, none⟩ = some (.string b.v.text) ∧ V.cell? ⟨p1, 5, none⟩ = some (.string b.name) ∧ V.cell? ⟨p1, 6, none⟩ = some (vb)
theorem boxes_two (w : World) (a b : Nd) (va vb : Value) : ∃ (w0 w1 : World) (p0 p1 : Nat), w.heap.size = p0 ∧ w.alloc (objN a.op a.v a.name va) = w0 ∧ w0.heap.size = p1 ∧ w0.alloc (objN b.op b.v b.name vb) = w1 ∧ p0 < w1.heap.size ∧ p1 < w1.heap.size ∧ Below w.heap.size w w1 ∧ Hid (∀ V, Below w1.heap.size w1 V → NdC2 V p0 p1 a b va vb) := by
  obtain ⟨w0, p0, hp0, hw0, l0, n0, b0⟩ := box_new w (objN a.op a.v a.name va)
  obtain ⟨w1, p1, hp1, hw1, l1, n1, b1⟩ := box_new w0 (objN b.op b.v b.name vb)
  have l01 : p0 < w1.heap.size := by have := b1.size; omega
  refine ⟨w0, w1, p0, p1, hp0, hw0, hp1, hw1, l01, l1, b0.trans (b1.mono b0.size), Lib.hid fun V h => ?_⟩
  obtain ⟨c0, c1, c2, c3, c4, c5, c6⟩ := n_cells ((h.block p0 l01).trans ((b1.block p0 (by omega)).trans n0))
  obtain ⟨e0, e1, e2, e3, e4, e5, e6⟩ := n_cells ((h.block p1 l1).trans n1)
  exact ⟨c0, c1, c2, c3, c4, c5, c6, e0, e1, e2, e3, e4, e5, e6⟩

section
variable (W : World) (hT : Tabs8 W) (a b : Nd) (va vb vv : Value) (l : List Bd) (ha : NdR W W.heap.size va a) (hb : NdR W W.heap.size vb b) (hl : BdsR W W.heap.size vv l)
include hT ha hb hl
set_option maxHeartbeats 4000000 in
theorem evalLaws_out (h : deepB 60 a = true ∨ deepB 60 b = true ∨ checkN a = false ∨ checkN b = false) :
    Calls Tryd.prog 3 #[valN a va, valN b vb, vv] W fun e w' => e = .returned (.bool true) ∧ Below W.heap.size W w' := by
  obtain ⟨w0, w1, p0, p1, hp0, hw0, hp1, hw1, l0, l1, hb1, HP⟩ := boxes_two W a b va vb
  have cur : Good w1 [(va, a), (vb, b)] [(vv, l)] w1 := ⟨Below.refl _ _, by simp; exact ⟨ha.to hb1, hb.to hb1⟩, by simp; exact hl.to hb1, Utf8Tabs_below hT hb1⟩
  have HB := Lib.hid hb1
  obtain ⟨c0, c1, c2, c3, c4, c5, c6, e0, e1, e2, e3, e4, e5, e6⟩ := HP.out w1 (Below.refl _ _)
  cases d1 : deepB 60 a with
  | true =>
    have D1 := Lib.hid d1
    clear d1 h ha hb hl hT hb1
    go_enter Tryd.func3, Tryd.ntmps3
    go_wp2_with (first
          | (go_at_call 7; refine (works_good cur).mono ?_; rintro e wz ⟨rfl, cur⟩; clear c0 c1 c2 c3 c4 c5 c6 e0 e1 e2 e3 e4 e5 e6; obtain ⟨c0, c1, c2, c3, c4, c5, c6, e0, e1, e2, e3, e4, e5, e6⟩ := HP.out _ cur.below)
          | (go_at_call 8; refine (deep_good cur (by simp) (by first | exact D1.out | exact D2.out)).mono ?_; rintro e wz ⟨rfl, cur⟩; clear c0 c1 c2 c3 c4 c5 c6 e0 e1 e2 e3 e4 e5 e6; obtain ⟨c0, c1, c2, c3, c4, c5, c6, e0, e1, e2, e3, e4, e5, e6⟩ := HP.out _ cur.below)
          | (go_at_call 9; refine (check_good cur (by simp) (by first | exact D3.out | exact D4.out)).mono ?_; rintro e wz ⟨rfl, cur⟩; clear c0 c1 c2 c3 c4 c5 c6 e0 e1 e2 e3 e4 e5 e6; obtain ⟨c0, c1, c2, c3, c4, c5, c6, e0, e1, e2, e3, e4, e5, e6⟩ := HP.out _ cur.below))
    go_ret
    exact ⟨rfl, HB.out.trans (cur.below.mono HB.out.size)⟩
  | false =>
    cases d2 : deepB 60 b with
    | true =>
      have D1 := Lib.hid d1
      have D2 := Lib.hid d2
      clear d1 d2 h ha hb hl hT hb1
      go_enter Tryd.func3, Tryd.ntmps3
      go_wp2_with (first
            | (go_at_call 7; refine (works_good cur).mono ?_; rintro e wz ⟨rfl, cur⟩; clear c0 c1 c2 c3 c4 c5 c6 e0 e1 e2 e3 e4 e5 e6; obtain ⟨c0, c1, c2, c3, c4, c5, c6, e0, e1, e2, e3, e4, e5, e6⟩ := HP.out _ cur.below)
            | (go_at_call 8; refine (deep_good cur (by simp) (by first | exact D1.out | exact D2.out)).mono ?_; rintro e wz ⟨rfl, cur⟩; clear c0 c1 c2 c3 c4 c5 c6 e0 e1 e2 e3 e4 e5 e6; obtain ⟨c0, c1, c2, c3, c4, c5, c6, e0, e1, e2, e3, e4, e5, e6⟩ := HP.out _ cur.below)
            | (go_at_call 9; refine (check_good cur (by simp) (by first | exact D3.out | exact D4.out)).mono ?_; rintro e wz ⟨rfl, cur⟩; clear c0 c1 c2 c3 c4 c5 c6 e0 e1 e2 e3 e4 e5 e6; obtain ⟨c0, c1, c2, c3, c4, c5, c6, e0, e1, e2, e3, e4, e5, e6⟩ := HP.out _ cur.below))
      go_ret
      exact ⟨rfl, HB.out.trans (cur.below.mono HB.out.size)⟩
    | false =>
      cases d3 : checkN a with
      | false =>
        have D1 := Lib.hid d1
        have D2 := Lib.hid d2
        have D3 := Lib.hid d3
        clear d1 d2 d3 h ha hb hl hT hb1
        go_enter Tryd.func3, Tryd.ntmps3
        go_wp2_with (first
              | (go_at_call 7; refine (works_good cur).mono ?_; rintro e wz ⟨rfl, cur⟩; clear c0 c1 c2 c3 c4 c5 c6 e0 e1 e2 e3 e4 e5 e6; obtain ⟨c0, c1, c2, c3, c4, c5, c6, e0, e1, e2, e3, e4, e5, e6⟩ := HP.out _ cur.below)
              | (go_at_call 8; refine (deep_good cur (by simp) (by first | exact D1.out | exact D2.out)).mono ?_; rintro e wz ⟨rfl, cur⟩; clear c0 c1 c2 c3 c4 c5 c6 e0 e1 e2 e3 e4 e5 e6; obtain ⟨c0, c1, c2, c3, c4, c5, c6, e0, e1, e2, e3, e4, e5, e6⟩ := HP.out _ cur.below)
              | (go_at_call 9; refine (check_good cur (by simp) (by first | exact D3.out | exact D4.out)).mono ?_; rintro e wz ⟨rfl, cur⟩; clear c0 c1 c2 c3 c4 c5 c6 e0 e1 e2 e3 e4 e5 e6; obtain ⟨c0, c1, c2, c3, c4, c5, c6, e0, e1, e2, e3, e4, e5, e6⟩ := HP.out _ cur.below))
        go_ret
        exact ⟨rfl, HB.out.trans (cur.below.mono HB.out.size)⟩
      | true =>
        cases d4 : checkN b with
        | false =>
          have D1 := Lib.hid d1
          have D2 := Lib.hid d2
          have D3 := Lib.hid d3
          have D4 := Lib.hid d4
          clear d1 d2 d3 d4 h ha hb hl hT hb1
          go_enter Tryd.func3, Tryd.ntmps3
          go_wp2_with (first
                | (go_at_call 7; refine (works_good cur).mono ?_; rintro e wz ⟨rfl, cur⟩; clear c0 c1 c2 c3 c4 c5 c6 e0 e1 e2 e3 e4 e5 e6; obtain ⟨c0, c1, c2, c3, c4, c5, c6, e0, e1, e2, e3, e4, e5, e6⟩ := HP.out _ cur.below)
                | (go_at_call 8; refine (deep_good cur (by simp) (by first | exact D1.out | exact D2.out)).mono ?_; rintro e wz ⟨rfl, cur⟩; clear c0 c1 c2 c3 c4 c5 c6 e0 e1 e2 e3 e4 e5 e6; obtain ⟨c0, c1, c2, c3, c4, c5, c6, e0, e1, e2, e3, e4, e5, e6⟩ := HP.out _ cur.below)
                | (go_at_call 9; refine (check_good cur (by simp) (by first | exact D3.out | exact D4.out)).mono ?_; rintro e wz ⟨rfl, cur⟩; clear c0 c1 c2 c3 c4 c5 c6 e0 e1 e2 e3 e4 e5 e6; obtain ⟨c0, c1, c2, c3, c4, c5, c6, e0, e1, e2, e3, e4, e5, e6⟩ := HP.out _ cur.below))
          go_ret
          exact ⟨rfl, HB.out.trans (cur.below.mono HB.out.size)⟩
        | true =>
          exfalso
          rw [d1, d2, d3, d4] at h
          simp at h

set_option maxHeartbeats 8000000 in
theorem evalLaws_in (d1 : deepB 60 a = false) (d2 : deepB 60 b = false) (d3 : checkN a = true) (d4 : checkN b = true) :
    Calls Tryd.prog 3 #[valN a va, valN b vb, vv] W fun e w' => e = .returned (.bool true) ∧ Below W.heap.size W w' := by
  obtain ⟨w0, w1, p0, p1, hp0, hw0, hp1, hw1, l0, l1, hb1, HP⟩ := boxes_two W a b va vb
  have cur : Good w1 [(va, a), (vb, b)] [(vv, l)] w1 := ⟨Below.refl _ _, by simp; exact ⟨ha.to hb1, hb.to hb1⟩, by simp; exact hl.to hb1, Utf8Tabs_below hT hb1⟩
  have G0 := Lib.hid cur
  have HB := Lib.hid hb1
  obtain ⟨c0, c1, c2, c3, c4, c5, c6, e0, e1, e2, e3, e4, e5, e6⟩ := HP.out w1 (Below.refl _ _)
  obtain ⟨k1, k2, k3⟩ := laws_1 (l := l) d3 d4
  have S1 := Lib.hid (sameE_of k1)
  have S2 := Lib.hid (sameE_of k2)
  have S3 := Lib.hid (sameE_of k3)
  have HL2 := Lib.hid (fun h1 h2 => laws_2 (l := l) d3 d4 h1 h2)
  have HL3 := Lib.hid (fun h1 h2 h3 h4 => laws_3 (l := l) d3 d4 h1 h2 h3 h4)
  have EX := Lib.hid (ev_is (l := l) d3)
  have EY := Lib.hid (ev_is (l := l) d4)
  obtain ⟨x, hx⟩ : ∃ x, evalN l a = x := ⟨_, rfl⟩
  obtain ⟨y, hy⟩ : ∃ y, evalN l b = y := ⟨_, rfl⟩
  rw [hx] at EX HL2 HL3
  rw [hy] at EY HL2 HL3
  obtain ⟨xv, xe⟩ := x
  obtain ⟨yv, ye⟩ := y
  have D1 := Lib.hid d1
  have D2 := Lib.hid d2
  have D3 := Lib.hid d3
  have D4 := Lib.hid d4
  clear d1 d2 d3 d4 ha hb hl hT hb1 k1 k2 k3 hx hy
  go_enter Tryd.func3, Tryd.ntmps3
  go_wp2_with (first
        | (go_at_call 7; refine (works_good cur).mono ?_; rintro e wz ⟨rfl, cur⟩; clear c0 c1 c2 c3 c4 c5 c6 e0 e1 e2 e3 e4 e5 e6; obtain ⟨c0, c1, c2, c3, c4, c5, c6, e0, e1, e2, e3, e4, e5, e6⟩ := HP.out _ cur.below)
        | (go_at_call 8; refine (deep_good cur (by simp) (by first | exact D1.out | exact D2.out)).mono ?_; rintro e wz ⟨rfl, cur⟩; clear c0 c1 c2 c3 c4 c5 c6 e0 e1 e2 e3 e4 e5 e6; obtain ⟨c0, c1, c2, c3, c4, c5, c6, e0, e1, e2, e3, e4, e5, e6⟩ := HP.out _ cur.below)
        | (go_at_call 9; refine (check_good cur (by simp) (by first | exact D3.out | exact D4.out)).mono ?_; rintro e wz ⟨rfl, cur⟩; clear c0 c1 c2 c3 c4 c5 c6 e0 e1 e2 e3 e4 e5 e6; obtain ⟨c0, c1, c2, c3, c4, c5, c6, e0, e1, e2, e3, e4, e5, e6⟩ := HP.out _ cur.below))
  have cur := cur.to ((Below.refl _ _).drew)
  clear c0 c1 c2 c3 c4 c5 c6 e0 e1 e2 e3 e4 e5 e6
  go_region_held3 (fun w' => w'.cell? ⟨p0, 0, none⟩ = some (.int .u8 a.op) ∧ w'.cell? ⟨p0, 1, none⟩ = some (.int .u8 a.v.kind) ∧ w'.cell? ⟨p0, 2, none⟩ = some (.int .i64 a.v.num) ∧ w'.cell? ⟨p0, 3, none⟩ = some (.bool a.v.tr) ∧ w'.cell? ⟨p0, 4, none⟩ = some (.string a.v.text) ∧ w'.cell? ⟨p0, 5, none⟩ = some (.string a.name) ∧ w'.cell? ⟨p0, 6, none⟩ = some (va) ∧ w'.cell? ⟨p1, 0, none⟩ = some (.int .u8 b.op) ∧ w'.cell? ⟨p1, 1, none⟩ = some (.int .u8 b.v.kind) ∧ w'.cell? ⟨p1, 2, none⟩ = some (.int .i64 b.v.num) ∧ w'.cell? ⟨p1, 3, none⟩ = some (.bool b.v.tr) ∧ w'.cell? ⟨p1, 4, none⟩ = some (.string b.v.text) ∧ w'.cell? ⟨p1, 5, none⟩ = some (.string b.name) ∧ w'.cell? ⟨p1, 6, none⟩ = some (vb)) (exact HP.out _ cur.below)
    (first
      | (go_at_call 11; refine (two_good cur (by simp) (by simp) (by omega) (by omega)).mono ?_; rintro e wz ⟨vk, rfl, cur⟩)
      | (go_at_call 12; refine (one_good cur (by simp) (by omega) (by omega)).mono ?_; rintro e wz ⟨vk, rfl, cur⟩)
      | (go_at_call 10; refine (same_good (l := l) cur (by simp) (by simp) (by simp) (by first | exact S1.out | exact S2.out | exact S3.out)).mono ?_; rintro e wz ⟨rfl, cur⟩))

  have cur := G0.out.to cur.below
  obtain ⟨c0, c1, c2, c3, c4, c5, c6, e0, e1, e2, e3, e4, e5, e6⟩ := HP.out _ cur.below
  go_wp2_with (go_at_call 13; refine (eval_good (l := l) cur (by simp) (by simp) EX.out).mono ?_; rintro e wz ⟨rfl, cur⟩; refine Hid.out ?_)
  refine Lib.hid ?_
  obtain ⟨w7, p7, hp7, hw7, l7, n7, b7⟩ := box_new wz (objV xv)
  have cur := cur.to b7
  have HV7 := Lib.hid (fun V (h : Below w7.heap.size w7 V) => v_cells ((h.block p7 l7).trans n7))
  have G7 := Lib.hid cur.re
  have HB7 := Lib.hid cur.below
  clear n7 b7 c0 c1 c2 c3 c4 c5 c6 e0 e1 e2 e3 e4 e5 e6
  obtain ⟨c0, c1, c2, c3, c4, c5, c6, e0, e1, e2, e3, e4, e5, e6⟩ := HP.out _ cur.below
  have cur := G7.out
  go_wp2_with (go_at_call 13; refine (eval_good (l := l) cur (by simp) (by simp) EY.out).mono ?_; rintro e wz ⟨rfl, cur⟩; refine Hid.out ?_)
  refine Lib.hid ?_
  obtain ⟨w8, p8, hp8, hw8, l8, n8, b8⟩ := box_new wz (objV yv)
  have cur := cur.to b8
  have HV8 := Lib.hid (fun V (h : Below w8.heap.size w8 V) => v_cells ((h.block p8 l8).trans n8))
  have HV7 := Lib.hid (fun V (h : Below w8.heap.size w8 V) => HV7.out V (cur.below.trans (h.mono cur.below.size)))
  have G8 := Lib.hid cur.re
  have HB8 := Lib.hid (HB7.out.trans (cur.below.mono HB7.out.size))
  have HP := Lib.hid (fun V (h : Below w8.heap.size w8 V) => HP.out V (HB8.out.trans (h.mono HB8.out.size)))
  have HBE := Lib.hid (HB.out.trans (HB8.out.mono HB.out.size))
  clear n8 b8 c0 c1 c2 c3 c4 c5 c6 e0 e1 e2 e3 e4 e5 e6 cur
  have cur := G8.out
  obtain ⟨c0, c1, c2, c3, c4, c5, c6, e0, e1, e2, e3, e4, e5, e6⟩ := HP.out _ cur.below
  by_cases hxe : xe = 0
  · by_cases hye : ye = 0
    · have dx : (xe != 0) = false := by simpa using hxe
      have dy : (ye != 0) = false := by simpa using hye
      obtain ⟨k1, k2⟩ := HL2.out hxe hye
      have S4 := Lib.hid (sameE_of k1)
      have S5 := Lib.hid (sameE_of k2)
      have HL3 := Lib.hid (fun h3 h4 => HL3.out hxe hye h3 h4)
      clear hxe hye k1 k2
      go_wp2_with fail
      have cur := cur.to ((Below.refl _ _).drew)
      clear c0 c1 c2 c3 c4 c5 c6 e0 e1 e2 e3 e4 e5 e6
      go_region_held3 (fun w' => w'.cell? ⟨p0, 0, none⟩ = some (.int .u8 a.op) ∧ w'.cell? ⟨p0, 1, none⟩ = some (.int .u8 a.v.kind) ∧ w'.cell? ⟨p0, 2, none⟩ = some (.int .i64 a.v.num) ∧ w'.cell? ⟨p0, 3, none⟩ = some (.bool a.v.tr) ∧ w'.cell? ⟨p0, 4, none⟩ = some (.string a.v.text) ∧ w'.cell? ⟨p0, 5, none⟩ = some (.string a.name) ∧ w'.cell? ⟨p0, 6, none⟩ = some (va) ∧ w'.cell? ⟨p1, 0, none⟩ = some (.int .u8 b.op) ∧ w'.cell? ⟨p1, 1, none⟩ = some (.int .u8 b.v.kind) ∧ w'.cell? ⟨p1, 2, none⟩ = some (.int .i64 b.v.num) ∧ w'.cell? ⟨p1, 3, none⟩ = some (.bool b.v.tr) ∧ w'.cell? ⟨p1, 4, none⟩ = some (.string b.v.text) ∧ w'.cell? ⟨p1, 5, none⟩ = some (.string b.name) ∧ w'.cell? ⟨p1, 6, none⟩ = some (vb)) (exact HP.out _ cur.below)
        (first
          | (go_at_call 11; refine (two_good cur (by simp) (by simp) (by omega) (by omega)).mono ?_; rintro e wz ⟨vk, rfl, cur⟩)
          | (go_at_call 12; refine (one_good cur (by simp) (by omega) (by omega)).mono ?_; rintro e wz ⟨vk, rfl, cur⟩)
          | (go_at_call 10; refine (same_good (l := l) cur (by simp) (by simp) (by simp) (by first | exact S4.out | exact S5.out)).mono ?_; rintro e wz ⟨rfl, cur⟩))
    
      have cur := G8.out.to cur.below
      obtain ⟨c0, c1, c2, c3, c4, c5, c6, e0, e1, e2, e3, e4, e5, e6⟩ := HP.out _ cur.below
      obtain ⟨x0, x1, x2, x3⟩ := HV7.out _ cur.below
      obtain ⟨y0, y1, y2, y3⟩ := HV8.out _ cur.below
      by_cases hxk : xv.kind = 2
      · have kx : (xv.kind != 2) = false := by simpa using hxk
        by_cases hyk : yv.kind = 2
        · have ky : (yv.kind != 2) = false := by simpa using hyk
          obtain ⟨k1, k2, k3, k4⟩ := HL3.out hxk hyk
          have S6 := Lib.hid (sameE_of k1)
          have S7 := Lib.hid (sameE_of k2)
          have S8 := Lib.hid (sameE_of k3)
          have S9 := Lib.hid (sameE_of k4)
          clear hxk hyk k1 k2 k3 k4
          go_wp2_with fail
          have cur := cur.to ((Below.refl _ _).drew)
          clear c0 c1 c2 c3 c4 c5 c6 e0 e1 e2 e3 e4 e5 e6 x0 x1 x2 x3 y0 y1 y2 y3
          go_region_held3 (fun w' => w'.cell? ⟨p0, 0, none⟩ = some (.int .u8 a.op) ∧ w'.cell? ⟨p0, 1, none⟩ = some (.int .u8 a.v.kind) ∧ w'.cell? ⟨p0, 2, none⟩ = some (.int .i64 a.v.num) ∧ w'.cell? ⟨p0, 3, none⟩ = some (.bool a.v.tr) ∧ w'.cell? ⟨p0, 4, none⟩ = some (.string a.v.text) ∧ w'.cell? ⟨p0, 5, none⟩ = some (.string a.name) ∧ w'.cell? ⟨p0, 6, none⟩ = some (va) ∧ w'.cell? ⟨p1, 0, none⟩ = some (.int .u8 b.op) ∧ w'.cell? ⟨p1, 1, none⟩ = some (.int .u8 b.v.kind) ∧ w'.cell? ⟨p1, 2, none⟩ = some (.int .i64 b.v.num) ∧ w'.cell? ⟨p1, 3, none⟩ = some (.bool b.v.tr) ∧ w'.cell? ⟨p1, 4, none⟩ = some (.string b.v.text) ∧ w'.cell? ⟨p1, 5, none⟩ = some (.string b.name) ∧ w'.cell? ⟨p1, 6, none⟩ = some (vb)) (exact HP.out _ cur.below)
            (first
              | (go_at_call 11; refine (two_good cur (by simp) (by simp) (by omega) (by omega)).mono ?_; rintro e wz ⟨vk, rfl, cur⟩)
              | (go_at_call 12; refine (one_good cur (by simp) (by omega) (by omega)).mono ?_; rintro e wz ⟨vk, rfl, cur⟩)
              | (go_at_call 10; refine (same_good (l := l) cur (by simp) (by simp) (by simp) (by first | exact S6.out | exact S7.out | exact S8.out | exact S9.out)).mono ?_; rintro e wz ⟨rfl, cur⟩))
        
          go_wp2_with fail
          go_ret
          exact ⟨rfl, HBE.out.trans (cur.below.mono HBE.out.size)⟩
        · have ky : (yv.kind != 2) = true := by simpa using hyk
          clear hyk hxk
          go_wp2_with fail
          go_ret
          exact ⟨rfl, HBE.out.trans (cur.below.mono HBE.out.size)⟩
      · have kx : (xv.kind != 2) = true := by simpa using hxk
        clear hxk
        go_wp2_with fail
        go_ret
        exact ⟨rfl, HBE.out.trans (cur.below.mono HBE.out.size)⟩
    · have dx : (xe != 0) = false := by simpa using hxe
      have dy : (ye != 0) = true := by simpa using hye
      clear hxe hye
      go_wp2_with fail
      go_ret
      exact ⟨rfl, HBE.out.trans (cur.below.mono HBE.out.size)⟩
  · have dx : (xe != 0) = true := by simpa using hxe
    clear hxe
    go_wp2_with fail
    go_ret
    exact ⟨rfl, HBE.out.trans (cur.below.mono HBE.out.size)⟩

theorem evalLaws_both : Calls Tryd.prog 3 #[valN a va, valN b vb, vv] W fun e w' => e = .returned (.bool true) ∧ Below W.heap.size W w' := by
  cases d1 : deepB 60 a with
  | true => exact evalLaws_out W hT a b va vb vv l ha hb hl (Or.inl d1)
  | false =>
    cases d2 : deepB 60 b with
    | true => exact evalLaws_out W hT a b va vb vv l ha hb hl (Or.inr (Or.inl d2))
    | false =>
      cases d3 : checkN a with
      | false => exact evalLaws_out W hT a b va vb vv l ha hb hl (Or.inr (Or.inr (Or.inl d3)))
      | true =>
        cases d4 : checkN b with
        | false => exact evalLaws_out W hT a b va vb vv l ha hb hl (Or.inr (Or.inr (Or.inr d4)))
        | true => exact evalLaws_in W hT a b va vb vv l ha hb hl d1 d2 d3 d4
end
theorem evalLaws_walk (W : World) (hT : Tabs8 W) (a : Nd) (va : Value) (ha : NdR W W.heap.size va a) (b : Nd) (vb : Value) (hb : NdR W W.heap.size vb b) (vv : Value) (l : List Bd) (hl : BdsR W W.heap.size vv l) :
    Calls Tryd.prog 3 #[valN a va, valN b vb, vv] W fun e w' => e = .returned (.bool true) ∧ Below W.heap.size W w' := evalLaws_both W hT a b va vb vv l ha hb hl
end Go.Proofs.YtjfiijbmkcfooaaDoor
