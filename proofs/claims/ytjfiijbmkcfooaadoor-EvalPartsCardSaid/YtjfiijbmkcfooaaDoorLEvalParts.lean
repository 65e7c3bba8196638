/- EvalParts: the walk. -/
import Derived.Test.YtjfiijbmkcfooaaDoorLEvalLaws
import Derived.Test.YtjfiijbmkcfooaaDoorAppF
import Derived.Test.YtjfiijbmkcfooaaDoorOpenNd
set_option maxRecDepth 100000
namespace Go.Proofs.YtjfiijbmkcfooaaDoor
open Go.RowKit

theorem cellBd_one (b : Bd) : ∀ u ∈ cellBd b, u.oneCell' = true := by
  intro u hu
  simp only [cellBd, List.mem_cons, List.mem_nil_iff, or_false] at hu
  rcases hu with rfl | rfl | rfl | rfl | rfl <;> rfl
theorem vsame_true (w : World) {a b : Vl} (h : a = b) : Calls Tryd.prog 14 #[valV a, valV b] w fun e w' => e = .returned (.bool true) ∧ Below w.heap.size w w' := by
  subst h
  refine (vsame_any w a a).mono fun e w' ⟨he, hb⟩ => ⟨?_, hb⟩
  rw [vlEq_refl] at he
  exact he
theorem info_bd : (Tryd.prog.info? 39).map (fun i => (i.zero, i.size, i.bytes)) = some (some (.agg #[.string ⟨#[]⟩, .int .u8 0, .int .i64 0, .bool false, .string ⟨#[]⟩]), 5, 56) := by kernel_rfl
theorem BdsR.colF {w : World} {B : Nat} {a : Option Addr} {n cap : Nat} {l : List Bd} (h : BdsR w B (.slice a n cap) l) : ColF cellBd 5 w B a l := by
  obtain ⟨a', cap', hv, hl, hc, hf, hw⟩ := h
  injection hv with h1 _ _
  subst h1
  exact hf
theorem more_bds {w : World} {base : Nat} {v : Value} {x y : Vl} {l more : List Bd} (h : w.ownsRow base 39 5 v (2 + l.length) (cellsF cellBd [⟨q1, x⟩, ⟨q2, y⟩] ++ cellsF cellBd l)) (hm : (⟨q1, x⟩ :: ⟨q2, y⟩ :: l) = more) (hlen : l.length ≤ 2513169434900) (hx : VlW x) (hy : VlW y) (hl : ∀ b ∈ l, VlW b.val ∧ b.name.size ≤ 140737488355328) : BdsR w w.heap.size v more := by
  subst hm
  have ho : OwnF cellBd 39 5 w base v (⟨q1, x⟩ :: ⟨q2, y⟩ :: l) := by
    unfold OwnF
    rw [← cellsF_app2] at h
    have e : (⟨q1, x⟩ :: ⟨q2, y⟩ :: l : List Bd).length = 2 + l.length := by simp; omega
    rw [e]
    exact h
  obtain ⟨a, cap, rfl⟩ := ho.shape
  refine ⟨a, cap, rfl, by simp; omega, ho.cap, ho.col cellBd_len (Nat.le_refl _), ?_⟩
  intro b hb
  rcases List.mem_cons.1 hb with rfl | hb
  · exact ⟨hx, by show 2 ≤ _; omega⟩
  · rcases List.mem_cons.1 hb with rfl | hb
    · exact ⟨hy, by show 2 ≤ _; omega⟩
    · exact hl b hb
section
variable (W : World) (hT : Tabs8 W) (op : Int) (a b : Nd) (va vb vv : Value) (l : List Bd) (h0 : 0 ≤ op) (h255 : op ≤ 255) (ha : NdR W W.heap.size va a) (hb : NdR W W.heap.size vb b) (hl : BdsR W W.heap.size vv l)
include hT ha hb hl h0 h255
set_option maxHeartbeats 4000000 in
theorem evalParts_out (h : deepB 60 a = true ∨ deepB 60 b = true ∨ op < 5 ∨ 17 < op ∨ checkN a = false ∨ checkN b = false) :
    Calls Tryd.prog 4 #[.int .u8 op, valN a va, valN b vb, vv] W fun e w' => e = .returned (.bool true) ∧ Below W.heap.size W w' := by
  obtain ⟨w0, w1, p0, p1, hp0, hw0, hp1, hw1, l0, l1, hb1, HP⟩ := boxes_two W a b va vb
  have cur : Good w1 [(va, a), (vb, b)] [(vv, l)] w1 := ⟨Below.refl _ _, by simp; exact ⟨ha.to hb1, hb.to hb1⟩, by simp; exact hl.to hb1, Utf8Tabs_below hT hb1⟩
  have G0 := Lib.hid cur
  have HB := Lib.hid hb1
  obtain ⟨c0, c1, c2, c3, c4, c5, c6, e0, e1, e2, e3, e4, e5, e6⟩ := HP.out w1 (Below.refl _ _)
  cases d1 : deepB 60 a with
  | true =>
    have D1 := Lib.hid d1
    clear d1 h ha hb hl hT hb1
    go_enter Tryd.func4, Tryd.ntmps4
    go_wp2_with (first
          | (go_at_call 7; refine (works_good cur).mono ?_; rintro e wz ⟨rfl, cur⟩; clear c0 c1 c2 c3 c4 c5 c6 e0 e1 e2 e3 e4 e5 e6; obtain ⟨c0, c1, c2, c3, c4, c5, c6, e0, e1, e2, e3, e4, e5, e6⟩ := HP.out _ cur.below)
          | (go_at_call 8; refine (deep_good cur (by simp) (by first | exact D1.out | exact D2.out)).mono ?_; rintro e wz ⟨rfl, cur⟩; clear c0 c1 c2 c3 c4 c5 c6 e0 e1 e2 e3 e4 e5 e6; obtain ⟨c0, c1, c2, c3, c4, c5, c6, e0, e1, e2, e3, e4, e5, e6⟩ := HP.out _ cur.below)
          | (go_at_call 9; refine (check_good cur (by simp) (by first | exact D3.out | exact D4.out)).mono ?_; rintro e wz ⟨rfl, cur⟩; clear c0 c1 c2 c3 c4 c5 c6 e0 e1 e2 e3 e4 e5 e6; obtain ⟨c0, c1, c2, c3, c4, c5, c6, e0, e1, e2, e3, e4, e5, e6⟩ := HP.out _ cur.below))
    go_ret
    exact ⟨rfl, HB.out.trans (cur.below.mono HB.out.size)⟩
  | false =>
    cases d2 : deepB 60 b with
    | true =>
      have D1 := Lib.hid d1
      have D2 := Lib.hid d2
      clear d1 d2 h ha hb hl hT hb1
      go_enter Tryd.func4, Tryd.ntmps4
      go_wp2_with (first
            | (go_at_call 7; refine (works_good cur).mono ?_; rintro e wz ⟨rfl, cur⟩; clear c0 c1 c2 c3 c4 c5 c6 e0 e1 e2 e3 e4 e5 e6; obtain ⟨c0, c1, c2, c3, c4, c5, c6, e0, e1, e2, e3, e4, e5, e6⟩ := HP.out _ cur.below)
            | (go_at_call 8; refine (deep_good cur (by simp) (by first | exact D1.out | exact D2.out)).mono ?_; rintro e wz ⟨rfl, cur⟩; clear c0 c1 c2 c3 c4 c5 c6 e0 e1 e2 e3 e4 e5 e6; obtain ⟨c0, c1, c2, c3, c4, c5, c6, e0, e1, e2, e3, e4, e5, e6⟩ := HP.out _ cur.below)
            | (go_at_call 9; refine (check_good cur (by simp) (by first | exact D3.out | exact D4.out)).mono ?_; rintro e wz ⟨rfl, cur⟩; clear c0 c1 c2 c3 c4 c5 c6 e0 e1 e2 e3 e4 e5 e6; obtain ⟨c0, c1, c2, c3, c4, c5, c6, e0, e1, e2, e3, e4, e5, e6⟩ := HP.out _ cur.below))
      go_ret
      exact ⟨rfl, HB.out.trans (cur.below.mono HB.out.size)⟩
    | false =>
      by_cases hop : op < 5
      · have dop : decide (op < 5) = true := decide_eq_true hop
        have D1 := Lib.hid d1
        have D2 := Lib.hid d2
        clear d1 d2 h ha hb hl hT hb1
        go_enter Tryd.func4, Tryd.ntmps4
        go_wp2_with (first
              | (go_at_call 7; refine (works_good cur).mono ?_; rintro e wz ⟨rfl, cur⟩; clear c0 c1 c2 c3 c4 c5 c6 e0 e1 e2 e3 e4 e5 e6; obtain ⟨c0, c1, c2, c3, c4, c5, c6, e0, e1, e2, e3, e4, e5, e6⟩ := HP.out _ cur.below)
              | (go_at_call 8; refine (deep_good cur (by simp) (by first | exact D1.out | exact D2.out)).mono ?_; rintro e wz ⟨rfl, cur⟩; clear c0 c1 c2 c3 c4 c5 c6 e0 e1 e2 e3 e4 e5 e6; obtain ⟨c0, c1, c2, c3, c4, c5, c6, e0, e1, e2, e3, e4, e5, e6⟩ := HP.out _ cur.below)
              | (go_at_call 9; refine (check_good cur (by simp) (by first | exact D3.out | exact D4.out)).mono ?_; rintro e wz ⟨rfl, cur⟩; clear c0 c1 c2 c3 c4 c5 c6 e0 e1 e2 e3 e4 e5 e6; obtain ⟨c0, c1, c2, c3, c4, c5, c6, e0, e1, e2, e3, e4, e5, e6⟩ := HP.out _ cur.below))
        go_ret
        exact ⟨rfl, HB.out.trans (cur.below.mono HB.out.size)⟩
      · by_cases hop2 : 17 < op
        · have dop2 : decide (17 < op) = true := decide_eq_true hop2
          have D1 := Lib.hid d1
          have D2 := Lib.hid d2
          clear d1 d2 h ha hb hl hT hb1
          go_enter Tryd.func4, Tryd.ntmps4
          go_wp2_with (first
                | (go_at_call 7; refine (works_good cur).mono ?_; rintro e wz ⟨rfl, cur⟩; clear c0 c1 c2 c3 c4 c5 c6 e0 e1 e2 e3 e4 e5 e6; obtain ⟨c0, c1, c2, c3, c4, c5, c6, e0, e1, e2, e3, e4, e5, e6⟩ := HP.out _ cur.below)
                | (go_at_call 8; refine (deep_good cur (by simp) (by first | exact D1.out | exact D2.out)).mono ?_; rintro e wz ⟨rfl, cur⟩; clear c0 c1 c2 c3 c4 c5 c6 e0 e1 e2 e3 e4 e5 e6; obtain ⟨c0, c1, c2, c3, c4, c5, c6, e0, e1, e2, e3, e4, e5, e6⟩ := HP.out _ cur.below)
                | (go_at_call 9; refine (check_good cur (by simp) (by first | exact D3.out | exact D4.out)).mono ?_; rintro e wz ⟨rfl, cur⟩; clear c0 c1 c2 c3 c4 c5 c6 e0 e1 e2 e3 e4 e5 e6; obtain ⟨c0, c1, c2, c3, c4, c5, c6, e0, e1, e2, e3, e4, e5, e6⟩ := HP.out _ cur.below))
          go_ret
          exact ⟨rfl, HB.out.trans (cur.below.mono HB.out.size)⟩
        · have g5 : 5 ≤ op := by omega
          have g17 : op ≤ 17 := by omega
          cases d3 : checkN a with
          | false =>
            have D1 := Lib.hid d1
            have D2 := Lib.hid d2
            have D3 := Lib.hid d3
            clear d1 d2 d3 h ha hb hl hT hb1
            go_enter Tryd.func4, Tryd.ntmps4
            go_wp2_with (first
                  | (go_at_call 7; refine (works_good cur).mono ?_; rintro e wz ⟨rfl, cur⟩; clear c0 c1 c2 c3 c4 c5 c6 e0 e1 e2 e3 e4 e5 e6; obtain ⟨c0, c1, c2, c3, c4, c5, c6, e0, e1, e2, e3, e4, e5, e6⟩ := HP.out _ cur.below)
                  | (go_at_call 8; refine (deep_good cur (by simp) (by first | exact D1.out | exact D2.out)).mono ?_; rintro e wz ⟨rfl, cur⟩; clear c0 c1 c2 c3 c4 c5 c6 e0 e1 e2 e3 e4 e5 e6; obtain ⟨c0, c1, c2, c3, c4, c5, c6, e0, e1, e2, e3, e4, e5, e6⟩ := HP.out _ cur.below)
                  | (go_at_call 9; refine (check_good cur (by simp) (by first | exact D3.out | exact D4.out)).mono ?_; rintro e wz ⟨rfl, cur⟩; clear c0 c1 c2 c3 c4 c5 c6 e0 e1 e2 e3 e4 e5 e6; obtain ⟨c0, c1, c2, c3, c4, c5, c6, e0, e1, e2, e3, e4, e5, e6⟩ := HP.out _ cur.below))
            go_ret
            exact ⟨rfl, HB.out.trans (cur.below.mono HB.out.size)⟩
          | true =>
            cases d4 : checkN b with
            | false =>
              have D1 := Lib.hid d1
              have D2 := Lib.hid d2
              have D3 := Lib.hid d3
              have D4 := Lib.hid d4
              clear d1 d2 d3 d4 h ha hb hl hT hb1
              go_enter Tryd.func4, Tryd.ntmps4
              go_wp2_with (first
                    | (go_at_call 7; refine (works_good cur).mono ?_; rintro e wz ⟨rfl, cur⟩; clear c0 c1 c2 c3 c4 c5 c6 e0 e1 e2 e3 e4 e5 e6; obtain ⟨c0, c1, c2, c3, c4, c5, c6, e0, e1, e2, e3, e4, e5, e6⟩ := HP.out _ cur.below)
                    | (go_at_call 8; refine (deep_good cur (by simp) (by first | exact D1.out | exact D2.out)).mono ?_; rintro e wz ⟨rfl, cur⟩; clear c0 c1 c2 c3 c4 c5 c6 e0 e1 e2 e3 e4 e5 e6; obtain ⟨c0, c1, c2, c3, c4, c5, c6, e0, e1, e2, e3, e4, e5, e6⟩ := HP.out _ cur.below)
                    | (go_at_call 9; refine (check_good cur (by simp) (by first | exact D3.out | exact D4.out)).mono ?_; rintro e wz ⟨rfl, cur⟩; clear c0 c1 c2 c3 c4 c5 c6 e0 e1 e2 e3 e4 e5 e6; obtain ⟨c0, c1, c2, c3, c4, c5, c6, e0, e1, e2, e3, e4, e5, e6⟩ := HP.out _ cur.below))
              go_ret
              exact ⟨rfl, HB.out.trans (cur.below.mono HB.out.size)⟩
            | true =>
              exfalso
              rw [d1, d2, d3, d4] at h
              simp at h
              omega

end
end Go.Proofs.YtjfiijbmkcfooaaDoor
