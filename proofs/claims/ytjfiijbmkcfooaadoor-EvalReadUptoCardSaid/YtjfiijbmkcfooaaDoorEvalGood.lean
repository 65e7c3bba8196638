/- What the laws of conditions keep while they walk; the helpers over it. -/
import Derived.Test.YtjfiijbmkcfooaaDoorEvalTwo
import Derived.Test.YtjfiijbmkcfooaaDoorEvalLawQ
set_option maxRecDepth 100000
namespace Go.Proofs.YtjfiijbmkcfooaaDoor
open Go.RowKit

def varsL : List Bd := [⟨⟨#[120]⟩, numV 7⟩, ⟨⟨#[115]⟩, txV ⟨#[97]⟩⟩, ⟨⟨#[98]⟩, trV true⟩]
theorem bds_three {w : World} {p : Nat} {x y z : Bd} {t : TypeId} {fr : Nat × Nat} (h : w.heap[p]? = some (.cells (cellBd x ++ cellBd y ++ cellBd z).toArray t fr)) (hx : VlW x.val ∧ x.name.size ≤ 140737488355328) (hy : VlW y.val ∧ y.name.size ≤ 140737488355328) (hz : VlW z.val ∧ z.name.size ≤ 140737488355328) : BdsR w w.heap.size (.slice (some ⟨p, 0, none⟩) 3 3) [x, y, z] := by
  refine ⟨_, 3, rfl, by simp, by simp, fun i hi => ?_, ?_⟩
  · refine ⟨p, 0, rfl, lt_of_block h, fun j hj => ?_⟩
    rw [cell_of_block h]
    obtain rfl | rfl | rfl : i = 0 ∨ i = 1 ∨ i = 2 := by simp at hi; omega
    · obtain rfl | rfl | rfl | rfl | rfl : j = 0 ∨ j = 1 ∨ j = 2 ∨ j = 3 ∨ j = 4 := by omega
      all_goals rfl
    · obtain rfl | rfl | rfl | rfl | rfl : j = 0 ∨ j = 1 ∨ j = 2 ∨ j = 3 ∨ j = 4 := by omega
      all_goals rfl
    · obtain rfl | rfl | rfl | rfl | rfl : j = 0 ∨ j = 1 ∨ j = 2 ∨ j = 3 ∨ j = 4 := by omega
      all_goals rfl
  · intro b hb
    simp only [List.mem_cons, List.not_mem_nil, or_false] at hb
    rcases hb with rfl | rfl | rfl
    · exact hx
    · exact hy
    · exact hz
theorem VlW.tx {s : ByteArray} (h : s.size ≤ 140737488355328) : VlW (txV s) := ⟨by show (0 : Int) ≤ 3; omega, by show (3 : Int) ≤ 255; omega, by show _ ≤ (0 : Int); omega, by show (0 : Int) ≤ _; omega, h⟩
set_option maxHeartbeats 1000000 in
theorem vars_any (w : World) : Calls Tryd.prog 25 #[] w fun e w' => ∃ vv, e = .returned vv ∧ BdsR w' w'.heap.size vv varsL ∧ Below w.heap.size w w' := by
  have cur : Below w.heap.size w w := Below.refl _ _
  go_enter Tryd.func25, Tryd.ntmps25
  go_wp2_with (first
    | (go_at_call 24; refine (number_any _ _).mono ?_; rintro e w2 ⟨rfl, hb⟩; have cur := cur.trans (hb.mono cur.size); clear hb)
    | (go_at_call 36; refine (words_any _ _).mono ?_; rintro e w2 ⟨rfl, hb⟩; have cur := cur.trans (hb.mono cur.size); clear hb)
    | (go_at_call 35; refine (truthV_any _ _).mono ?_; rintro e w2 ⟨rfl, hb⟩; have cur := cur.trans (hb.mono cur.size); clear hb))
  go_ret
  refine ⟨_, rfl, bds_three (x := ⟨⟨#[120]⟩, numV 7⟩) (y := ⟨⟨#[115]⟩, txV ⟨#[97]⟩⟩) (z := ⟨⟨#[98]⟩, trV true⟩) (heap_alloc_new _ _) ⟨VlW.num (by omega) (by omega), ?_⟩ ⟨VlW.tx ?_, ?_⟩ ⟨VlW.tr _, ?_⟩, cur.alloc cur.size _⟩ <;> (show 1 ≤ _; omega)

set_option maxHeartbeats 1000000 in
theorem same_any (w : World) (a b : Nd) (va vb vv : Value) (l : List Bd) (ha : NdR w w.heap.size va a) (hb : NdR w w.heap.size vb b) (hl : BdsR w w.heap.size vv l) (hT : Tabs8 w) :
    Calls Tryd.prog 10 #[valN a va, valN b vb, vv] w fun e w' => e = .returned (.bool (sameE (evE l a) (evE l b))) ∧ Below w.heap.size w w' := by
  obtain ⟨w0, p0, hp0, hw0, l0, n0, b0⟩ := box_new w (objN a.op a.v a.name va)
  obtain ⟨w1, p1, hp1, hw1, l1, n1, b1⟩ := box_new w0 (objN b.op b.v b.name vb)
  obtain ⟨c0, c1, c2, c3, c4, c5, c6⟩ := n_cells ((b1.block p0 (by omega)).trans n0)
  have HB := Lib.hid (b0.trans (b1.mono b0.size))
  have K1 := Lib.hid (eval_any w1 a va vv l (ha.to HB.out) (hl.to HB.out) (Utf8Tabs_below hT HB.out))
  have K2 := Lib.hid (fun W (h : Below w1.heap.size w1 W) => eval_any W b vb vv l ((hb.to HB.out).to h) ((hl.to HB.out).to h) (Utf8Tabs_below (Utf8Tabs_below hT HB.out) h))
  obtain ⟨r, hr⟩ : ∃ r, evE l a = r := ⟨_, rfl⟩
  obtain ⟨q, hq⟩ : ∃ q, evE l b = q := ⟨_, rfl⟩
  rw [hr] at K1 ⊢
  rw [hq] at K2 ⊢
  obtain ⟨rv, re⟩ := r
  obtain ⟨qv, qe⟩ := q
  clear n0 b0 b1 ha hb hl hT hr hq
  have N1 := Lib.hid n1
  have L1 := l1
  clear n1
  go_enter Tryd.func10, Tryd.ntmps10
  go_wp2_with (go_at_call 13; refine K1.out.mono ?_; rintro e w3 ⟨rfl, hb3⟩; refine Hid.out ?_)
  refine Lib.hid ?_
  obtain ⟨w4, p4, hp4, hw4, l4, n4, b4⟩ := box_new w3 (objV rv)
  have h14 := hb3.trans (b4.mono hb3.size)
  obtain ⟨e0, e1, e2, e3, e4, e5, e6⟩ := n_cells ((h14.block p1 l1).trans N1.out)
  have C2 := Lib.hid (K2.out w4 h14)
  have N4 := Lib.hid n4
  have H4 := Lib.hid (HB.out.trans (h14.mono HB.out.size))
  clear n4 b4 hb3 h14 c0 c1 c2 c3 c4 c5 c6
  go_wp2_with (go_at_call 13; refine C2.out.mono ?_; rintro e w5 ⟨rfl, hb5⟩; refine Hid.out ?_)
  refine Lib.hid ?_
  obtain ⟨w6, p6, hp6, hw6, l6, n6, b6⟩ := box_new w5 (objV qv)
  have h46 := hb5.trans (b6.mono hb5.size)
  obtain ⟨c0, c1, c2, c3⟩ := v_cells ((h46.block p4 l4).trans N4.out)
  obtain ⟨d0, d1, d2, d3⟩ := v_cells n6
  have H6 := Lib.hid (H4.out.trans (h46.mono H4.out.size))
  clear n6 b6 hb5 h46 e0 e1 e2 e3 e4 e5 e6
  by_cases hee : re = qe
  · have d : (re == qe) = true := by simpa using hee
    have Hr : Hid (sameE (rv, re) (qv, qe) = vlEq rv qv) := Lib.hid (by unfold sameE; rw [d, Bool.true_and])
    clear hee
    go_wp2_with (go_at_call 14; refine (vsame_any _ rv qv).mono ?_; rintro e wz ⟨rfl, hbz⟩; refine Hid.out ?_)
    refine Lib.hid ?_
    have HE := Lib.hid (H6.out.trans (hbz.mono H6.out.size))
    clear hbz
    go_wp2_with fail
    go_ret
    exact ⟨ret_bool Hr.out.symm, HE.out⟩
  · have d : (re == qe) = false := by simpa using hee
    have Hr : Hid (sameE (rv, re) (qv, qe) = false) := Lib.hid (by unfold sameE; rw [d, Bool.false_and])
    clear hee
    go_wp2_with fail
    go_ret
    exact ⟨ret_bool Hr.out.symm, H6.out⟩

/-- Has a node more than a statement looks at? -/
def deepB : Nat → Nd → Bool
  | 0, _ => true
  | k + 1, n => n.kids.any (deepB k)
set_option maxHeartbeats 1000000 in
theorem deep_any : ∀ (left : Nat), left ≤ 1000 → ∀ (w : World) (n : Nd) (vk : Value), NdR w w.heap.size vk n →
    Calls Tryd.prog 8 #[valN n vk, .int .i64 (left : Int)] w fun e w' => e = .returned (.bool (deepB left n)) ∧ Below w.heap.size w w' := by
  intro left
  induction left with
  | zero =>
    intro _ w n vk hn
    obtain ⟨w0, p0, hp0, hw0, l0, n0, b0⟩ := box_new w (objN n.op n.v n.name vk)
    have HB := Lib.hid b0
    clear n0 b0 hn
    go_enter Tryd.func8, Tryd.ntmps8
    go_wp2_with fail
    go_ret
    exact ⟨rfl, HB.out⟩
  | succ m ih =>
    intro hm w n vk hn
    obtain ⟨w0, p0, hp0, hw0, l0, n0, b0⟩ := box_new w (objN n.op n.v n.name vk)
    have HB := Lib.hid b0
    have hk := hn.2
    have hll := hk.len
    obtain ⟨ka, kc, rfl, hat⟩ := kid_at hk
    have HA := Lib.hid hat
    have HK := Lib.hid (fun V (h : Below w0.heap.size w0 V) => (n_cells ((h.block p0 l0).trans n0)).2.2.2.2.2.2)
    have c6 := HK.out w0 (Below.refl _ _)
    obtain ⟨lf, hlf⟩ : ∃ lf : Int, ((m + 1 : Nat) : Int) = lf := ⟨_, rfl⟩
    have IH := Lib.hid (show ∀ (w : World) (n : Nd) (vk : Value), NdR w w.heap.size vk n → Calls Tryd.prog 8 #[valN n vk, .int .i64 (lf - 1)] w fun e w' => e = .returned (.bool (deepB m n)) ∧ Below w.heap.size w w' by
      rw [show lf - 1 = (m : Int) by omega]
      exact ih (by omega))
    have d0 : (lf == 0) = false := by rw [beq_eq_false_iff_ne]; omega
    have hm2 : lf ≤ 1000 := by omega
    have hm3 : 1 ≤ lf := by omega
    have hm4 : 0 ≤ lf - 1 := by omega
    have Hd : Hid (deepB (m + 1) n = n.kids.any (deepB m)) := Lib.hid rfl
    obtain ⟨r, hr⟩ : ∃ r, deepB (m + 1) n = r := ⟨_, rfl⟩
    rw [hr] at Hd ⊢
    rw [hlf]
    obtain ⟨ks, hks⟩ : ∃ ks, n.kids = ks := ⟨_, rfl⟩
    rw [hks] at hll HK c6
    have HD2 : Hid (r = ks.any (deepB m)) := Lib.hid (by rw [← hks]; exact Hd.out)
    have HA2 : Hid (∀ i (hi : i < ks.length), ∃ b o vk, ka = some ⟨b, o, none⟩ ∧ b < w.heap.size ∧ HeadW ks[i] ∧ KidsR w w.heap.size vk ks[i].kids ∧ KidC w b (o + i * 7) ks[i] vk) := by subst hks; exact HA
    clear n0 b0 hn hk ih hat hr hks hm hlf Hd HA
    go_enter Tryd.func8, Tryd.ntmps8
    go_wp2_with fail
    go_loopg [5] ks.length (fun g s5 wr => ∃ k : Nat, k + g = ks.length ∧ s5 = .int .i64 (k : Int) ∧ Hid (∀ j (h : j < ks.length), j < k → deepB m ks[j] = false) ∧ Below w0.heap.size w0 wr)
    case atStart => exact ⟨0, by omega, rfl, Lib.hid (fun j h h2 => by omega), Below.refl _ _⟩
    case round =>
      obtain ⟨k, hkg, rfl, hZ, hB⟩ := hrel
      have c6 := HK.out wr hB
      by_cases hk : k < ks.length
      · obtain ⟨b, o, vk, rfl, hb, hw, hkk, hc⟩ := HA2.out k hk
        have hBw := HB.out.trans (hB.mono HB.out.size)
        obtain ⟨e0, e1, e2, e3, e4, e5, e6⟩ := kid_cells hc hBw hb
        have hcall := IH.out wr ks[k] vk ⟨hw, hkk.mono hBw hBw.size⟩
        have HZ := Lib.hid (show deepB m ks[k] = false → ∀ j (h : j < ks.length), j < k + 1 → deepB m ks[j] = false from fun h0 j hj hjk => by
          by_cases e : j = k
          · subst e; exact h0
          · exact hZ.out j hj (by omega))
        have HY := Lib.hid (show deepB m ks[k] = true → r = true from fun h0 => by rw [HD2.out]; exact List.any_eq_true.2 ⟨_, List.getElem_mem hk, h0⟩)
        obtain ⟨x, hx⟩ : ∃ x, ks[k] = x := ⟨_, rfl⟩
        rw [hx] at e0 e1 e2 e3 e4 e5 hcall HY
        have HX := Lib.hid hx
        have HBr := Lib.hid hB
        have HBw := Lib.hid hBw
        have dk : decide (k < ks.length) = true := decide_eq_true hk
        have k1 : (0 : Int) ≤ (k : Int) := by omega
        have k2 : (k : Int) < (ks.length : Int) := by omega
        clear hx hB hBw hc hkk hw hZ
        cases hp : deepB m x with
        | true =>
          rw [hp] at hcall HY
          have Hf := Lib.hid (HY.out rfl)
          have HC := Lib.hid hcall
          clear hcall hp HY
          go_wp2_with (go_at_call 8; refine HC.out.mono ?_; rintro e w2 ⟨rfl, hb2⟩; refine Hid.out ?_)
          refine Lib.hid ?_
          have HB2 := Lib.hid (HBw.out.trans (hb2.mono HBw.out.size))
          clear hb2
          go_wp2_with fail
          go_ret
          exact ⟨ret_bool Hf.out.symm, HB2.out⟩
        | false =>
          have Hf := Lib.hid (HZ.out (by rw [HX.out]; exact hp))
          rw [hp] at hcall
          have HC := Lib.hid hcall
          clear hcall hp HY
          go_wp2_with (go_at_call 8; refine HC.out.mono ?_; rintro e w2 ⟨rfl, hb2⟩; refine Hid.out ?_)
          refine Lib.hid ?_
          have HB2 := Lib.hid (HBr.out.trans (hb2.mono HBr.out.size))
          clear hb2
          go_wp2_with fail
          go_roundg (gk - 1)
          case measure => omega
          case rel => exact ⟨k + 1, by omega, by go_num, Hf, HB2.out⟩
      · have Hf : Hid (r = false) := Lib.hid (by
          rw [HD2.out, List.any_eq_false]
          intro x hx
          obtain ⟨j, hj, rfl⟩ := List.getElem_of_mem hx
          rw [hZ.out j hj (by omega)]; exact Bool.false_ne_true)
        have dk : decide (k < ks.length) = false := decide_eq_false hk
        have HBw := Lib.hid (HB.out.trans (hB.mono HB.out.size))
        clear hB
        go_wp2_with fail
        go_ret
        exact ⟨ret_bool Hf.out.symm, HBw.out⟩
end Go.Proofs.YtjfiijbmkcfooaaDoor
