/- expr.Check is checkN. -/
import Derived.Test.YtjfiijbmkcfooaaDoorEvalCheck3
set_option maxRecDepth 100000
namespace Go.Proofs.YtjfiijbmkcfooaaDoor
open Go.RowKit

theorem check1_any (w : World) (op : Int) (u : Vl) (nm : ByteArray) (vk : Value) (r : Bool)
    (hk : ∀ W, Below w.heap.size w W → Calls Tryd.prog 9 #[valO op u nm vk] W fun e w' => e = .returned (.bool r) ∧ Below W.heap.size W w') :
    Calls Tryd.prog 31 #[valO op u nm vk] w fun e w' => e = .returned (.bool (!r)) ∧ Below w.heap.size w w' := by
  obtain ⟨w1, p0, hp0, hw1, l1, n1, b1⟩ := box_new w (objN op u nm vk)
  have c0 := (show w1.cell? ⟨p0, 0, none⟩ = some (.int .u8 op) from (cell_of_block n1 0).trans rfl)
  have c1 := (show w1.cell? ⟨p0, 1, none⟩ = some (.int .u8 u.kind) from (cell_of_block n1 1).trans rfl)
  have c2 := (show w1.cell? ⟨p0, 2, none⟩ = some (.int .i64 u.num) from (cell_of_block n1 2).trans rfl)
  have c3 := (show w1.cell? ⟨p0, 3, none⟩ = some (.bool u.tr) from (cell_of_block n1 3).trans rfl)
  have c4 := (show w1.cell? ⟨p0, 4, none⟩ = some (.string u.text) from (cell_of_block n1 4).trans rfl)
  have c5 := (show w1.cell? ⟨p0, 5, none⟩ = some (.string nm) from (cell_of_block n1 5).trans rfl)
  have c6 := (show w1.cell? ⟨p0, 6, none⟩ = some vk from (cell_of_block n1 6).trans rfl)
  have HB := Lib.hid b1
  have HC := Lib.hid (hk w1 b1)
  clear n1 b1 hk
  go_enter Tryd.func31, Tryd.ntmps31
  go_wp2_with (go_at_call 9; refine HC.out.mono ?_; rintro e w5 ⟨rfl, hb5⟩; refine Hid.out ?_)
  refine Lib.hid ?_
  have HF := Lib.hid (HB.out.trans (hb5.mono HB.out.size))
  clear hb5
  go_wp2_with fail
  go_ret
  exact ⟨rfl, by first | exact HF.out | (rw [hp0]; exact HF.out)⟩
theorem any_check : ∀ l : List Nd, l.any (fun n => !checkN n) = !checkL l
  | [] => rfl
  | a :: r => by
    show (!checkN a || r.any (fun n => !checkN n)) = !(checkN a && checkL r)
    rw [any_check r, Bool.not_and]
/-- What Check answers of a node whose kids are known. -/
theorem chk_head (W : World) (op : Int) (v : Vl) (nm : ByteArray) (ks : List Nd) (hw : HeadW (.mk op v nm ks)) (hT : Tabs8 W) (vk : Value) (hk : KidsR W W.heap.size vk ks)
    (hC : ∀ V, Below W.heap.size W V → Calls Tryd.prog 30 #[vk, .func (.func 31) #[] #[]] V fun e w' => e = .returned (.bool (!checkL ks)) ∧ Below V.heap.size V w') :
    Calls Tryd.prog 9 #[valO op v nm vk] W fun e w' => e = .returned (.bool (headB op v nm ks.length && checkL ks)) ∧ Below W.heap.size W w' := by
  obtain ⟨a, c, rfl⟩ := hk.val
  have hu := hw.v
  have no : ∀ b, headB op v nm ks.length = b → (b && checkL ks) = (headB op v nm ks.length && checkL ks) := fun b h => by rw [h]
  have yes : headB op v nm ks.length = true → (headB op v nm ks.length && checkL ks) = !(!checkL ks) := fun h => by rw [h, Bool.true_and, Bool.not_not]
  by_cases hA : (ks.length : Int) = kidsN op
  · have hA' : ((ks.length : Int) == kidsN op) = true := by simpa using hA
    by_cases h1 : op = 1
    · have q1 : (op == 1) = true := by simpa using h1
      have q2 : (op == 2) = false := by rw [h1]; rfl
      cases hn : nm.toList.isEmpty with
      | false =>
        rw [← no false (by unfold headB; rw [q1, q2, hn]; simp), Bool.false_and]
        exact chk_nm1 W op v nm a ks.length c hA h1 hn
      | true =>
        cases hc : checkB v with
        | false =>
          rw [← no false (by unfold headB; rw [q1, q2, hn, hc]; simp), Bool.false_and]
          exact chk_lit0 W op v nm a ks.length c hA h1 hn hu hT hc
        | true =>
          by_cases hneg : v.num < 0
          · rw [← no false (by unfold headB; rw [q1, q2, hn, hc, decide_eq_false (show ¬ (0 ≤ v.num) by omega)]; simp), Bool.false_and]
            exact chk_lit1 W op v nm a ks.length c hA h1 hn hu hT hc hneg
          · rw [yes (by unfold headB; rw [hA', q1, q2, hn, hc, decide_eq_true (show 0 ≤ v.num by omega)]; simp)]
            exact chk_lit W op v nm a ks.length c _ hA h1 hn hu hT hc (by omega) hC
    · have q1 : (op == 1) = false := by simpa using h1
      cases hv : vlEq v Vl.zero with
      | false =>
        rw [← no false (by unfold headB; rw [q1, hv]; simp), Bool.false_and]
        exact chk_val W op v nm a ks.length c hA h1 hv
      | true =>
        by_cases h2 : op = 2
        · have q2 : (op == 2) = true := by simpa using h2
          cases hc : nameB nm with
          | false =>
            rw [← no false (by unfold headB; rw [q1, q2, hv, hc]; simp), Bool.false_and]
            exact chk_var0 W op v nm a ks.length c hA h2 hv hc
          | true =>
            cases hw' : keyWord nm with
            | true =>
              rw [← no false (by unfold headB; rw [q1, q2, hv, hc, hw']; simp), Bool.false_and]
              exact chk_var1 W op v nm a ks.length c hA h2 hv hc hw'
            | false =>
              rw [yes (by unfold headB; rw [hA', q1, q2, hv, hc, hw']; simp)]
              exact chk_var W op v nm a ks.length c _ hA h2 hv hc hw' hC
        · have q2 : (op == 2) = false := by simpa using h2
          cases hn : nm.toList.isEmpty with
          | false =>
            rw [← no false (by unfold headB; rw [q1, q2, hv, hn]; simp), Bool.false_and]
            exact chk_nm0 W op v nm a ks.length c hA h1 hv h2 hn
          | true =>
            rw [yes (by unfold headB; rw [hA', q1, q2, hv, hn]; simp)]
            exact chk_op W op v nm a ks.length c _ hA h1 h2 hv hn hC
  · have hA' : ((ks.length : Int) == kidsN op) = false := by simpa using hA
    rw [← no false (by unfold headB; rw [hA']; simp), Bool.false_and]
    exact chk_len W op v nm a ks.length c hA

mutual
theorem check_N : ∀ n : Nd, HeadW n → ∀ (W : World) (vk : Value), Tabs8 W → KidsR W W.heap.size vk n.kids → Calls Tryd.prog 9 #[valN n vk] W fun e w' => e = .returned (.bool (checkN n)) ∧ Below W.heap.size W w'
  | .mk op v nm ks, hw, W, vk, hT, hk => by
    have hL := check_L ks
    refine chk_head W op v nm ks hw hT vk hk (fun V hV => ?_)
    rw [← any_check]
    refine nodesHas_any V vk ks (hk.mono hV hV.size) 31 #[] (fun n => !checkN n) (fun args W => by kernel_rfl) (fun i hi vk' W' hb hk' hw' => ?_)
    exact check1_any W' ks[i].op ks[i].v ks[i].name vk' (checkN ks[i]) (fun W2 h2 => hL i hi hw' W2 vk' (Utf8Tabs_below (Utf8Tabs_below hT hV) (hb.trans (h2.mono hb.size))) (hk'.mono (h2.mono hb.size) (Nat.le_trans hb.size h2.size)))
theorem check_L : ∀ ks : List Nd, ∀ i (hi : i < ks.length), HeadW ks[i] → ∀ (W : World) (vk : Value), Tabs8 W → KidsR W W.heap.size vk ks[i].kids → Calls Tryd.prog 9 #[valO ks[i].op ks[i].v ks[i].name vk] W fun e w' => e = .returned (.bool (checkN ks[i])) ∧ Below W.heap.size W w'
  | [], i, hi, _, _, _, _, _ => absurd hi (by simp)
  | a :: r, 0, _, hw, W, vk, hT, hk => check_N a hw W vk hT hk
  | a :: r, i + 1, hi, hw, W, vk, hT, hk => check_L r i (by simp at hi; omega) hw W vk hT hk
end
end Go.Proofs.YtjfiijbmkcfooaaDoor
