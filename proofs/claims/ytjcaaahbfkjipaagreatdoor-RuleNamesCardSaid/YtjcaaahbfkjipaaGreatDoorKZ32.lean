/- Texts fused by fuse.py: KExprPar5. -/
import Derived.Test.YtjcaaahbfkjipaaGreatDoorKZ31
/- Of ExprPar5: what FRuleNames uses (shake.py). -/
set_option maxRecDepth 100000
/- The closures of expr.Parse: first (seat expr). -/
namespace Go.Proofs.YtjcaaahbfkjipaaGreatDoor
open Go.RowKit
def firstE (s : List UInt8) (f : Nat) (line : Nat) (st : Tk × Nat) : Rs (Nd × (Tk × Nat)) :=
  if (sayOf st.1).data.toList = [110, 111, 116] ∧ line ≤ 3 then aheadE s f 3 3 st
  else if (sayOf st.1).data.toList = [45] then aheadE s f 4 7 st
  else if (sayOf st.1).data.toList = [40] then brackE s f st
  else atomE s st
theorem bind_assoc' {α β γ : Type} (x : Rs α) (k : α → Rs β) (h : β → Rs γ) : ((x >>= k) >>= h) = (x >>= fun a => k a >>= h) := by
  cases x <;> rfl
theorem prs_first (s : List UInt8) (f line : Nat) (st : Tk × Nat) : prsE s (f + 1) none line st = (firstE s f line st >>= fun r => prsE s f (some r.1) line r.2) := by
  obtain ⟨tk, i⟩ := st
  rw [prsE]
  cases tk with
  | fin a => rfl
  | nd n a =>
    unfold firstE
    have e : (sayOf (Tk.nd n a)).data.toList = [] := rfl
    simp only [e]
    rw [if_neg (by rintro ⟨h, _⟩; cases h), if_neg (by intro h; cases h), if_neg (by intro h; cases h)]
    unfold atomE
    simp only
    rw [bind_assoc']
    rfl
  | say u a =>
    have e : (sayOf (Tk.say u a)).data.toList = u := rfl
    unfold firstE
    simp only [e]
    split
    · unfold aheadE
      simp only [bind_assoc']
      rfl
    · split
      · unfold aheadE
        simp only [bind_assoc']
        rfl
      · split
        · unfold brackE
          simp only [bind_assoc']
          congr 1
          funext st1
          congr 1
          funext r
          obtain ⟨n, st2⟩ := r
          obtain ⟨t2, j⟩ := st2
          simp only
          split
          · cases nextE s j <;> rfl
          · next hx =>
            split
            · next c => exact absurd rfl (hx c)
            · rfl
        · rfl
theorem fin_say {st : Tk × Nat} (h : (sayOf st.1).data.toList ≠ []) : isFin st.1 = false := by
  obtain ⟨tk, i⟩ := st
  cases tk with
  | fin a => exact absurd rfl h
  | nd n a => rfl
  | say u a => rfl
set_option maxHeartbeats 8000000 in
theorem first_any {s : ByteArray} (hs : s.size ≤ 256) {B px cx cf c7 c8 c9 c10 f : Nat} (HF : FromC s B px cx cf c7 c8 c9 c10 f) {w : World} (hX : PX w B px cx cf c7 c8 c9 c10) {st : Tk × Nat} (hlx : LxT w px s st) (hst : StW s.data.toList.length st) (line : Nat) (hmu : mu s.data.toList.length st ≤ f) :
    Calls Tryz.prog 130 #[.int .i64 (line : Int), .pointer (some ⟨cx, 0, none⟩), .pointer (some ⟨c7, 0, none⟩), .pointer (some ⟨c9, 0, none⟩), .pointer (some ⟨c8, 0, none⟩)] w (PartC w px s (firstE s.data.toList f line st)) := by
  obtain ⟨w1, p0, hp0, hw1, l0, n0, b0⟩ := box_new w nilObj
  have hX1 := hX.below b0
  obtain ⟨c, hc⟩ := hlx.lex
  have hpx := lt_of_block hc
  have hlx1 := hlx.kept (b0.block _ hpx)
  have k0 : w1.cell? ⟨cx, 0, none⟩ = some (.pointer (some ⟨px, 0, none⟩)) := cell_of_block hX1.pw.hx 0
  have k7 : w1.cell? ⟨c7, 0, none⟩ = some (.func (.func 126) #[] #[.pointer (some ⟨cx, 0, none⟩), .pointer (some ⟨cf, 0, none⟩)]) := cell_of_block hX1.pw.h7 0
  have k8 : w1.cell? ⟨c8, 0, none⟩ = some (.func (.func 127) #[] #[.pointer (some ⟨cx, 0, none⟩)]) := cell_of_block hX1.pw.h8 0
  have k9' : w1.cell? ⟨c9, 0, none⟩ = some (.func (.func 129) #[] #[.pointer (some ⟨cx, 0, none⟩), .pointer (some ⟨cf, 0, none⟩)]) := cell_of_block hX1.pw.h9 0
  have k9 := hlx1.c9
  obtain ⟨sy, hsy⟩ : ∃ sy, sayOf st.1 = sy := ⟨_, rfl⟩
  rw [hsy] at k9
  have HB := Lib.hid b0
  have HX1 := Lib.hid hX1
  have HN0 := Lib.hid n0
  have HLX := Lib.hid hlx1
  have HP0 := Lib.hid hp0
  have HSY := Lib.hid hsy
  have hfs : Hid (sy.data.toList ≠ [] → isFin st.1 = false) := Lib.hid (fun h => fin_say (by rw [hsy]; exact h))
  have hFE : Hid (firstE s.data.toList f line st = if sy.data.toList = [110, 111, 116] ∧ line ≤ 3 then aheadE s.data.toList f 3 3 st
      else if sy.data.toList = [45] then aheadE s.data.toList f 4 7 st
      else if sy.data.toList = [40] then brackE s.data.toList f st
      else atomE s.data.toList st) := Lib.hid (by unfold firstE; rw [hsy])
  clear hX hX1 hlx hlx1 hc b0 n0 hsy
  have s1 : (sy.toList == [110, 111, 116]) = decide (sy.data.toList = [110, 111, 116]) := by rw [Lib.toList_data]; exact beq_dec _ _
  have s2 : (sy.toList == [45]) = decide (sy.data.toList = [45]) := by rw [Lib.toList_data]; exact beq_dec _ _
  have s3 : (sy.toList == [40]) = decide (sy.data.toList = [40]) := by rw [Lib.toList_data]; exact beq_dec _ _
  -- which callee
  have key : ∃ (b1 b2 b3 : Bool) (r : Rs (Nd × (Tk × Nat))), decide (sy.data.toList = [110, 111, 116]) = b1 ∧ decide (sy.data.toList = [45]) = b2 ∧ decide (sy.data.toList = [40]) = b3 ∧ firstE s.data.toList f line st = r ∧
      ((b1 = true ∧ decide (line ≤ 3) = true ∧ decide ((line : Int) ≤ 3) = true ∧ Calls Tryz.prog 126 #[.int .u8 3, .int .i64 3, .pointer (some ⟨cx, 0, none⟩), .pointer (some ⟨cf, 0, none⟩)] w1 (PartC w1 px s r)) ∨
       ((b1 = false ∨ (b1 = true ∧ decide (line ≤ 3) = false ∧ decide ((line : Int) ≤ 3) = false)) ∧ b2 = true ∧ Calls Tryz.prog 126 #[.int .u8 4, .int .i64 7, .pointer (some ⟨cx, 0, none⟩), .pointer (some ⟨cf, 0, none⟩)] w1 (PartC w1 px s r)) ∨
       ((b1 = false ∨ (b1 = true ∧ decide (line ≤ 3) = false ∧ decide ((line : Int) ≤ 3) = false)) ∧ b2 = false ∧ b3 = true ∧ Calls Tryz.prog 129 #[.pointer (some ⟨cx, 0, none⟩), .pointer (some ⟨cf, 0, none⟩)] w1 (PartC w1 px s r)) ∨
       ((b1 = false ∨ (b1 = true ∧ decide (line ≤ 3) = false ∧ decide ((line : Int) ≤ 3) = false)) ∧ b2 = false ∧ b3 = false ∧ Calls Tryz.prog 127 #[.pointer (some ⟨cx, 0, none⟩)] w1 (PartC w1 px s r))) := by
    refine ⟨_, _, _, _, rfl, rfl, rfl, rfl, ?_⟩
    rw [hFE.out]
    by_cases h1 : sy.data.toList = [110, 111, 116] ∧ line ≤ 3
    · rw [if_pos h1]
      exact .inl ⟨decide_eq_true h1.1, decide_eq_true h1.2, decide_eq_true (by omega), ahead_any hs HF HX1.out HLX.out hst (hfs.out (by rw [h1.1]; decide)) 3 (by omega) (by omega) 3 (by omega) hmu⟩
    · rw [if_neg h1]
      have hn1 : decide (sy.data.toList = [110, 111, 116]) = false ∨ (decide (sy.data.toList = [110, 111, 116]) = true ∧ decide (line ≤ 3) = false ∧ decide ((line : Int) ≤ 3) = false) := by
        by_cases h : sy.data.toList = [110, 111, 116]
        · exact .inr ⟨decide_eq_true h, decide_eq_false (fun hl => h1 ⟨h, hl⟩), decide_eq_false (fun hl => h1 ⟨h, by omega⟩)⟩
        · exact .inl (decide_eq_false h)
      refine .inr ?_
      by_cases h2 : sy.data.toList = [45]
      · rw [if_pos h2]
        exact .inl ⟨hn1, decide_eq_true h2, ahead_any hs HF HX1.out HLX.out hst (hfs.out (by rw [h2]; decide)) 4 (by omega) (by omega) 7 (by omega) hmu⟩
      · rw [if_neg h2]
        refine .inr ?_
        by_cases h3 : sy.data.toList = [40]
        · rw [if_pos h3]
          exact .inl ⟨hn1, decide_eq_false h2, decide_eq_true h3, brack_any hs HF HX1.out HLX.out hst (hfs.out (by rw [h3]; decide)) hmu⟩
        · rw [if_neg h3]
          exact .inr ⟨hn1, decide_eq_false h2, decide_eq_false h3, atom_any hs HX1.out HLX.out hst⟩
  obtain ⟨b1, b2, b3, r, e1, e2, e3, e4, key⟩ := key
  rw [e1] at s1
  rw [e2] at s2
  rw [e3] at s3
  have E4 := Lib.hid e4
  clear e1 e2 e3 e4 hFE
  have fin : Hid (∀ (w3 : World) (n : Nd) (a : Option Addr) (c3 d : Nat), Frm [some px] w1 w3 → partR w3 px s w1.heap.size n (.slice a c3 d) r → PartC w px s (firstE s.data.toList f line st) (.returned (valN n (.slice a c3 d))) (set7 w3 p0 (.int .u8 n.op) (.int .u8 n.v.kind) (.int .i64 n.v.num) (.bool n.v.tr) (.string n.v.text) (.string n.name) (.slice a c3 d))) := Lib.hid (fun w3 n a c3 d hF hr => by
    have hd := put_done (w := w) (w3 := w3) (p0 := p0) (lo := w1.heap.size) (n := n) (vk := .slice a c3 d) (s := s) (r := r) HP0.out hpx l0 ((Frm.ofBelow HB.out).trans hF (by intro r hr; exact .inl hr)) hr
    rw [E4.out]
    exact ⟨_, _, _, _, rfl, hd.1, hd.2⟩)
  rcases key with ⟨rfl, e5, e6, hC⟩ | ⟨hb1, rfl, hC⟩ | ⟨hb1, rfl, rfl, hC⟩ | ⟨hb1, rfl, rfl, hC⟩
  · have HC := Lib.hid hC
    clear hC
    go_enter Tryz.func130, Tryz.ntmps130
    go_wp2_with (go_at_call 126; refine HC.out.mono ?_; rintro e w3 ⟨n, a, c3, d, rfl, hF3, hr3⟩; have hn3 := hF3.block HN0.out (by intro r hr e; simp only [List.mem_singleton] at hr; rw [hr] at e; injection e with e; omega); obtain ⟨d0, d1, d2, d3, d4, d5, d6, df⟩ := n7_cells hn3; have H3 := Lib.hid (And.intro hF3 hr3); clear hF3 hr3 hn3)
    refine bodyPost_ret (v := valN n (.slice a c3 d)) (by simp [results, Tryz.results130, go_sem, d0, d1, d2, d3, d4, d5, d6]) rfl ?_
    exact fin.out _ _ _ _ _ H3.out.1 H3.out.2
  · have HC := Lib.hid hC
    clear hC
    rcases hb1 with rfl | ⟨rfl, e5, e6⟩
    all_goals
      go_enter Tryz.func130, Tryz.ntmps130
      go_wp2_with (go_at_call 126; refine HC.out.mono ?_; rintro e w3 ⟨n, a, c3, d, rfl, hF3, hr3⟩; have hn3 := hF3.block HN0.out (by intro r hr e; simp only [List.mem_singleton] at hr; rw [hr] at e; injection e with e; omega); obtain ⟨d0, d1, d2, d3, d4, d5, d6, df⟩ := n7_cells hn3; have H3 := Lib.hid (And.intro hF3 hr3); clear hF3 hr3 hn3)
      refine bodyPost_ret (v := valN n (.slice a c3 d)) (by simp [results, Tryz.results130, go_sem, d0, d1, d2, d3, d4, d5, d6]) rfl ?_
      exact fin.out _ _ _ _ _ H3.out.1 H3.out.2
  · have HC := Lib.hid hC
    clear hC
    rcases hb1 with rfl | ⟨rfl, e5, e6⟩
    all_goals
      go_enter Tryz.func130, Tryz.ntmps130
      go_wp2_with (go_at_call 129; refine HC.out.mono ?_; rintro e w3 ⟨n, a, c3, d, rfl, hF3, hr3⟩; have hn3 := hF3.block HN0.out (by intro r hr e; simp only [List.mem_singleton] at hr; rw [hr] at e; injection e with e; omega); obtain ⟨d0, d1, d2, d3, d4, d5, d6, df⟩ := n7_cells hn3; have H3 := Lib.hid (And.intro hF3 hr3); clear hF3 hr3 hn3)
      refine bodyPost_ret (v := valN n (.slice a c3 d)) (by simp [results, Tryz.results130, go_sem, d0, d1, d2, d3, d4, d5, d6]) rfl ?_
      exact fin.out _ _ _ _ _ H3.out.1 H3.out.2
  · have HC := Lib.hid hC
    clear hC
    rcases hb1 with rfl | ⟨rfl, e5, e6⟩
    all_goals
      go_enter Tryz.func130, Tryz.ntmps130
      go_wp2_with (go_at_call 127; refine HC.out.mono ?_; rintro e w3 ⟨n, a, c3, d, rfl, hF3, hr3⟩; have hn3 := hF3.block HN0.out (by intro r hr e; simp only [List.mem_singleton] at hr; rw [hr] at e; injection e with e; omega); obtain ⟨d0, d1, d2, d3, d4, d5, d6, df⟩ := n7_cells hn3; have H3 := Lib.hid (And.intro hF3 hr3); clear hF3 hr3 hn3)
      refine bodyPost_ret (v := valN n (.slice a c3 d)) (by simp [results, Tryz.results130, go_sem, d0, d1, d2, d3, d4, d5, d6]) rfl ?_
      exact fin.out _ _ _ _ _ H3.out.1 H3.out.2
end Go.Proofs.YtjcaaahbfkjipaaGreatDoor
