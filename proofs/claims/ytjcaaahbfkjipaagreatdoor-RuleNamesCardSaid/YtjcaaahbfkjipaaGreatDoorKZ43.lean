/- Texts fused by fuse.py: KRuleCheck, KRuleSmall. -/
import Derived.Test.YtjcaaahbfkjipaaGreatDoorKZ22
import Derived.Test.YtjcaaahbfkjipaaGreatDoorKZ37
import Derived.Test.YtjcaaahbfkjipaaGreatDoorKZ39
import Derived.Test.YtjcaaahbfkjipaaGreatDoorKZ40
import Derived.Test.YtjcaaahbfkjipaaGreatDoorKZ41
import Derived.Test.YtjcaaahbfkjipaaGreatDoorKZ42
import Derived.Shelf.Abstract
import Derived.Laws.EntriesVeiled
import Derived.Test.YtjcaaahbfkjipaaGreatDoorKZ20
/- Of RuleCheck: what FRuleNames uses (shake.py). -/
set_option maxRecDepth 100000
/- rule.Check: the first rule that is broken. -/
namespace Go.Proofs.YtjcaaahbfkjipaaGreatDoor
open Go.RowKit
theorem first_at : ∀ (L : List (Option ByteArray)) (k : Nat) (i : Int) (s : ByteArray), (∀ j, j < k → L[j]? = some none) → L[k]? = some (some s) → firstR i L = (i + k, s, 140)
  | [], k, i, s, _, h => by simp at h
  | some t :: r, 0, i, s, _, h => by
    simp at h
    show (i, t, (140 : Int)) = _
    rw [h]; simp
  | some t :: r, k + 1, i, s, h0, _ => by have := h0 0 (by omega); simp at this
  | none :: r, 0, i, s, _, h => by simp at h
  | none :: r, k + 1, i, s, h0, h => by
    have := first_at r k (i + 1) s (fun j hj => by have := h0 (j + 1) (by omega); simpa using this) (by simpa using h)
    show firstR (i + 1) r = _
    rw [this]
    congr 1
    omega
theorem first_none : ∀ (L : List (Option ByteArray)) (i : Int), (∀ j, j < L.length → L[j]? = some none) → firstR i L = (0, ⟨#[]⟩, 0)
  | [], _, _ => rfl
  | some t :: r, i, h => by have := h 0 (by simp); simp at this
  | none :: r, i, h => first_none r (i + 1) (fun j hj => by have := h (j + 1) (by simp; omega); simpa using this)
def rulesF : List FuncId := [33, 34, 35, 36, 37, 38, 39, 40, 41]
section
variable {w : World} {x : IX} {m : Md}
theorem rule_at (h : IdxR w w.heap.size x m) (hg : Gr w) (hl : m.els.length ≤ 1000) {k : Nat} (hk : k < 9) : ∃ F r, rulesF[k]? = some F ∧ (ruleL m)[k]? = some r ∧ (∀ (args : Array Value) (W : World), (callFunc F args).run Tryz.prog W = .ok (.enter F args) W) ∧
    Calls Tryz.prog F #[.pointer (some ⟨x.p, 0, none⟩)] w (RuleR r w) := by
  obtain rfl | rfl | rfl | rfl | rfl | rfl | rfl | rfl | rfl : k = 0 ∨ k = 1 ∨ k = 2 ∨ k = 3 ∨ k = 4 ∨ k = 5 ∨ k = 6 ∨ k = 7 ∨ k = 8 := by omega
  · exact ⟨_, _, rfl, rfl, enters_of Tryz.func33 (by kernel_rfl) rfl, one_any h hg⟩
  · exact ⟨_, _, rfl, rfl, enters_of Tryz.func34 (by kernel_rfl) rfl, two_any h⟩
  · exact ⟨_, _, rfl, rfl, enters_of Tryz.func35 (by kernel_rfl) rfl, three_any h⟩
  · exact ⟨_, _, rfl, rfl, enters_of Tryz.func36 (by kernel_rfl) rfl, four_any h⟩
  · exact ⟨_, _, rfl, rfl, enters_of Tryz.func37 (by kernel_rfl) rfl, five_any h hl⟩
  · exact ⟨_, _, rfl, rfl, enters_of Tryz.func38 (by kernel_rfl) rfl, six_any h hg⟩
  · exact ⟨_, _, rfl, rfl, enters_of Tryz.func39 (by kernel_rfl) rfl, seven_any h⟩
  · exact ⟨_, _, rfl, rfl, enters_of Tryz.func40 (by kernel_rfl) rfl, eight_any h⟩
  · exact ⟨_, _, rfl, rfl, enters_of Tryz.func41 (by kernel_rfl) rfl, nine_any h⟩
theorem ruleL_len (m : Md) : (ruleL m).length = 9 := rfl
set_option maxHeartbeats 8000000 in
theorem check_any (vv ve vf : Value) (h : MdR w w.heap.size vv ve vf m) (hg : Gr w) (hl : m.els.length ≤ 1000) (hfl : m.fls.length ≤ 1000000) :
    Calls Tryz.prog 11 #[valMd m vv ve vf] w fun e w' => e = .returned (.tuple #[.int .i64 (ruleE m).1, .string (ruleE m).2.1, .int .i64 (ruleE m).2.2]) ∧ Below w.heap.size w w' := by
  obtain ⟨a1, k1, a2, k2, a3, k3, rfl, rfl, rfl⟩ := h.shape
  obtain ⟨w1, pm, hp1, hw1, l1, n1, b1⟩ := box_new w (.cells #[.string m.id, .string m.name, .slice a1 m.vars.length k1, .slice a2 m.els.length k2, .slice a3 m.fls.length k3] 26)
  have c0 : w1.cell? ⟨pm, 0, none⟩ = some (.string m.id) := (cell_of_block n1 0).trans rfl
  have c1 : w1.cell? ⟨pm, 1, none⟩ = some (.string m.name) := (cell_of_block n1 1).trans rfl
  have c2 : w1.cell? ⟨pm, 2, none⟩ = some (.slice a1 m.vars.length k1) := (cell_of_block n1 2).trans rfl
  have c3 : w1.cell? ⟨pm, 3, none⟩ = some (.slice a2 m.els.length k2) := (cell_of_block n1 3).trans rfl
  have c4 : w1.cell? ⟨pm, 4, none⟩ = some (.slice a3 m.fls.length k3) := (cell_of_block n1 4).trans rfl
  have HX := Lib.hid (indexOf_any (w := w1) _ _ _ (h.mono b1 b1.size) hfl)
  have HB1 := Lib.hid b1
  have HG := Lib.hid hg
  obtain ⟨rk, rs, re, hr⟩ : ∃ a b c, ruleE m = (a, b, c) := ⟨_, _, _, rfl⟩
  rw [hr]
  have HR := Lib.hid hr
  have HL := Lib.hid hl
  clear h n1 b1 hg hr hl hfl
  go_enter Tryz.func11, Tryz.ntmps11
  go_wp2_with (go_at_call 32; refine HX.out.mono ?_; rintro e w2 ⟨x, _, _, _, rfl, hx, hb2⟩; have HI := Lib.hid (And.intro hx (HB1.out.trans (hb2.mono HB1.out.size))); clear hx hb2; refine Hid.out ?_)
  refine Lib.hid ?_
  obtain ⟨w3, pb, hp3, hw3, l3, n3, b3⟩ := box_new w2 (.cells #[.func (.func 33) #[] #[], .func (.func 34) #[] #[], .func (.func 35) #[] #[], .func (.func 36) #[] #[], .func (.func 37) #[] #[], .func (.func 38) #[] #[], .func (.func 39) #[] #[], .func (.func 40) #[] #[], .func (.func 41) #[] #[]] 55)
  have HB3 := Lib.hid (HI.out.2.trans (b3.mono HI.out.2.size))
  have HX3 := Lib.hid (HI.out.1.mono b3 b3.size)
  have HN3 := Lib.hid n3
  have HC3 : Hid (∀ k F, rulesF[k]? = some F → w3.cell? ⟨pb, k, none⟩ = some (.func (.func F) #[] #[])) := Lib.hid (fun k F hF => by
    rw [cell_of_block n3]
    have : (rulesF.map fun F => Value.func (.func F) #[] #[])[k]? = some (.func (.func F) #[] #[]) := by rw [List.getElem?_map, hF]; rfl
    simpa [rulesF] using this)
  clear n3 b3
  go_wp2_with fail
  go_loopg [14] 9 (fun g s14 wr => ∃ k : Nat, k + g = 9 ∧ s14 = .int .i64 (k : Int) ∧ Hid (∀ j, j < k → (ruleL m)[j]? = some none) ∧ Hid (Below w3.heap.size w3 wr))
  case atStart => exact ⟨0, by omega, rfl, Lib.hid (fun j hj => by omega), Lib.hid (Below.refl _ _)⟩
  case round =>
    obtain ⟨k, hkg, rfl, hP, hB⟩ := hrel
    by_cases hk : k < 9
    · have hbw : Below w.heap.size w wr := HB3.out.trans (hB.out.mono HB3.out.size)
      obtain ⟨F, r, hF, hr, hrun, hcall⟩ := rule_at (w := wr) (HX3.out.mono hB.out hB.out.size) (HG.out.up hbw) HL.out hk
      have cF : wr.cell? ⟨pb, k, none⟩ = some (.func (.func F) #[] #[]) := (Below.cellB hB.out l3).trans (HC3.out k F hF)
      have HCALL := Lib.hid hcall
      have dk : decide (k < 9) = true := decide_eq_true hk
      have dk' : decide ((k : Int) < 9) = true := decide_eq_true (by omega)
      have j1 : (0 : Int) ≤ (k : Int) := by omega
      have j2 : (k : Int) < 9 := by omega
      have HBW := Lib.hid hbw
      cases r with
      | some s =>
        have HE : Hid (rk = (k : Int) + 1 ∧ rs = s ∧ re = 140) := Lib.hid (by
          have h1 := HR.out
          unfold ruleE at h1
          rw [first_at (ruleL m) k 1 s hP.out hr] at h1
          injection h1 with h2 h3
          injection h3 with h4 h5
          exact ⟨by omega, h4.symm, h5.symm⟩)
        clear hF hr hcall hbw
        go_wp2_with fail
        refine HCALL.out.mono ?_
        rintro e w5 ⟨rfl, hb5⟩
        have HB5 := Lib.hid (HBW.out.trans (hb5.mono HBW.out.size))
        clear hb5
        go_wp2_with fail
        go_ret3
        exact ⟨by rw [HE.out.1, HE.out.2.1, HE.out.2.2]; rfl, HB5.out⟩
      | none =>
        have HE : Hid (∀ j, j < k + 1 → (ruleL m)[j]? = some none) := Lib.hid (fun j hj => by
          rcases Nat.lt_succ_iff_lt_or_eq.1 hj with h | rfl
          · exact hP.out j h
          · exact hr)
        clear hF hr hcall hbw
        go_wp2_with fail
        refine HCALL.out.mono ?_
        rintro e w5 ⟨rfl, hb5⟩
        have HB5 := Lib.hid (hB.out.trans (hb5.mono hB.out.size))
        clear hb5
        go_wp2_with fail
        go_roundg (gk - 1)
        case measure => omega
        case rel => exact ⟨k + 1, by omega, by go_num, HE, HB5⟩
    · obtain rfl : k = 9 := by omega
      have HE : Hid (rk = 0 ∧ rs = ⟨#[]⟩ ∧ re = 0) := Lib.hid (by
        have h1 := HR.out
        unfold ruleE at h1
        rw [first_none (ruleL m) 1 (by rw [ruleL_len]; exact hP.out)] at h1
        injection h1 with h2 h3
        injection h3 with h4 h5
        exact ⟨h2.symm, h4.symm, h5.symm⟩)
      have dk' : decide (((9 : Nat) : Int) < 9) = false := by decide
      have HBW := Lib.hid (HB3.out.trans (hB.out.mono HB3.out.size))
      go_wp2_with fail
      go_ret3
      exact ⟨by rw [HE.out.1, HE.out.2.1, HE.out.2.2]; rfl, HBW.out⟩
end
end Go.Proofs.YtjcaaahbfkjipaaGreatDoor

/- Of RuleSmall: what FRuleNames uses (shake.py). -/
set_option maxRecDepth 100000
/- The law's small model, and its awake. -/
namespace Go.Proofs.YtjcaaahbfkjipaaGreatDoor
open Go.RowKit
abbrev nS : ByteArray := ⟨#[]⟩
def smS : El := ⟨⟨#[115]⟩, nS, 1, nS, nS, nS, 0, nS, nS, 0, 0⟩
def smE : El := ⟨⟨#[101]⟩, nS, 2, nS, nS, nS, 0, nS, nS, 0, 0⟩
def smF : Fl := ⟨⟨#[102]⟩, ⟨#[115]⟩, ⟨#[101]⟩, nS⟩
def smM : Md := ⟨⟨#[112]⟩, nS, [], [smS, smE], [smF]⟩
abbrev oEls2 (a b : El) : Obj := .cells #[.string a.id, .string a.name, .int .u8 a.kind, .string a.inn, .string a.dflt, .string a.att, .int .u8 a.event, .string a.ref, .string a.key, .int .i64 a.ticks, .int .i64 a.tries, .string b.id, .string b.name, .int .u8 b.kind, .string b.inn, .string b.dflt, .string b.att, .int .u8 b.event, .string b.ref, .string b.key, .int .i64 b.ticks, .int .i64 b.tries] 39
theorem elW_0 (x : El) (h1 : x.id.size ≤ 100) (h2 : x.name.size ≤ 100) (h3 : 0 ≤ x.kind ∧ x.kind ≤ 255) (h4 : x.inn.size ≤ 100 ∧ x.dflt.size ≤ 100 ∧ x.att.size ≤ 100 ∧ x.ref.size ≤ 100 ∧ x.key.size ≤ 100) (h5 : x.event = 0 ∧ x.ticks = 0 ∧ x.tries = 0) : ElW x :=
  ⟨by omega, by omega, h3.1, h3.2, by omega, by omega, by omega, by rw [h5.1]; decide, by rw [h5.1]; decide, by omega, by omega, by rw [h5.2.1]; decide, by rw [h5.2.1]; decide, by rw [h5.2.2]; decide, by rw [h5.2.2]; decide⟩
theorem elW_S : ElW smS := elW_0 _ (by decide) (by decide) (by decide) (by decide) (by decide)
theorem elW_E : ElW smE := elW_0 _ (by decide) (by decide) (by decide) (by decide) (by decide)
theorem els_2 {w : World} {p : Nat} {a b : El} {t : TypeId} {fr : Nat × Nat} (h : w.heap[p]? = some (.cells (cellEl a ++ cellEl b).toArray t fr)) (ha : ElW a) (hb : ElW b) (cap : Nat) (hc : 2 ≤ cap) : ElsR w w.heap.size (.slice (some ⟨p, 0, none⟩) 2 cap) [a, b] := by
  refine ⟨_, cap, rfl, by simp, hc, fun i hi => ⟨p, 0, rfl, lt_of_block h, fun j hj => ?_⟩, ?_⟩
  · rw [cell_of_block h]
    obtain rfl | rfl : i = 0 ∨ i = 1 := by simp at hi; omega
    · rw [List.getElem?_toArray, List.getElem?_append_left (by rw [cellEl_len]; omega)]
      simp
    · rw [List.getElem?_toArray, List.getElem?_append_right (by rw [cellEl_len]; omega), cellEl_len]
      congr 1
      omega
  · intro y hy
    simp only [List.mem_cons, List.not_mem_nil, or_false] at hy
    rcases hy with rfl | rfl
    · exact ha
    · exact hb
theorem fls_1 {w : World} {p : Nat} {f : Fl} {t : TypeId} {fr : Nat × Nat} (h : w.heap[p]? = some (.cells (cellFl f).toArray t fr)) (hf : FlW f) (cap : Nat) (hc : 1 ≤ cap) : FlsR w w.heap.size (.slice (some ⟨p, 0, none⟩) 1 cap) [f] := by
  refine ⟨_, cap, rfl, by simp, hc, fun i hi => ⟨p, 0, rfl, lt_of_block h, fun j hj => ?_⟩, ?_⟩
  · rw [cell_of_block h]
    obtain rfl : i = 0 := by simp at hi; omega
    rw [List.getElem?_toArray]
    simp
  · intro y hy
    rw [List.mem_singleton] at hy
    rw [hy]; exact hf
theorem flW_F : FlW smF := ⟨by decide, by decide, by decide, by decide⟩
theorem bds_0 (w : World) (B : Nat) : BdsR w B (.slice none 0 0) [] := ⟨none, 0, rfl, by simp, by simp, fun i h => by simp at h, fun b hb => by cases hb⟩
section
variable {w : World}
/-- The small model in memory. -/
structure SmR (w' : World) (B pe pf : Nat) : Prop where
  els : w'.heap[pe]? = some (oEls2 smS smE)
  fls : w'.heap[pf]? = some (oFl smF)
  b1 : B ≤ pe
  b2 : B ≤ pf
  ne : pe ≠ pf
theorem SmR.below {w' : World} {B pe pf : Nat} (h : SmR w B pe pf) (hb : Below w.heap.size w w') : SmR w' B pe pf := { h with els := (hb.block pe (lt_of_block h.els)).trans h.els, fls := (hb.block pf (lt_of_block h.fls)).trans h.fls }
theorem SmR.md {B pe pf : Nat} (h : SmR w B pe pf) : MdR w w.heap.size (.slice none 0 0) (.slice (some ⟨pe, 0, none⟩) 2 2) (.slice (some ⟨pf, 0, none⟩) 1 1) smM :=
  ⟨bds_0 _ _, els_2 h.els elW_S elW_E 2 (Nat.le_refl _), fls_1 h.fls flW_F 1 (Nat.le_refl _), by decide, by decide⟩
set_option maxHeartbeats 2000000 in
theorem small_any : Calls Tryz.prog 14 #[] w fun e w' => ∃ pe pf, e = .returned (valMd smM (.slice none 0 0) (.slice (some ⟨pe, 0, none⟩) 2 2) (.slice (some ⟨pf, 0, none⟩) 1 1)) ∧ SmR w' w.heap.size pe pf ∧ Below w.heap.size w w' := by
  obtain ⟨w1, pr, hp1, hw1, l1, n1, b1⟩ := box_new w (.cells #[.string nS, .string nS, .slice none 0 0, .slice none 0 0, .slice none 0 0] 26)
  obtain ⟨w2, pe, hp2, hw2, l2, n2, b2⟩ := box_new w1 (oEls2 smS smE)
  obtain ⟨w3, pf, hp3, hw3, l3, n3, b3⟩ := box_new w2 (oFl smF)
  have q3 : w3.heap[pr]? = _ := ((b3.block pr (Nat.lt_of_lt_of_le l1 b2.size)).trans (b2.block pr l1)).trans n1
  have f3 := free_of_block q3
  have c0 : w3.cell? ⟨pr, 0, none⟩ = some (.string nS) := (cell_of_block q3 0).trans rfl
  have c1 : w3.cell? ⟨pr, 1, none⟩ = some (.string nS) := (cell_of_block q3 1).trans rfl
  have c2 : w3.cell? ⟨pr, 2, none⟩ = some (.slice none 0 0) := (cell_of_block q3 2).trans rfl
  have c3 : w3.cell? ⟨pr, 3, none⟩ = some (.slice none 0 0) := (cell_of_block q3 3).trans rfl
  have c4 : w3.cell? ⟨pr, 4, none⟩ = some (.slice none 0 0) := (cell_of_block q3 4).trans rfl
  obtain ⟨w4, hw4⟩ : ∃ W, ((((w3.setCell ⟨pr, 0, none⟩ (.string ⟨#[112]⟩)).setCell ⟨pr, 1, none⟩ (.string nS)).setCell ⟨pr, 2, none⟩ (.slice none 0 0)).setCell ⟨pr, 3, none⟩ (.slice (some ⟨pe, 0, none⟩) 2 2)).setCell ⟨pr, 4, none⟩ (.slice (some ⟨pf, 0, none⟩) 1 1) = W := ⟨_, rfl⟩
  have g4 : w3.grownBy w4 (some pr) := hw4 ▸ ((((grownBy_setCell w3 pr 0 _).trans (grownBy_setCell _ pr 1 _)).trans (grownBy_setCell _ pr 2 _)).trans (grownBy_setCell _ pr 3 _)).trans (grownBy_setCell _ pr 4 _)
  have n4 := hw4 ▸ heap_setCell_self (i := 4) (.slice (some ⟨pf, 0, none⟩) 1 1) (heap_setCell_self (i := 3) (.slice (some ⟨pe, 0, none⟩) 2 2) (heap_setCell_self (i := 2) (.slice none 0 0) (heap_setCell_self (i := 1) (.string nS) (heap_setCell_self (i := 0) (.string ⟨#[112]⟩) q3))))
  have d0 : w4.cell? ⟨pr, 0, none⟩ = some (.string ⟨#[112]⟩) := (cell_of_block n4 0).trans rfl
  have d1 : w4.cell? ⟨pr, 1, none⟩ = some (.string nS) := (cell_of_block n4 1).trans rfl
  have d2 : w4.cell? ⟨pr, 2, none⟩ = some (.slice none 0 0) := (cell_of_block n4 2).trans rfl
  have d3 : w4.cell? ⟨pr, 3, none⟩ = some (.slice (some ⟨pe, 0, none⟩) 2 2) := (cell_of_block n4 3).trans rfl
  have d4 : w4.cell? ⟨pr, 4, none⟩ = some (.slice (some ⟨pf, 0, none⟩) 1 1) := (cell_of_block n4 4).trans rfl
  have HS : Hid (SmR w4 w.heap.size pe pf) := Lib.hid ⟨(g4.block pe (Nat.lt_of_lt_of_le l2 b3.size) (fun e => by have := Option.some.inj e; omega)).trans ((b3.block pe l2).trans n2), (g4.block pf l3 (fun e => by have := Option.some.inj e; have := b2.size; omega)).trans n3, by have := b1.size; omega, by have := b1.size; have := b2.size; omega, by omega⟩
  have b13 := b1.trans ((b2.trans (b3.mono b2.size)).mono b1.size)
  have HB : Hid (Below w.heap.size w w4) := Lib.hid (b13.grown g4 b13.size (fun r hr => by cases hr; omega))
  simp only [smS, smE] at hw2
  simp only [smF] at hw3
  clear n1 b1 n2 b2 n3 b3 q3 g4 n4 b13
  go_enter Tryz.func14, Tryz.ntmps14
  go_wp2_with fail
  exact bodyPost_ret (v := valMd smM (.slice none 0 0) (.slice (some ⟨pe, 0, none⟩) 2 2) (.slice (some ⟨pf, 0, none⟩) 1 1)) (by simp [results, Tryz.results14, go_sem, d0, d1, d2, d3, d4, smM]) rfl ⟨pe, pf, rfl, HS.out, HB.out⟩
theorem sm_check : ruleE smM = (0, nS, 0) := by kernel_rfl
theorem sm_find : elemE smM.els ⟨#[101]⟩ = smE ∧ (findE smM.els ⟨#[101]⟩).isSome = true := ⟨by kernel_rfl, by kernel_rfl⟩
theorem sm_outs : outsE smM.fls ⟨#[115]⟩ = [⟨#[102]⟩] := by kernel_rfl
theorem sm_ins : insE smM.fls ⟨#[101]⟩ = [⟨#[102]⟩] := by kernel_rfl
set_option maxHeartbeats 8000000 in
theorem awake_any (hg : Gr w) : Calls Tryz.prog 9 #[] w fun e w' => e = .returned (.bool true) ∧ Below w.heap.size w w' := by
  have HG := Lib.hid hg
  clear hg
  go_enter Tryz.func9, Tryz.ntmps9
  go_wp2_with (go_at_call 14; refine small_any.mono ?_; rintro e w1 ⟨pe, pf, rfl, hs1, hb1⟩; have H1 := Lib.hid (And.intro hs1 hb1); clear hs1 hb1; refine Hid.out ?_)
  refine Lib.hid ?_
  obtain ⟨w2, pm, hp2, hw2, l2, n2, b2⟩ := box_new w1 (.cells #[.string smM.id, .string smM.name, .slice none 0 0, .slice (some ⟨pe, 0, none⟩) 2 2, .slice (some ⟨pf, 0, none⟩) 1 1] 26)
  have HM : Hid (∀ W, Below w2.heap.size w2 W → W.cell? ⟨pm, 0, none⟩ = some (.string smM.id) ∧ W.cell? ⟨pm, 1, none⟩ = some (.string smM.name) ∧ W.cell? ⟨pm, 2, none⟩ = some (.slice none 0 0) ∧ W.cell? ⟨pm, 3, none⟩ = some (.slice (some ⟨pe, 0, none⟩) 2 2) ∧ W.cell? ⟨pm, 4, none⟩ = some (.slice (some ⟨pf, 0, none⟩) 1 1)) := Lib.hid (fun W hW =>
    have q := (hW.block pm l2).trans n2
    ⟨(cell_of_block q 0).trans rfl, (cell_of_block q 1).trans rfl, (cell_of_block q 2).trans rfl, (cell_of_block q 3).trans rfl, (cell_of_block q 4).trans rfl⟩)
  obtain ⟨c0, c1, c2, c3, c4⟩ := HM.out w2 (Below.refl _ _)
  have H2 := Lib.hid (And.intro (H1.out.1.below b2) (H1.out.2.trans (b2.mono H1.out.2.size)))
  have HR : Hid (∀ W, Below w2.heap.size w2 W → MdR W W.heap.size (.slice none 0 0) (.slice (some ⟨pe, 0, none⟩) 2 2) (.slice (some ⟨pf, 0, none⟩) 1 1) smM ∧ Gr W) := Lib.hid (fun W hW => ⟨(H2.out.1.below hW).md, (HG.out.up H2.out.2).up hW⟩)
  have HC : Hid (∀ W, Below w2.heap.size w2 W → Calls Tryz.prog 11 #[valMd smM (.slice none 0 0) (.slice (some ⟨pe, 0, none⟩) 2 2) (.slice (some ⟨pf, 0, none⟩) 1 1)] W fun e w' => e = .returned (.tuple #[.int .i64 0, .string nS, .int .i64 0]) ∧ Below W.heap.size W w') := Lib.hid (fun W hW => by
    have := check_any (w := W) _ _ _ (HR.out W hW).1 (HR.out W hW).2 (by decide) (by decide)
    rw [sm_check] at this
    exact this)
  have HFd : Hid (∀ W, Below w2.heap.size w2 W → Calls Tryz.prog 17 #[valMd smM (.slice none 0 0) (.slice (some ⟨pe, 0, none⟩) 2 2) (.slice (some ⟨pf, 0, none⟩) 1 1), .string ⟨#[101]⟩] W fun e w' => e = .returned (.tuple #[valEl smE, .bool true]) ∧ Below W.heap.size W w') := Lib.hid (fun W hW => by
    have := find_any (w := W) _ _ _ (HR.out W hW).1 ⟨#[101]⟩
    rw [sm_find.1, sm_find.2] at this
    exact this)
  have HOu : Hid (∀ W, Below w2.heap.size w2 W → Calls Tryz.prog 25 #[valMd smM (.slice none 0 0) (.slice (some ⟨pe, 0, none⟩) 2 2) (.slice (some ⟨pf, 0, none⟩) 1 1), .string ⟨#[115]⟩] W fun e w' => ∃ v, e = .returned v ∧ OwnT w' W.heap.size v [⟨#[102]⟩] ∧ Below W.heap.size W w') := Lib.hid (fun W hW => by
    have := outs_any (w := W) _ _ _ (HR.out W hW).1 (by decide) ⟨#[115]⟩
    rw [sm_outs] at this
    exact this)
  have HIn : Hid (∀ W, Below w2.heap.size w2 W → Calls Tryz.prog 23 #[valMd smM (.slice none 0 0) (.slice (some ⟨pe, 0, none⟩) 2 2) (.slice (some ⟨pf, 0, none⟩) 1 1), .string ⟨#[101]⟩] W fun e w' => ∃ v, e = .returned v ∧ OwnT w' W.heap.size v [⟨#[102]⟩] ∧ Below W.heap.size W w') := Lib.hid (fun W hW => by
    have := ins_any (w := W) _ _ _ (HR.out W hW).1 (by decide) ⟨#[101]⟩
    rw [sm_ins] at this
    exact this)
  have cur : Below w2.heap.size w2 w2 := Below.refl _ _
  clear n2 b2
  go_wp2_with (go_at_call 11; refine (HC.out _ cur).mono ?_; rintro e w3 ⟨rfl, hb3⟩; have cur := cur.trans (hb3.mono cur.size); obtain ⟨c0, c1, c2, c3, c4⟩ := HM.out w3 cur; clear hb3; refine Hid.out ?_)
  refine Lib.hid ?_
  go_wp2_with (go_at_call 17; refine (HFd.out _ cur).mono ?_; rintro e w4 ⟨rfl, hb4⟩; have cur := cur.trans (hb4.mono cur.size); clear hb4; refine Hid.out ?_)
  refine Lib.hid ?_
  obtain ⟨w5, pq, hp5, hw5, l5, n5, b5⟩ := box_new w4 (oEl smE)
  have cur5 := cur.trans (b5.mono cur.size)
  obtain ⟨-, -, q2, -⟩ := boxEl n5
  obtain ⟨m0, m1, m2, m3, m4⟩ := HM.out w5 cur5
  have tk : (smE.kind == 2) = true := rfl
  clear n5 b5
  go_wp2_with (go_at_call 25; refine (HOu.out _ cur5).mono ?_; rintro e w6 ⟨v6, rfl, ho6, hb6⟩; have cur6 := cur5.trans (hb6.mono cur5.size); have HO6 := Lib.hid ho6; clear ho6 hb6; refine Hid.out ?_)
  refine Lib.hid ?_
  obtain ⟨w7, p7, hp7, hw7, l7, n7, b7⟩ := box_new w6 (.cells #[.string ⟨#[102]⟩] 9)
  have cur7 := cur6.trans (b7.mono cur6.size)
  have HT7 := Lib.hid (texts_any (StsR.of (OwnF.kept HO6.out b7) (Nat.le_refl _) (by simp) (fun s hs => by rw [List.mem_singleton] at hs; rw [hs]; decide)) (sts_one (by decide) n7))
  have et : eqT [⟨#[102]⟩] [⟨#[102]⟩] = true := eqT_iff.2 rfl
  rw [et] at HT7
  obtain ⟨k0, k1, k2, k3, k4⟩ := HM.out w7 cur7
  clear n7 b7 et
  go_wp2_with (go_at_call 31; refine HT7.out.mono ?_; rintro e w8 ⟨rfl, hb8⟩; have cur8 := cur7.trans (hb8.mono cur7.size); clear hb8; refine Hid.out ?_)
  refine Lib.hid ?_
  obtain ⟨j0, j1, j2, j3, j4⟩ := HM.out w8 cur8
  go_wp2_with (go_at_call 23; refine (HIn.out _ cur8).mono ?_; rintro e w9 ⟨v9, rfl, ho9, hb9⟩; have cur9 := cur8.trans (hb9.mono cur8.size); have HO9 := Lib.hid ho9; clear ho9 hb9; refine Hid.out ?_)
  refine Lib.hid ?_
  obtain ⟨w10, p10, hp10, hw10, l10, n10, b10⟩ := box_new w9 (.cells #[.string ⟨#[102]⟩] 9)
  have cur10 := cur9.trans (b10.mono cur9.size)
  have HT10 := Lib.hid (texts_any (StsR.of (OwnF.kept HO9.out b10) (Nat.le_refl _) (by simp) (fun s hs => by rw [List.mem_singleton] at hs; rw [hs]; decide)) (sts_one (by decide) n10))
  have et : eqT [⟨#[102]⟩] [⟨#[102]⟩] = true := eqT_iff.2 rfl
  rw [et] at HT10
  clear n10 b10 et
  go_wp2_with (go_at_call 31; refine HT10.out.mono ?_; rintro e w11 ⟨rfl, hb11⟩; have HE := Lib.hid (H2.out.2.trans ((cur10.trans (hb11.mono cur10.size)).mono H2.out.2.size)); clear hb11)
  go_ret
  exact ⟨rfl, HE.out⟩
end
end Go.Proofs.YtjcaaahbfkjipaaGreatDoor
