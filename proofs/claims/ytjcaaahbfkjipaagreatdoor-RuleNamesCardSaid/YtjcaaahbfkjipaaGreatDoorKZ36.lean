/- Texts fused by fuse.py: KRuleGnd, KRuleOne, KRuleOne2. -/
import Derived.Test.YtjcaaahbfkjipaaGreatDoorKZ35
import Derived.Test.YtjcaaahbfkjipaaGreatDoorKZ09
import Derived.Test.YtjcaaahbfkjipaaGreatDoorKZ18
/- Of RuleGnd: what FRuleNames uses (shake.py). -/
set_option maxRecDepth 100000
/- What the library's variables hold, for the walks of the rules: words, texts, values, conditions. -/
namespace Go.Proofs.YtjcaaahbfkjipaaGreatDoor
open Go.RowKit
/-- What the walks of this seat ask of the world. -/
def Gr (w : World) : Prop := GA w.heap.size w
theorem Gr.up {w w' : World} (h : Gr w) (hb : Below w.heap.size w w') : Gr w' := fun W hW => GA.step h hb W (hW.mono hb.size)
theorem Gr.t8 {w : World} (h : Gr w) : Tabs8 w := GA.now h |>.t8
end Go.Proofs.YtjcaaahbfkjipaaGreatDoor

/- Of RuleOne: what FRuleNames uses (shake.py). -/
set_option maxRecDepth 100000
/- rule.one: names, texts, sizes; each id once. -/
namespace Go.Proofs.YtjcaaahbfkjipaaGreatDoor
open Go.RowKit
section
variable {w : World}
theorem text_any (s : ByteArray) (hs : s.size ≤ 140737488355328) (hT : Tabs8 w) : Calls Tryz.prog 58 #[.string s] w fun e w' => e = .returned (.bool (textB s)) ∧ Below w.heap.size w w' := by
  have HU := Lib.hid (utf8_any w s hs hT)
  have HB := Lib.hid (Below.refl w.heap.size w)
  unfold textB
  obtain ⟨a, ha, ha'⟩ : ∃ a, decide ((s.size : Int) ≤ 1024) = a ∧ decide (s.size ≤ 1024) = a := ⟨decide (s.size ≤ 1024), by rw [decide_eq_decide]; omega, rfl⟩
  rw [ha']
  clear ha' hT
  cases a with
  | false => go_enter Tryz.func58, Tryz.ntmps58; go_wp2_with fail; go_ret; exact ⟨rfl, HB.out⟩
  | true => go_enter Tryz.func58, Tryz.ntmps58; go_wp2_with (go_at_call 102; refine HU.out.mono ?_; rintro e w2 ⟨rfl, hb2⟩; have HB2 := Lib.hid hb2; clear hb2); go_ret; exact ⟨rfl, HB2.out⟩
theorem one1_any (b : Bd) : Calls Tryz.prog 61 #[valBd b] w fun e w' => e = .returned (.string b.name) ∧ Below w.heap.size w w' := by
  obtain ⟨w1, p0, hp0, hw1, l1, n1, b1⟩ := box_new w (.cells #[.string b.name, .int .u8 b.val.kind, .int .i64 b.val.num, .bool b.val.tr, .string b.val.text] 60)
  have c0 : w1.cell? ⟨p0, 0, none⟩ = some (.string b.name) := (cell_of_block n1 0).trans rfl
  have HB := Lib.hid b1
  clear n1 b1
  go_enter Tryz.func61, Tryz.ntmps61
  go_wp2_with fail
  go_ret
  exact ⟨rfl, by first | exact HB.out | (rw [← hp0]; exact HB.out)⟩
/-- A variable that holds a closure of names seen. -/
structure FrS (W : World) (B pn pc mb : Nat) (S : List ByteArray) : Prop where
  fn : W.cell? ⟨pn, 0, none⟩ = some (.func (.func 103) #[] #[.pointer (some ⟨pc, 0, none⟩)])
  fr : FreshF W B pc mb S
variable {B pn pc mb : Nat} {S : List ByteArray}
theorem FrS.below {w' : World} (h : FrS w B pn pc mb S) (hb : Below w.heap.size w w') : FrS w' B pn pc mb S := ⟨(Below.cellB hb (cellLt h.fn)).trans h.fn, h.fr.below hb⟩
theorem FrS.turn {w' : World} {S' : List ByteArray} (h : FrS w B pn pc mb S) (hg : w.grownBy w' (some mb)) (hm : RawS w' mb (seenH S')) : FrS w' B pn pc mb S' :=
  ⟨grown_cell h.fn hg (fun e => cell_map h.fn h.fr.map (Option.some.inj e)), ⟨grown_cell h.fr.cell hg (fun e => cell_map h.fr.cell h.fr.map (Option.some.inj e)), hm, h.fr.p1, h.fr.p2⟩⟩
set_option maxHeartbeats 4000000 in
theorem one2_any (h : FrS w B pn pc mb S) (hB : B ≤ w.heap.size) (hT : ∀ W, Below B w W → Tabs8 W) (b : Bd) (hb : VlW b.val) : Calls Tryz.prog 62 #[valBd b, .pointer (some ⟨pn, 0, none⟩)] w fun e w' =>
    e = .returned (.bool (nameB b.name && (!(S.any fun t => sEq t b.name) && checkB b.val))) ∧ w.grownBy w' (some mb) ∧ FrS w' B pn pc mb (b.name :: S) := by
  obtain ⟨w1, p0, hp0, hw1, l1, n1, b1⟩ := box_new w (.cells #[.string b.name, .int .u8 b.val.kind, .int .i64 b.val.num, .bool b.val.tr, .string b.val.text] 60)
  have c0 : w1.cell? ⟨p0, 0, none⟩ = some (.string b.name) := (cell_of_block n1 0).trans rfl
  have c1 : w1.cell? ⟨p0, 1, none⟩ = some (.int .u8 b.val.kind) := (cell_of_block n1 1).trans rfl
  have c2 : w1.cell? ⟨p0, 2, none⟩ = some (.int .i64 b.val.num) := (cell_of_block n1 2).trans rfl
  have c3 : w1.cell? ⟨p0, 3, none⟩ = some (.bool b.val.tr) := (cell_of_block n1 3).trans rfl
  have c4 : w1.cell? ⟨p0, 4, none⟩ = some (.string b.val.text) := (cell_of_block n1 4).trans rfl
  have h1 := h.below b1
  have H1 := Lib.hid h1
  have fn := h1.fn
  have HF := Lib.hid (fresh1_any (w := w1) b.name pc h1.fr.cell h1.fr.map)
  have HG1 := Lib.hid (below_grownBy b1 (some mb))
  have HBL := Lib.hid (show Below B w w1 from b1.mono hB)
  have HT := Lib.hid hT
  have HBB := Lib.hid (Nat.le_trans hB b1.size)
  rw [← Bool.and_assoc]
  obtain ⟨r, hr⟩ : ∃ r, (nameB b.name && !(S.any fun t => sEq t b.name)) = r := ⟨_, rfl⟩
  rw [hr] at HF ⊢
  have hce : checkE b.val = if checkB b.val then 0 else 1 := rfl
  have e1 : (checkE b.val == 0) = checkB b.val := by rw [hce]; cases checkB b.val <;> rfl
  obtain ⟨ce, hc⟩ : ∃ c, checkE b.val = c := ⟨_, rfl⟩
  have HC := Lib.hid (fun (W : World) (hW : Tabs8 W) => vcheck_any W b.val hb hW)
  rw [hc] at HC e1
  clear n1 b1 h h1 hr hc hce hT
  cases r with
  | false =>
    clear e1
    go_enter Tryz.func62, Tryz.ntmps62
    go_wp2_with (go_at_call 103; refine HF.out.mono ?_; rintro e w2 ⟨rfl, hg2, hm2⟩; have H2 := Lib.hid (H1.out.turn hg2 hm2); have HG2 := Lib.hid (HG1.out.trans hg2); clear hg2 hm2)
    go_ret
    exact ⟨rfl, HG2.out, H2.out⟩
  | true =>
    go_enter Tryz.func62, Tryz.ntmps62
    go_wp2_with (first
      | (go_at_call 103; refine HF.out.mono ?_; rintro e w2 ⟨rfl, hg2, hm2⟩; have H2 := Lib.hid (H1.out.turn hg2 hm2); have HG2 := Lib.hid (HG1.out.trans hg2); have HT2 := Lib.hid (HT.out w2 (HBL.out.grown hg2 HBB.out (fun r hr => by cases hr; exact H1.out.fr.p2))); have k1 := grown_cell c1 hg2 (fun e => cell_map c1 H1.out.fr.map (Option.some.inj e)); have k2 := grown_cell c2 hg2 (fun e => cell_map c1 H1.out.fr.map (Option.some.inj e)); have k3 := grown_cell c3 hg2 (fun e => cell_map c1 H1.out.fr.map (Option.some.inj e)); have k4 := grown_cell c4 hg2 (fun e => cell_map c1 H1.out.fr.map (Option.some.inj e)); clear hg2 hm2)
      | (go_at_call 63; refine (HC.out _ HT2.out).mono ?_; rintro e w3 ⟨rfl, hb3⟩; have H3 := Lib.hid (H2.out.below hb3); have HG3 := Lib.hid (HG2.out.trans (below_grownBy hb3 (some mb))); clear hb3))
    go_ret
    exact ⟨ret_bool (by first | rfl | simp_all), HG3.out, H3.out⟩
set_option maxHeartbeats 4000000 in
theorem one3_any (h : FrS w B pn pc mb S) (hB : B ≤ w.heap.size) (hT : ∀ W, Below B w W → Tabs8 W) (x : El) (hx : x.name.size ≤ 140737488355328) : Calls Tryz.prog 66 #[valEl x, .pointer (some ⟨pn, 0, none⟩)] w fun e w' =>
    e = .returned (.bool (nameB x.id && (!(S.any fun t => sEq t x.id) && textB x.name))) ∧ w.grownBy w' (some mb) ∧ FrS w' B pn pc mb (x.id :: S) := by
  obtain ⟨w1, p0, hp0, hw1, l1, n1, b1⟩ := box_new w (oEl x)
  obtain ⟨c0, c1, -⟩ := boxEl n1
  have h1 := h.below b1
  have H1 := Lib.hid h1
  have fn := h1.fn
  have HF := Lib.hid (fresh1_any (w := w1) x.id pc h1.fr.cell h1.fr.map)
  have HG1 := Lib.hid (below_grownBy b1 (some mb))
  have HBL := Lib.hid (show Below B w w1 from b1.mono hB)
  have HT := Lib.hid hT
  have HBB := Lib.hid (Nat.le_trans hB b1.size)
  rw [← Bool.and_assoc]
  obtain ⟨r, hr⟩ : ∃ r, (nameB x.id && !(S.any fun t => sEq t x.id)) = r := ⟨_, rfl⟩
  rw [hr] at HF ⊢
  have HC := Lib.hid (fun (W : World) (hW : Tabs8 W) => text_any (w := W) x.name hx hW)
  obtain ⟨tb, htb⟩ : ∃ c, textB x.name = c := ⟨_, rfl⟩
  rw [htb] at HC ⊢
  clear n1 b1 h h1 hr htb hT
  cases r with
  | false =>
    go_enter Tryz.func66, Tryz.ntmps66
    go_wp2_with (go_at_call 103; refine HF.out.mono ?_; rintro e w2 ⟨rfl, hg2, hm2⟩; have H2 := Lib.hid (H1.out.turn hg2 hm2); have HG2 := Lib.hid (HG1.out.trans hg2); clear hg2 hm2)
    go_ret
    exact ⟨rfl, HG2.out, H2.out⟩
  | true =>
    go_enter Tryz.func66, Tryz.ntmps66
    go_wp2_with (first
      | (go_at_call 103; refine HF.out.mono ?_; rintro e w2 ⟨rfl, hg2, hm2⟩; have H2 := Lib.hid (H1.out.turn hg2 hm2); have HG2 := Lib.hid (HG1.out.trans hg2); have HT2 := Lib.hid (HT.out w2 (HBL.out.grown hg2 HBB.out (fun r hr => by cases hr; exact H1.out.fr.p2))); have k1 := grown_cell c1 hg2 (fun e => cell_map c1 H1.out.fr.map (Option.some.inj e)); clear hg2 hm2)
      | (go_at_call 58; refine (HC.out _ HT2.out).mono ?_; rintro e w3 ⟨rfl, hb3⟩; have H3 := Lib.hid (H2.out.below hb3); have HG3 := Lib.hid (HG2.out.trans (below_grownBy hb3 (some mb))); clear hb3))
    go_ret
    exact ⟨rfl, HG3.out, H3.out⟩
set_option maxHeartbeats 4000000 in
theorem one4_any (h : FrS w B pn pc mb S) (x : Fl) : Calls Tryz.prog 69 #[valFl x, .pointer (some ⟨pn, 0, none⟩)] w fun e w' =>
    e = .returned (.bool (nameB x.id && (!(S.any fun t => sEq t x.id) && true))) ∧ w.grownBy w' (some mb) ∧ FrS w' B pn pc mb (x.id :: S) := by
  obtain ⟨w1, p0, hp0, hw1, l1, n1, b1⟩ := box_new w (oFl x)
  obtain ⟨c0, -⟩ := boxFl n1
  have h1 := h.below b1
  have H1 := Lib.hid h1
  have fn := h1.fn
  have HF := Lib.hid (fresh1_any (w := w1) x.id pc h1.fr.cell h1.fr.map)
  have HG1 := Lib.hid (below_grownBy b1 (some mb))
  rw [Bool.and_true]
  obtain ⟨r, hr⟩ : ∃ r, (nameB x.id && !(S.any fun t => sEq t x.id)) = r := ⟨_, rfl⟩
  rw [hr] at HF ⊢
  clear n1 b1 h h1 hr
  go_enter Tryz.func69, Tryz.ntmps69
  go_wp2_with (go_at_call 103; refine HF.out.mono ?_; rintro e w2 ⟨rfl, hg2, hm2⟩; have H2 := Lib.hid (H1.out.turn hg2 hm2); have HG2 := Lib.hid (HG1.out.trans hg2); clear hg2 hm2)
  go_ret
  exact ⟨rfl, HG2.out, H2.out⟩
end
end Go.Proofs.YtjcaaahbfkjipaaGreatDoor

/- Of RuleOne2: what FRuleNames uses (shake.py). -/
set_option maxRecDepth 100000
/- rule.one, whole. -/
namespace Go.Proofs.YtjcaaahbfkjipaaGreatDoor
open Go.RowKit
section
variable {w : World} {x : IX} {m : Md}
/-- The three firsts of rule 1, at a variable that holds a closure of names. -/
theorem firstVars {w0 W : World} {pn pc mb : Nat} (hg : Gr w0) (hb : Below w0.heap.size w0 W) (hf : FrS W w0.heap.size pn pc mb []) (h : IdxR w0 w0.heap.size x m) :
    Calls Tryz.prog 60 #[x.vv, .func (.func 61) #[] #[], .func (.func 62) #[] #[.pointer (some ⟨pn, 0, none⟩)]] W fun e w' =>
      e = .returned (.tuple #[.string ((freshBad Bd.name (fun b => checkB b.val) [] m.vars).getD ⟨#[]⟩), .bool (freshBad Bd.name (fun b => checkB b.val) [] m.vars).isSome]) ∧ W.grownBy w' (some mb) := by
  have hv := h.md.vars.mono hb (Nat.le_refl _)
  have S := firstBd (w := W) (base := w0.heap.size) (row := some mb) hb.size (fun r hr => by cases hr; exact hf.fr.p2) x.vv m.vars hv 61 62 #[] #[.pointer (some ⟨pn, 0, none⟩)] Bd.name
    (fun i V => FrS V w0.heap.size pn pc mb (seenAt Bd.name [] m.vars i)) (pNew Bd.name (fun b => checkB b.val) [] m.vars) (enters_of Tryz.func61 (by kernel_rfl) rfl) (enters_of Tryz.func62 (by kernel_rfl) rfl)
    (by rw [seenAt_zero]; exact hf) (fun i V V' hV hF => hF.below hV) (fun r hr => by cases hr; exact hf.fr.map.lt)
    (fun i hi V _ => (one1_any m.vars[i]).mono fun _ _ h => h)
    (fun i hi V hV hF _ => by
      have hbV : Below w0.heap.size w0 V := hb.grown hV hb.size (fun r hr => by cases hr; exact hf.fr.p2)
      obtain ⟨_, _, _, hl, _, _, hok⟩ := hv
      refine (one2_any hF hbV.size (fun U hU => GA.now (fun V2 hV2 => hg V2 ((hbV.trans hU).trans hV2)) |>.t8) m.vars[i] (hok _ (List.getElem_mem hi)).1).mono fun e w' ⟨he, hg2, hf2⟩ => ⟨?_, hg2, fun _ => ?_⟩
      · rw [he, pNew_get hi]
      · rw [seenAt_succ _ hi]; exact hf2)
  rw [firstO_fresh] at S
  exact S.mono fun _ _ ⟨h1, h2, _⟩ => ⟨h1, h2⟩
theorem firstEls {w0 W : World} {pn pc mb : Nat} (hg : Gr w0) (hb : Below w0.heap.size w0 W) (hf : FrS W w0.heap.size pn pc mb [m.id]) (h : IdxR w0 w0.heap.size x m) :
    Calls Tryz.prog 64 #[x.ve, .func (.func 65) #[] #[], .func (.func 66) #[] #[.pointer (some ⟨pn, 0, none⟩)]] W fun e w' =>
      e = .returned (.tuple #[.string ((freshBad El.id (fun e => textB e.name) [m.id] m.els).getD ⟨#[]⟩), .bool (freshBad El.id (fun e => textB e.name) [m.id] m.els).isSome]) ∧ W.grownBy w' (some mb) ∧
      (freshBad El.id (fun e => textB e.name) [m.id] m.els = none → FrS w' w0.heap.size pn pc mb ((m.els.map El.id).reverse ++ [m.id])) := by
  have hv := h.md.els.mono hb (Nat.le_refl _)
  have S := firstEl (w := W) (base := w0.heap.size) (row := some mb) hb.size (fun r hr => by cases hr; exact hf.fr.p2) x.ve m.els hv 65 66 #[] #[.pointer (some ⟨pn, 0, none⟩)] El.id
    (fun i V => FrS V w0.heap.size pn pc mb (seenAt El.id [m.id] m.els i)) (pNew El.id (fun e => textB e.name) [m.id] m.els) (enters_of Tryz.func65 (by kernel_rfl) rfl) (enters_of Tryz.func66 (by kernel_rfl) rfl)
    (by rw [seenAt_zero]; exact hf) (fun i V V' hV hF => hF.below hV) (fun r hr => by cases hr; exact hf.fr.map.lt)
    (fun i hi V _ => (elementID_any m.els[i] V).mono fun _ _ h => h)
    (fun i hi V hV hF _ => by
      have hbV : Below w0.heap.size w0 V := hb.grown hV hb.size (fun r hr => by cases hr; exact hf.fr.p2)
      refine (one3_any hF hbV.size (fun U hU => GA.now (fun V2 hV2 => hg V2 ((hbV.trans hU).trans hV2)) |>.t8) m.els[i] (hv.ok _ (List.getElem_mem hi)).name).mono fun e w' ⟨he, hg2, hf2⟩ => ⟨?_, hg2, fun _ => ?_⟩
      · rw [he, pNew_get hi]
      · rw [seenAt_succ _ hi]; exact hf2)
  have hfo := firstO_fresh (key := El.id) (fun e => textB e.name) m.els [m.id]
  refine S.mono fun _ _ ⟨h1, h2, h3⟩ => ⟨by rw [← hfo]; exact h1, h2, fun hn => ?_⟩
  have h4 := h3 (fun j hj => by
    rcases firstO_cases (key := El.id) (pNew El.id (fun e => textB e.name) [m.id] m.els) m.els with ⟨_, hp⟩ | ⟨k, hk, _, _, hk4⟩
    · exact hp j hj
    · rw [hfo, hn] at hk4; cases hk4)
  unfold seenAt at h4
  rw [List.take_length] at h4
  exact h4
theorem firstFls {w0 W : World} {pn pc mb : Nat} {T : List ByteArray} (hb : Below w0.heap.size w0 W) (hf : FrS W w0.heap.size pn pc mb T) (h : IdxR w0 w0.heap.size x m) :
    Calls Tryz.prog 67 #[x.vf, .func (.func 68) #[] #[], .func (.func 69) #[] #[.pointer (some ⟨pn, 0, none⟩)]] W fun e w' =>
      e = .returned (.tuple #[.string ((freshBad Fl.id (fun _ => true) T m.fls).getD ⟨#[]⟩), .bool (freshBad Fl.id (fun _ => true) T m.fls).isSome]) ∧ W.grownBy w' (some mb) := by
  have hv := h.md.fls.mono hb (Nat.le_refl _)
  have S := firstFl (w := W) (base := w0.heap.size) (row := some mb) hb.size (fun r hr => by cases hr; exact hf.fr.p2) x.vf m.fls hv 68 69 #[] #[.pointer (some ⟨pn, 0, none⟩)] Fl.id
    (fun i V => FrS V w0.heap.size pn pc mb (seenAt Fl.id T m.fls i)) (pNew Fl.id (fun _ => true) T m.fls) (enters_of Tryz.func68 (by kernel_rfl) rfl) (enters_of Tryz.func69 (by kernel_rfl) rfl)
    (by rw [seenAt_zero]; exact hf) (fun i V V' hV hF => hF.below hV) (fun r hr => by cases hr; exact hf.fr.map.lt)
    (fun i hi V _ => (flowID_any m.fls[i] V).mono fun _ _ h => h)
    (fun i hi V hV hF _ => by
      refine (one4_any hF m.fls[i]).mono fun e w' ⟨he, hg2, hf2⟩ => ⟨?_, hg2, fun _ => ?_⟩
      · rw [he, pNew_get hi]
      · rw [seenAt_succ _ hi]; exact hf2)
  rw [firstO_fresh] at S
  exact S.mono fun _ _ ⟨h1, h2, _⟩ => ⟨h1, h2⟩
def sizesB (m : Md) : Bool := nameB m.id && (textB m.name && (decide (m.els.length ≤ 64) && (decide (m.fls.length ≤ 128) && decide (m.vars.length ≤ 16))))
theorem oneR_is (m : Md) : oneR m = if sizesB m then orBad (freshBad Bd.name (fun b => checkB b.val) [] m.vars) (orBad (freshBad El.id (fun e => textB e.name) [m.id] m.els) (freshBad Fl.id (fun _ => true) ((m.els.map El.id).reverse ++ [m.id]) m.fls)) else some ⟨#[]⟩ := rfl
set_option maxHeartbeats 8000000 in
theorem one_no (h : IdxR w w.heap.size x m) (hg : Gr w) (hs : sizesB m = false) : Calls Tryz.prog 33 #[.pointer (some ⟨x.p, 0, none⟩)] w (RuleR (some ⟨#[]⟩) w) := by
  obtain ⟨a1, k1, a2, k2, a3, k3, v1, v2, v3⟩ := h.md.shape
  have hn := h.md.name
  obtain ⟨x0, x1, x2, x3, x4, -, -, -⟩ := h.cells
  rw [v1] at x2
  rw [v2] at x3
  rw [v3] at x4
  obtain ⟨w1, p0, hp0, hw1, l1, n1, b1⟩ := box_new w (.cells #[.string m.id, .string m.name, .slice a1 m.vars.length k1, .slice a2 m.els.length k2, .slice a3 m.fls.length k3] 26)
  have HK := Lib.hid (show ∀ W, Below w1.heap.size w1 W → W.cell? ⟨p0, 0, none⟩ = some (.string m.id) ∧ W.cell? ⟨p0, 1, none⟩ = some (.string m.name) ∧ W.cell? ⟨p0, 2, none⟩ = some (.slice a1 m.vars.length k1) ∧ W.cell? ⟨p0, 3, none⟩ = some (.slice a2 m.els.length k2) ∧ W.cell? ⟨p0, 4, none⟩ = some (.slice a3 m.fls.length k3) from fun W hW =>
    have q := (hW.block p0 l1).trans n1
    ⟨(cell_of_block q 0).trans rfl, (cell_of_block q 1).trans rfl, (cell_of_block q 2).trans rfl, (cell_of_block q 3).trans rfl, (cell_of_block q 4).trans rfl⟩)
  obtain ⟨c0, c1, c2, c3, c4⟩ := HK.out w1 (Below.refl _ _)
  have HB := Lib.hid b1
  have HT := Lib.hid (fun (W : World) (hW : Below w1.heap.size w1 W) => text_any (w := W) m.name hn ((hg.up b1).up hW).t8)
  have cur : Below w1.heap.size w1 w1 := Below.refl _ _
  unfold sizesB at hs
  obtain ⟨n, hnb⟩ : ∃ b, nameB m.id = b := ⟨_, rfl⟩
  obtain ⟨t, htb⟩ : ∃ b, textB m.name = b := ⟨_, rfl⟩
  rw [hnb, htb] at hs
  rw [htb] at HT
  obtain ⟨e1, e1', e2, e2', e3, e3'⟩ : decide ((64 : Int) < (m.els.length : Int)) = !decide (m.els.length ≤ 64) ∧ decide (64 < m.els.length) = !decide (m.els.length ≤ 64) ∧ decide ((128 : Int) < (m.fls.length : Int)) = !decide (m.fls.length ≤ 128) ∧ decide (128 < m.fls.length) = !decide (m.fls.length ≤ 128) ∧ decide ((16 : Int) < (m.vars.length : Int)) = !decide (m.vars.length ≤ 16) ∧ decide (16 < m.vars.length) = !decide (m.vars.length ≤ 16) := by
    refine ⟨?_, ?_, ?_, ?_, ?_, ?_⟩ <;> (rw [Bool.eq_iff_iff, Bool.not_eq_true', decide_eq_true_eq, decide_eq_false_iff_not]; omega)
  obtain ⟨be, hbe⟩ : ∃ b, decide (m.els.length ≤ 64) = b := ⟨_, rfl⟩
  obtain ⟨bf, hbf⟩ : ∃ b, decide (m.fls.length ≤ 128) = b := ⟨_, rfl⟩
  obtain ⟨bv, hbv⟩ : ∃ b, decide (m.vars.length ≤ 16) = b := ⟨_, rfl⟩
  rw [hbe] at e1 e1' hs
  rw [hbf] at e2 e2' hs
  rw [hbv] at e3 e3' hs
  clear n1 b1 h hg hn v1 v2 v3 htb hbe hbf hbv
  cases n with
  | false =>
    clear hs e1 e1' e2 e2' e3 e3'
    go_enter Tryz.func33, Tryz.ntmps33
    go_wp2_with (go_at_call 57; refine (name_any _ _).mono ?_; rintro e wz ⟨rfl, hbz⟩; have cur := cur.trans (hbz.mono cur.size); clear hbz)
    go_ret2
    exact ⟨rfl, by first | exact HB.out.trans (cur.mono HB.out.size) | (rw [← hp0]; exact HB.out.trans (cur.mono HB.out.size))⟩
  | true =>
    cases t with
    | false =>
      clear hs e1 e1' e2 e2' e3 e3'
      go_enter Tryz.func33, Tryz.ntmps33
      go_wp2_with (first
        | (go_at_call 57; refine (name_any _ _).mono ?_; rintro e wz ⟨rfl, hbz⟩; have cur := cur.trans (hbz.mono cur.size); obtain ⟨d0, d1, d2, d3, d4⟩ := HK.out _ cur; clear hbz)
        | (go_at_call 58; refine (HT.out _ cur).mono ?_; rintro e wy ⟨rfl, hby⟩; have cur := cur.trans (hby.mono cur.size); clear hby))
      go_ret2
      exact ⟨rfl, by first | exact HB.out.trans (cur.mono HB.out.size) | (rw [← hp0]; exact HB.out.trans (cur.mono HB.out.size))⟩
    | true =>
      have hs : (be && (bf && bv)) = false := hs
      cases be <;> cases bf <;> cases bv <;> first
        | (exact absurd hs (by decide))
        | (clear hs
           simp only [Bool.not_true, Bool.not_false] at e1 e1' e2 e2' e3 e3'
           go_enter Tryz.func33, Tryz.ntmps33
           go_wp2_with (first
             | (go_at_call 57; refine (name_any _ _).mono ?_; rintro e wz ⟨rfl, hbz⟩; have cur := cur.trans (hbz.mono cur.size); obtain ⟨d0, d1, d2, d3, d4⟩ := HK.out _ cur; clear hbz)
             | (go_at_call 58; refine (HT.out _ cur).mono ?_; rintro e wy ⟨rfl, hby⟩; have cur := cur.trans (hby.mono cur.size); obtain ⟨f0, f1, f2, f3, f4⟩ := HK.out _ cur; clear hby))
           go_ret2
           exact ⟨rfl, by first | exact HB.out.trans (cur.mono HB.out.size) | (rw [← hp0]; exact HB.out.trans (cur.mono HB.out.size))⟩)
end
end Go.Proofs.YtjcaaahbfkjipaaGreatDoor
