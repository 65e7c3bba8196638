/- Texts fused by fuse.py: KRulePlace, KRuleFlows. -/
import Derived.Test.YtjcaaahbfkjipaaGreatDoorKZ19
/- Of RulePlace: what FRuleNames uses (shake.py). -/
set_option maxRecDepth 100000
/- rule.Find, Ins, Outs. -/
namespace Go.Proofs.YtjcaaahbfkjipaaGreatDoor
open Go.RowKit
theorem find_idx (l : List El) (s : ByteArray) : (∃ k, ∃ hk : k < l.length, idxZ (fstBad (pAt (fun e => !sEq e.id s) l) l.length) = (k : Int) ∧ findE l s = some l[k]) ∨ (idxZ (fstBad (pAt (fun e => !sEq e.id s) l) l.length) = -1 ∧ findE l s = none) := by
  rcases firstO_cases (key := El.id) (pAt (fun e => !sEq e.id s) l) l with ⟨_, hp⟩ | ⟨k, hk, h1, h2, _⟩
  · refine Or.inr ⟨idxZ_none hp, ?_⟩
    rw [findE_none]
    intro e he e2
    obtain ⟨i, hi, rfl⟩ := List.getElem_of_mem he
    have := hp i hi
    rw [pAt_get hi, sEq_iff.2 e2] at this
    cases this
  · refine Or.inl ⟨k, hk, idxZ_some hk h1 h2, ?_⟩
    unfold findE
    rw [List.find?_eq_some_iff_append]
    rw [pAt_get hk] at h2
    refine ⟨by simpa using h2, l.take k, l.drop (k + 1), ?_, fun a ha => ?_⟩
    · conv => lhs; rw [← List.take_append_drop k l]
      rw [List.drop_eq_getElem_cons hk]
    · obtain ⟨i, hi, rfl⟩ := List.getElem_of_mem ha
      have hi' : i < k := by rw [List.length_take] at hi; omega
      rw [List.getElem_take]
      have := h1 i hi'
      rw [pAt_get (by omega)] at this
      exact this
section
variable {w : World}
theorem find1E_any {pe : Nat} {s : ByteArray} (hd : w.cell? ⟨pe, 0, none⟩ = some (.string s)) (x : El) : Calls Tryz.prog 52 #[valEl x, .pointer (some ⟨pe, 0, none⟩)] w fun e w' => e = .returned (.bool (sEq x.id s)) ∧ Below w.heap.size w w' := by
  obtain ⟨w1, p0, hp0, hw1, l1, n1, b1⟩ := box_new w (oEl x)
  obtain ⟨c0, -⟩ := boxEl n1
  have dd := (Below.cellB b1 (cellLt hd)).trans hd
  have HB := Lib.hid b1
  unfold sEq
  clear n1 b1 hd
  go_enter Tryz.func52, Tryz.ntmps52
  go_wp2_with fail
  go_ret
  exact ⟨rfl, by first | exact HB.out | (rw [← hp0]; exact HB.out)⟩
theorem ins1_any {pe : Nat} {s : ByteArray} (hd : w.cell? ⟨pe, 0, none⟩ = some (.string s)) (x : Fl) : Calls Tryz.prog 54 #[valFl x, .pointer (some ⟨pe, 0, none⟩)] w fun e w' => e = .returned (.bool (sEq x.into s)) ∧ Below w.heap.size w w' := by
  obtain ⟨w1, p0, hp0, hw1, l1, n1, b1⟩ := box_new w (oFl x)
  obtain ⟨c0, c1, c2, c3⟩ := boxFl n1
  have dd := (Below.cellB b1 (cellLt hd)).trans hd
  have HB := Lib.hid b1
  unfold sEq
  clear n1 b1 hd
  go_enter Tryz.func54, Tryz.ntmps54
  go_wp2_with fail
  go_ret
  exact ⟨rfl, by first | exact HB.out | (rw [← hp0]; exact HB.out)⟩
theorem outs1_any {pe : Nat} {s : ByteArray} (hd : w.cell? ⟨pe, 0, none⟩ = some (.string s)) (x : Fl) : Calls Tryz.prog 55 #[valFl x, .pointer (some ⟨pe, 0, none⟩)] w fun e w' => e = .returned (.bool (sEq x.frm s)) ∧ Below w.heap.size w w' := by
  obtain ⟨w1, p0, hp0, hw1, l1, n1, b1⟩ := box_new w (oFl x)
  obtain ⟨c0, c1, c2, c3⟩ := boxFl n1
  have dd := (Below.cellB b1 (cellLt hd)).trans hd
  have HB := Lib.hid b1
  unfold sEq
  clear n1 b1 hd
  go_enter Tryz.func55, Tryz.ntmps55
  go_wp2_with fail
  go_ret
  exact ⟨rfl, by first | exact HB.out | (rw [← hp0]; exact HB.out)⟩
variable {m : Md}
set_option maxHeartbeats 4000000 in
theorem find_any (vv ve vf : Value) (h : MdR w w.heap.size vv ve vf m) (s : ByteArray) : Calls Tryz.prog 17 #[valMd m vv ve vf, .string s] w fun e w' => e = .returned (.tuple #[valEl (elemE m.els s), .bool (findE m.els s).isSome]) ∧ Below w.heap.size w w' := by
  obtain ⟨a1, k1, a2, k2, a3, k3, rfl, rfl, rfl⟩ := h.shape
  obtain ⟨w1, pm, hp1, hw1, l1, n1, b1⟩ := box_new w (.cells #[.string m.id, .string m.name, .slice a1 m.vars.length k1, .slice a2 m.els.length k2, .slice a3 m.fls.length k3] 26)
  obtain ⟨w2, ps, hp2, hw2, l2, n2, b2⟩ := box_new w1 (.cells #[.string s] 9)
  obtain ⟨w3, pr, hp3, hw3, l3, n3, b3⟩ := box_new w2 oElZ
  have c2 : w2.cell? ⟨ps, 0, none⟩ = some (.string s) := boxP n2
  have cs : w3.cell? ⟨ps, 0, none⟩ = some (.string s) := (Below.cellB b3 l2).trans c2
  have b13 := b2.trans (b3.mono b2.size)
  have c3 : w3.cell? ⟨pm, 3, none⟩ = some (.slice a2 m.els.length k2) := (cell_of_block ((b13.block pm l1).trans n1) 3).trans rfl
  have HB3 := Lib.hid (b1.trans (b13.mono b1.size))
  have hE := h.els.mono HB3.out (Nat.le_refl _)
  have HE := Lib.hid hE
  have S := idxEl (w := w3) (base := w3.heap.size) (row := none) (Nat.le_refl _) (fun _ h => by cases h) _ m.els (hE.mono (Below.refl _ _) HB3.out.size) 52 #[.pointer (some ⟨ps, 0, none⟩)] (fun _ _ => True) (pAt (fun e => !sEq e.id s) m.els) (enters_of Tryz.func52 (by kernel_rfl) rfl) trivial
    (fun i hi W hW _ _ => (find1E_any (w := W) ((Below.cellB (below_row (fun _ h => by cases h) (Nat.le_refl _) hW) (cellLt cs)).trans cs) m.els[i]).mono fun _ _ ⟨e, hb⟩ => ⟨by rw [e, pAt_get hi, Bool.not_not], below_grownBy hb none, fun _ => trivial⟩)
  have HS := Lib.hid (S.mono fun e w' ⟨h1, h2, _⟩ => And.intro h1 (below_row (fun _ h => by cases h) (Nat.le_refl w3.heap.size) h2))
  have HZ : Hid (∀ W, Below w3.heap.size w3 W → W.heap[pr]? = some oElZ ∧ W.heap[pm]? = some (.cells #[.string m.id, .string m.name, .slice a1 m.vars.length k1, .slice a2 m.els.length k2, .slice a3 m.fls.length k3] 26)) := Lib.hid (fun W hW => ⟨(hW.block pr l3).trans n3, (hW.block pm (Nat.lt_of_lt_of_le l1 b13.size)).trans ((b13.block pm l1).trans n1)⟩)
  have hll := h.els.len
  have lw : w.heap.size ≤ pr := by have := b1.size; have := b2.size; omega
  rcases find_idx m.els s with ⟨k, hk, h1, h2⟩ | ⟨h1, h2⟩
  · rw [h1] at HS
    have hel : elemE m.els s = m.els[k] := by unfold elemE; rw [h2]; rfl
    rw [hel, h2]
    obtain ⟨E, hEE⟩ : ∃ E, m.els[k] = E := ⟨_, rfl⟩
    rw [hEE]
    have HEE := Lib.hid hEE
    have j1 : (0 : Int) ≤ (k : Int) := by omega
    have j2 : (k : Int) < (m.els.length : Int) := by omega
    have dk : decide ((k : Int) < 0) = false := decide_eq_false (by omega)
    clear h n1 b1 n2 b2 n3 b3 b13 hE h1 h2 hel hEE c2 S
    go_enter Tryz.func17, Tryz.ntmps17
    go_wp2_with (go_at_call 51; refine HS.out.mono ?_; rintro e w4 ⟨rfl, hb4⟩; have HB4 := Lib.hid hb4; clear hb4; refine Hid.out ?_)
    refine Lib.hid ?_
    obtain ⟨b, o, ha2, hb, hw, h0, h1, h2, h3, h4, h5, h6, h7, h8, h9, h10⟩ := elsR_at (HE.out.mono (HB4.out.mono HB3.out.size) (Nat.le_refl _)) hk
    simp only [HEE.out] at h0 h1 h2 h3 h4 h5 h6 h7 h8 h9 h10
    obtain ⟨q1, q2⟩ := HZ.out w4 HB4.out
    have f0 := free_of_block q1
    obtain ⟨g0, g1, g2, g3, g4, g5, g6, g7, g8, g9, g10⟩ := boxEl (x := El.zero) q1
    have d3 : w4.cell? ⟨pm, 3, none⟩ = some (.slice a2 m.els.length k2) := (cell_of_block q2 3).trans rfl
    obtain ⟨w5, hw5⟩ : ∃ W, set11 w4 pr E = W := ⟨_, rfl⟩
    have n5 : w5.heap[pr]? = some (oEl E) := hw5 ▸ set11_is (A := El.zero) q1 E
    have g5' : w4.grownBy w5 (some pr) := hw5 ▸ set11_grown w4 pr E
    have HB5 := Lib.hid ((HB3.out.trans (HB4.out.mono HB3.out.size)).grown g5' (HB3.out.trans (HB4.out.mono HB3.out.size)).size (fun r hr => by cases hr; exact lw))
    obtain ⟨t0, t1, t2, t3, t4, t5, t6, t7, t8, t9, t10⟩ := boxEl n5
    unfold set11 at hw5
    subst ha2
    clear hw q1 q2 n5 g5' hb
    go_wp2_with fail
    exact bodyPost_ret (v := .tuple #[valEl E, .bool true]) (by simp [results, Tryz.results17, go_sem, t0, t1, t2, t3, t4, t5, t6, t7, t8, t9, t10]) rfl ⟨rfl, HB5.out⟩
  · rw [h1] at HS
    have hel : elemE m.els s = El.zero := by unfold elemE; rw [h2]; rfl
    rw [hel, h2]
    clear h n1 b1 n2 b2 n3 b3 b13 hE h1 h2 hel c2 S
    go_enter Tryz.func17, Tryz.ntmps17
    go_wp2_with (go_at_call 51; refine HS.out.mono ?_; rintro e w4 ⟨rfl, hb4⟩; have HB4 := Lib.hid hb4; clear hb4; refine Hid.out ?_)
    refine Lib.hid ?_
    obtain ⟨q1, q2⟩ := HZ.out w4 HB4.out
    have f0 := free_of_block q1
    obtain ⟨g0, g1, g2, g3, g4, g5, g6, g7, g8, g9, g10⟩ := boxEl (x := El.zero) q1
    obtain ⟨w5, hw5⟩ : ∃ W, set11 w4 pr El.zero = W := ⟨_, rfl⟩
    have n5 : w5.heap[pr]? = some (oEl El.zero) := hw5 ▸ set11_is (A := El.zero) q1 El.zero
    have g5' : w4.grownBy w5 (some pr) := hw5 ▸ set11_grown w4 pr El.zero
    have HB5 := Lib.hid ((HB3.out.trans (HB4.out.mono HB3.out.size)).grown g5' (HB3.out.trans (HB4.out.mono HB3.out.size)).size (fun r hr => by cases hr; exact lw))
    obtain ⟨t0, t1, t2, t3, t4, t5, t6, t7, t8, t9, t10⟩ := boxEl n5
    unfold set11 at hw5
    simp only [El.zero] at hw5 t0 t1 t2 t3 t4 t5 t6 t7 t8 t9 t10 g0 g1 g2 g3 g4 g5 g6 g7 g8 g9 g10
    clear q1 q2 n5 g5'
    go_wp2_with fail
    exact bodyPost_ret (v := .tuple #[valEl El.zero, .bool false]) (by simp [results, Tryz.results17, go_sem, t0, t1, t2, t3, t4, t5, t6, t7, t8, t9, t10, El.zero]) rfl ⟨rfl, HB5.out⟩
end
end Go.Proofs.YtjcaaahbfkjipaaGreatDoor

/- Of RuleFlows: what FRuleNames uses (shake.py). -/
set_option maxRecDepth 100000
/- rule.flows, Ins, Outs; the law's texts. -/
namespace Go.Proofs.YtjcaaahbfkjipaaGreatDoor
open Go.RowKit
section
variable {w : World} {m : Md}
/-- What the loop over the flows keeps. -/
structure FwR (w : World) (v : Value) (L : List ByteArray) (wr : World) : Prop where
  own : OwnT wr w.heap.size v L
  bel : Below w.heap.size w wr
set_option maxHeartbeats 8000000 in
theorem flows_any (vv ve vf : Value) (h : MdR w w.heap.size vv ve vf m) (hfl : m.fls.length ≤ 1000000) (fid : Nat) (caps : Array Value) (q : Fl → Bool) (hrun : ∀ (args : Array Value) (W : World), (callFunc fid args).run Tryz.prog W = .ok (.enter fid args) W)
    (hf : ∀ x ∈ m.fls, ∀ W, Below w.heap.size w W → Calls Tryz.prog fid (#[valFl x] ++ caps) W fun e w' => e = .returned (.bool (q x)) ∧ Below W.heap.size W w') :
    Calls Tryz.prog 53 #[valMd m vv ve vf, .func (.func fid) #[] caps] w fun e w' => ∃ v, e = .returned v ∧ OwnT w' w.heap.size v ((m.fls.filter q).map Fl.id) ∧ Below w.heap.size w w' := by
  obtain ⟨i0, hti, hz0, hz1, hz2⟩ := info_parts info_strR
  obtain ⟨a1, k1, a2, k2, a3, k3, rfl, rfl, rfl⟩ := h.shape
  obtain ⟨w1, pm, hp1, hw1, l1, n1, b1⟩ := box_new w (.cells #[.string m.id, .string m.name, .slice a1 m.vars.length k1, .slice a2 m.els.length k2, .slice a3 m.fls.length k3] 26)
  have c4 : w1.cell? ⟨pm, 4, none⟩ = some (.slice a3 m.fls.length k3) := (cell_of_block n1 4).trans rfl
  have HH := Lib.hid h
  have HF := Lib.hid hf
  obtain ⟨T, hT⟩ : ∃ T, (m.fls.filter q).map Fl.id = T := ⟨_, rfl⟩
  rw [hT]
  have HT0 := Lib.hid hT
  have HS := Lib.hid (show FwR w (.slice none 0 0) [] w1 from ⟨OwnF.nil _ _, b1⟩)
  clear h n1 b1 hf hT
  go_enter Tryz.func53, Tryz.ntmps53
  go_wp2_with fail
  go_loopg [5, 11] m.fls.length (fun g s5 s11 wr => ∃ (k : Nat) (v : Value), k + g = m.fls.length ∧ s5 = v ∧ s11 = .int .i64 (k : Int) ∧ Hid (FwR w v (((m.fls.take k).filter q).map Fl.id) wr))
  case atStart => exact ⟨0, _, by omega, rfl, rfl, HS⟩
  case round =>
    obtain ⟨k, v, hkg, rfl, rfl, hR⟩ := hrel
    by_cases hk : k < m.fls.length
    · have hE := HH.out.fls.mono hR.out.bel (Nat.le_refl _)
      obtain ⟨b, o, ha3, hb, hw, h0, h1, h2, h3⟩ := flsR_at hE hk
      obtain ⟨a, cap, hv⟩ := hR.out.own.shape
      have hsn : ((m.fls.take (k + 1)).filter q).map Fl.id = ((m.fls.take k).filter q).map Fl.id ++ (if q m.fls[k] then [m.fls[k].id] else []) := by
        rw [List.take_succ_eq_append_getElem hk, List.filter_append, List.map_append, List.filter_cons, List.filter_nil]
        congr 1
        split <;> rfl
      have hcl := fun W hW => HF.out m.fls[k] (List.getElem_mem hk) W hW
      obtain ⟨f, he⟩ : ∃ e, m.fls[k] = e := ⟨_, rfl⟩
      rw [he] at hsn hcl
      simp only [he] at h0 h1 h2 h3
      obtain ⟨L, hL⟩ : ∃ L, ((m.fls.take k).filter q).map Fl.id = L := ⟨_, rfl⟩
      have hLl : L.length ≤ 1000000 := by rw [← hL, List.length_map]; refine Nat.le_trans (List.length_filter_le _ _) ?_; rw [List.length_take]; omega
      rw [hL] at hsn hR hv
      have HSN := Lib.hid hsn
      obtain ⟨n, hn⟩ : ∃ n, L.length = n := ⟨_, rfl⟩
      have HN := Lib.hid hn
      rw [hn] at hv hLl
      subst hv
      obtain ⟨w2, p2, hp2, hw2, l2, n2, b2⟩ := box_new wr (oFl f)
      have HR2 : Hid (FwR w (.slice a n cap) L w2) := Lib.hid ⟨OwnF.kept hR.out.own b2, hR.out.bel.trans (b2.mono hR.out.bel.size)⟩
      have HC := Lib.hid (hcl w2 HR2.out.bel)
      obtain ⟨c0, c1, c2, c3⟩ := boxFl n2
      have HN2 := Lib.hid n2
      have dk : decide (k < m.fls.length) = true := decide_eq_true hk
      have j1 : (0 : Int) ≤ (k : Int) := by omega
      have j2 : (k : Int) < (m.fls.length : Int) := by omega
      subst ha3
      clear hE hw he hL hsn hn n2 b2 hR hcl
      cases hq : q f with
      | false =>
        have HSN2 : Hid (((m.fls.take (k + 1)).filter q).map Fl.id = L) := Lib.hid (by rw [HSN.out, hq]; simp)
        rw [hq] at HC
        clear hq
        go_wp2_with fail
        refine HC.out.mono ?_
        rintro e w3 ⟨rfl, hb3⟩
        have HR3 : Hid (FwR w (.slice a n cap) (((m.fls.take (k + 1)).filter q).map Fl.id) w3) := Lib.hid (by rw [HSN2.out]; exact ⟨OwnF.kept HR2.out.own hb3, HR2.out.bel.trans (hb3.mono HR2.out.bel.size)⟩)
        clear hb3
        go_wp2_with fail
        go_roundg (gk - 1)
        case measure => omega
        case rel => exact ⟨k + 1, _, by omega, rfl, by go_num, HR3⟩
      | true =>
        have HSN2 : Hid (((m.fls.take (k + 1)).filter q).map Fl.id = L ++ [f.id]) := Lib.hid (by rw [HSN.out, hq]; rfl)
        rw [hq] at HC
        clear hq
        go_wp2_with fail
        refine HC.out.mono ?_
        rintro e w3 ⟨rfl, hb3⟩
        have hO3 : w3.ownsRow w.heap.size 9 1 (.slice a n cap) n (cellsF cB L) := by
          have := OwnF.kept HR2.out.own hb3
          unfold OwnF at this
          rw [HN.out] at this
          exact this
        have HO3 := Lib.hid (OwnF.kept HR2.out.own hb3)
        have HB3 := Lib.hid (HR2.out.bel.trans (hb3.mono HR2.out.bel.size))
        obtain ⟨d0, d1, d2, d3⟩ := boxFl ((hb3.block p2 l2).trans HN2.out)
        have hz3 := HB3.out.size
        clear hb3
        go_wp2_with (at_builtin; refine wpList_append_own_at _ rfl _ _ 47 rfl w.heap.size 9 i0 _ 1 16 Tryz.underlying47 hti hz0 hz1 hz2 rfl (by decide) (.slice a n cap) n (cellsF cB L) rfl (hO3.alloc _) _ 1 1 [.string f.id] rfl rfl (cells_new w3 _ _) (by simp [Value.oneCell']) (by unfold maxLen; omega) (by omega) (by simp; omega) ?_; intro v6 w6 hown6 hg6 _ hat6; refine Hid.out ?_)
        refine Lib.hid ?_
        have HE : Hid (FwR w v6 (((m.fls.take (k + 1)).filter q).map Fl.id) w6) := Lib.hid (by
          rw [HSN2.out]
          exact ⟨ownT_push (by rw [HN.out]; exact hown6), (HB3.out.alloc hz3 _).grown hg6 (Nat.le_trans hz3 ((Below.refl w3.heap.size w3).alloc (Nat.le_refl _) _).size) (fun r hr => ownT_base HO3.out r hr)⟩)
        clear hown6 hg6 hat6
        go_wp2_with fail
        go_roundg (gk - 1)
        case measure => omega
        case rel => exact ⟨k + 1, v6, by omega, rfl, by go_num, HE⟩
    · obtain rfl : k = m.fls.length := by omega
      have HE := Lib.hid hR.out
      rw [List.take_length, HT0.out] at HE
      have dk : decide (m.fls.length < m.fls.length) = false := decide_eq_false hk
      clear hR
      go_wp2_with fail
      go_ret
      exact ⟨_, rfl, HE.out.own, HE.out.bel⟩
set_option maxHeartbeats 4000000 in
theorem ins_any (vv ve vf : Value) (h : MdR w w.heap.size vv ve vf m) (hfl : m.fls.length ≤ 1000000) (s : ByteArray) : Calls Tryz.prog 23 #[valMd m vv ve vf, .string s] w fun e w' => ∃ v, e = .returned v ∧ OwnT w' w.heap.size v (insE m.fls s) ∧ Below w.heap.size w w' := by
  obtain ⟨a1, k1, a2, k2, a3, k3, rfl, rfl, rfl⟩ := h.shape
  obtain ⟨w1, pm, hp1, hw1, l1, n1, b1⟩ := box_new w (.cells #[.string m.id, .string m.name, .slice a1 m.vars.length k1, .slice a2 m.els.length k2, .slice a3 m.fls.length k3] 26)
  obtain ⟨w2, ps, hp2, hw2, l2, n2, b2⟩ := box_new w1 (.cells #[.string s] 9)
  have cs := boxP n2
  have HB2 := Lib.hid (b1.trans (b2.mono b1.size))
  have q := (b2.block pm l1).trans n1
  have c0 : w2.cell? ⟨pm, 0, none⟩ = some (.string m.id) := (cell_of_block q 0).trans rfl
  have c1 : w2.cell? ⟨pm, 1, none⟩ = some (.string m.name) := (cell_of_block q 1).trans rfl
  have c2 : w2.cell? ⟨pm, 2, none⟩ = some (.slice a1 m.vars.length k1) := (cell_of_block q 2).trans rfl
  have c3 : w2.cell? ⟨pm, 3, none⟩ = some (.slice a2 m.els.length k2) := (cell_of_block q 3).trans rfl
  have c4 : w2.cell? ⟨pm, 4, none⟩ = some (.slice a3 m.fls.length k3) := (cell_of_block q 4).trans rfl
  have HF := Lib.hid (flows_any (w := w2) _ _ _ (h.mono HB2.out HB2.out.size) hfl 54 #[.pointer (some ⟨ps, 0, none⟩)] (fun f => sEq f.into s) (enters_of Tryz.func54 (by kernel_rfl) rfl) (fun f _ W hW => ins1_any ((Below.cellB hW (cellLt cs)).trans cs) f))
  clear h n1 b1 n2 b2 q
  go_enter Tryz.func23, Tryz.ntmps23
  go_wp2_with (go_at_call 53; refine HF.out.mono ?_; rintro e w4 ⟨v, rfl, ho4, hb4⟩; have H4 := Lib.hid (And.intro (OwnF.lower ho4 HB2.out.size) (HB2.out.trans (hb4.mono HB2.out.size))); clear ho4 hb4)
  go_ret
  exact ⟨_, rfl, H4.out.1, H4.out.2⟩
set_option maxHeartbeats 4000000 in
theorem outs_any (vv ve vf : Value) (h : MdR w w.heap.size vv ve vf m) (hfl : m.fls.length ≤ 1000000) (s : ByteArray) : Calls Tryz.prog 25 #[valMd m vv ve vf, .string s] w fun e w' => ∃ v, e = .returned v ∧ OwnT w' w.heap.size v (outsE m.fls s) ∧ Below w.heap.size w w' := by
  obtain ⟨a1, k1, a2, k2, a3, k3, rfl, rfl, rfl⟩ := h.shape
  obtain ⟨w1, pm, hp1, hw1, l1, n1, b1⟩ := box_new w (.cells #[.string m.id, .string m.name, .slice a1 m.vars.length k1, .slice a2 m.els.length k2, .slice a3 m.fls.length k3] 26)
  obtain ⟨w2, ps, hp2, hw2, l2, n2, b2⟩ := box_new w1 (.cells #[.string s] 9)
  have cs := boxP n2
  have HB2 := Lib.hid (b1.trans (b2.mono b1.size))
  have q := (b2.block pm l1).trans n1
  have c0 : w2.cell? ⟨pm, 0, none⟩ = some (.string m.id) := (cell_of_block q 0).trans rfl
  have c1 : w2.cell? ⟨pm, 1, none⟩ = some (.string m.name) := (cell_of_block q 1).trans rfl
  have c2 : w2.cell? ⟨pm, 2, none⟩ = some (.slice a1 m.vars.length k1) := (cell_of_block q 2).trans rfl
  have c3 : w2.cell? ⟨pm, 3, none⟩ = some (.slice a2 m.els.length k2) := (cell_of_block q 3).trans rfl
  have c4 : w2.cell? ⟨pm, 4, none⟩ = some (.slice a3 m.fls.length k3) := (cell_of_block q 4).trans rfl
  have HF := Lib.hid (flows_any (w := w2) _ _ _ (h.mono HB2.out HB2.out.size) hfl 55 #[.pointer (some ⟨ps, 0, none⟩)] (fun f => sEq f.frm s) (enters_of Tryz.func55 (by kernel_rfl) rfl) (fun f _ W hW => outs1_any ((Below.cellB hW (cellLt cs)).trans cs) f))
  clear h n1 b1 n2 b2 q
  go_enter Tryz.func25, Tryz.ntmps25
  go_wp2_with (go_at_call 53; refine HF.out.mono ?_; rintro e w4 ⟨v, rfl, ho4, hb4⟩; have H4 := Lib.hid (And.intro (OwnF.lower ho4 HB2.out.size) (HB2.out.trans (hb4.mono HB2.out.size))); clear ho4 hb4)
  go_ret
  exact ⟨_, rfl, H4.out.1, H4.out.2⟩
/-- The law's texts: are two rows of texts the same? -/
def eqT : List ByteArray → List ByteArray → Bool
  | [], [] => true
  | a :: r, b :: s => sEq a b && eqT r s
  | _, _ => false
theorem eqT_iff : ∀ {A B : List ByteArray}, eqT A B = true ↔ A = B
  | [], [] => by simp [eqT]
  | [], b :: s => by simp [eqT]
  | a :: r, [] => by simp [eqT]
  | a :: r, b :: s => by
    unfold eqT
    rw [Bool.and_eq_true, sEq_iff, eqT_iff, List.cons.injEq]
theorem StsR.of {W : World} {B base : Nat} {v : Value} {L : List ByteArray} (h : OwnT W base v L) (hB : W.heap.size ≤ B) (hl : L.length ≤ 10000000000000) (hs : ∀ s ∈ L, s.size ≤ 140737488355328) : StsR W B v L := by
  obtain ⟨a, cap, rfl⟩ := OwnF.shape h
  exact ⟨a, cap, rfl, hl, OwnF.cap h, OwnF.col cB_len h hB, hs⟩
set_option maxHeartbeats 4000000 in
theorem texts_any {va vb : Value} {A B : List ByteArray} (ha : StsR w w.heap.size va A) (hb : StsR w w.heap.size vb B) : Calls Tryz.prog 31 #[va, vb] w fun e w' => e = .returned (.bool (eqT A B)) ∧ Below w.heap.size w w' := by
  have HA := Lib.hid ha
  have HB := Lib.hid hb
  have hla := ha.len
  have hlb := hb.len
  obtain ⟨a, c, rfl⟩ := ha.val
  obtain ⟨b, d, rfl⟩ := hb.val
  by_cases hl : A.length = B.length
  · have e1 : ((A.length : Int) != (B.length : Int)) = false := by rw [bne, hl]; simp
    have e1' : (A.length != B.length) = false := by rw [bne, hl]; simp
    obtain ⟨n, hn⟩ : ∃ n, B.length = n := ⟨_, rfl⟩
    have HN := Lib.hid (And.intro hl hn)
    have hAn : A.length = n := hl.trans hn
    rw [hAn] at hla ⊢
    rw [hn] at hlb ⊢
    obtain ⟨r, hr⟩ : ∃ r, eqT A B = r := ⟨_, rfl⟩
    rw [hr]
    have HR := Lib.hid hr
    have HAN := Lib.hid hAn
    clear ha hb hl hn hr hAn e1 e1'
    go_enter Tryz.func31, Tryz.ntmps31
    go_wp2_with fail
    go_loopg [5] n (fun g s5 wr => ∃ k : Nat, k + g = n ∧ s5 = .int .i64 (k : Int) ∧ Hid (A.take k = B.take k) ∧ Hid (Below w.heap.size w wr))
    case atStart => exact ⟨0, by omega, rfl, Lib.hid rfl, Lib.hid (Below.refl _ _)⟩
    case round =>
      obtain ⟨k, hkg, rfl, hE, hW⟩ := hrel
      by_cases hk : k < n
      · have hka : k < A.length := by rw [HAN.out]; exact hk
        have hkb : k < B.length := by rw [HN.out.2]; exact hk
        obtain ⟨ba, oa, haa, hlta, hsa, h0⟩ := stsR_at (HA.out.mono hW.out (Nat.le_refl _)) hka
        obtain ⟨bb, ob, hbb, hltb, hsb, h1⟩ := stsR_at (HB.out.mono hW.out (Nat.le_refl _)) hkb
        have hta := List.take_succ_eq_append_getElem hka
        have htb := List.take_succ_eq_append_getElem hkb
        have hga : A[k]? = some A[k] := List.getElem?_eq_getElem hka
        have hgb : B[k]? = some B[k] := List.getElem?_eq_getElem hkb
        obtain ⟨x, hx⟩ : ∃ x, A[k] = x := ⟨_, rfl⟩
        obtain ⟨y, hy⟩ : ∃ y, B[k] = y := ⟨_, rfl⟩
        rw [hx] at h0 hta hga
        rw [hy] at h1 htb hgb
        have HT := Lib.hid (And.intro hta (And.intro htb (And.intro hga hgb)))
        have dk : decide (k < n) = true := decide_eq_true hk
        have j1 : (0 : Int) ≤ (k : Int) := by omega
        have j2 : (k : Int) < (n : Int) := by omega
        subst haa hbb
        clear hsa hsb hx hy hta htb hga hgb hka hkb
        by_cases hq : x.toList = y.toList
        · have hqb : (x.toList == y.toList) = true := beq_iff_eq.2 hq
          have HE2 : Hid (A.take (k + 1) = B.take (k + 1)) := Lib.hid (by rw [HT.out.1, HT.out.2.1, hE.out, bytes_eq hq])
          clear hq
          go_wp2_with fail
          go_quiet (fail)
          have HW2 := Lib.hid (hW.out.trans ((below_drewN' nq).mono hW.out.size))
          go_wp2_with fail
          go_roundg (gk - 1)
          case measure => omega
          case rel => exact ⟨k + 1, by omega, by go_num, HE2, HW2⟩
        · have hqb : (x.toList == y.toList) = false := beq_eq_false_iff_ne.2 hq
          have HE2 : Hid (false = r) := Lib.hid (by
            rw [← HR.out]
            symm
            rw [← Bool.not_eq_true, eqT_iff]
            intro hAB
            rw [hAB] at HT
            have := HT.out.2.2.1.symm.trans HT.out.2.2.2
            injection this with this
            exact hq (by rw [this]))
          clear hq
          go_wp2_with fail
          go_quiet (fail)
          have HW2 := Lib.hid (hW.out.trans ((below_drewN' nq).mono hW.out.size))
          go_wp2_with fail
          go_ret
          exact ⟨ret_bool HE2.out, HW2.out⟩
      · obtain rfl : k = n := by omega
        have dk : decide (k < k) = false := decide_eq_false hk
        have HE2 : Hid (true = r) := Lib.hid (by
          rw [← HR.out]
          symm
          rw [eqT_iff]
          have := hE.out
          rwa [List.take_of_length_le (by rw [HAN.out]; exact Nat.le_refl _), List.take_of_length_le (by rw [HN.out.2]; exact Nat.le_refl _)] at this)
        go_wp2_with fail
        go_ret
        exact ⟨ret_bool HE2.out, hW.out⟩
  · have e1 : ((A.length : Int) != (B.length : Int)) = true := by rw [bne, Bool.not_eq_true', beq_eq_false_iff_ne]; omega
    have e1' : (A.length != B.length) = true := by rw [bne, Bool.not_eq_true', beq_eq_false_iff_ne]; exact hl
    have e2 : eqT A B = false := by rw [← Bool.not_eq_true, eqT_iff]; exact fun e => hl (by rw [e])
    have e3 : ((A.length : Int) == (B.length : Int)) = false := by rw [beq_eq_false_iff_ne]; omega
    have e3' : (A.length == B.length) = false := by rw [beq_eq_false_iff_ne]; exact hl
    rw [e2]
    have HBB := Lib.hid (Below.refl w.heap.size w)
    clear ha hb hl e2
    go_enter Tryz.func31, Tryz.ntmps31
    go_wp2_with fail
    go_ret
    exact ⟨rfl, HBB.out⟩
end
end Go.Proofs.YtjcaaahbfkjipaaGreatDoor
