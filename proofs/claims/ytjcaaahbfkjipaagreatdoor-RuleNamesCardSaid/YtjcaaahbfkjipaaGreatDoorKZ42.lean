/- Texts fused by fuse.py: KRuleNine. -/
import Derived.Test.YtjcaaahbfkjipaaGreatDoorKZ18
import Derived.Test.YtjcaaahbfkjipaaGreatDoorKZ16
import Derived.Laws.EntriesVeiled
/- Of RuleNine: what FRuleNames uses (shake.py). -/
set_option maxRecDepth 100000
/- rule.nine: rows of gates that lead back. -/
namespace Go.Proofs.YtjcaaahbfkjipaaGreatDoor
open Go.RowKit
section
variable {w : World} {B cx : Nat} {x : IX} {m : Md}
set_option maxHeartbeats 2000000 in
theorem nine1_any (h : CapX w B cx x m) (s : ByteArray) : Calls Tryz.prog 90 #[.string s, .pointer (some ⟨cx, 0, none⟩)] w fun e w' => e = .returned (.bool (passedB m.els s)) ∧ w = w' := by
  obtain ⟨-, -, -, -, -, x5, -, -⟩ := h.idx.cells
  have cc := h.cell
  have lk := (h.idx.look s).1
  unfold passedB
  obtain ⟨E, hE⟩ : ∃ E, elemE m.els s = E := ⟨_, rfl⟩
  rw [hE] at lk ⊢
  have fk := fldKind E w
  clear h hE
  go_enter Tryz.func90, Tryz.ntmps90
  go_wp2_with fail
  all_goals (go_ret; exact ⟨ret_bool (by first | rfl | simp_all [Bool.or_assoc]), rfl⟩)
theorem CapX.turn (h : CapX w B cx x m) {w' : World} {mb : Nat} (hg : w.grownBy w' (some mb)) (hB : B ≤ mb) (hne : cx ≠ mb) : CapX w' B cx x m :=
  ⟨grown_cell h.cell hg (fun e => hne (Option.some.inj e)), h.idx.mono ((Below.refl B w).grown hg h.le (fun r hr => by cases hr; exact hB)) (Nat.le_refl _), Nat.le_trans h.le hg.size⟩
/-- What rule 9's walk has at hand, and what has been seen. -/
structure NineS (W : World) (B cx ca ps pw mb : Nat) (x : IX) (m : Md) (S : List ByteArray) : Prop where
  cap : CapX W B cx x m
  pas : W.cell? ⟨ca, 0, none⟩ = some (.func (.func 90) #[] #[.pointer (some ⟨cx, 0, none⟩)])
  sc : W.cell? ⟨ps, 0, none⟩ = some (.map (some mb))
  wc : W.cell? ⟨pw, 0, none⟩ = some (.func (.func 92) #[] #[.pointer (some ⟨cx, 0, none⟩), .pointer (some ⟨ca, 0, none⟩), .pointer (some ⟨ps, 0, none⟩), .pointer (some ⟨pw, 0, none⟩)])
  map : RawS W mb (seenH S)
  le : B ≤ mb
variable {ca ps pw mb : Nat} {S : List ByteArray}
theorem NineS.below {w' : World} (h : NineS w B cx ca ps pw mb x m S) (hb : Below w.heap.size w w') : NineS w' B cx ca ps pw mb x m S :=
  ⟨h.cap.below hb, (Below.cellB hb (cellLt h.pas)).trans h.pas, (Below.cellB hb (cellLt h.sc)).trans h.sc, (Below.cellB hb (cellLt h.wc)).trans h.wc, h.map.below hb, h.le⟩
theorem NineS.turn {w' : World} {S' : List ByteArray} (h : NineS w B cx ca ps pw mb x m S) (hg : w.grownBy w' (some mb)) (hm : RawS w' mb (seenH S')) : NineS w' B cx ca ps pw mb x m S' :=
  ⟨h.cap.turn hg h.le (cell_map h.cap.cell h.map), grown_cell h.pas hg (fun e => cell_map h.pas h.map (Option.some.inj e)), grown_cell h.sc hg (fun e => cell_map h.sc h.map (Option.some.inj e)), grown_cell h.wc hg (fun e => cell_map h.wc h.map (Option.some.inj e)), hm, h.le⟩
/-- What a walk leaves. -/
def WalkR (w : World) (mb : Nat) (T : List ByteArray) (e : Ending) (w' : World) : Prop := e = .returned (.tuple #[]) ∧ w.grownBy w' (some mb) ∧ RawS w' mb (seenH T)
theorem foldl_snoc {α β : Type} (f : β → α → β) (l : List α) (a : α) (b : β) : (l ++ [a]).foldl f b = f (l.foldl f b) a := by rw [List.foldl_append]; rfl
set_option maxHeartbeats 8000000 in
theorem walk_any (B cx ca ps pw mb : Nat) (x : IX) (m : Md) : ∀ (k : Nat) (w : World) (S : List ByteArray) (id : ByteArray), NineS w B cx ca ps pw mb x m S → leftN m S < k →
    Calls Tryz.prog 92 #[.string id, .pointer (some ⟨cx, 0, none⟩), .pointer (some ⟨ca, 0, none⟩), .pointer (some ⟨ps, 0, none⟩), .pointer (some ⟨pw, 0, none⟩)] w (WalkR w mb (walkN m k S id)) := by
  intro k
  induction k with
  | zero => intro w S id _ h; omega
  | succ k ih =>
    intro w S id hN hk
    have IH := Lib.hid ih
    have HN := Lib.hid hN
    rw [walkN_succ]
    have hfl := hN.cap.idx.outsR id
    have HFL := Lib.hid hfl
    obtain ⟨l, hl⟩ : ∃ l, outsF m.fls id = l := ⟨_, rfl⟩
    have HL := Lib.hid hl
    obtain ⟨a, c, hv⟩ := hfl.val
    have hll := hfl.len
    have lo := hN.cap.idx.lookO id
    rw [hv] at lo
    have HV := Lib.hid hv
    rw [hl] at lo hll ⊢
    obtain ⟨-, -, -, -, -, -, -, x7⟩ := hN.cap.idx.cells
    have cc := hN.cap.cell
    have HK := Lib.hid hk
    clear ih hN hfl hl hv hk
    go_enter Tryz.func92, Tryz.ntmps92
    go_wp2_with fail
    go_loopg [15] l.length (fun g s15 wr => ∃ j : Nat, j + g = l.length ∧ s15 = .int .i64 (j : Int) ∧ Hid (NineS wr B cx ca ps pw mb x m ((l.take j).foldl (ninF m k) S)) ∧ Hid (w.grownBy wr (some mb)))
    case atStart => exact ⟨0, by omega, rfl, HN, Lib.hid (grown_self _ _)⟩
    case round =>
      obtain ⟨j, hjg, rfl, hS, hG⟩ := hrel
      by_cases hj : j < l.length
      · have hF : FlsR wr B (.slice a l.length c) l := by
          have := HFL.out.mono ((Below.refl B w).grown hG.out HN.out.cap.le (fun r hr => by cases hr; exact HN.out.le)) (Nat.le_refl B)
          rw [HV.out, HL.out] at this
          exact this
        obtain ⟨b, o, ha2, hb, hw, h0, h1, h2, h3⟩ := flsR_at hF hj
        have HT : Hid ((l.take (j + 1)).foldl (ninF m k) S = ninF m k ((l.take j).foldl (ninF m k) S) l[j]) := Lib.hid (by rw [List.take_succ_eq_append_getElem hj, foldl_snoc])
        have hfm : l[j] ∈ m.fls := (mem_outs.1 (show l[j] ∈ outsF m.fls id by rw [HL.out]; exact List.getElem_mem hj)).1
        have HLe : Hid (leftN m ((l.take j).foldl (ninF m k) S) ≤ leftN m S) := Lib.hid (by
          refine leftN_mono (fun y hy => ?_)
          exact (nin_fold (nin_ok m k) id (l.take j) (fun f hf => by
            have : f ∈ outsF m.fls id := by rw [HL.out]; exact List.mem_of_mem_take hf
            exact mem_outs.1 this) S HK.out).1 y hy)
        obtain ⟨acc, hacc⟩ : ∃ acc, (l.take j).foldl (ninF m k) S = acc := ⟨_, rfl⟩
        rw [hacc] at HT HLe hS
        obtain ⟨f, hf⟩ : ∃ f, l[j] = f := ⟨_, rfl⟩
        rw [hf] at HT hfm
        simp only [hf] at h0 h1 h2 h3
        have dk : decide (j < l.length) = true := decide_eq_true hj
        have j1 : (0 : Int) ≤ (j : Int) := by omega
        have j2 : (j : Int) < (l.length : Int) := by omega
        obtain ⟨w2, p2, hp2, hw2, l2, n2, b2⟩ := box_new wr (oFl f)
        have hS2 := hS.out.below b2
        have HS2 := Lib.hid hS2
        have HG2 := Lib.hid (hG.out.trans (below_grownBy b2 (some mb)))
        obtain ⟨g0, g1, g2, g3⟩ := boxFl n2
        have q1 := hS2.pas
        have q2 := hS2.sc
        have q3 := hS2.wc
        have HFM := Lib.hid hfm
        have N1 := Lib.hid (nine1_any hS2.cap f.into)
        have sl := seen_look hS2.map f.into
        subst ha2
        clear hF hw hacc hf hS hS2 b2 hfm
        cases hp : passedB m.els f.into with
        | false =>
          rw [hp] at N1
          have HE : Hid (ninF m k acc f = acc) := Lib.hid (ninF_no (fun ⟨h1, _⟩ => by rw [hp] at h1; cases h1))
          clear hp n2
          go_wp2_with (go_at_call 90; refine N1.out.mono ?_; rintro e w3 ⟨rfl, rfl⟩)
          go_roundg (gk - 1)
          case measure => omega
          case rel => exact ⟨j + 1, by omega, by go_num, Lib.hid (by rw [HT.out, HE.out]; exact HS2.out), HG2⟩
        | true =>
          rw [hp] at N1
          cases hs : (acc.any fun t => sEq t f.into) with
          | true =>
            rw [hs] at sl
            have HE : Hid (ninF m k acc f = acc) := Lib.hid (ninF_no (fun ⟨_, h2⟩ => h2 (any_sEq.1 hs)))
            clear hp n2 hs
            go_wp2_with (go_at_call 90; refine N1.out.mono ?_; rintro e w3 ⟨rfl, rfl⟩)
            go_roundg (gk - 1)
            case measure => omega
            case rel => exact ⟨j + 1, by omega, by go_num, Lib.hid (by rw [HT.out, HE.out]; exact HS2.out), HG2⟩
          | false =>
            rw [hs] at sl
            have hni : f.into ∉ acc := fun h => by have := any_sEq.2 h; rw [hs] at this; cases this
            have HE : Hid (ninF m k acc f = walkN m k (f.into :: acc) f.into) := Lib.hid (ninF_yes hp hni)
            have HLt : Hid (leftN m (f.into :: acc) < k) := Lib.hid (by have h1 := leftN_lt HFM.out hni; have h2 := HLe.out; have h3 := HK.out; omega)
            obtain ⟨w4, r4, m4, g4⟩ := seen_put HS2.out.map f.into
            have hS4 := HS2.out.turn g4 m4
            have HG4 := Lib.hid (HG2.out.trans g4)
            have HS4 := Lib.hid hS4
            have q4 := hS4.wc
            have g24 : w4.cell? ⟨p2, 2, none⟩ = some (.string f.into) := grown_cell g2 g4 (fun e => cell_map g2 HS2.out.map (Option.some.inj e))
            have WC := Lib.hid (IH.out w4 (f.into :: acc) f.into hS4 HLt.out)
            clear hp n2 hs hni hS4 m4 g4
            go_wp2_with (first
              | (go_at_call 90; refine N1.out.mono ?_; rintro e w3 ⟨rfl, rfl⟩)
              | (go_at_call 92; refine WC.out.mono ?_; rintro e w5 ⟨rfl, hg5, hm5⟩; have HS5 := Lib.hid (HS4.out.turn hg5 hm5); have HG5 := Lib.hid (HG4.out.trans hg5); clear hg5 hm5))
            go_roundg (gk - 1)
            case measure => omega
            case rel => exact ⟨j + 1, by omega, by go_num, Lib.hid (by rw [HT.out, HE.out]; exact HS5.out), HG5⟩
      · obtain rfl : j = l.length := by omega
        have HE : Hid (RawS wr mb (seenH (l.foldl (ninF m k) S))) := Lib.hid (by have := hS.out.map; rw [List.take_length] at this; exact this)
        have dk : decide (l.length < l.length) = false := decide_eq_false hj
        clear hS
        go_wp2_with fail
        refine bodyPost_end (results_none rfl _ _ _) rfl ?_
        exact ⟨rfl, hG.out, HE.out⟩
set_option maxHeartbeats 8000000 in
theorem nine2_any {w : World} {B cx ca : Nat} {x : IX} {m : Md} (h : CapX w B cx x m) (hp : w.cell? ⟨ca, 0, none⟩ = some (.func (.func 90) #[] #[.pointer (some ⟨cx, 0, none⟩)])) (el : El) :
    Calls Tryz.prog 91 #[valEl el, .pointer (some ⟨ca, 0, none⟩), .pointer (some ⟨cx, 0, none⟩)] w fun e w' => e = .returned (.bool (nineB m el)) ∧ Below w.heap.size w w' := by
  have hmm := @run_makeMap Tryz.prog
  obtain ⟨w1, p0, hp0, hw1, l1, n1, b1⟩ := box_new w (oEl el)
  have h1 := h.below b1
  have pa1 := (Below.cellB b1 (cellLt hp)).trans hp
  obtain ⟨c0, c1, c2, c3, c4, c5, c6, c7, c8, c9, c10⟩ := boxEl n1
  have N1 := Lib.hid (nine1_any h1 el.id)
  have HB1 := Lib.hid b1
  cases hps : passedB m.els el.id with
  | false =>
    rw [hps] at N1
    have HE : Hid (nineB m el = true) := Lib.hid (nineB_skip hps)
    rw [HE.out]
    clear h h1 hps n1 b1 hp hmm
    go_enter Tryz.func91, Tryz.ntmps91
    go_wp2_with (go_at_call 90; refine N1.out.mono ?_; rintro e w3 ⟨rfl, rfl⟩)
    go_ret
    exact ⟨rfl, by first | exact HB1.out | (rw [← hp0]; exact HB1.out)⟩
  | true =>
    rw [hps] at N1
    obtain ⟨w2, mb, hp2, hw2, l2, n2, b2⟩ := box_new w1 (.map #[] 0)
    obtain ⟨w3, ps, hp3, hw3, l3, n3, b3⟩ := box_new w2 (.cells #[.map (some mb)] 89)
    obtain ⟨w4, pw, hp4, hw4, l4, n4, b4⟩ := box_new w3 (.cells #[.func (.func 92) #[] #[.pointer (some ⟨cx, 0, none⟩), .pointer (some ⟨ca, 0, none⟩), .pointer (some ⟨ps, 0, none⟩), .pointer (some ⟨w3.heap.size, 0, none⟩)]] 90)
    rw [hp4] at hw4 n4
    have b14 := b2.trans ((b3.trans (b4.mono b3.size)).mono b2.size)
    have m2 : RawS w2 mb (seenH []) := ⟨#[], 0, n2, MapKept.stamped_empty 0, by simp, by simp [seenH]⟩
    have hS : NineS w4 B cx ca ps pw mb x m [] := ⟨h1.below b14, (Below.cellB b14 (cellLt pa1)).trans pa1, (cell_of_block ((b4.block ps l3).trans n3) 0).trans rfl, (cell_of_block n4 0).trans rfl, (m2.below b3).below b4, by have := h1.le; omega⟩
    obtain ⟨d0, d1, d2, d3, d4, d5, d6, d7, d8, d9, d10⟩ := boxEl ((b14.block p0 l1).trans n1)
    have WC := Lib.hid (walk_any B cx ca ps pw mb x m (m.fls.length + 1) w4 [] el.id hS (by have := leftN_le m []; omega))
    have HS4 := Lib.hid hS
    have HB4 := Lib.hid (b1.trans (b14.mono b1.size))
    have q3 := hS.wc
    have lw : w.heap.size ≤ mb := by have := b1.size; omega
    have hs0 : (nineB m el) = !((walkN m (m.fls.length + 1) [] el.id).any fun t => sEq t el.id) := by unfold nineB; rw [hps]; rfl
    rw [hs0]
    obtain ⟨T, hT⟩ : ∃ T, walkN m (m.fls.length + 1) [] el.id = T := ⟨_, rfl⟩
    rw [hT] at WC ⊢
    clear h h1 hps n1 b1 hp n2 b2 n3 b3 n4 b4 b14 m2 hS hT hs0
    go_enter Tryz.func91, Tryz.ntmps91
    go_wp2_with (first
      | (go_at_call 90; refine N1.out.mono ?_; rintro e w5 ⟨rfl, rfl⟩)
      | (go_at_call 92; refine WC.out.mono ?_; rintro e w5 ⟨rfl, hg5, hm5⟩; have HS5 := Lib.hid (HS4.out.turn hg5 hm5); have HB5 := Lib.hid (HB4.out.grown hg5 HB4.out.size (fun r hr => by cases hr; exact lw)); have r5 := HS5.out.sc; have k0 := grown_cell d0 hg5 (fun e => cell_map d0 HS4.out.map (Option.some.inj e)); have sl := seen_look hm5 el.id; clear hg5 hm5))
    go_ret
    exact ⟨rfl, by first | exact HB5.out | (rw [← hp0]; exact HB5.out)⟩
set_option maxHeartbeats 2000000 in
theorem nine_any {w : World} {x : IX} {m : Md} (h : IdxR w w.heap.size x m) : Calls Tryz.prog 41 #[.pointer (some ⟨x.p, 0, none⟩)] w (RuleR (nineR m) w) := by
  obtain ⟨w1, p0, hp0, hw1, l1, b1, hc⟩ := cap_box h
  obtain ⟨w2, ca, hp2, hw2, l2, n2, b2⟩ := box_new w1 (.cells #[.func (.func 90) #[] #[.pointer (some ⟨p0, 0, none⟩)]] 71)
  have hc2 := hc.below b2
  have pa := boxP n2
  have S := Lib.hid (firstEl0 (w := w2) x.ve m.els (hc2.idx.md.els.mono (Below.refl _ _) hc2.le) 91 #[.pointer (some ⟨ca, 0, none⟩), .pointer (some ⟨p0, 0, none⟩)] (nineB m) (enters_of Tryz.func91 (by kernel_rfl) rfl) (fun e _ W hW => nine2_any (hc2.below hW) ((Below.cellB hW (cellLt pa)).trans pa) e))
  have cc := hc2.cell
  obtain ⟨-, -, -, x3, -, -, -, -⟩ := hc2.idx.cells
  have HB := Lib.hid (b1.trans (b2.mono b1.size))
  obtain ⟨r, hr⟩ : ∃ r, nineR m = r := ⟨_, rfl⟩
  rw [show firstBad El.id (nineB m) m.els = r from hr] at S
  rw [hr]
  obtain ⟨a1, k1, a2, k2, a3, k3, v1, v2, v3⟩ := hc2.idx.md.shape
  rw [v2] at x3 S
  clear h b1 hc v1 v2 v3 hr b2 n2 hc2 pa
  go_enter Tryz.func41, Tryz.ntmps41
  go_wp2_with (go_at_call 64; refine S.out.mono ?_; rintro e w3 ⟨rfl, hb3⟩; have HB3 := Lib.hid (HB.out.trans (hb3.mono HB.out.size)); clear hb3)
  go_ret2
  exact ⟨rfl, by first | exact HB3.out | (rw [← hp0]; exact HB3.out)⟩
end
end Go.Proofs.YtjcaaahbfkjipaaGreatDoor
