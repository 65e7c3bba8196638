/- The document's further lines, the walk (seat wirez). -/
import Derived.Test.YtlgfhbfdjckdnaaGreatDoorWireRFirst
set_option maxRecDepth 100000
namespace Go.Proofs.YtlgfhbfdjckdnaaGreatDoor
open Go.RowKit

theorem lineS_split {h : HS} {l k v : List UInt8} {ok : Bool} (hc : Lib.cut l [58] = (k, v, ok)) : lineS h l = if ok && (!k.isEmpty && allL nmC k) then lineK h (Lib.toLowerA k) (Lib.trimS v [32, 9]) else (400, h) := by
  unfold lineS
  rw [hc]
  simp only
  cases ok with
  | false => rw [if_pos (.inl rfl)]; rfl
  | true =>
    cases k with
    | nil => rw [if_pos (.inr (.inl rfl))]; rfl
    | cons a r =>
      cases hn : allL nmC (a :: r) with
      | false => rw [if_pos (.inr (.inr rfl))]; rfl
      | true => rw [if_neg (by simp)]; rfl
theorem lineK_tenc {h : HS} {k v : List UInt8} (hT : h.seen.contains tencK = false) : (lineK h k v).1 = 0 → (lineK h k v).2.seen.contains tencK = false := by
  intro h0
  have hcons : ∀ x, x ≠ tencK → (x :: h.seen).contains tencK = false := fun x hx => by
    rw [List.contains_cons, hT, Bool.or_false]
    exact beq_eq_false_iff_ne.2 (fun e => hx e.symm)
  unfold lineK at h0 ⊢
  split
  · exact hT
  · next h1 =>
    rw [if_neg h1] at h0
    split
    · next h2 => exact hcons _ (by rw [h2]; decide)
    · next h2 =>
      rw [if_neg h2] at h0
      split
      · next h3 =>
        split
        · exact hT
        · exact hcons _ (by rw [h3]; decide)
      · next h3 =>
        rw [if_neg h3] at h0
        split
        · next h4 => rw [if_pos h4] at h0; cases h0
        · next h4 => exact hcons _ h4
theorem lineS_tenc {h : HS} {l : List UInt8} (hT : h.seen.contains tencK = false) : (lineS h l).1 = 0 → (lineS h l).2.seen.contains tencK = false := by
  rw [lineS_split (k := (Lib.cut l [58]).1) (v := (Lib.cut l [58]).2.1) (ok := (Lib.cut l [58]).2.2) rfl]
  split
  · exact lineK_tenc hT
  · intro _; exact hT
theorem seen_cons (S : List (List UInt8)) (x y : List UInt8) (h : x ≠ y) : (x :: S).contains y = S.contains y := by
  rw [List.contains_cons, beq_eq_false_iff_ne.2 (fun e => h e.symm), Bool.false_or]
theorem seen_self (S : List (List UInt8)) (x : List UInt8) : (x :: S).contains x = true := by
  rw [List.contains_cons, beq_self_eq_true, Bool.true_or]
/-- The document's head, as what further lines have said. -/
abbrev RhS (w : World) (ph : Nat) (m p b : ByteArray) (h : HS) (M : Bool) : Prop := RhB w ph m p (bytesL h.key) b (h.size : Int) (h.seen.contains clenK) (h.seen.contains ikeyK) (h.seen.contains hostK) M
theorem rh_set {W : World} {ph : Nat} {c : Array Value} {t : TypeId} (h : W.heap[ph]? = some (.cells c t)) (i : Nat) (v : Value) : (W.setCell ⟨ph, i, none⟩ v).heap[ph]? = some (.cells (c.setIfInBounds i v) t) := set_selfH v h
theorem lit_eq (x : ByteArray) (l : List UInt8) : (x.toList == l) = decide (x.data.toList = l) := by
  rw [ByteArray.toList_eq]
  exact Bool.eq_iff_iff.2 ⟨fun h => decide_eq_true (beq_iff_eq.1 h), fun h => beq_iff_eq.2 (of_decide_eq_true h)⟩

set_option maxHeartbeats 8000000 in
theorem rline_any (w : World) (s : ByteArray) (hs : s.size ≤ 300000) (ph : Nat) (m p b : ByteArray) (h : HS) (M : Bool) (hT : h.seen.contains tencK = false) (hb : RhS w ph m p b h M) :
    Calls Tryz.prog 37 #[.pointer (some ⟨ph, 0, none⟩), .string s] w fun e w' => e = .returned (.int .i64 (lineS h s.data.toList).1) ∧ Frm [some ph] w w' ∧
      ((lineS h s.data.toList).1 = 0 → RhS w' ph m p b (lineS h s.data.toList).2 M) := by
  have HC : Hid (∀ (W : World) (z : ByteArray), z.size ≤ 300000 → Calls Tryz.prog 55 #[.string z, .int .u8 58] W fun e w' => ∃ x y b, e = .returned (.tuple #[.string x, .string y, .bool b]) ∧ Lib.cut z.data.toList [58] = (x.data.toList, y.data.toList, b) ∧ x.size ≤ z.size ∧ y.size ≤ z.size ∧ Below W.heap.size W w') := Lib.hid (fun W z hz => rcut_any W z hz 58)
  have HLo := Lib.hid (fun (W : World) (z : ByteArray) (hz : z.size ≤ 300000) => rlower_any W z hz)
  have HBa := Lib.hid (fun (W : World) (z : ByteArray) (hz : z.size ≤ 300000) => rbare_any W z hz)
  have hpl := lt_of_block hb
  have HB := Lib.hid hb
  have HT := Lib.hid hT
  clear hb hT
  go_enter Tryz.func37, Tryz.ntmps37
  go_upto_region 3 with (first
    | (go_at_call 55; refine (HC.out _ _ hs).mono ?_; rintro e w2 ⟨k, v, ok, rfl, hc1, hz1, hz2, hb2⟩; have HC1 := Lib.hid hc1; have HB2 := Lib.hid hb2; have hs2 := hb2.size; have hkz : k.size ≤ 300000 := (by omega); have hvz : v.size ≤ 300000 := (by omega); clear hc1 hb2)
    | (go_at_call 58; refine (HLo.out _ _ hkz).mono ?_; rintro e w3 ⟨x, nb, rfl, hnb, hx, hxz, hb3⟩; have HB3 := Lib.hid (HB2.out.trans (hb3.mono hs2)); have HNB := Lib.hid hnb; have HX := Lib.hid hx; clear hb3 hnb hx))
  have hf := lineS_split (h := h) HC1.out
  rw [← HNB.out] at hf
  clear hz1 hz2 HC HLo HC1 HNB
  have hor : (ok = false ∨ (ok = true ∧ nb = false)) ∨ (ok = true ∧ nb = true) := by cases ok <;> cases nb <;> simp
  rcases hor with hor | ⟨rfl, rfl⟩
  · have hf2 : lineS h s.data.toList = (400, h) := by
      rw [hf]
      rcases hor with rfl | ⟨rfl, rfl⟩ <;> rfl
    have HF := Lib.hid hf2
    clear hf hf2
    rcases hor with rfl | ⟨rfl, rfl⟩
    all_goals
      go_wp2_with fail
      go_ret
      rw [HF.out]
      exact ⟨rfl, .ofBelow HB3.out, fun h => by cases h⟩
  · have hf2 : lineS h s.data.toList = lineK h (Lib.toLowerA k.data.toList) (Lib.trimS v.data.toList [32, 9]) := hf
    rw [← HX.out rfl] at hf2
    have HF0 := Lib.hid hf2
    clear hf hf2 HX
    go_upto_region 6 with (go_at_call 59; refine (HBa.out _ _ hvz).mono ?_; rintro e w4 ⟨u, rfl, hu, huz, rfl⟩; have HU := Lib.hid hu; clear hu)
    have hf3 := HF0.out
    rw [← HU.out] at hf3
    have hb3 : RhS w3 ph m p b h M := (HB3.out.block _ hpl).trans HB.out
    have d5 : w3.cell? ⟨ph, 5, none⟩ = some (.bool (h.seen.contains clenK)) := cell_of_block hb3 5
    have d6 : w3.cell? ⟨ph, 6, none⟩ = some (.bool (h.seen.contains ikeyK)) := cell_of_block hb3 6
    have d7 : w3.cell? ⟨ph, 7, none⟩ = some (.bool (h.seen.contains hostK)) := cell_of_block hb3 7
    have d2 : w3.cell? ⟨ph, 2, none⟩ = some (.string (bytesL h.key)) := cell_of_block hb3 2
    have f0 := free_of_block hb3
    have HB4 := Lib.hid hb3
    have l1 : (x.toList == [99, 111, 110, 116, 101, 110, 116, 45, 108, 101, 110, 103, 116, 104]) = decide (x.data.toList = clenK) := lit_eq x clenK
    have l2 : (x.toList == [105, 100, 101, 109, 112, 111, 116, 101, 110, 99, 121, 45, 107, 101, 121]) = decide (x.data.toList = ikeyK) := lit_eq x ikeyK
    have l3 : (x.toList == [104, 111, 115, 116]) = decide (x.data.toList = hostK) := lit_eq x hostK
    have l4 : (x.toList == [116, 114, 97, 110, 115, 102, 101, 114, 45, 101, 110, 99, 111, 100, 105, 110, 103]) = decide (x.data.toList = tencK) := lit_eq x tencK
    have hu300 : u.size ≤ 300000 := by omega
    clear hb3 HF0 HU HBa HB
    obtain ⟨bL, hbL⟩ : ∃ q, h.seen.contains clenK = q := ⟨_, rfl⟩
    obtain ⟨bK, hbK⟩ : ∃ q, h.seen.contains ikeyK = q := ⟨_, rfl⟩
    obtain ⟨bH, hbH⟩ : ∃ q, h.seen.contains hostK = q := ⟨_, rfl⟩
    have HBL := Lib.hid hbL
    have HBK := Lib.hid hbK
    have HBH := Lib.hid hbH
    rw [hbL] at d5
    rw [hbK] at d6
    rw [hbH] at d7
    clear hbL hbK hbH
    by_cases q1 : x.data.toList = clenK
    · rw [decide_eq_true q1] at l1
      rw [q1] at hf3
      clear l2 l3 l4
      cases bL with
      | true =>
        have hf4 : lineS h s.data.toList = (400, h) := by rw [hf3]; unfold lineK; rw [if_pos ⟨HBL.out, .inl rfl⟩]
        have HF := Lib.hid hf4
        clear hf3 hf4 q1
        go_wp2_with fail
        go_ret
        rw [HF.out]
        exact ⟨rfl, .ofBelow HB3.out, fun h => by cases h⟩
      | false =>
        have hf4 : lineS h s.data.toList = ((lengthS u.data.toList).1, ⟨clenK :: h.seen, h.key, (lengthS u.data.toList).2⟩) := by
          rw [hf3]; unfold lineK; rw [if_neg (by rintro ⟨h1, _⟩; rw [HBL.out] at h1; cases h1), if_pos rfl]
        have HF := Lib.hid hf4
        have hb5 : RhB (w3.setCell ⟨ph, 5, none⟩ (.bool true)) ph m p (bytesL h.key) b (h.size : Int) true bK bH M := by
          have := rh_set HB4.out 5 (.bool true)
          rw [HBK.out, HBH.out] at this
          exact this
        have HLn := Lib.hid (rlength_any _ u hu300 ph m p (bytesL h.key) b (h.size : Int) true bK bH M hb5)
        have HFr := Lib.hid ((Frm.ofBelow HB3.out).set (S := [some ph]) (b := ph) (i := 5) (.bool true) (by simp))
        clear hf3 hf4 q1 hb5
        obtain ⟨w5, hw5⟩ : ∃ w5, w3.setCell ⟨ph, 5, none⟩ (.bool true) = w5 := ⟨_, rfl⟩
        rw [hw5] at HLn HFr
        go_wp2_with (go_at_call 60; refine HLn.out.mono ?_; rintro e w6 ⟨rfl, hF6, hR6⟩)
        go_ret
        rw [HF.out]
        refine ⟨rfl, HFr.out.trans hF6 (by intro r hr; exact .inl hr), fun h0 => ?_⟩
        have := hR6 h0
        show RhB w6 ph m p (bytesL h.key) b ((lengthS u.data.toList).2 : Int) ((clenK :: h.seen).contains clenK) ((clenK :: h.seen).contains ikeyK) ((clenK :: h.seen).contains hostK) M
        rw [seen_self, seen_cons _ _ _ (by decide), seen_cons _ _ _ (by decide), HBK.out, HBH.out]
        exact this
    · rw [decide_eq_false q1] at l1
      by_cases q2 : x.data.toList = ikeyK
      · rw [decide_eq_true q2] at l2
        rw [q2] at hf3
        have HP := Lib.hid (fun W => rplain_any W u (by omega))
        obtain ⟨pl, hpl2⟩ : ∃ q, tokenB u = q := ⟨_, rfl⟩
        rw [hpl2] at HP
        have HPl : Hid (allL visL u.data.toList = pl) := Lib.hid hpl2
        clear l3 l4 hpl2
        have hor : (bK = true ∨ (bK = false ∧ u.size < 1) ∨ (bK = false ∧ ¬ u.size < 1 ∧ 32 < u.size) ∨ (bK = false ∧ ¬ u.size < 1 ∧ ¬ 32 < u.size ∧ pl = false)) ∨ (bK = false ∧ ¬ u.size < 1 ∧ ¬ 32 < u.size ∧ pl = true) := by
          rcases Nat.lt_or_ge u.size 1 with g1 | g1
          · cases bK
            · exact .inl (.inr (.inl ⟨rfl, g1⟩))
            · exact .inl (.inl rfl)
          · rcases Nat.lt_or_ge 32 u.size with g2 | g2
            · cases bK
              · exact .inl (.inr (.inr (.inl ⟨rfl, by omega, g2⟩)))
              · exact .inl (.inl rfl)
            · cases bK
              · cases pl
                · exact .inl (.inr (.inr (.inr ⟨rfl, by omega, by omega, rfl⟩)))
                · exact .inr ⟨rfl, by omega, by omega, rfl⟩
              · exact .inl (.inl rfl)
        rcases hor with hor | ⟨rfl, g1, g2, rfl⟩
        · have hf4 : lineS h s.data.toList = (400, h) := by
            rw [hf3]
            unfold lineK
            rcases hor with rfl | hor
            · rw [if_pos ⟨HBK.out, .inr (.inl rfl)⟩]
            · have hk0 : bK = false := by rcases hor with h | h | h <;> exact h.1
              rw [if_neg (by rintro ⟨h1, _⟩; rw [HBK.out, hk0] at h1; cases h1), if_neg (by decide), if_pos rfl, if_pos]
              rcases hor with ⟨_, h1⟩ | ⟨_, _, h1⟩ | ⟨_, _, _, h1⟩
              · exact .inl (List.eq_nil_of_length_eq_zero (by rw [dat_len]; omega))
              · exact .inr (.inl (by rw [dat_len]; exact h1))
              · exact .inr (.inr (by rw [HPl.out, h1]))
          have HF := Lib.hid hf4
          clear hf3 hf4 q1 q2
          rcases hor with rfl | ⟨rfl, g1⟩ | ⟨rfl, g1, g2⟩ | ⟨rfl, g1, g2, rfl⟩
          · go_wp2_with (go_at_call 61; refine (HP.out _).mono ?_; rintro e w6 ⟨rfl, rfl⟩)
            go_ret
            rw [HF.out]
            exact ⟨rfl, .ofBelow HB3.out, fun h => by cases h⟩
          · have e1 : decide ((u.size : Int) < 1) = true := decide_eq_true (by omega)
            have e1' : decide (u.size < 1) = true := decide_eq_true g1
            go_wp2_with (go_at_call 61; refine (HP.out _).mono ?_; rintro e w6 ⟨rfl, rfl⟩)
            go_ret
            rw [HF.out]
            exact ⟨rfl, .ofBelow HB3.out, fun h => by cases h⟩
          · have e1 : decide ((u.size : Int) < 1) = false := decide_eq_false (by omega)
            have e1' : decide (u.size < 1) = false := decide_eq_false g1
            have e2 : decide (32 < (u.size : Int)) = true := decide_eq_true (by omega)
            have e2' : decide (32 < u.size) = true := decide_eq_true g2
            go_wp2_with (go_at_call 61; refine (HP.out _).mono ?_; rintro e w6 ⟨rfl, rfl⟩)
            go_ret
            rw [HF.out]
            exact ⟨rfl, .ofBelow HB3.out, fun h => by cases h⟩
          · have e1 : decide ((u.size : Int) < 1) = false := decide_eq_false (by omega)
            have e1' : decide (u.size < 1) = false := decide_eq_false g1
            have e2 : decide (32 < (u.size : Int)) = false := decide_eq_false (by omega)
            have e2' : decide (32 < u.size) = false := decide_eq_false g2
            go_wp2_with (go_at_call 61; refine (HP.out _).mono ?_; rintro e w6 ⟨rfl, rfl⟩)
            go_ret
            rw [HF.out]
            exact ⟨rfl, .ofBelow HB3.out, fun h => by cases h⟩
        · have hf4 : lineS h s.data.toList = (0, ⟨ikeyK :: h.seen, u.data.toList, h.size⟩) := by
            rw [hf3]
            unfold lineK
            rw [if_neg (by rintro ⟨h1, _⟩; rw [HBK.out] at h1; cases h1), if_neg (by decide), if_pos rfl, if_neg]
            rintro (h1 | h1 | h1)
            · have := dat_len u; rw [h1] at this; simp at this; omega
            · rw [dat_len] at h1; exact g2 h1
            · rw [HPl.out] at h1; cases h1
          have HF := Lib.hid hf4
          have e1 : decide ((u.size : Int) < 1) = false := decide_eq_false (by omega)
          have e1' : decide (u.size < 1) = false := decide_eq_false g1
          have e2 : decide (32 < (u.size : Int)) = false := decide_eq_false (by omega)
          have e2' : decide (32 < u.size) = false := decide_eq_false g2
          have HK := Lib.hid (rh_set (rh_set HB4.out 6 (.bool true)) 2 (.string u))
          have HFr := Lib.hid (((Frm.ofBelow HB3.out).set (S := [some ph]) (b := ph) (i := 6) (.bool true) (by simp)).set (b := ph) (i := 2) (.string u) (by simp))
          clear hf3 hf4 q1 q2 g1 g2
          go_wp2_with (go_at_call 61; refine (HP.out _).mono ?_; rintro e w6 ⟨rfl, rfl⟩)
          go_ret
          rw [HF.out]
          refine ⟨rfl, HFr.out, fun _ => ?_⟩
          show RhB _ ph m p (bytesL u.data.toList) b (h.size : Int) ((ikeyK :: h.seen).contains clenK) ((ikeyK :: h.seen).contains ikeyK) ((ikeyK :: h.seen).contains hostK) M
          rw [seen_self, seen_cons _ _ _ (by decide), seen_cons _ _ _ (by decide), bytesL_data]
          exact HK.out
      · rw [decide_eq_false q2] at l2
        by_cases q3 : x.data.toList = hostK
        · rw [decide_eq_true q3] at l3
          rw [q3] at hf3
          clear l4
          cases bH with
          | true =>
            have hf4 : lineS h s.data.toList = (400, h) := by rw [hf3]; unfold lineK; rw [if_pos ⟨HBH.out, .inr (.inr (.inl rfl))⟩]
            have HF := Lib.hid hf4
            clear hf3 hf4 q1 q2 q3
            go_wp2_with fail
            go_ret
            rw [HF.out]
            exact ⟨rfl, .ofBelow HB3.out, fun h => by cases h⟩
          | false =>
            have hf4 : lineS h s.data.toList = (0, ⟨hostK :: h.seen, h.key, h.size⟩) := by
              rw [hf3]; unfold lineK
              rw [if_neg (by rintro ⟨h1, _⟩; rw [HBH.out] at h1; cases h1), if_neg (by decide), if_neg (by decide), if_neg (by decide)]
            have HF := Lib.hid hf4
            have HK := Lib.hid (rh_set HB4.out 7 (.bool true))
            have HFr := Lib.hid ((Frm.ofBelow HB3.out).set (S := [some ph]) (b := ph) (i := 7) (.bool true) (by simp))
            clear hf3 hf4 q1 q2 q3
            go_wp2_with fail
            go_ret
            rw [HF.out]
            refine ⟨rfl, HFr.out, fun _ => ?_⟩
            show RhB _ ph m p (bytesL h.key) b (h.size : Int) ((hostK :: h.seen).contains clenK) ((hostK :: h.seen).contains ikeyK) ((hostK :: h.seen).contains hostK) M
            rw [seen_self, seen_cons _ _ _ (by decide), seen_cons _ _ _ (by decide)]
            exact HK.out
        · rw [decide_eq_false q3] at l3
          by_cases q4 : x.data.toList = tencK
          · rw [decide_eq_true q4] at l4
            rw [q4] at hf3
            have hf4 : (lineS h s.data.toList).1 = 501 := by
              rw [hf3]; unfold lineK
              rw [if_neg (by rintro ⟨h1, _⟩; rw [HT.out] at h1; cases h1), if_neg (by decide), if_neg (by decide), if_pos rfl]
            have HF := Lib.hid hf4
            clear hf3 hf4 q1 q2 q3 q4
            go_wp2_with fail
            go_ret
            rw [HF.out]
            exact ⟨rfl, .ofBelow HB3.out, fun h => by cases h⟩
          · rw [decide_eq_false q4] at l4
            have hf4 : lineS h s.data.toList = (0, ⟨x.data.toList :: h.seen, h.key, h.size⟩) := by
              rw [hf3]; unfold lineK
              rw [if_neg (fun h1 => h1.2.elim q1 (fun h2 => h2.elim q2 (fun h3 => h3.elim q3 q4))), if_neg q1, if_neg q2, if_neg q4]
            have HF := Lib.hid hf4
            have HK : Hid (RhB w3 ph m p (bytesL h.key) b (h.size : Int) ((x.data.toList :: h.seen).contains clenK) ((x.data.toList :: h.seen).contains ikeyK) ((x.data.toList :: h.seen).contains hostK) M) := by
              refine Lib.hid ?_
              rw [seen_cons _ _ _ q1, seen_cons _ _ _ q2, seen_cons _ _ _ q3]
              exact HB4.out
            clear hf3 hf4 q1 q2 q3 q4
            go_wp2_with fail
            go_ret
            rw [HF.out]
            exact ⟨rfl, .ofBelow HB3.out, fun _ => HK.out⟩
end Go.Proofs.YtlgfhbfdjckdnaaGreatDoor
