/- tollgateref19.after and .Bounded: the document's wide firing. -/
import Derived.Test.YtgahlonimaeicaaDoorRefNet2
import Derived.Test.YtgahlonimaeicaaDoorCoverNode
set_option maxRecDepth 100000
namespace Go.Proofs.YtgahlonimaeicaaDoor
open Go.RowKit

theorem val_int {k : IntKind} {a b : Int} (h : a = b) : Value.int k a = Value.int k b := by rw [h]
theorem box3 {w : World} {b : Nat} {v0 v1 v2 : Value} {t : TypeId} {fr : Nat × Nat} (h : w.heap[b]? = some (.cells #[v0, v1, v2] t fr)) :
    w.cell? ⟨b, 0, none⟩ = some v0 ∧ w.cell? ⟨b, 1, none⟩ = some v1 ∧ w.cell? ⟨b, 2, none⟩ = some v2 :=
  ⟨by rw [cell_of_block h]; rfl, by rw [cell_of_block h]; rfl, by rw [cell_of_block h]; rfl⟩

set_option maxHeartbeats 4000000 in
theorem refafter_any (w : World) (B : Nat) (hB : B ≤ w.heap.size) (t : Tr) (vi vo vm : Value) (m : List Int) (hi : Ints w B vi t.inn) (ho : Ints w B vo t.out) (hm : Ints w B vm m) (hpi : PlacesOk m.length t.inn) (hpo : PlacesOk m.length t.out)
    (hni : t.inn.Nodup) (hno : t.out.Nodup) (U : Int) (hU : U ≤ 4611686018427387904) (hw : Wide U m) (hml : m.length ≤ 4096) :
    Calls Tryd.prog 51 #[.agg #[.string t.label, vi, vo], vm] w (FiredPost w t m) := by
  obtain ⟨i0, hti, hz0, hz1, hz2⟩ := info_parts info_int
  have hbA := (Below.refl w.heap.size w).alloc (Nat.le_refl _) (.cells #[.string t.label, vi, vo] 42)
  have hboxA := heap_alloc_new w (.cells #[.string t.label, vi, vo] 42)
  obtain ⟨W1, hW1⟩ : ∃ W1, w.alloc (.cells #[.string t.label, vi, vo] 42) = W1 := ⟨_, rfl⟩
  have hs1 : W1.heap.size = w.heap.size + 1 := by rw [← hW1]; exact World.size_alloc _ _
  rw [hW1] at hbA hboxA
  obtain ⟨ai, ci, rfl⟩ := hi.val
  obtain ⟨ao, co, rfl⟩ := ho.val
  obtain ⟨am, cm, rfl⟩ := hm.val
  have hs1a : w.heap.size + 1 ≤ W1.heap.size := by omega
  have hs1b : W1.heap.size ≤ w.heap.size + 1 := by omega
  have HW := Lib.hid (aftL_wide (t := t) (a := m) hpi hpo hni hno (fun p hp => by rw [getI_eq hp]; exact (hw _ (List.getElem_mem hp)).1))
  have HS := Lib.hid (fun e => stop_no (t := t) (a := m) e)
  have HY := Lib.hid (fun e => stop_yes (t := t) (a := m) hpi e)
  have HP := Lib.hid hpi
  have HQ := Lib.hid hpo
  clear hs1 hpi hpo hni hno
  go_enter Tryd.func51, Tryd.ntmps51
  go_wp2_with fail
  go_loopg [6, 7] m.length (fun gh s6 s7 wr => ∃ (k : Nat) (L : List Int), k + gh = m.length ∧ s7 = .int .i64 (k : Int) ∧ Hid (L = aftL t m k) ∧ L.length ≤ k ∧ Hid (∀ q, q < k → aftStop t m q = false) ∧ OwnI wr W1.heap.size s6 L ∧ Below W1.heap.size W1 wr)
  case atStart => exact ⟨0, [], by omega, rfl, rfl, by simp, fun q h => by omega, OwnI.nil _ _, Below.refl _ _⟩
  case round =>
    obtain ⟨k, L, hkg, rfl, hL, hLk, hNo, how, hbr⟩ := hrel
    have hzr := hbr.size
    have hbrw := hbA.trans (hbr.mono (by omega))
    have hx := (hbr.block w.heap.size (by omega)).trans hboxA
    obtain ⟨c0, c1, c2⟩ := box3 hx
    by_cases hk : k < m.length
    · obtain ⟨b, o, rfl, hb, hc⟩ := hm.col k hk
      rw [← Below.cellB hbrw (by omega)] at hc
      have hir := hi.mono (hbrw.mono hB) (Nat.le_refl B)
      have hor := ho.mono (hbrw.mono hB) (Nat.le_refl B)
      obtain ⟨x, hxe⟩ : ∃ x, m[k] = x := ⟨_, rfl⟩
      have hxr := hw _ (List.getElem_mem hk)
      have hai : Hid (aftI t m k = if x = -1 then -1 else x - (if hasB t.inn k then 1 else 0) + (if hasB t.out k then 1 else 0)) := by
        unfold aftI
        rw [getI_eq hk, hxe, hasI_B, hasI_B]
        exact rfl
      have hst : Hid (aftStop t m k = (hasB t.inn k && (x == 0))) := by unfold aftStop; rw [getI_eq hk, hxe]; exact rfl
      rw [hxe] at hc hxr
      clear hxe
      obtain ⟨y, hy⟩ : ∃ y, aftI t m k = y := ⟨_, rfl⟩
      have hL2 : Hid (L ++ [y] = aftL t m (k + 1)) := by rw [aftL_succ, hL.out, hy]; exact rfl
      rw [hy] at hai
      obtain ⟨hx1, hx2⟩ := hxr
      clear hy
      obtain ⟨aa, cc, rfl⟩ := how.shape
      cases hI : hasB t.inn k with
      | true =>
        rw [hI] at hai hst
        have HI := Lib.hid hI
        by_cases h0 : x = 0
        · subst h0
          have hen : Hid (t.enB m = false) := by
            cases e : t.enB m with
            | false => exact rfl
            | true => have := HS.out e k; rw [hst.out] at this; cases this
          clear hI
          go_wp2_with (go_at_call 53; refine (refhas_is _ _ _ _ _ hir HI.out).mono ?_; rintro e w2 ⟨rfl, rfl⟩)
          go_ret2
          exact ⟨hbrw, Or.inl ⟨hen.out, rfl⟩⟩
        · have hs : Hid (aftStop t m k = false) := by rw [hst.out]; simp [h0, Hid]
          have hb0 : (x == 0) = false := by simpa using h0
          by_cases h1 : x = -1
          · subst h1
            have hNo2 : Hid (∀ q, q < k + 1 → aftStop t m q = false) := fun q hq => by
              by_cases e : q < k
              · exact hNo.out q e
              · obtain rfl : q = k := by omega
                exact hs.out
            obtain rfl : y = -1 := by have := hai.out; simp at this; omega
            clear hai hI
            go_wp2_with (first | (go_at_call 53; refine (refhas_is _ _ _ _ _ hir HI.out).mono ?_; rintro e w2 ⟨rfl, rfl⟩) | (at_builtin; go_must (refine wpList_append_own _ rfl _ _ 33 rfl W1.heap.size 3 i0 (.int .i64 0) 1 8 Tryd.underlying33 hti hz0 hz1 hz2 rfl (by decide) _ L.length (L.map (Value.int .i64)) rfl (how.kept ((Below.refl _ _).alloc (Nat.le_refl _) _) (Nat.le_refl _)) ⟨_, 0, none⟩ 1 1 [.int .i64 (-1)] rfl rfl (cell_one_new _ _ _) (ints_oneCell' [-1]) (by unfold maxLen; omega) (by omega) (by simp; omega) ?_; intro v' w4 hown hg4 _)))
            go_roundg (gk - 1)
            case measure => omega
            case rel => exact ⟨k + 1, L ++ [-1], by omega, by go_num, hL2, by simp; omega, hNo2, by unfold OwnI; simpa using hown, (hbr.alloc hzr _).grown hg4 (by simp; omega) (fun j hj => (World.ownsRow.lt how j hj).1)⟩
          · have hb1 : (x == -1) = false := by simpa using h1
            have hb2 : (x != -1) = true := by simpa using h1
            have hb3 : (x - 1 == -1) = false := by simp; omega
            have hb4 : (x - 1 != -1) = true := by simp; omega
            cases hO : hasB t.out k with
            | true =>
              rw [hO, if_neg h1] at hai
              have HO := Lib.hid hO
              clear hO
              have hNo2 : Hid (∀ q, q < k + 1 → aftStop t m q = false) := fun q hq => by
                by_cases e : q < k
                · exact hNo.out q e
                · obtain rfl : q = k := by omega
                  exact hs.out
              obtain rfl : x = y := by have := hai.out; simp at this; omega
              clear hai hI
              go_wp2_with (first | (go_at_call 53; (with_reducible refine (refhas_is _ _ _ _ _ hir HI.out).mono ?_); rintro e w2 ⟨rfl, rfl⟩) | (go_at_call 53; refine (refhas_is _ _ _ _ _ hor HO.out).mono ?_; rintro e w2 ⟨rfl, rfl⟩) | (at_builtin; go_must (refine wpList_append_own _ rfl _ _ 33 rfl W1.heap.size 3 i0 (.int .i64 0) 1 8 Tryd.underlying33 hti hz0 hz1 hz2 rfl (by decide) _ L.length (L.map (Value.int .i64)) rfl (how.kept ((Below.refl _ _).alloc (Nat.le_refl _) _) (Nat.le_refl _)) ⟨_, 0, none⟩ 1 1 [.int .i64 (x)] rfl rfl (cell_one_new _ _ _) (ints_oneCell' [x]) (by unfold maxLen; omega) (by omega) (by simp; omega) ?_; intro v' w4 hown hg4 _)))
              go_roundg (gk - 1)
              case measure => omega
              case rel => exact ⟨k + 1, L ++ [x], by omega, by go_num, hL2, by simp; omega, hNo2, by unfold OwnI; simpa using hown, (hbr.alloc hzr _).grown hg4 (by simp; omega) (fun j hj => (World.ownsRow.lt how j hj).1)⟩
            | false =>
              rw [hO, if_neg h1] at hai
              have HO := Lib.hid hO
              clear hO
              have hNo2 : Hid (∀ q, q < k + 1 → aftStop t m q = false) := fun q hq => by
                by_cases e : q < k
                · exact hNo.out q e
                · obtain rfl : q = k := by omega
                  exact hs.out
              obtain rfl : y = x - 1 := by have := hai.out; simp at this; omega
              clear hai hI
              go_wp2_with (first | (go_at_call 53; (with_reducible refine (refhas_is _ _ _ _ _ hir HI.out).mono ?_); rintro e w2 ⟨rfl, rfl⟩) | (go_at_call 53; refine (refhas_is _ _ _ _ _ hor HO.out).mono ?_; rintro e w2 ⟨rfl, rfl⟩) | (at_builtin; go_must (refine wpList_append_own _ rfl _ _ 33 rfl W1.heap.size 3 i0 (.int .i64 0) 1 8 Tryd.underlying33 hti hz0 hz1 hz2 rfl (by decide) _ L.length (L.map (Value.int .i64)) rfl (how.kept ((Below.refl _ _).alloc (Nat.le_refl _) _) (Nat.le_refl _)) ⟨_, 0, none⟩ 1 1 [.int .i64 (x - 1)] rfl rfl (cell_one_new _ _ _) (ints_oneCell' [x - 1]) (by unfold maxLen; omega) (by omega) (by simp; omega) ?_; intro v' w4 hown hg4 _)))
              go_roundg (gk - 1)
              case measure => omega
              case rel => exact ⟨k + 1, L ++ [x - 1], by omega, by go_num, hL2, by simp; omega, hNo2, by unfold OwnI; simpa using hown, (hbr.alloc hzr _).grown hg4 (by simp; omega) (fun j hj => (World.ownsRow.lt how j hj).1)⟩
      | false =>
        rw [hI] at hai hst
        have HI := Lib.hid hI
        have hs : Hid (aftStop t m k = false) := by rw [hst.out]; exact rfl
        by_cases h1 : x = -1
        · subst h1
          have hNo2 : Hid (∀ q, q < k + 1 → aftStop t m q = false) := fun q hq => by
            by_cases e : q < k
            · exact hNo.out q e
            · obtain rfl : q = k := by omega
              exact hs.out
          obtain rfl : y = -1 := by have := hai.out; simp at this; omega
          clear hai hI
          go_wp2_with (first | (go_at_call 53; refine (refhas_is _ _ _ _ _ hir HI.out).mono ?_; rintro e w2 ⟨rfl, rfl⟩) | (at_builtin; go_must (refine wpList_append_own _ rfl _ _ 33 rfl W1.heap.size 3 i0 (.int .i64 0) 1 8 Tryd.underlying33 hti hz0 hz1 hz2 rfl (by decide) _ L.length (L.map (Value.int .i64)) rfl (how.kept ((Below.refl _ _).alloc (Nat.le_refl _) _) (Nat.le_refl _)) ⟨_, 0, none⟩ 1 1 [.int .i64 (-1)] rfl rfl (cell_one_new _ _ _) (ints_oneCell' [-1]) (by unfold maxLen; omega) (by omega) (by simp; omega) ?_; intro v' w4 hown hg4 _)))
          go_roundg (gk - 1)
          case measure => omega
          case rel => exact ⟨k + 1, L ++ [-1], by omega, by go_num, hL2, by simp; omega, hNo2, by unfold OwnI; simpa using hown, (hbr.alloc hzr _).grown hg4 (by simp; omega) (fun j hj => (World.ownsRow.lt how j hj).1)⟩
        · have hb1 : (x == -1) = false := by simpa using h1
          have hb2 : (x != -1) = true := by simpa using h1
          cases hO : hasB t.out k with
          | true =>
            rw [hO, if_neg h1] at hai
            have HO := Lib.hid hO
            clear hO
            have hNo2 : Hid (∀ q, q < k + 1 → aftStop t m q = false) := fun q hq => by
              by_cases e : q < k
              · exact hNo.out q e
              · obtain rfl : q = k := by omega
                exact hs.out
            obtain rfl : y = x + 1 := by have := hai.out; simp at this; omega
            clear hai hI
            go_wp2_with (first | (go_at_call 53; (with_reducible refine (refhas_is _ _ _ _ _ hir HI.out).mono ?_); rintro e w2 ⟨rfl, rfl⟩) | (go_at_call 53; refine (refhas_is _ _ _ _ _ hor HO.out).mono ?_; rintro e w2 ⟨rfl, rfl⟩) | (at_builtin; go_must (refine wpList_append_own _ rfl _ _ 33 rfl W1.heap.size 3 i0 (.int .i64 0) 1 8 Tryd.underlying33 hti hz0 hz1 hz2 rfl (by decide) _ L.length (L.map (Value.int .i64)) rfl (how.kept ((Below.refl _ _).alloc (Nat.le_refl _) _) (Nat.le_refl _)) ⟨_, 0, none⟩ 1 1 [.int .i64 (x + 1)] rfl rfl (cell_one_new _ _ _) (ints_oneCell' [x + 1]) (by unfold maxLen; omega) (by omega) (by simp; omega) ?_; intro v' w4 hown hg4 _)))
            go_roundg (gk - 1)
            case measure => omega
            case rel => exact ⟨k + 1, L ++ [x + 1], by omega, by go_num, hL2, by simp; omega, hNo2, by unfold OwnI; simpa using hown, (hbr.alloc hzr _).grown hg4 (by simp; omega) (fun j hj => (World.ownsRow.lt how j hj).1)⟩
          | false =>
            rw [hO, if_neg h1] at hai
            have HO := Lib.hid hO
            clear hO
            have hNo2 : Hid (∀ q, q < k + 1 → aftStop t m q = false) := fun q hq => by
              by_cases e : q < k
              · exact hNo.out q e
              · obtain rfl : q = k := by omega
                exact hs.out
            obtain rfl : x = y := by have := hai.out; simp at this; omega
            clear hai hI
            go_wp2_with (first | (go_at_call 53; (with_reducible refine (refhas_is _ _ _ _ _ hir HI.out).mono ?_); rintro e w2 ⟨rfl, rfl⟩) | (go_at_call 53; refine (refhas_is _ _ _ _ _ hor HO.out).mono ?_; rintro e w2 ⟨rfl, rfl⟩) | (at_builtin; go_must (refine wpList_append_own _ rfl _ _ 33 rfl W1.heap.size 3 i0 (.int .i64 0) 1 8 Tryd.underlying33 hti hz0 hz1 hz2 rfl (by decide) _ L.length (L.map (Value.int .i64)) rfl (how.kept ((Below.refl _ _).alloc (Nat.le_refl _) _) (Nat.le_refl _)) ⟨_, 0, none⟩ 1 1 [.int .i64 (x)] rfl rfl (cell_one_new _ _ _) (ints_oneCell' [x]) (by unfold maxLen; omega) (by omega) (by simp; omega) ?_; intro v' w4 hown hg4 _)))
            go_roundg (gk - 1)
            case measure => omega
            case rel => exact ⟨k + 1, L ++ [x], by omega, by go_num, hL2, by simp; omega, hNo2, by unfold OwnI; simpa using hown, (hbr.alloc hzr _).grown hg4 (by simp; omega) (fun j hj => (World.ownsRow.lt how j hj).1)⟩
    · have hen : Hid (t.enB m = true) := by
        cases e : t.enB m with
        | true => exact rfl
        | false =>
          obtain ⟨p, hp, h1⟩ := HY.out e
          rw [hNo.out p (by omega)] at h1
          cases h1
      have hLe : Hid (L = t.wideE m) := by rw [hL.out, show k = m.length by omega]; exact HW.out hen.out
      go_wp2_with fail
      go_ret2
      exact ⟨hbrw, Or.inr ⟨hen.out, _, rfl, by rw [← hLe.out]; exact how.lower (by omega)⟩⟩

theorem refafter_no (w : World) (B : Nat) (hB : B ≤ w.heap.size) (t : Tr) (vi vo vm : Value) (m : List Int) (hi : Ints w B vi t.inn) (ho : Ints w B vo t.out) (hm : Ints w B vm m) (hpi : PlacesOk m.length t.inn) (hpo : PlacesOk m.length t.out)
    (hni : t.inn.Nodup) (hno : t.out.Nodup) (U : Int) (hU : U ≤ 4611686018427387904) (hw : Wide U m) (hml : m.length ≤ 4096) (hen : t.enB m = false) :
    Calls Tryd.prog 51 #[.agg #[.string t.label, vi, vo], vm] w fun e w' => e = .returned (.tuple #[.slice none 0 0, .bool false]) ∧ Below w.heap.size w w' := by
  refine (refafter_any w B hB t vi vo vm m hi ho hm hpi hpo hni hno U hU hw hml).mono fun e w' h => ?_
  obtain ⟨hb, ⟨_, he⟩ | ⟨h1, _⟩⟩ := h
  · exact ⟨he, hb⟩
  · rw [hen] at h1; cases h1
theorem refafter_yes (w : World) (B : Nat) (hB : B ≤ w.heap.size) (t : Tr) (vi vo vm : Value) (m : List Int) (hi : Ints w B vi t.inn) (ho : Ints w B vo t.out) (hm : Ints w B vm m) (hpi : PlacesOk m.length t.inn) (hpo : PlacesOk m.length t.out)
    (hni : t.inn.Nodup) (hno : t.out.Nodup) (U : Int) (hU : U ≤ 4611686018427387904) (hw : Wide U m) (hml : m.length ≤ 4096) (hen : t.enB m = true) :
    Calls Tryd.prog 51 #[.agg #[.string t.label, vi, vo], vm] w fun e w' => ∃ v, e = .returned (.tuple #[v, .bool true]) ∧ OwnI w' w.heap.size v (t.wideE m) ∧ Below w.heap.size w w' := by
  refine (refafter_any w B hB t vi vo vm m hi ho hm hpi hpo hni hno U hU hw hml).mono fun e w' h => ?_
  obtain ⟨hb, ⟨h1, _⟩ | ⟨_, v, he, how⟩⟩ := h
  · rw [hen] at h1; cases h1
  · exact ⟨v, he, how, hb⟩

end Go.Proofs.YtgahlonimaeicaaDoor
