/- fires: the law's own wide marking behind a transition. -/
import Derived.Test.YtgahlonimaeicaaDoorCoverTreeP
import Derived.Test.YtgahlonimaeicaaDoorCoverGrow
set_option maxRecDepth 100000
namespace Go.Proofs.YtgahlonimaeicaaDoor
open Go.RowKit

theorem addW_snoc (by_ : Int) : ∀ (ps o : List Int) (p : Int), addW by_ o (ps ++ [p]) = add1 by_ (addW by_ o ps) p
  | [], o, p => rfl
  | q :: ps, o, p => by
    rw [List.cons_append, addW, addW]
    exact addW_snoc by_ ps _ p
theorem addW_take {by_ : Int} {o ps : List Int} {k : Nat} (h : k < ps.length) : addW by_ o (ps.take (k + 1)) = add1 by_ (addW by_ o (ps.take k)) ps[k] := by
  rw [List.take_succ_eq_append_getElem h, addW_snoc]
theorem any_take {p : Int → Bool} {ps : List Int} {k : Nat} (h : k < ps.length) : (ps.take (k + 1)).any p = ((ps.take k).any p || p ps[k]) := by
  rw [List.take_succ_eq_append_getElem h, List.any_append, List.any_cons, List.any_nil, Bool.or_false]
theorem take_new {ps : List Int} (hn : ps.Nodup) {k : Nat} (h : k < ps.length) : ps[k] ∉ ps.take k := by
  intro hm
  obtain ⟨j, hj, e⟩ := List.getElem_of_mem hm
  have hjk : j < k := by simp at hj; omega
  rw [List.getElem_take] at e
  exact List.pairwise_iff_getElem.1 hn j k (by omega) h hjk e

/-- What fires hands back. -/
def FiresPost (w : World) (t : Tr) (m : List Int) (e : Ending) (w' : World) : Prop :=
  Below w.heap.size w w' ∧ ((t.enB m = false ∧ e = .returned (.tuple #[.slice none 0 0, .bool false])) ∨
    (t.enB m = true ∧ ∃ v, e = .returned (.tuple #[v, .bool true]) ∧ OwnI w' w.heap.size v (t.wideE m)))

set_option maxHeartbeats 2000000 in
theorem fires_any (w : World) (B : Nat) (hB : B ≤ w.heap.size) (t : Tr) (vi vo vm : Value) (m : List Int) (hi : Ints w B vi t.inn) (ho : Ints w B vo t.out) (hm : Ints w B vm m) (hpi : PlacesOk m.length t.inn) (hpo : PlacesOk m.length t.out) (hni : t.inn.Nodup)
    (U : Int) (hU : U + t.inn.length + t.out.length ≤ 4611686018427387904) (hw : Wide U m) (hne : 0 < m.length) :
    Calls Tryd.prog 15 #[.agg #[.string t.label, vi, vo], vm] w (FiresPost w t m) := by
  obtain ⟨i0, hti, hz0, hz1, hz2⟩ := info_parts info_int
  obtain ⟨W1, hW1⟩ : ∃ W1, w.alloc (.cells #[.string t.label, vi, vo] 42) = W1 := ⟨_, rfl⟩
  have hb1 : Below w.heap.size w W1 := by rw [← hW1]; exact (Below.refl _ _).alloc (Nat.le_refl _) _
  have hs1 : W1.heap.size = w.heap.size + 1 := by rw [← hW1]; exact World.size_alloc _ _
  have hx1 : W1.heap[w.heap.size]? = some (.cells #[.string t.label, vi, vo] 42) := by rw [← hW1]; exact heap_alloc_new _ _
  have hi1 := hi.mono (hb1.mono hB) (Nat.le_refl _)
  have ho1 := ho.mono (hb1.mono hB) (Nat.le_refl _)
  have hm1 := hm.mono (hb1.mono hB) (Nat.le_refl _)
  have hml := hm.len
  have hil := hi.len
  have hol := ho.len
  obtain ⟨ai, ci, rfl⟩ := hi.val
  obtain ⟨ao, co, rfl⟩ := ho.val
  obtain ⟨am, cm, rfl⟩ := hm.val
  have HX := Lib.hid hx1
  have hmE : Ints (W1.alloc (.cells #[] 3)) B (.slice am m.length cm) m := hm1.mono ((Below.refl _ _).alloc (by omega) _) (Nat.le_refl _)
  have own0 : World.ownsRow (W1.alloc (.cells #[] 3)) W1.heap.size 3 1 (.slice (some ⟨W1.heap.size, 0, none⟩) 0 0) 0 [] := World.ownsRow_made W1 #[] 0 (Nat.le_refl _) (by simp) (by simp)
  have hs1a : w.heap.size + 1 ≤ W1.heap.size := by omega
  have hs1b : W1.heap.size ≤ w.heap.size + 1 := by omega
  clear hx1 hs1
  go_enter Tryd.func15, Tryd.ntmps15
  go_wp2_with (at_builtin; refine wpList_append_col (mk := Value.int .i64) _ rfl _ _ 33 rfl (fun _ => rfl) W1.heap.size 3 i0 (.int .i64 0) 8 Tryd.underlying33 hti hz0 hz1 hz2 rfl _ 0 [] rfl own0 17592186044416 B _ m rfl hmE (by unfold maxLen; omega) (by omega) (by simp) ?_; intro v1 w2 hown1 hg1; refine Hid.out ?_)
  refine Lib.hid ?_
  clear hW1
  have how1 : OwnI w2 W1.heap.size v1 m := by
    unfold OwnI
    have := hown1
    rw [Nat.zero_add, List.nil_append] at this
    exact this
  rcases how1.val with ⟨-, h0⟩ | ⟨g, cap, rfl, hg0, hg2⟩
  · exact absurd hne (by rw [h0]; simp)
  have hb2 : Below W1.heap.size W1 w2 := ((Below.refl _ _).alloc (Nat.le_refl _) _).grown hg1 (by simp) (fun k hk => by cases hk; exact Nat.le_refl _)
  have hB1 : B ≤ W1.heap.size := by omega
  clear hown1 hg1 own0
  go_wp2_with fail
  go_loopg [7] t.inn.length (fun gh s7 wr => ∃ (k : Nat) (cur : List Int), k + gh = t.inn.length ∧ s7 = .int .i64 (k : Int) ∧ Hid (cur = addW (-1) m (t.inn.take k)) ∧ Hid ((t.inn.take k).any (zeroAt m) = false) ∧ OwnI wr W1.heap.size (.slice (some ⟨g, 0, none⟩) m.length cap) cur ∧ Below W1.heap.size W1 wr)
  case atStart => exact ⟨0, m, by omega, rfl, rfl, rfl, how1, hb2⟩
  case round =>
    obtain ⟨k, cur, hkg, rfl, hC, hZ, how, hbr⟩ := hrel
    clear hb2 how1
    have hzr := hbr.size
    have hxr := (hbr.block w.heap.size (by omega)).trans HX.out
    have c1 : wr.cell? ⟨w.heap.size, 1, none⟩ = some (.slice ai t.inn.length ci) := by rw [cell_of_block hxr]; rfl
    have c2 : wr.cell? ⟨w.heap.size, 2, none⟩ = some (.slice ao t.out.length co) := by rw [cell_of_block hxr]; rfl
    have HXR := Lib.hid hxr
    clear hxr
    have hcl : Hid (cur.length = m.length) := by rw [hC.out, len_addW]; exact rfl
    by_cases hk : k < t.inn.length
    · obtain ⟨bi, oi, rfl, hbi, hci⟩ := hi1.col k hk
      rw [← Below.cellB hbr (by omega)] at hci
      have hp := hpi _ (List.getElem_mem hk)
      have hnew := take_new hni hk
      have hat := Lib.hid (any_take (p := zeroAt m) hk)
      have hst := Lib.hid (addW_take (by_ := -1) (o := m) hk)
      obtain ⟨q, hq⟩ : ∃ q : Nat, t.inn[k] = (q : Int) := ⟨_, (Int.toNat_of_nonneg hp.1).symm⟩
      rw [hq] at hci hp hnew hat hst
      have hqm : q < m.length := by omega
      have hqc : q < cur.length := by have := hcl.out; omega
      obtain ⟨bm, om, rfl, hbm, hcm⟩ := hm1.col q hqm
      rw [← Below.cellB hbr (by omega)] at hcm
      have hgq : getI cur (q : Int) = m[q] := by
        have htk : PlacesOk m.length (t.inn.take k) := fun x hx => hpi x (List.mem_of_mem_take hx)
        have hnd : (t.inn.take k).Nodup := hni.sublist (List.take_sublist _ _)
        rw [hC.out, getI_addW (by omega) (by omega) htk hnd, hasI_no hnew, getI_eq hqm]
        split
        · omega
        · omega
      rw [getI_eq hqc] at hgq
      obtain ⟨hx0, hxf⟩ := how.at hqc
      rw [hgq] at hx0
      have hgm := Lib.hid (getI_eq hqm)
      have hwq := hw _ (List.getElem_mem hqm)
      have hadd := Lib.hid (And.intro (getI_eq hqc) (addI_eq (-1) hqc))
      rw [hgq] at hadd
      obtain ⟨x, hx⟩ : ∃ x, m[q] = x := ⟨_, rfl⟩
      rw [hx] at hcm hx0 hgm hwq hadd
      clear hx hgq hq
      by_cases hz : x = 0
      · subst hz
        have hen : Hid (t.enB m = false) := by
          unfold Tr.enB
          have : t.inn.any (zeroAt m) = true := by
            have h1 : (t.inn.take (k + 1)).any (zeroAt m) = true := by rw [hat.out]; simp [zeroAt, hgm.out]
            obtain ⟨y, hy, hyz⟩ := List.any_eq_true.1 h1
            exact List.any_eq_true.2 ⟨y, List.mem_of_mem_take hy, hyz⟩
          rw [this]; exact rfl
        go_wp2_with fail
        go_ret2
        exact ⟨hb1.trans (hbr.mono (by omega)), Or.inl ⟨hen.out, rfl⟩⟩
      · have hz2 : Hid ((t.inn.take (k + 1)).any (zeroAt m) = false) := by
          rw [hat.out, hZ.out]
          simp [zeroAt, hgm.out, hz, Hid]
        by_cases hm1' : x = -1
        · subst hm1'
          have hC2 : Hid (cur = addW (-1) m (t.inn.take (k + 1))) := by
            rw [hst.out, ← hC.out]
            unfold add1
            rw [hadd.out.1, if_pos rfl]; exact rfl
          go_wp2_with fail
          go_roundg (gk - 1)
          case measure => omega
          case rel => exact ⟨k + 1, cur, by omega, by go_num, hC2, hz2, how, hbr⟩
        · have hC2 : Hid (cur.set q (x + -1) = addW (-1) m (t.inn.take (k + 1))) := by
            rw [hst.out, ← hC.out]
            unfold add1
            rw [hadd.out.1, if_neg hm1', hadd.out.2]; exact rfl
          go_wp2_with fail
          go_roundg (gk - 1)
          case measure => omega
          case rel => exact ⟨k + 1, cur.set q (x + -1), by omega, by go_num, hC2, hz2, how.set q (x + -1), hbr.setCell (by simpa using hg0) _⟩
    · have hall : Hid (cur = addW (-1) m t.inn) := by rw [hC.out, List.take_of_length_le (by omega)]; exact rfl
      have hen : Hid (t.enB m = true) := by
        have := hZ.out
        rw [List.take_of_length_le (by omega)] at this
        unfold Tr.enB
        rw [this]; exact rfl
      have hwc : Hid (Wide (U + t.inn.length) cur) := by rw [hall.out]; exact Wide.addW (Or.inr rfl) _ hw hpi
      go_wp2_with fail
      go_loopg [8] t.out.length (fun gh s8 wx => ∃ (j : Nat) (cur2 : List Int), j + gh = t.out.length ∧ s8 = .int .i64 (j : Int) ∧ Hid (cur2 = addW 1 cur (t.out.take j)) ∧ OwnI wx W1.heap.size (.slice (some ⟨g, 0, none⟩) m.length cap) cur2 ∧ Below W1.heap.size W1 wx)
      case atStart => exact ⟨0, cur, by omega, rfl, rfl, how, hbr⟩
      case round =>
        clear how hbr c1 c2 HXR hzr
        obtain ⟨j, cur2, hjg, rfl, hC2, how, hbr⟩ := hrel
        have hzr := hbr.size
        have hxr := (hbr.block w.heap.size (by omega)).trans HX.out
        have c2 : wr.cell? ⟨w.heap.size, 2, none⟩ = some (.slice ao t.out.length co) := by rw [cell_of_block hxr]; rfl
        clear hxr
        have hcl2 : Hid (cur2.length = m.length) := by rw [hC2.out, len_addW]; exact hcl.out
        by_cases hj : j < t.out.length
        · obtain ⟨bo, oo, rfl, hbo, hco⟩ := ho1.col j hj
          rw [← Below.cellB hbr (by omega)] at hco
          have hp := hpo _ (List.getElem_mem hj)
          have hst := Lib.hid (addW_take (by_ := 1) (o := cur) hj)
          have hwj : Hid (Wide (U + t.inn.length + j) cur2) := by
            rw [hC2.out]
            have := Wide.addW (Or.inl rfl) (t.out.take j) hwc.out (by rw [hcl.out]; exact fun x hx => hpo x (List.mem_of_mem_take hx))
            refine Wide.up this ?_
            simp; omega
          obtain ⟨q, hq⟩ : ∃ q : Nat, t.out[j] = (q : Int) := ⟨_, (Int.toNat_of_nonneg hp.1).symm⟩
          rw [hq] at hco hp hst
          have hqm : q < m.length := by omega
          have hqc : q < cur2.length := by have := hcl2.out; omega
          obtain ⟨hx0, hxf⟩ := how.at hqc
          have hadd := Lib.hid (And.intro (getI_eq hqc) (addI_eq 1 hqc))
          have hwq := hwj.out _ (List.getElem_mem hqc)
          obtain ⟨x, hx⟩ : ∃ x, cur2[q] = x := ⟨_, rfl⟩
          rw [hx] at hx0 hadd hwq
          clear hx hq
          by_cases hm1' : x = -1
          · subst hm1'
            have hC3 : Hid (cur2 = addW 1 cur (t.out.take (j + 1))) := by
              rw [hst.out, ← hC2.out]
              unfold add1
              rw [hadd.out.1, if_pos rfl]; exact rfl
            go_wp2_with fail
            go_roundg (gk - 1)
            case measure => omega
            case rel => exact ⟨j + 1, cur2, by omega, by go_num, hC3, how, hbr⟩
          · have hC3 : Hid (cur2.set q (x + 1) = addW 1 cur (t.out.take (j + 1))) := by
              rw [hst.out, ← hC2.out]
              unfold add1
              rw [hadd.out.1, if_neg hm1', hadd.out.2]; exact rfl
            go_wp2_with fail
            go_roundg (gk - 1)
            case measure => omega
            case rel => exact ⟨j + 1, cur2.set q (x + 1), by omega, by go_num, hC3, how.set q (x + 1), hbr.setCell (by simpa using hg0) _⟩
        · have hfin : Hid (cur2 = t.wideE m) := by rw [hC2.out, List.take_of_length_le (by omega), hall.out]; exact rfl
          go_wp2_with fail
          go_ret2
          refine ⟨hb1.trans (hbr.mono (by omega)), Or.inr ⟨hen.out, _, rfl, ?_⟩⟩
          rw [← hfin.out]
          exact how.lower (by omega)

theorem fires_no (w : World) (B : Nat) (hB : B ≤ w.heap.size) (t : Tr) (vi vo vm : Value) (m : List Int) (hi : Ints w B vi t.inn) (ho : Ints w B vo t.out) (hm : Ints w B vm m) (hpi : PlacesOk m.length t.inn) (hpo : PlacesOk m.length t.out) (hni : t.inn.Nodup)
    (U : Int) (hU : U + t.inn.length + t.out.length ≤ 4611686018427387904) (hw : Wide U m) (hne : 0 < m.length) (h : t.enB m = false) :
    Calls Tryd.prog 15 #[.agg #[.string t.label, vi, vo], vm] w fun e w' => e = .returned (.tuple #[.slice none 0 0, .bool false]) ∧ Below w.heap.size w w' :=
  (fires_any w B hB t vi vo vm m hi ho hm hpi hpo hni U hU hw hne).mono fun e w' hp => by
    obtain ⟨hb, ⟨-, rfl⟩ | ⟨h2, -⟩⟩ := hp
    · exact ⟨rfl, hb⟩
    · rw [h] at h2; cases h2
theorem fires_yes (w : World) (B : Nat) (hB : B ≤ w.heap.size) (t : Tr) (vi vo vm : Value) (m : List Int) (hi : Ints w B vi t.inn) (ho : Ints w B vo t.out) (hm : Ints w B vm m) (hpi : PlacesOk m.length t.inn) (hpo : PlacesOk m.length t.out) (hni : t.inn.Nodup)
    (U : Int) (hU : U + t.inn.length + t.out.length ≤ 4611686018427387904) (hw : Wide U m) (hne : 0 < m.length) (h : t.enB m = true) :
    Calls Tryd.prog 15 #[.agg #[.string t.label, vi, vo], vm] w fun e w' => ∃ g cap, e = .returned (.tuple #[.slice (some ⟨g, 0, none⟩) m.length cap, .bool true]) ∧ OwnI w' w.heap.size (.slice (some ⟨g, 0, none⟩) m.length cap) (t.wideE m) ∧ Below w.heap.size w w' :=
  (fires_any w B hB t vi vo vm m hi ho hm hpi hpo hni U hU hw hne).mono fun e w' hp => by
    obtain ⟨hb, ⟨h2, -⟩ | ⟨-, v, rfl, how⟩⟩ := hp
    · rw [h] at h2; cases h2
    · rcases how.val with ⟨-, h0⟩ | ⟨g, cap, rfl, _, _⟩
      · have := congrArg List.length h0; rw [len_wideE, List.length_nil] at this; omega
      · rw [len_wideE] at how ⊢
        exact ⟨g, cap, rfl, how, hb⟩

theorem fires_bool (w : World) (B : Nat) (hB : B ≤ w.heap.size) (t : Tr) (vi vo vm : Value) (m : List Int) (hi : Ints w B vi t.inn) (ho : Ints w B vo t.out) (hm : Ints w B vm m) (hpi : PlacesOk m.length t.inn) (hpo : PlacesOk m.length t.out) (hni : t.inn.Nodup)
    (U : Int) (hU : U + t.inn.length + t.out.length ≤ 4611686018427387904) (hw : Wide U m) (hne : 0 < m.length) {b : Bool} (h : t.enB m = b) :
    Calls Tryd.prog 15 #[.agg #[.string t.label, vi, vo], vm] w fun e w' => ∃ v, e = .returned (.tuple #[v, .bool b]) ∧ Below w.heap.size w w' :=
  (fires_any w B hB t vi vo vm m hi ho hm hpi hpo hni U hU hw hne).mono fun e w' hp => by
    obtain ⟨hb, ⟨h2, rfl⟩ | ⟨h2, v, rfl, how⟩⟩ := hp
    · exact ⟨_, by rw [← h, h2], hb⟩
    · exact ⟨v, by rw [← h, h2], hb⟩

end Go.Proofs.YtgahlonimaeicaaDoor
