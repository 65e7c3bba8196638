/- net.enabled, net.fire. -/
import Derived.Test.YtbolacnpljkpbaaDoorNetPlain
import Derived.Test.YtbolacnpljkpbaaDoorOwn
set_option maxRecDepth 100000
namespace Go.Proofs.YtbolacnpljkpbaaDoor
open Go.RowKit

set_option maxHeartbeats 400000 in
theorem enabled1 (w : World) (B : Nat) (b : Nat) (p : Int) (v : Value) (m : List Int) (hm : Ints w B v m) (hb : w.cell? ⟨b, 0, none⟩ = some v) (h0 : 0 ≤ p) (h1 : p < (m.length : Int)) :
    Calls Tryd.prog 55 #[.int .i64 p, .pointer (some ⟨b, 0, none⟩)] w fun e w' => e = .returned (.bool (zeroAt m p)) ∧ w = w' := by
  obtain ⟨q, rfl⟩ := Int.eq_ofNat_of_zero_le h0
  have hq : q < m.length := by omega
  have hz := Lib.hid (getI_eq hq)
  obtain ⟨a, c, rfl⟩ := hm.val
  obtain ⟨bm, om, rfl, _, hc⟩ := hm.col q hq
  have hl := hm.len
  go_enter Tryd.func55, Tryd.ntmps55
  go_wp2_with fail
  go_ret
  exact ⟨ret_bool (by unfold zeroAt; rw [hz.out]), rfl⟩

theorem run_enabled1 (b : Nat) (x : Int) (W : World) : (callFunc 55 (#[Value.int .i64 x] ++ #[.pointer (some ⟨b, 0, none⟩)])).run Tryd.prog W = .ok (.enter 55 (#[Value.int .i64 x] ++ #[.pointer (some ⟨b, 0, none⟩)])) W := by kernel_rfl

set_option maxHeartbeats 400000 in
theorem enabled_any (w : World) (B : Nat) (hB : B ≤ w.heap.size) (t : Tr) (vi vo vm : Value) (m : List Int) (hi : Ints w B vi t.inn) (ho : Ints w B vo t.out) (hm : Ints w B vm m) (hp : PlacesOk m.length t.inn) :
    Calls Tryd.prog 34 #[.agg #[.string t.label, vi, vo], vm] w fun e w' => e = .returned (.bool (t.enB m)) ∧ Below w.heap.size w w' := by
  have hb2 := ((Below.refl w.heap.size w).alloc (Nat.le_refl _) (.cells #[.string t.label, vi, vo] 57)).alloc (by simp) (.cells #[vm] 26)
  have hi2 := hi.mono (hb2.mono hB) (Nat.le_refl _)
  have hm2 := hm.mono (hb2.mono hB) (Nat.le_refl _)
  obtain ⟨ai, ci, rfl⟩ := hi.val
  obtain ⟨ao, co, rfl⟩ := ho.val
  obtain ⟨am, cm, rfl⟩ := hm.val
  obtain ⟨s, hs⟩ : ∃ s, t.inn.any (zeroAt m) = s := ⟨_, rfl⟩
  have Hs := Lib.hid hs
  have Hf : Hid ((!s) = t.enB m) := by unfold Tr.enB; rw [hs]; exact rfl
  clear hs
  have hcall := Lib.hid (containsFunc_any _ B _ _ hi2 55 #[.pointer (some ⟨w.heap.size + 1, 0, none⟩)] (zeroAt m) s Hs.out (fun x W => run_enabled1 _ x W)
    (fun x hx => enabled1 _ B (w.heap.size + 1) x _ m hm2 (by simp [go_sem]) (hp x hx).1 (hp x hx).2))
  go_enter Tryd.func34, Tryd.ntmps34
  go_wp2_with (go_at_call 53; go_must (refine hcall.out.mono ?_; rintro e w2 ⟨rfl, rfl⟩))
  go_ret
  exact ⟨ret_bool Hf.out, hb2⟩

theorem enabled_is {s : Bool} (w : World) (B : Nat) (hB : B ≤ w.heap.size) (t : Tr) (vi vo vm : Value) (m : List Int) (hi : Ints w B vi t.inn) (ho : Ints w B vo t.out) (hm : Ints w B vm m) (hp : PlacesOk m.length t.inn) (hs : t.enB m = s) :
    Calls Tryd.prog 34 #[.agg #[.string t.label, vi, vo], vm] w fun e w' => e = .returned (.bool s) ∧ Below w.heap.size w w' := by
  rw [← hs]; exact enabled_any w B hB t vi vo vm m hi ho hm hp

/-- What fire leaves: the marking behind, in the very memory that was handed in, where it has fired. -/
def Fired (t : Tr) (m : List Int) (g : Nat) (v : Value) (w' : World) : Prop := (t.fireE m).1 = 0 → OwnI w' g v (t.fireE m).2

theorem below_setCell {B : Nat} {a w : World} (h : Below B a w) {g i : Nat} (hg : B ≤ g) (u : Value) : Below B a (w.setCell ⟨g, i, none⟩ u) := h.setCell (p := ⟨g, i, none⟩) hg u
theorem heap_setCell_ne (w : World) {g i k : Nat} (v : Value) (h : k ≠ g) : (w.setCell ⟨g, i, none⟩ v).heap[k]? = w.heap[k]? := heap_setCell_other w ⟨g, i, none⟩ k v h

set_option maxHeartbeats 1000000 in
theorem fire_any (w : World) (g cap : Nat) (t : Tr) (vi vo : Value) (m : List Int) (hown : OwnI w g (.slice (some ⟨g, 0, none⟩) m.length cap) m) (hi : Ints w g vi t.inn) (ho : Ints w g vo t.out)
    (hpi : PlacesOk m.length t.inn) (hpo : PlacesOk m.length t.out) (hm : Tokens m) (hl : m.length ≤ 17592186044416) :
    Calls Tryd.prog 57 #[.agg #[.string t.label, vi, vo], .slice (some ⟨g, 0, none⟩) m.length cap] w fun e w' => e = .returned (.int .i64 (t.fireE m).1) ∧ Below g w w' ∧ Fired t m g (.slice (some ⟨g, 0, none⟩) m.length cap) w' := by
  have hg : g < w.heap.size := by
    rcases hown.val with ⟨h0, _⟩ | ⟨g', cap', hv, _, h⟩
    · cases h0
    · cases hv; exact h
  have hmI := hown.col hl (Nat.le_refl _)
  have hwi := hm
  have hb1 := (Below.refl w.heap.size w).alloc (Nat.le_refl _) (.cells #[.string t.label, vi, vo] 57)
  have hown1 := hown.kept hb1 (Nat.le_refl _)
  have hi1 := hi.mono (hb1.mono (by omega)) (Nat.le_refl _)
  have ho1 := ho.mono (hb1.mono (by omega)) (Nat.le_refl _)
  have hm1 := hmI.mono hb1 (Nat.le_refl _)
  have hi2 := hi1.mono (Below.refl _ _) (show g ≤ w.heap.size by omega)
  have ho2 := ho1.mono (Below.refl _ _) (show g ≤ w.heap.size by omega)
  have hli := hi.len
  have hlo := ho.len
  obtain ⟨ai, ci, rfl⟩ := hi.val
  obtain ⟨ao, co, rfl⟩ := ho.val
  cases hen : t.enB m with
  | false =>
    have Hf := Lib.hid (fireE_250 hen)
    have hc := Lib.hid (enabled_is _ w.heap.size (by simp) t _ _ _ m hi2 ho2 hm1 hpi hen)
    clear hen
    go_enter Tryd.func57, Tryd.ntmps57
    go_wp2_with (go_at_call 34; go_must (refine hc.out.mono ?_; rintro e w2 ⟨rfl, hb⟩))
    go_ret
    refine ⟨ret_int (by rw [Hf.out]), (hb1.mono (by omega)).trans (hb.mono (by simp; omega)), fun h => ?_⟩
    rw [Hf.out] at h
    cases h
  | true =>
    have hc := Lib.hid (enabled_is _ w.heap.size (by simp) t _ _ _ m hi2 ho2 hm1 hpi hen)
    have He := Lib.hid hen
    clear hen
    go_enter Tryd.func57, Tryd.ntmps57
    go_wp2_with (go_at_call 34; go_must (refine hc.out.mono ?_; rintro e w2 ⟨rfl, hb⟩; obtain ⟨hcl, hfz⟩ := bcell hb))
    go_loopg [6, 16] t.inn.length (fun g1 s6 s16 wr => ∃ (k : Nat) (cur : List Int), k + g1 = t.inn.length ∧ s16 = .int .i64 k ∧ Hid (decs cur (t.inn.drop k) = decs m t.inn) ∧ Hid (cur.length = m.length) ∧ Hid (Within (-(k : Int)) cur) ∧
      OwnI wr g (.slice (some ⟨g, 0, none⟩) m.length cap) cur ∧ Below g w wr ∧ wr.heap[w.heap.size]? = some (.cells #[.string t.label, .slice ai t.inn.length ci, .slice ao t.out.length co] 57))
    case atStart =>
      refine ⟨0, m, by omega, rfl, rfl, rfl, fun x hx => by have := hwi x hx; omega, hown1.kept hb (by simp), (hb1.mono (by omega)).trans (hb.mono (by simp; omega)), ?_⟩
      rw [hb.block _ (by simp)]
      exact heap_alloc_new _ _
    case round =>
      obtain ⟨k, cur, hkg, rfl, hD, hL, hW, how, hbel, hbox⟩ := hrel
      have hsz := lt_of_block hbox
      clear hcl hfz
      by_cases hk : k < t.inn.length
      · obtain ⟨bi, oi, rfl, hbi, hci⟩ := hi.col k hk
        rw [← Below.cellB hbel hbi] at hci
        have hp := hpi _ (List.getElem_mem hk)
        obtain ⟨q, hq⟩ : ∃ q : Nat, t.inn[k] = (q : Int) := ⟨_, (Int.toNat_of_nonneg hp.1).symm⟩
        have hd := Lib.hid (decs_drop (m := cur) hk)
        rw [hq] at hci hp hd
        have hqc : q < cur.length := by have := hL.out; omega
        have hset := Lib.hid (addI_eq (-1) hqc)
        obtain ⟨hc0, hf0⟩ := how.at hqc
        obtain ⟨hlo1, hhi1⟩ := hW.out.at hqc
        have HW := Lib.hid (hW.out.dec hqc)
        have How := how.set q (cur[q] - 1)
        have hqm : q < m.length := by omega
        clear hq hp
        go_wp2_with fail
        go_roundg (gk - 1)
        case measure => omega
        case rel =>
          refine ⟨k + 1, cur.set q (cur[q] - 1), by omega, by go_num, ?_, ?_, ?_, How, below_setCell hbel (Nat.le_refl _) _, ?_⟩
          · rw [Int.sub_eq_add_neg]; exact (by rw [← hD.out, hd.out, hset.out]; exact rfl)
          · exact (by rw [List.length_set]; exact hL.out)
          · rw [Int.sub_eq_add_neg]; exact (by rw [show -(((k + 1 : Nat)) : Int) = -(k : Int) - 1 by omega]; exact HW.out)
          · rw [heap_setCell_ne _ _ (by omega)]; exact hbox
      · have hk' : ¬ ((k : Int) < (t.inn.length : Int)) := by omega
        have hb2c : wr.cell? ⟨w.heap.size, 2, none⟩ = some (.slice ao t.out.length co) := by rw [cell_of_block hbox]; rfl
        have HD : Hid (cur = decs m t.inn) := by rw [← hD.out, List.drop_eq_nil_of_le (by omega)]; exact rfl
        go_wp2_with fail
        go_loopg [8, 30] t.out.length (fun g2 s8 s30 wr => ∃ (k : Nat) (cur : List Int), k + g2 = t.out.length ∧ s30 = .int .i64 k ∧ Hid (incs cur (t.out.drop k) = incs (decs m t.inn) t.out) ∧ Hid (cur.length = m.length) ∧ Hid (Within (-(t.inn.length : Int)) cur) ∧
          OwnI wr g (.slice (some ⟨g, 0, none⟩) m.length cap) cur ∧ Below g w wr)
        case atStart => exact ⟨0, cur, by omega, rfl, by rw [HD.out]; rfl, hL, by rw [show (t.inn.length : Int) = k by omega]; exact hW, how, hbel⟩
        case round =>
          clear hbel how
          obtain ⟨j, cur, hjg, rfl, hI, hL, hW, how, hbel⟩ := hrel
          by_cases hj : j < t.out.length
          · obtain ⟨bi, oi, rfl, hbi, hci⟩ := ho.col j hj
            rw [← Below.cellB hbel hbi] at hci
            have hp := hpo _ (List.getElem_mem hj)
            obtain ⟨q, hq⟩ : ∃ q : Nat, t.out[j] = (q : Int) := ⟨_, (Int.toNat_of_nonneg hp.1).symm⟩
            have hd := Lib.hid (incs_drop (m := cur) hj)
            rw [hq] at hci hp hd
            have hqc : q < cur.length := by have := hL.out; omega
            have hset := Lib.hid (addI_eq 1 hqc)
            have hget := Lib.hid (getI_eq hqc)
            obtain ⟨hc0, hf0⟩ := how.at hqc
            obtain ⟨hlo1, hhi1⟩ := hW.out.at hqc
            have How := how.set q (cur[q] + 1)
            have hc1 : (wr.setCell ⟨g, q, none⟩ (.int .i64 (cur[q] + 1))).cell? ⟨g, q, none⟩ = some (.int .i64 (cur[q] + 1)) := by
              have := (How.at (i := q) (by simpa using hqc)).1
              simpa using this
            have hqm : q < m.length := by omega
            clear hq hp
            by_cases hmax : 2147483647 < cur[q] + 1
            · have Hf : Hid ((t.fireE m).1 = 91) := by rw [fireE_91 He.out (by rw [← hI.out, hd.out, hget.out, if_pos hmax])]; exact rfl
              go_wp2_with fail
              go_ret
              exact ⟨ret_int Hf.out.symm, below_setCell hbel (Nat.le_refl _) _, fun h => absurd h (by rw [Hf.out]; decide)⟩
            · have HI : Hid (incs (cur.set q (cur[q] + 1)) (t.out.drop (j + 1)) = incs (decs m t.inn) t.out) := by rw [← hI.out, hd.out, hget.out, if_neg hmax, hset.out]; exact rfl
              have HW := Lib.hid (hW.out.inc hqc hmax)
              go_wp2_with fail
              go_roundg (gk - 1)
              case measure => omega
              case rel => exact ⟨j + 1, cur.set q (cur[q] + 1), by omega, by go_num, HI, Lib.hid (by rw [List.length_set]; exact hL.out), HW, How, below_setCell hbel (Nat.le_refl _) _⟩
          · have hj' : ¬ ((j : Int) < (t.out.length : Int)) := by omega
            have Hf : Hid (t.fireE m = (0, cur)) := fireE_0 He.out (by rw [← hI.out, List.drop_eq_nil_of_le (by omega)]; rfl)
            go_wp2_with fail
            go_ret
            exact ⟨ret_int (by rw [Hf.out]), hbel, fun _ => by rw [Hf.out]; exact how⟩

end Go.Proofs.YtbolacnpljkpbaaDoor
