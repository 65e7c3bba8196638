/- net.Row, net.Fire. -/
import Derived.Test.YtbolacnpljkpbaaDoorNetPlain2
import Derived.Test.YtbolacnpljkpbaaDoorNetFire
set_option maxRecDepth 100000
namespace Go.Proofs.YtbolacnpljkpbaaDoor
open Go.RowKit

set_option maxHeartbeats 400000 in
theorem row1 (w : World) (b : Nat) (x : Int) (a : Option Addr) (c : Nat) (n : Nt) (hb : w.cell? ⟨b, 1, none⟩ = some (.slice a n.trans.length c)) :
    Calls Tryd.prog 56 #[.int .i64 x, .pointer (some ⟨b, 0, none⟩)] w fun e w' => e = .returned (.bool (n.badT x)) ∧ w = w' := by
  have Hf : Hid (∀ t, t = n.badT x → t = n.badT x) := fun _ h => h
  by_cases h : x < 0
  · have h2 : decide (x < 0) = true := by simpa using h
    have Hf : Hid (true = n.badT x) := by unfold Nt.badT; rw [h2]; exact rfl
    go_enter Tryd.func56, Tryd.ntmps56
    go_wp2
    go_ret
    exact ⟨ret_bool Hf.out, rfl⟩
  · have h2 : decide (x < 0) = false := by simpa using h
    have Hf : Hid (decide ((n.trans.length : Int) ≤ x) = n.badT x) := by unfold Nt.badT; rw [h2]; exact rfl
    go_enter Tryd.func56, Tryd.ntmps56
    go_wp2
    go_ret
    exact ⟨ret_bool Hf.out, rfl⟩

theorem run_row1 (b : Nat) (x : Int) (W : World) : (callFunc 56 (#[Value.int .i64 x] ++ #[.pointer (some ⟨b, 0, none⟩)])).run Tryd.prog W = .ok (.enter 56 (#[Value.int .i64 x] ++ #[.pointer (some ⟨b, 0, none⟩)])) W := by kernel_rfl

theorem marking_is {t : Int} (w : World) (vp vt vm : Value) (n : Nt) (m : List Int) (B : Nat) (hB : B ≤ w.heap.size) (hn : NtR w B vp vt n) (hm : Ints w B vm m) (ht : n.markE m = t) :
    Calls Tryd.prog 33 #[.agg #[vp, vt, .int .i64 n.init, .int .i64 n.final], vm] w fun e w' => e = .returned (.int .i64 t) ∧ Below w.heap.size w w' := by
  rw [← ht]; exact marking_any w vp vt vm n m B hB hn hm

theorem markE_yes {n : Nt} {m : List Int} (h : n.markB m = true) : n.markE m = 0 := by simp [Nt.markE, h]
theorem markE_no {n : Nt} {m : List Int} (h : n.markB m = false) : n.markE m = 1 := by simp [Nt.markE, h]

/-- What net.Row hands back. -/
def RowPost (w : World) (r : List Int × Int × Int) (e : Ending) (w' : World) : Prop :=
  ∃ v, e = .returned (.tuple #[v, .int .i64 r.2.1, .int .i64 r.2.2]) ∧ OwnI w' w.heap.size v r.1 ∧ Below w.heap.size w w'

theorem rowE_1 {n : Nt} {m row : List Int} (h : n.markB m = false) : n.rowE m row = ([], 0, 1) := by simp [Nt.rowE, h]
theorem rowE_2 {n : Nt} {m row : List Int} (h : n.markB m = true) (h2 : row.any n.badT = true) : n.rowE m row = ([], 0, 1) := by unfold Nt.rowE; rw [h2, h]; rfl
theorem rowE_3 {n : Nt} {m row : List Int} (h : n.markB m = true) (h2 : row.any n.badT = false) : n.rowE m row = rowGo n m row 0 := by unfold Nt.rowE; rw [h2, h]; rfl

set_option maxHeartbeats 2000000 in
theorem row_any (w : World) (vp vt vm vr : Value) (n : Nt) (m row : List Int) (B : Nat) (hB : B ≤ w.heap.size) (hn : NtR w B vp vt n) (hm : Ints w B vm m) (hr : Ints w B vr row) :
    Calls Tryd.prog 35 #[.agg #[vp, vt, .int .i64 n.init, .int .i64 n.final], vm, vr] w (RowPost w (n.rowE m row)) := by
  have hbel1 := (Below.refl w.heap.size w).alloc (Nat.le_refl _) (.cells #[vp, vt, .int .i64 n.init, .int .i64 n.final] 25)
  have hn1 := hn.mono (hbel1.mono hB) (Nat.le_refl _)
  have hm1 := hm.mono (hbel1.mono hB) (Nat.le_refl _)
  have hr1 := hr.mono (hbel1.mono hB) (Nat.le_refl _)
  have hlm := hm.len
  have hlr := hr.len
  obtain ⟨ap, cp, rfl⟩ := hn.1.val
  obtain ⟨at_, ct, rfl⟩ := hn.2.val
  obtain ⟨am, cm, rfl⟩ := hm.val
  obtain ⟨ar, cr, rfl⟩ := hr.val
  have hlt := hn.2.len
  cases hmk : n.markB m with
  | false =>
    have Hf := Lib.hid (rowE_1 (row := row) hmk)
    have Hc := Lib.hid (marking_is _ _ _ _ n m B (by simp; omega) hn1 hm1 (markE_no hmk))
    clear hmk
    go_enter Tryd.func35, Tryd.ntmps35
    go_wp2_with (go_at_call 33; go_must (refine Hc.out.mono ?_; rintro e w2 ⟨rfl, hb⟩))
    go_ret3
    rw [Hf.out]
    exact ⟨_, rfl, OwnI.nil _ _, hbel1.trans (hb.mono (by simp))⟩
  | true =>
    have Hc := Lib.hid (marking_is _ _ _ _ n m B (by simp; omega) hn1 hm1 (markE_yes hmk))
    have hM := Nt.mark_of hmk
    have hok := hM.ok
    cases hbad : row.any n.badT with
    | true =>
      have Hf := Lib.hid (rowE_2 hmk hbad)
      have HB := Lib.hid hbad
      clear hmk hbad
      go_enter Tryd.func35, Tryd.ntmps35
      go_wp2_with (go_at_call 33; go_must (refine Hc.out.mono ?_; rintro e w2 ⟨rfl, hb⟩; obtain ⟨hcl, hfz⟩ := bcell hb))
      refine (containsFunc_any _ B _ _ (hr1.mono (hb.mono (by simp; omega)) (Nat.le_refl _)) _ _ n.badT true HB.out (fun x W => run_row1 _ x W) (fun x _ => row1 _ _ x at_ ct n (by rw [hcl _ _ (by simp)]; simp [go_sem]))).mono ?_
      rintro e w3 ⟨rfl, rfl⟩
      go_wp2_with fail
      go_ret3
      rw [Hf.out]
      exact ⟨_, rfl, OwnI.nil _ _, hbel1.trans (hb.mono (by simp))⟩
    | false =>
      have Hf := Lib.hid (rowE_3 hmk hbad)
      have HB := Lib.hid hbad
      have HM := Lib.hid hM
      clear hmk hbad hM
      go_enter Tryd.func35, Tryd.ntmps35
      go_wp2_with (go_at_call 33; go_must (refine Hc.out.mono ?_; rintro e w2 ⟨rfl, hb⟩; obtain ⟨hcl, hfz⟩ := bcell hb))
      refine (containsFunc_any _ B _ _ (hr1.mono (hb.mono (by simp; omega)) (Nat.le_refl _)) _ _ n.badT false HB.out (fun x W => run_row1 _ x W) (fun x _ => row1 _ _ x at_ ct n (by rw [hcl _ _ (by simp)]; simp [go_sem]))).mono ?_
      rintro e w3 ⟨rfl, rfl⟩
      have hsz2 := hb.size
      simp only [World.size_alloc] at hsz2
      go_wp2_with (go_at_call 37; go_must (refine (clone_any _ B _ m (hm1.mono (hb.mono (by simp; omega)) (Nat.le_refl _)) (by omega)).mono ?_; rintro e w3 ⟨v, rfl, how, hb3⟩))
      obtain ⟨g, cap, rfl, hg1, hg2⟩ : ∃ g cap, v = .slice (some ⟨g, 0, none⟩) m.length cap ∧ w2.heap.size ≤ g ∧ g < w3.heap.size := by
        rcases how.val with ⟨_, h0⟩ | h
        · have := HM.out.len; have := hok.two; rw [h0] at *; simp at *; omega
        · exact h
      have hbox : w3.heap[w.heap.size]? = some (.cells #[.slice ap n.places.length cp, .slice at_ n.trans.length ct, .int .i64 n.init, .int .i64 n.final] 25) := by
        rw [hb3.block _ (by omega), hb.block _ (by simp)]
        exact heap_alloc_new _ _
      have hbel3 : Below w.heap.size w w3 := (hbel1.trans (hb.mono (by simp))).trans (hb3.mono (by omega))
      have How := how.raise (Nat.le_refl g)
      clear how hcl hfz
      go_wp2_with fail
      have hG : Below w.heap.size w w := Below.refl _ _
      go_loopg [27] row.length (fun gh s27 wr => ∃ (k : Nat) (cur : List Int), k + gh = row.length ∧ s27 = .int .i64 k ∧ Hid (rowGo n cur (row.drop k) k = rowGo n m row 0) ∧ Hid (n.Mark cur) ∧
        OwnI wr g (.slice (some ⟨g, 0, none⟩) m.length cap) cur ∧ Below w.heap.size w wr ∧ wr.heap[w.heap.size]? = some (.cells #[.slice ap n.places.length cp, .slice at_ n.trans.length ct, .int .i64 n.init, .int .i64 n.final] 25))
      case atStart => exact ⟨0, m, by omega, rfl, rfl, HM, How, hbel3, hbox⟩
      case round =>
        clear How hbel3 hbox
        obtain ⟨k, cur, hkg, rfl, hR, hMc, how, hbel, hbox⟩ := hrel
        have Hmc := Lib.hid how.len
        have hgw := how.lt.2
        by_cases hk : k < row.length
        · obtain ⟨br, orr, rfl, hbr, hcr⟩ := hr.col k hk
          rw [← Below.cellB hbel (by omega)] at hcr
          have hbt : n.badT row[k] = false := by
            have := List.any_eq_false.1 HB.out row[k] (List.getElem_mem hk)
            simpa using this
          obtain ⟨q, hq, hq2, htr, hmem⟩ := Nt.tr_mem hbt
          have hd := Lib.hid (rowGo_drop (n := n) (m := cur) hk)
          rw [hq] at hcr htr hmem hd
          obtain ⟨bt, ot, vi, vo, rfl, hbt2, h0, h1, h2, hi, ho⟩ := hn.2.col q hq2
          rw [← Below.cellB hbel (by omega)] at h0 h1 h2
          rw [← htr] at h0 hi ho
          have hbx1 : wr.cell? ⟨w.heap.size, 1, none⟩ = some (.slice (some ⟨bt, ot, none⟩) n.trans.length ct) := by rw [cell_of_block hbox]; rfl
          have hin := hok.inn _ hmem
          have hout := hok.out _ hmem
          rw [← hMc.out.len] at hin hout
          have hfire := fire_any wr g cap (n.tr q) vi vo cur (by rw [← Hmc.out]; exact how) (hi.mono (hbel.mono hB) (by omega)) (ho.mono (hbel.mono hB) (by omega)) hin.1 hout.1 hMc.out.tok (by have := Hmc.out; omega)
          rw [← Hmc.out] at hfire
          have hnext := Lib.hid (fun h0 => hMc.out.fire hmem h0)
          obtain ⟨ec, hec⟩ : ∃ ec, ((n.tr q).fireE cur).1 = ec := ⟨_, rfl⟩
          obtain ⟨tq, htq⟩ : ∃ tq, n.tr q = tq := ⟨_, rfl⟩
          rw [htq] at h0 hi ho hec hfire hd hnext
          rw [hec] at hfire
          have Hfire := Lib.hid hfire
          have Hec := Lib.hid hec
          clear hfire hec htq htr hmem hin hout hq hbt
          obtain ⟨ai, ci, rfl⟩ := hi.val
          obtain ⟨ao, co, rfl⟩ := ho.val
          by_cases he : ec = 0
          · have hz : (ec != 0) = false := by simp [he]
            have HR : Hid (rowGo n (tq.fireE cur).2 (row.drop (k + 1)) ((k + 1 : Nat) : Int) = rowGo n m row 0) := by
              rw [← hR.out, hd.out, if_pos (by rw [Hec.out, he])]; exact rfl
            have HE := Lib.hid he
            clear he
            go_wp2_with (go_at_call 57; go_must (refine Hfire.out.mono ?_; rintro e w4 ⟨rfl, hb4, hfd⟩))
            go_roundg (gk - 1)
            case measure => omega
            case rel =>
              refine ⟨k + 1, (tq.fireE cur).2, by omega, by go_num, HR, hnext.out (by rw [Hec.out, HE.out]), hfd (by rw [Hec.out, HE.out]), hbel.trans (hb4.mono (by omega)), ?_⟩
              rw [hb4.block _ (by omega)]; exact hbox
          · have hz : (ec != 0) = true := by simp [he]
            have HR : Hid (rowGo n m row 0 = ([], (k : Int), ec)) := by
              rw [← hR.out, hd.out, if_neg (by rw [Hec.out]; exact he), Hec.out]; exact rfl
            clear he
            go_wp2_with (go_at_call 57; go_must (refine Hfire.out.mono ?_; rintro e w4 ⟨rfl, hb4, hfd⟩))
            go_ret3
            rw [Hf.out, HR.out]
            exact ⟨_, rfl, OwnI.nil _ _, hbel.trans (hb4.mono (by omega))⟩
        · have hk' : ¬ ((k : Int) < (row.length : Int)) := by omega
          have HR : Hid (rowGo n m row 0 = (cur, (row.length : Int), 0)) := by
            rw [← hR.out, List.drop_eq_nil_of_le (by omega), show (row.length : Int) = (k : Int) by omega]; exact rfl
          go_wp2_with fail
          go_ret3
          rw [Hf.out, HR.out]
          exact ⟨_, rfl, how.raise (base' := w.heap.size) (by omega), hbel⟩

end Go.Proofs.YtbolacnpljkpbaaDoor
