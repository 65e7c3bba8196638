/- net.Fire, net.Enabled, net.First, net.Last. -/
import Derived.Test.YtbolacnpljkpbaaDoorNetRow
import Derived.Deep.OwnRows
import Derived.Laws.OwnMore
set_option maxRecDepth 100000
namespace Go.Proofs.YtbolacnpljkpbaaDoor
open Go.RowKit

/-- A slice over a block whose cells are all of its elements. -/
theorem ints_lit {w : World} {B g cap : Nat} {l : List Int} {t : TypeId} {fr : Nat × Nat} (h : w.heap[g]? = some (.cells (l.map (Value.int .i64)).toArray t fr)) (hl : l.length ≤ 17592186044416) (hB : g < B) (hcap : l.length ≤ cap := by simp) : Ints w B (.slice (some ⟨g, 0, none⟩) l.length cap) l := by
  refine ⟨_, cap, rfl, hl, hcap, fun i hi => ⟨g, 0, rfl, hB, ?_⟩⟩
  rw [cell_of_block h]
  simp [hi]

/-- What net.Fire hands back. -/
def FirePost (w : World) (r : List Int × Int × Int) (e : Ending) (w' : World) : Prop :=
  ∃ v, e = .returned (.tuple #[v, .int .i64 r.2.2]) ∧ OwnI w' w.heap.size v r.1 ∧ Below w.heap.size w w'

set_option maxHeartbeats 400000 in
theorem fireNet_any (w : World) (vp vt vm : Value) (n : Nt) (m : List Int) (t : Int) (B : Nat) (hB : B ≤ w.heap.size) (hn : NtR w B vp vt n) (hm : Ints w B vm m) :
    Calls Tryd.prog 15 #[.agg #[vp, vt, .int .i64 n.init, .int .i64 n.final], vm, .int .i64 t] w (FirePost w (n.rowE m [t])) := by
  have hbel := ((Below.refl w.heap.size w).alloc (Nat.le_refl _) (.cells #[vp, vt, .int .i64 n.init, .int .i64 n.final] 25)).alloc (by simp) (.cells #[.int .i64 t] 3)
  have hn1 := hn.mono (hbel.mono hB) (show B ≤ w.heap.size + 2 by omega)
  have hm1 := hm.mono (hbel.mono hB) (show B ≤ w.heap.size + 2 by omega)
  have hr1 : Ints ((w.alloc (.cells #[vp, vt, .int .i64 n.init, .int .i64 n.final] 25)).alloc (.cells #[.int .i64 t] 3)) (w.heap.size + 2) (.slice (some ⟨w.heap.size + 1, 0, none⟩) 1 1) [t] :=
    ints_lit (l := [t]) (heap_alloc2_new _ _ _) (by simp) (by omega)
  obtain ⟨ap, cp, rfl⟩ := hn.1.val
  obtain ⟨at_, ct, rfl⟩ := hn.2.val
  obtain ⟨am, cm, rfl⟩ := hm.val
  obtain ⟨r, hr⟩ : ∃ r, n.rowE m [t] = r := ⟨_, rfl⟩
  have hcall := row_any _ _ _ _ _ n m [t] (w.heap.size + 2) (by simp) hn1 hm1 hr1
  rw [hr] at hcall
  rw [hr]
  have Hc := Lib.hid hcall
  clear hcall hr
  go_enter Tryd.func15, Tryd.ntmps15
  go_wp2_with (go_at_call 35; go_must (refine Hc.out.mono ?_; rintro e w2 ⟨v, rfl, how, hb⟩))
  go_ret2
  exact ⟨v, rfl, how.lower (by simp; omega), hbel.trans (hb.mono (by simp; omega))⟩

/-- The marking of one token. -/
def oneL (many : Nat) (at_ : Int) : List Int := (List.replicate many 0).set at_.toNat 1
def Nt.oneE (n : Nt) (at_ : Int) : List Int := if n.okB then oneL n.places.length at_ else []

/-- A list handed back with an error. -/
def ListPost (w : World) (l : List Int) (c : Int) (e : Ending) (w' : World) : Prop :=
  ∃ v, e = .returned (.tuple #[v, .int .i64 c]) ∧ OwnI w' w.heap.size v l ∧ Below w.heap.size w w'

theorem made_set (k q : Nat) : ((madeCells #[Value.int .i64 0] k).setIfInBounds q (.int .i64 1)).toList = (((List.replicate k (0 : Int)).set q 1).map (Value.int .i64)) := by
  rw [Array.toList_setIfInBounds, toList_madeCells_one, List.map_set, List.map_replicate]

set_option maxHeartbeats 400000 in
theorem one_any (w : World) (vp vt : Value) (n : Nt) (a : Int) (B : Nat) (hB : B ≤ w.heap.size) (hn : NtR w B vp vt n) (ha : n.okB = true → 0 ≤ a ∧ a < (n.places.length : Int)) :
    Calls Tryd.prog 58 #[.agg #[vp, vt, .int .i64 n.init, .int .i64 n.final], .int .i64 a] w (ListPost w (n.oneE a) n.checkE) := by
  have hbel1 := (Below.refl w.heap.size w).alloc (Nat.le_refl _) (.cells #[vp, vt, .int .i64 n.init, .int .i64 n.final] 25)
  have hn1 := hn.mono (hbel1.mono hB) (Nat.le_refl _)
  have hlp := hn.1.len
  obtain ⟨ap, cp, rfl⟩ := hn.1.val
  obtain ⟨at_, ct, rfl⟩ := hn.2.val
  cases hok : n.okB with
  | false =>
    have H1 : Hid (n.oneE a = [] ∧ n.checkE = 1) := ⟨by simp [Nt.oneE, hok], checkE_no hok⟩
    have Hc := Lib.hid (check_is _ _ _ n B (by simp; omega) hn1 (checkE_no hok))
    clear hok ha
    go_enter Tryd.func58, Tryd.ntmps58
    go_wp2_with (go_at_call 52; go_must (refine Hc.out.mono ?_; rintro e w2 ⟨rfl, hb⟩))
    go_ret2
    rw [H1.out.1, H1.out.2]
    exact ⟨_, rfl, OwnI.nil _ _, hbel1.trans (hb.mono (by simp))⟩
  | true =>
    obtain ⟨h0, h1⟩ := ha hok
    obtain ⟨q, rfl⟩ := Int.eq_ofNat_of_zero_le h0
    have hq : q < n.places.length := by omega
    have H1 : Hid (n.oneE q = (List.replicate n.places.length 0).set q 1 ∧ n.checkE = 0) := ⟨by simp [Nt.oneE, hok, oneL], checkE_yes hok⟩
    have Hc := Lib.hid (check_is _ _ _ n B (by simp; omega) hn1 (checkE_yes hok))
    have hle := Lib.hid (Nt.ok_of hok).many
    clear hok ha
    have hmc : (madeCells #[Value.int .i64 0] n.places.length)[q]? = some (.int .i64 0) := by simp [madeCells, hq, Nat.mod_one]
    have hmk := run_make_row' (P := Tryd.prog) 26 3 (.int .i64 0) 8 Tryd.underlying26 info_int rfl .i64 .i64 n.places.length (by omega) (by omega)
    go_enter Tryd.func58, Tryd.ntmps58
    go_wp2_with (go_at_call 52; go_must (refine Hc.out.mono ?_; rintro e w2 ⟨rfl, hb⟩; obtain ⟨hcl, hfz⟩ := bcell hb))
    go_ret2
    rw [H1.out.1, H1.out.2]
    refine ⟨_, rfl, ?_, (hbel1.trans (hb.mono (by simp))).alloc (by have := hb.size; simp at this; omega) _⟩
    have := World.ownsRow_lit (base := w.heap.size) (e := 3) (size := 1) w2 ((madeCells #[Value.int .i64 0] n.places.length).setIfInBounds q (.int .i64 1)) n.places.length (by have := hb.size; simp at this; omega) (by unfold maxLen; omega) (by simp [size_madeCells])
    rw [made_set] at this
    unfold OwnI
    simpa using this

theorem first_any (w : World) (vp vt : Value) (n : Nt) (B : Nat) (hB : B ≤ w.heap.size) (hn : NtR w B vp vt n) :
    Calls Tryd.prog 39 #[.agg #[vp, vt, .int .i64 n.init, .int .i64 n.final]] w (ListPost w (n.oneE n.init) n.checkE) := by
  have hbel1 := (Below.refl w.heap.size w).alloc (Nat.le_refl _) (.cells #[vp, vt, .int .i64 n.init, .int .i64 n.final] 25)
  have hn1 := hn.mono (hbel1.mono hB) (Nat.le_refl _)
  obtain ⟨ap, cp, rfl⟩ := hn.1.val
  obtain ⟨at_, ct, rfl⟩ := hn.2.val
  have Hc := Lib.hid (one_any _ _ _ n n.init B (by simp; omega) hn1 (fun h => (Nt.ok_of h).init))
  obtain ⟨l, hl⟩ : ∃ l, n.oneE n.init = l := ⟨_, rfl⟩
  obtain ⟨c, hc⟩ : ∃ c, n.checkE = c := ⟨_, rfl⟩
  rw [hl, hc] at Hc
  rw [hl, hc]
  clear hl hc
  go_enter Tryd.func39, Tryd.ntmps39
  go_wp2_with (go_at_call 58; go_must (refine Hc.out.mono ?_; rintro e w2 ⟨v, rfl, how, hb⟩))
  go_ret2
  exact ⟨v, rfl, how.lower (by simp), hbel1.trans (hb.mono (by simp))⟩

theorem enGo_drop {m : List Int} {ts : List Tr} {k : Nat} (h : k < ts.length) : enGo m (ts.drop k) k = if ts[k].enB m then (k : Int) :: enGo m (ts.drop (k + 1)) (k + 1) else enGo m (ts.drop (k + 1)) (k + 1) := by
  rw [List.drop_eq_getElem_cons h]; rfl

/-- What net.Enabled answers. -/
def Nt.enL (n : Nt) (m : List Int) : List Int := if n.markB m then n.enE m else []

set_option maxHeartbeats 1000000 in
theorem enabledNet_any (w : World) (vp vt vm : Value) (n : Nt) (m : List Int) (B : Nat) (hB : B ≤ w.heap.size) (hn : NtR w B vp vt n) (hm : Ints w B vm m) :
    Calls Tryd.prog 14 #[.agg #[vp, vt, .int .i64 n.init, .int .i64 n.final], vm] w (ListPost w (n.enL m) (n.markE m)) := by
  obtain ⟨i0, hti, hz0, hz1, hz2⟩ := info_parts info_int
  have hbel1 := (Below.refl w.heap.size w).alloc (Nat.le_refl _) (.cells #[vp, vt, .int .i64 n.init, .int .i64 n.final] 25)
  have hn1 := hn.mono (hbel1.mono hB) (Nat.le_refl _)
  have hm1 := hm.mono (hbel1.mono hB) (Nat.le_refl _)
  have hlt := hn.2.len
  obtain ⟨ap, cp, rfl⟩ := hn.1.val
  obtain ⟨at_, ct, rfl⟩ := hn.2.val
  obtain ⟨am, cm, rfl⟩ := hm.val
  cases hmk : n.markB m with
  | false =>
    have Hf : Hid (n.enL m = [] ∧ n.markE m = 1) := ⟨by simp [Nt.enL, hmk], markE_no hmk⟩
    have Hc := Lib.hid (marking_is _ _ _ _ n m B (by simp; omega) hn1 hm1 (markE_no hmk))
    clear hmk
    go_enter Tryd.func14, Tryd.ntmps14
    go_wp2_with (go_at_call 33; go_must (refine Hc.out.mono ?_; rintro e w2 ⟨rfl, hb⟩))
    go_ret2
    rw [Hf.out.1, Hf.out.2]
    exact ⟨_, rfl, OwnI.nil _ _, hbel1.trans (hb.mono (by simp))⟩
  | true =>
    have Hf : Hid (n.enL m = n.enE m ∧ n.markE m = 0) := ⟨by simp [Nt.enL, hmk], markE_yes hmk⟩
    have Hc := Lib.hid (marking_is _ _ _ _ n m B (by simp; omega) hn1 hm1 (markE_yes hmk))
    have HM := Lib.hid (Nt.mark_of hmk)
    clear hmk
    go_enter Tryd.func14, Tryd.ntmps14
    go_wp2_with (go_at_call 33; go_must (refine Hc.out.mono ?_; rintro e w2 ⟨rfl, hb⟩; obtain ⟨hcl, hfz⟩ := bcell hb))
    have hbox : w2.heap[w.heap.size]? = some (.cells #[.slice ap n.places.length cp, .slice at_ n.trans.length ct, .int .i64 n.init, .int .i64 n.final] 25) := by
      rw [hb.block _ (by simp)]
      exact heap_alloc_new _ _
    have hbel2 : Below w.heap.size w w2 := hbel1.trans (hb.mono (by simp))
    go_loopg [7, 19] n.trans.length (fun gh s7 s19 wr => ∃ (k : Nat) (acc : List Int), k + gh = n.trans.length ∧ s19 = .int .i64 k ∧ Hid (acc ++ enGo m (n.trans.drop k) k = n.enE m) ∧ acc.length ≤ k ∧ OwnI wr w.heap.size s7 acc ∧ Below w.heap.size w wr)
    case atStart => exact ⟨0, [], by omega, rfl, rfl, by simp, OwnI.nil _ _, hbel2⟩
    case round =>
      clear hbel2 hbox hcl hfz
      obtain ⟨k, acc, hkg, rfl, hA, hal, how, hbel⟩ := hrel
      obtain ⟨aa, ca, rfl⟩ := how.shape
      by_cases hk : k < n.trans.length
      · obtain ⟨bt, ot, vi, vo, rfl, hbt2, h0, h1, h2, hi, ho⟩ := hn.2.col k hk
        rw [← Below.cellB hbel (by omega)] at h0 h1 h2
        have hmem := List.getElem_mem hk
        have hin := (HM.out.ok.inn _ hmem).1
        rw [← HM.out.len] at hin
        have hd := Lib.hid (enGo_drop (m := m) hk)
        obtain ⟨tk, htk⟩ : ∃ tk, n.trans[k] = tk := ⟨_, rfl⟩
        rw [htk] at h0 hin hd hi ho
        clear htk hmem
        have hwr := hbel.size
        have hbox2 := (Below.refl wr.heap.size wr).alloc (Nat.le_refl _) (.cells #[.string tk.label, vi, vo] 57)
        have hi2 := (hi.mono (hbel.mono hB) (Nat.le_refl _)).mono (hbox2.mono (by omega)) (Nat.le_refl _)
        have ho2 := (ho.mono (hbel.mono hB) (Nat.le_refl _)).mono (hbox2.mono (by omega)) (Nat.le_refl _)
        have hm2 := (hm.mono (hbel.mono hB) (Nat.le_refl _)).mono (hbox2.mono (by omega)) (Nat.le_refl _)
        obtain ⟨ai, ci, rfl⟩ := hi.val
        obtain ⟨ao, co, rfl⟩ := ho.val
        have hbelb := hbel.trans (hbox2.mono hwr)
        have how2 := how.kept hbox2 (Nat.le_refl _)
        cases hen : tk.enB m with
        | false =>
          have Hcall := Lib.hid (enabled_is _ B (by simp; omega) tk _ _ _ m hi2 ho2 hm2 hin hen)
          have HA : Hid (acc ++ enGo m (n.trans.drop (k + 1)) (k + 1) = n.enE m) := by rw [← hA.out, hd.out, hen]; exact rfl
          clear hen
          go_wp2_with (go_at_call 34; go_must (refine Hcall.out.mono ?_; rintro e w3 ⟨rfl, hb3⟩))
          go_roundg (gk - 1)
          case measure => omega
          case rel => exact ⟨k + 1, acc, by omega, by go_num, HA, by omega, how2.kept hb3 (Nat.le_refl _), hbelb.trans (hb3.mono (by simp; omega))⟩
        | true =>
          have Hcall := Lib.hid (enabled_is _ B (by simp; omega) tk _ _ _ m hi2 ho2 hm2 hin hen)
          have HA : Hid ((acc ++ [(k : Int)]) ++ enGo m (n.trans.drop (k + 1)) (k + 1) = n.enE m) := by rw [← hA.out, hd.out, hen, List.append_assoc]; exact rfl
          clear hen
          go_wp2_with (first | (go_at_call 34; go_must (refine Hcall.out.mono ?_; rintro e w3 ⟨rfl, hb3⟩)) | (at_builtin; go_must (refine wpList_append_own _ rfl _ _ 26 rfl w.heap.size 3 i0 (.int .i64 0) 1 8 Tryd.underlying26 hti hz0 hz1 hz2 rfl (by decide) _ acc.length (acc.map (Value.int .i64)) rfl ((how2.kept hb3 (Nat.le_refl _)).kept ((Below.refl _ _).alloc (Nat.le_refl _) _) (Nat.le_refl _)) ⟨w3.heap.size, 0, none⟩ 1 1 [.int .i64 k] rfl rfl (cell_one_new _ _ _) (ints_oneCell' [(k : Int)]) (by unfold maxLen; omega) (by omega) (by have := hb3.size; simp at this ⊢; omega) ?_; intro v' w4 hown hg4 _)))
          go_roundg (gk - 1)
          case measure => omega
          case rel =>
            refine ⟨k + 1, acc ++ [(k : Int)], by omega, by go_num, HA, by simp; omega, by unfold OwnI; simpa using hown, ?_⟩
            exact ((hbelb.trans (hb3.mono (by simp; omega))).alloc (by have := hb3.size; simp at this; omega) _).grown hg4 (by have := hb3.size; simp at this ⊢; omega) (fun j hj => (World.ownsRow.lt how2 j hj).1)
      · have hk' : ¬ ((k : Int) < (n.trans.length : Int)) := by omega
        have HA : Hid (acc = n.enE m) := by rw [← hA.out, List.drop_eq_nil_of_le (by omega)]; simp [enGo, Hid]
        go_wp2_with fail
        go_ret2
        rw [Hf.out.1, Hf.out.2, ← HA.out]
        exact ⟨_, rfl, how, hbel⟩

end Go.Proofs.YtbolacnpljkpbaaDoor
