/- The document's One and Check (tollgateref15). -/
import Derived.Test.YtgahlonimaeicaaDoorRefNet
set_option maxRecDepth 100000
namespace Go.Proofs.YtgahlonimaeicaaDoor
open Go.RowKit

/-- The marking of one token, by the document. -/
def oneR (a : Int) (k : Nat) : List Int := (List.range k).map (fun i : Nat => if (i : Int) = a then 1 else 0)
theorem oneR_succ (a : Int) (k : Nat) : oneR a (k + 1) = oneR a k ++ [if (k : Int) = a then 1 else 0] := by simp [oneR, List.range_succ]
theorem oneR_len (a : Int) (k : Nat) : (oneR a k).length = k := by simp [oneR]
theorem oneR_one {a : Int} {k : Nat} (h0 : 0 ≤ a) (h1 : a < (k : Int)) : oneR a k = oneL k a := by
  obtain ⟨q, rfl⟩ := Int.eq_ofNat_of_zero_le h0
  apply List.ext_getElem
  · simp [oneR, oneL]
  · intro i h2 h3
    simp [oneR] at h2
    simp only [oneR, oneL, List.getElem_map, List.getElem_range, Int.toNat_natCast, List.getElem_set, List.getElem_replicate]
    by_cases e : i = q
    · subst e; simp
    · rw [if_neg (by omega), if_neg (by omega)]

/-- A list handed back. -/
def ListRet (w : World) (l : List Int) (e : Ending) (w' : World) : Prop := ∃ v, e = .returned v ∧ OwnI w' w.heap.size v l ∧ Below w.heap.size w w'

set_option maxHeartbeats 1000000 in
theorem refone_any (w : World) (vp vt : Value) (n : Nt) (a : Int) (B : Nat) (hB : B ≤ w.heap.size) (hn : NtR w B vp vt n) (hp : n.places.length ≤ 4096) :
    Calls Tryd.prog 50 #[.agg #[vp, vt, .int .i64 n.init, .int .i64 n.final], .int .i64 a] w (ListRet w (oneR a n.places.length)) := by
  have _ := hB
  obtain ⟨i0, hti, hz0, hz1, hz2⟩ := info_parts info_int
  have hbA := (Below.refl w.heap.size w).alloc (Nat.le_refl _) (.cells #[vp, vt, .int .i64 n.init, .int .i64 n.final] 25)
  have hboxA := heap_alloc_new w (.cells #[vp, vt, .int .i64 n.init, .int .i64 n.final] 25)
  obtain ⟨W1, hW1⟩ : ∃ W1, w.alloc (.cells #[vp, vt, .int .i64 n.init, .int .i64 n.final] 25) = W1 := ⟨_, rfl⟩
  have hs1 : W1.heap.size = w.heap.size + 1 := by rw [← hW1]; exact World.size_alloc _ _
  rw [hW1] at hbA hboxA
  obtain ⟨ap, cp, rfl⟩ := hn.1.val
  obtain ⟨at_, ct, rfl⟩ := hn.2.val
  have hs1a : w.heap.size + 1 ≤ W1.heap.size := by omega
  have hs1b : W1.heap.size ≤ w.heap.size + 1 := by omega
  clear hs1
  go_enter Tryd.func50, Tryd.ntmps50
  go_wp2_with fail
  go_loopg [5, 6] n.places.length (fun gh s5 s6 wr => ∃ (k : Nat) (L : List Int), k + gh = n.places.length ∧ s6 = .int .i64 (k : Int) ∧ Hid (L = oneR a k) ∧ L.length ≤ k ∧ OwnI wr W1.heap.size s5 L ∧ Below W1.heap.size W1 wr)
  case atStart => exact ⟨0, [], by omega, rfl, rfl, by simp, OwnI.nil _ _, Below.refl _ _⟩
  case round =>
    obtain ⟨k, L, hkg, rfl, hL, hLk, how, hbr⟩ := hrel
    have hzr := hbr.size
    have hx := (hbr.block w.heap.size (by omega)).trans hboxA
    obtain ⟨c0, c1, c2, c3⟩ := box4' hx
    by_cases hk : k < n.places.length
    · obtain ⟨aa, cc, rfl⟩ := how.shape
      by_cases hka : (k : Int) = a
      · have hL2 : Hid (L ++ [1] = oneR a (k + 1)) := by rw [oneR_succ, hL.out, if_pos hka]; exact rfl
        have hd : ((k : Int) == a) = true := by simpa using hka
        clear hka
        go_wp2_with (at_builtin; go_must (refine wpList_append_own _ rfl _ _ 33 rfl W1.heap.size 3 i0 (.int .i64 0) 1 8 Tryd.underlying33 hti hz0 hz1 hz2 rfl (by decide) _ L.length (L.map (Value.int .i64)) rfl (how.kept ((Below.refl _ _).alloc (Nat.le_refl _) _) (Nat.le_refl _)) ⟨wr.heap.size, 0, none⟩ 1 1 [.int .i64 1] rfl rfl (cell_one_new _ _ _) (ints_oneCell' [1]) (by unfold maxLen; omega) (by omega) (by simp; omega) ?_; intro v' w4 hown hg4 _))
        go_roundg (gk - 1)
        case measure => omega
        case rel => exact ⟨k + 1, L ++ [1], by omega, by go_num, hL2, by simp; omega, by unfold OwnI; simpa using hown, (hbr.alloc hzr _).grown hg4 (by simp; omega) (fun j hj => (World.ownsRow.lt how j hj).1)⟩
      · have hL2 : Hid (L ++ [0] = oneR a (k + 1)) := by rw [oneR_succ, hL.out, if_neg hka]; exact rfl
        have hd : ((k : Int) == a) = false := by simpa using hka
        clear hka
        go_wp2_with (at_builtin; go_must (refine wpList_append_own _ rfl _ _ 33 rfl W1.heap.size 3 i0 (.int .i64 0) 1 8 Tryd.underlying33 hti hz0 hz1 hz2 rfl (by decide) _ L.length (L.map (Value.int .i64)) rfl (how.kept ((Below.refl _ _).alloc (Nat.le_refl _) _) (Nat.le_refl _)) ⟨wr.heap.size, 0, none⟩ 1 1 [.int .i64 0] rfl rfl (cell_one_new _ _ _) (ints_oneCell' [0]) (by unfold maxLen; omega) (by omega) (by simp; omega) ?_; intro v' w4 hown hg4 _))
        go_roundg (gk - 1)
        case measure => omega
        case rel => exact ⟨k + 1, L ++ [0], by omega, by go_num, hL2, by simp; omega, by unfold OwnI; simpa using hown, (hbr.alloc hzr _).grown hg4 (by simp; omega) (fun j hj => (World.ownsRow.lt how j hj).1)⟩
    · have hLe : Hid (L = oneR a n.places.length) := by rw [hL.out, show k = n.places.length by omega]; exact rfl
      go_wp2_with fail
      go_ret
      exact ⟨_, rfl, by rw [← hLe.out]; exact how.lower (by omega), hbA.trans (hbr.mono (by omega))⟩

theorem okB_init {n : Nt} (h : n.okB = true) : 2 ≤ n.places.length := (Nt.ok_of h).two

set_option maxHeartbeats 2000000 in
theorem refcheck_any (w : World) (vp vt : Value) (n : Nt) (B : Nat) (hB : B ≤ w.heap.size) (hn : NtR w B vp vt n) :
    Calls Tryd.prog 49 #[.agg #[vp, vt, .int .i64 n.init, .int .i64 n.final]] w fun e w' => e = .returned (.int .i64 n.checkE) ∧ Below w.heap.size w w' := by
  have hbA := (Below.refl w.heap.size w).alloc (Nat.le_refl _) (.cells #[vp, vt, .int .i64 n.init, .int .i64 n.final] 25)
  have hboxA := heap_alloc_new w (.cells #[vp, vt, .int .i64 n.init, .int .i64 n.final] 25)
  obtain ⟨W1, hW1⟩ : ∃ W1, w.alloc (.cells #[vp, vt, .int .i64 n.init, .int .i64 n.final] 25) = W1 := ⟨_, rfl⟩
  have hs1 : W1.heap.size = w.heap.size + 1 := by rw [← hW1]; exact World.size_alloc _ _
  rw [hW1] at hbA hboxA
  have hn1 := hn.mono (hbA.mono hB) (show B ≤ W1.heap.size by omega)
  have hlp := hn.1.len
  have hlt := hn.2.len
  obtain ⟨ap, cp, rfl⟩ := hn.1.val
  obtain ⟨at_, ct, rfl⟩ := hn.2.val
  have hs1a : w.heap.size + 1 ≤ W1.heap.size := by omega
  obtain ⟨c0, c1, c2, c3⟩ := box4' hboxA
  clear hs1
  cases hok : okB0 n with
  | false =>
    have Hf : Hid (1 = n.checkE) := by unfold Nt.checkE Nt.okB; rw [hok]; exact rfl
    have Hok := Lib.hid hok
    clear hok
    go_enter Tryd.func49, Tryd.ntmps49
    go_wp2_with fail
    all_goals first
      | (go_ret; exact ⟨ret_int Hf.out, hbA⟩)
      | (exfalso
         have hh := Hok.out
         simp only [okB0, placeB, Bool.and_eq_false_iff, decide_eq_false_iff_not, Bool.not_eq_false', beq_iff_eq] at hh
         simp only [beq_eq_false_iff_ne, ne_eq] at *
         omega)
  | true =>
    have hh := hok
    simp only [okB0, placeB, Bool.and_eq_true, decide_eq_true_eq, Bool.not_eq_true', beq_eq_false_iff_ne, ne_eq] at hh
    obtain ⟨e1, e2, ⟨e3, e4⟩, ⟨e5, e6⟩, e7⟩ := hh
    have d0 : decide ((n.places.length : Int) < 2) = false := decide_eq_false (by omega)
    have d1 : decide ((4096 : Int) < (n.places.length : Int)) = false := decide_eq_false (by omega)
    have d2 : decide ((8192 : Int) < (n.trans.length : Int)) = false := decide_eq_false (by omega)
    have d3 : decide (n.init < 0) = false := decide_eq_false (by omega)
    have d4 : decide (n.final < 0) = false := decide_eq_false (by omega)
    have d5 : decide ((n.places.length : Int) ≤ n.init) = false := decide_eq_false (by omega)
    have d6 : decide ((n.places.length : Int) ≤ n.final) = false := decide_eq_false (by omega)
    have d7 : (n.init == n.final) = false := by simpa using e7
    have Hok := Lib.hid hok
    clear hok e7
    go_enter Tryd.func49, Tryd.ntmps49
    go_wp2_with fail
    clear d0 d1 d2 d3 d4 d5 d6 d7
    go_loopg [3] n.trans.length (fun gh s3 wr => ∃ k m : Nat, k + gh = n.trans.length ∧ s3 = .int .i64 (k : Int) ∧ Hid (∀ j (hj : j < n.trans.length), j < k → transOk n.places.length n.trans[j] = true) ∧ wr = W1.drewN m)
    case atStart => exact ⟨0, 0, by omega, rfl, fun j hj h => absurd h (by omega), rfl⟩
    case round =>
      obtain ⟨k, m, hkg, rfl, hall, rfl⟩ := hrel
      by_cases hk : k < n.trans.length
      · obtain ⟨b, o, vi, vo, rfl, hbB, h0, h1, h2, hi, ho⟩ := hn1.2.col k hk
        obtain ⟨ai, ci, rfl⟩ := hi.val
        obtain ⟨ao, co, rfl⟩ := ho.val
        have hno := Lib.hid (fun e => checkE_no (okB_no hk e))
        have hyes : Hid (transOk n.places.length n.trans[k] = (listOk n.places.length n.trans[k].inn && listOk n.places.length n.trans[k].out)) := rfl
        have Hall : Hid (transOk n.places.length n.trans[k] = true → ∀ j (hj : j < n.trans.length), j < k + 1 → transOk n.places.length n.trans[j] = true) := fun e j hj h => by
          by_cases ej : j < k
          · exact hall.out j hj ej
          · obtain rfl : j = k := by omega
            exact e
        obtain ⟨x, hx⟩ : ∃ x, n.trans[k] = x := ⟨_, rfl⟩
        rw [hx] at h0 hi ho hno hyes Hall
        rw [hx] at h1 h2
        clear hx
        cases hA : listOk n.places.length x.inn with
        | false =>
          have Hf : Hid (1 = n.checkE) := (hno.out (by rw [hyes.out, hA]; rfl)).symm
          have HA := Lib.hid hA
          clear hA
          go_wp2_with fail
          go_quiet ((go_at_call 70; exact quiet_add (reflist_is _ _ _ _ _ (hi.drewN _) HA.out)))
          go_wp2_with fail
          go_ret
          exact ⟨ret_int Hf.out, below_drewN (below_drewN hbA _) _⟩
        | true =>
          have HA := Lib.hid hA
          cases hO : listOk n.places.length x.out with
          | false =>
            have Hf : Hid (1 = n.checkE) := (hno.out (by rw [hyes.out, hA, hO]; rfl)).symm
            have HO := Lib.hid hO
            clear hA hO
            go_wp2_with fail
            go_quiet (first | (go_at_call 70; exact quiet_add (reflist_is _ _ _ _ _ (hi.drewN _) HA.out)) | (go_at_call 70; exact quiet_add (reflist_is _ _ _ _ _ (ho.drewN _) HO.out)))
            go_wp2_with fail
            go_ret
            exact ⟨ret_int Hf.out, below_drewN (below_drewN hbA _) _⟩
          | true =>
            have Hf := Lib.hid (Hall.out (by rw [hyes.out, hA, hO]; rfl))
            have HO := Lib.hid hO
            clear hA hO
            go_wp2_with fail
            go_quiet (first | (go_at_call 70; exact quiet_add (reflist_is _ _ _ _ _ (hi.drewN _) HA.out)) | (go_at_call 70; exact quiet_add (reflist_is _ _ _ _ _ (ho.drewN _) HO.out)))
            go_wp2_with fail
            go_roundg (gk - 1)
            case measure => omega
            case rel => exact ⟨k + 1, _, by omega, by go_num, Hf, rfl⟩
      · have Hf : Hid (0 = n.checkE) := by unfold Nt.checkE; rw [okB_yes (n := n) (fun m hm => hall.out m hm (by omega)), Hok.out]; exact rfl
        go_wp2_with fail
        go_ret
        exact ⟨ret_int Hf.out, below_drewN hbA _⟩

end Go.Proofs.YtgahlonimaeicaaDoor
