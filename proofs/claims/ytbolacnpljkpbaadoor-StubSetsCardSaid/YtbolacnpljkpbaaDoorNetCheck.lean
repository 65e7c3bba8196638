/- net.Check. -/
import Derived.Test.YtbolacnpljkpbaaDoorBase
set_option maxRecDepth 100000
namespace Go.Proofs.YtbolacnpljkpbaaDoor
open Go.RowKit

theorem check1 (p many : Int) (b : Nat) (w : World) (hc : w.cell? ⟨b, 0, none⟩ = some (.int .i64 many)) :
    Calls Tryd.prog 76 #[.int .i64 p, .pointer (some ⟨b, 0, none⟩)] w fun e w' => e = .returned (.bool (placeB many p)) ∧ w = w' := by
  unfold placeB
  by_cases h : 0 ≤ p
  · have h2 : decide (0 ≤ p) = true := by simpa using h
    go_enter Tryd.func76, Tryd.ntmps76
    go_wp2
    go_ret
    simp [h]
  · have h2 : decide (0 ≤ p) = false := by simpa using h
    go_enter Tryd.func76, Tryd.ntmps76
    go_wp2
    go_ret
    simp

/-- The first test of net.Check. -/
def okB0 (n : Nt) : Bool := decide ((n.places.length : Int) ≤ 4096) && (decide ((n.trans.length : Int) ≤ 8192) && (placeB n.places.length n.init && (placeB n.places.length n.final && !(n.init == n.final))))
def listOkAt (many : Int) (l : List Int) (i : Nat) : Bool := placeB many (l.getD i 0) && (i == 0 || decide (l.getD (i - 1) 0 < l.getD i 0))
def listOk (many : Int) (l : List Int) : Bool := (List.range l.length).all (listOkAt many l)
def transOk (many : Int) (t : Tr) : Bool := listOk many t.inn && listOk many t.out
def Nt.okB (n : Nt) : Bool := okB0 n && n.trans.all (transOk n.places.length)
def Nt.checkE (n : Nt) : Int := if n.okB then 0 else 1

theorem listOkAt_of {many : Int} {l : List Int} {i : Nat} (h : listOk many l = true) (hi : i < l.length) : listOkAt many l i = true := by
  unfold listOk at h
  exact List.all_eq_true.1 h i (by simpa using hi)
theorem listOk_of {many : Int} {l : List Int} (h : ∀ i, i < l.length → listOkAt many l i = true) : listOk many l = true := by
  unfold listOk
  exact List.all_eq_true.2 fun i hi => h i (by simpa using hi)
theorem okB_no {n : Nt} {k : Nat} (hk : k < n.trans.length) (h : transOk n.places.length n.trans[k] = false) : n.okB = false := by
  unfold Nt.okB
  have : n.trans.all (transOk n.places.length) = false := by
    rw [List.all_eq_false]
    exact ⟨_, List.getElem_mem hk, by simp [h]⟩
  simp [this]
theorem okB_yes {n : Nt} (h : ∀ k (hk : k < n.trans.length), transOk n.places.length n.trans[k] = true) : n.okB = okB0 n := by
  unfold Nt.okB
  have : n.trans.all (transOk n.places.length) = true := by
    rw [List.all_eq_true]
    intro t ht
    obtain ⟨k, hk, rfl⟩ := List.getElem_of_mem ht
    exact h k hk
  simp [this]

theorem listOk_no {many : Int} {l : List Int} {i : Nat} (hi : i < l.length) (h : listOkAt many l i = false) : listOk many l = false := by
  cases hh : listOk many l with
  | false => rfl
  | true => rw [listOkAt_of hh hi] at h; cases h

theorem checkE_no {n : Nt} (h : n.okB = false) : n.checkE = 1 := by simp [Nt.checkE, h]
theorem checkE_bad {n : Nt} {k i j : Nat} {l : List Int} (hk : k < n.trans.length) (hl : (i = 0 ∧ l = n.trans[k].inn) ∨ (i = 1 ∧ l = n.trans[k].out)) (hj : j < l.length) (h : listOkAt n.places.length l j = false) : n.checkE = 1 := by
  refine checkE_no (okB_no hk ?_)
  have := listOk_no hj h
  unfold transOk
  rcases hl with ⟨_, rfl⟩ | ⟨_, rfl⟩ <;> simp [this]
theorem at_place {many : Int} {l : List Int} {j : Nat} (hj : j < l.length) (h : placeB many l[j] = false) : listOkAt many l j = false := by
  unfold listOkAt
  simp [List.getD, List.getElem?_eq_getElem hj, h]
theorem at_zero {many : Int} {l : List Int} (hj : 0 < l.length) (h : placeB many l[0] = true) : listOkAt many l 0 = true := by
  unfold listOkAt
  simp [List.getD, List.getElem?_eq_getElem hj, h]
theorem at_succ {many : Int} {l : List Int} {j : Nat} (hj : j + 1 < l.length) (h : placeB many l[j + 1] = true) (h2 : l[j] < l[j + 1]) : listOkAt many l (j + 1) = true := by
  unfold listOkAt
  simp [List.getD, List.getElem?_eq_getElem hj, List.getElem?_eq_getElem (Nat.lt_of_succ_lt hj), h, h2]
theorem at_down {many : Int} {l : List Int} {j : Nat} (hj : j + 1 < l.length) (h2 : l[j + 1] ≤ l[j]) : listOkAt many l (j + 1) = false := by
  have h2 : ¬ l[j] < l[j + 1] := by omega
  unfold listOkAt
  simp [List.getD, List.getElem?_eq_getElem hj, List.getElem?_eq_getElem (Nat.lt_of_succ_lt hj), h2]

set_option maxHeartbeats 2000000 in
theorem check_any (w : World) (vp vt : Value) (n : Nt) (B : Nat) (hB : B ≤ w.heap.size) (hn : NtR w B vp vt n) :
    Calls Tryd.prog 52 #[.agg #[vp, vt, .int .i64 n.init, .int .i64 n.final]] w fun e w' => e = .returned (.int .i64 n.checkE) ∧ Below w.heap.size w w' := by
  obtain ⟨ap, cp, rfl⟩ := hn.1.val
  obtain ⟨at_, ct, rfl⟩ := hn.2.val
  have hlt := hn.2.len
  go_enter Tryd.func52, Tryd.ntmps52
  go_wp2_with fail
  go_step3
  go_upto_region 3 with (fail)
  go_cut [5] (fun s5 wx => s5 = .bool (okB0 n) ∧ wx = (w.alloc (.cells #[.slice ap n.places.length cp, .slice at_ n.trans.length ct, .int .i64 n.init, .int .i64 n.final] 25)).alloc (.cells #[.int .i64 n.places.length] 3))
  case first =>
    go_wp2_with (go_at_call 76; go_must (refine (check1 _ n.places.length _ _ ?_).mono ?_; (· simp [go_sem]); rintro e w2 ⟨rfl, rfl⟩))
    all_goals go_meet
    all_goals (refine ⟨?_, rfl⟩; first | (simp [okB0, *]; done) | (simp [okB0, *]; rfl) | (simp [okB0, *]; intros; omega))
  case rest =>
    obtain ⟨rfl, rfl⟩ := hcut
    go_wp2_with fail
    go_step3
    go_wp2_with fail
    go_loopg [5, 46] n.trans.length (fun g s5 s46 wr => ∃ k : Nat, k + g = n.trans.length ∧ s46 = .int .i64 k ∧ s5 = .bool (okB0 n) ∧ Hid (∀ j (hj : j < n.trans.length), j < k → transOk n.places.length n.trans[j] = true) ∧
        wr.heap[w.heap.size]? = some (.cells #[.slice ap n.places.length cp, .slice at_ n.trans.length ct, .int .i64 n.init, .int .i64 n.final] 25) ∧ wr.heap[w.heap.size + 1]? = some (.cells #[.int .i64 n.places.length] 3) ∧ Below w.heap.size w wr)
    case atStart => exact ⟨0, by omega, rfl, rfl, fun j hj h => absurd h (by omega), heap_alloc2_old _ _ _, heap_alloc2_new _ _ _, ((Below.refl _ _).alloc (Nat.le_refl _) _).alloc (by simp) _⟩
    case round =>
      obtain ⟨k, hkg, rfl, rfl, hall, hb0, hb1, hbel⟩ := hrel
      have hsz := lt_of_block hb1
      by_cases hk : k < n.trans.length
      · obtain ⟨b, o, vi, vo, rfl, hbB, h0, h1, h2, hi, ho⟩ := hn.2.col k hk
        rw [← Below.cellB hbel (by omega)] at h0 h1 h2
        have hi := (hi.mono (hbel.mono hB) (Nat.le_refl _)).mono ((Below.refl B wr).alloc (by omega) (.cells #[.string n.trans[k].label, vi, vo] 57)) (Nat.le_refl _)
        have ho := (ho.mono (hbel.mono hB) (Nat.le_refl _)).mono ((Below.refl B wr).alloc (by omega) (.cells #[.string n.trans[k].label, vi, vo] 57)) (Nat.le_refl _)
        obtain ⟨ai, ci, rfl⟩ := hi.val
        obtain ⟨ao, co, rfl⟩ := ho.val
        have hli := hi.len
        have hlo := ho.len
        go_wp2_with fail
        go_loopg [5, 55] 2 (fun g s5 s55 wr2 => ∃ i : Nat, i + g = 2 ∧ s55 = .int .i64 i ∧ s5 = .bool (okB0 n) ∧ Hid (1 ≤ i → listOk n.places.length n.trans[k].inn = true) ∧ Hid (2 ≤ i → listOk n.places.length n.trans[k].out = true) ∧
          wr2 = wr.alloc (.cells #[.string n.trans[k].label, .slice ai n.trans[k].inn.length ci, .slice ao n.trans[k].out.length co] 57))
        case atStart => exact ⟨0, rfl, rfl, rfl, fun h => absurd h (by omega), fun h => absurd h (by omega), rfl⟩
        case round =>
          obtain ⟨i, hig, rfl, rfl, hL1, hL2, rfl⟩ := hrel
          by_cases hi2 : i < 2
          · obtain ⟨av, cv, l, hidx, hl, hll⟩ : ∃ av cv l, (∀ W : World, (Instr.index 118 (.agg #[.slice ai n.trans[k].inn.length ci, .slice ao n.trans[k].out.length co]) (.int .i64 i)).run Tryd.prog W = .ok (.slice av l.length cv) W) ∧ Ints (wr.alloc (.cells #[.string n.trans[k].label, .slice ai n.trans[k].inn.length ci, .slice ao n.trans[k].out.length co] 57)) B (.slice av l.length cv) l ∧
                Hid ((i = 0 ∧ l = n.trans[k].inn) ∨ (i = 1 ∧ l = n.trans[k].out)) := by
              rcases (by omega : i = 0 ∨ i = 1) with rfl | rfl
              · exact ⟨ai, ci, _, fun _ => by kernel_rfl, hi, Or.inl ⟨rfl, rfl⟩⟩
              · exact ⟨ao, co, _, fun _ => by kernel_rfl, ho, Or.inr ⟨rfl, rfl⟩⟩
            have hlen := hl.len
            clear hi ho h0 h1 h2 hb0
            have hi2' : decide ((i : Int) < 2) = true := by simp; omega
            go_wp2_with fail
            go_loopg [5, 60] l.length (fun g s5 s60 wr3 => ∃ j : Nat, j + g = l.length ∧ s60 = .int .i64 j ∧ s5 = .bool (okB0 n) ∧ Hid (∀ m, m < j → listOkAt n.places.length l m = true) ∧
              wr3 = wr.alloc (.cells #[.string n.trans[k].label, .slice ai n.trans[k].inn.length ci, .slice ao n.trans[k].out.length co] 57))
            case atStart => exact ⟨0, by omega, rfl, rfl, fun m h => absurd h (by omega), rfl⟩
            case round =>
              obtain ⟨j, hjg, rfl, rfl, hL3, rfl⟩ := hrel
              by_cases hj : j < l.length
              · obtain ⟨b2, o2, rfl, hb2, hc⟩ := hl.col j hj
                clear hidx
                cases hp : placeB n.places.length l[j] with
                | false =>
                  go_wp2_with (go_at_call 76; go_must (refine (check1 _ n.places.length _ _ ?_).mono ?_; (· rw [cell_of_block (w := wr.alloc _) (by rw [heap_alloc_old _ _ (by omega)]; exact hb1)]; rfl); rw [hp]; rintro e w2 ⟨rfl, rfl⟩))
                  rw [Exit.noGoto_ret]
                  go_ret
                  exact ⟨ret_int (checkE_bad hk hll.out hj (at_place hj hp)).symm, hbel.alloc (by omega) _⟩
                | true =>
                  by_cases hj0 : j = 0
                  · subst hj0
                    rw [Nat.add_zero] at hc
                    go_wp2_with (go_at_call 76; go_must (refine (check1 _ n.places.length _ _ ?_).mono ?_; (· rw [cell_of_block (w := wr.alloc _) (by rw [heap_alloc_old _ _ (by omega)]; exact hb1)]; rfl); rw [hp]; rintro e w2 ⟨rfl, rfl⟩))
                    go_roundg (gk - 1)
                    case measure => omega
                    case rel => exact ⟨1, by omega, rfl, rfl, fun m hm => by obtain rfl : m = 0 := by omega
                                                                             exact at_zero hj hp, rfl⟩
                  · obtain ⟨j, rfl⟩ : ∃ i, j = i + 1 := ⟨j - 1, by omega⟩
                    obtain ⟨b3, o3, hb2e, hb2', hc'⟩ := hl.col j (by omega)
                    cases hb2e
                    clear hj0
                    by_cases hlt2 : l[j] < l[j + 1]
                    · go_wp2_with (go_at_call 76; go_must (refine (check1 _ n.places.length _ _ ?_).mono ?_; (· rw [cell_of_block (w := wr.alloc _) (by rw [heap_alloc_old _ _ (by omega)]; exact hb1)]; rfl); rw [hp]; rintro e w2 ⟨rfl, rfl⟩))
                      go_roundg (gk - 1)
                      case measure => omega
                      case rel =>
                        refine ⟨j + 2, by omega, by go_num, rfl, fun m hm => ?_, rfl⟩
                        by_cases hm2 : m < j + 1
                        · exact hL3.out m hm2
                        · obtain rfl : m = j + 1 := by omega
                          exact at_succ hj hp hlt2
                    · go_wp2_with (go_at_call 76; go_must (refine (check1 _ n.places.length _ _ ?_).mono ?_; (· rw [cell_of_block (w := wr.alloc _) (by rw [heap_alloc_old _ _ (by omega)]; exact hb1)]; rfl); rw [hp]; rintro e w2 ⟨rfl, rfl⟩))
                      rw [Exit.noGoto_ret]
                      go_ret
                      exact ⟨ret_int (checkE_bad hk hll.out hj (at_down hj hlt2)).symm, hbel.alloc (by omega) _⟩
              · clear hidx
                have hj' : ¬ ((j : Int) < (l.length : Int)) := by omega
                go_wp2_with fail
                go_roundg (1 - i)
                case measure => omega
                case rel =>
                  have hlok := listOk_of (fun m hm => hL3.out m (by omega))
                  refine ⟨i + 1, by omega, by go_num, rfl, fun h => ?_, fun h => ?_, rfl⟩
                  · rcases hll.out with ⟨_, rfl⟩ | ⟨rfl, rfl⟩
                    · exact hlok
                    · exact hL1.out (by omega)
                  · rcases hll.out with ⟨h0, rfl⟩ | ⟨rfl, rfl⟩
                    · omega
                    · exact hlok
          · have hi2' : decide ((i : Int) < 2) = false := by simp; omega
            go_wp2_with fail
            go_roundg (n.trans.length - (k + 1))
            case measure => omega
            case rel =>
              refine ⟨k + 1, by omega, by go_num, rfl, fun m hm hmk => ?_, ?_, ?_, hbel.alloc (by omega) _⟩
              · by_cases hm2 : m < k
                · exact hall.out m hm hm2
                · obtain rfl : m = k := by omega
                  unfold transOk
                  rw [hL1.out (by omega), hL2.out (by omega)]
                  rfl
              · rw [heap_alloc_old _ _ (by omega)]; exact hb0
              · rw [heap_alloc_old _ _ (by omega)]; exact hb1
      · have hk' : ¬ ((k : Int) < (n.trans.length : Int)) := by omega
        have hfin := okB_yes (n := n) (fun m hm => hall.out m hm (by omega))
        cases hok : okB0 n with
        | false =>
          have Hfin : Hid (1 = n.checkE) := by unfold Nt.checkE; rw [hfin, hok]; exact rfl
          clear hfin
          go_wp2_with fail
          try rw [Exit.noGoto_ret]
          go_ret
          exact ⟨ret_int Hfin.out, hbel⟩
        | true =>
          have Hfin : Hid (0 = n.checkE) := by unfold Nt.checkE; rw [hfin, hok]; exact rfl
          clear hfin
          go_wp2_with fail
          try rw [Exit.noGoto_ret]
          go_ret
          exact ⟨ret_int Hfin.out, hbel⟩
end Go.Proofs.YtbolacnpljkpbaaDoor
