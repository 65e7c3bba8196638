/- The document's net and graph (tollgateref15, tollgateref17): Is, After; the graph in memory of the call's own; Find. -/
import Derived.Test.YtapnkkoplnhleaaDoorRefNet2
import Derived.Test.YtapnkkoplnhleaaDoorNetShiftP
import Derived.Test.YtapnkkoplnhleaaDoorBoxes
import Derived.Test.YtapnkkoplnhleaaDoorRPut
import Derived.Test.YtapnkkoplnhleaaDoorGridF
import Derived.Test.YtapnkkoplnhleaaDoorReachRead
import Derived.Test.YtapnkkoplnhleaaDoorRefSame
set_option maxRecDepth 100000
/- tollgateref15.has, .Is, .After: the document's firing. -/
namespace Go.Proofs.YtapnkkoplnhleaaDoor
open Go.RowKit

theorem hasI_drop {l : List Int} {p : Int} {k : Nat} (h : k < l.length) : hasI (l.drop k) p = if l[k] == p then 1 else hasI (l.drop (k + 1)) p := by
  rw [List.drop_eq_getElem_cons h]; rfl
theorem refhas15_any (w : World) (B : Nat) (v : Value) (l : List Int) (p : Int) (h : Ints w B v l) :
    Calls Tryd.prog 65 #[v, .int .i64 p] w fun e w' => e = .returned (.int .i64 (hasI l p)) ∧ w = w' := by
  obtain ⟨a, c, rfl⟩ := h.val
  have hl := h.len
  go_enter Tryd.func65, Tryd.ntmps65
  go_wp2_with fail
  go_loopg [5] l.length (fun g s5 wr => ∃ (k : Nat), k + g = l.length ∧ s5 = .int .i64 (k : Int) ∧ Hid (hasI (l.drop k) p = hasI l p) ∧ wr = w)
  case atStart => exact ⟨0, by omega, rfl, rfl, rfl⟩
  case round =>
    obtain ⟨k, hkg, rfl, hall, rfl⟩ := hrel
    by_cases hk : k < l.length
    · obtain ⟨b, o, rfl, _, hc⟩ := h.col k hk
      have hdr := Lib.hid (hasI_drop (p := p) hk)
      obtain ⟨x, hx⟩ : ∃ x, l[k] = x := ⟨_, rfl⟩
      rw [hx] at hc hdr
      clear hx
      by_cases h1 : x = p
      · have Hf : Hid ((1 : Int) = hasI l p) := by rw [← hall.out, hdr.out, h1]; simp [Hid]
        have hd : (x == p) = true := by simpa using h1
        clear h1
        go_wp2_with fail
        go_ret
        exact ⟨ret_int Hf.out, rfl⟩
      · have Hf : Hid (hasI (l.drop (k + 1)) p = hasI l p) := by rw [← hall.out, hdr.out, show (x == p) = false by simpa using h1]; simp [Hid]
        have hd : (x == p) = false := by simpa using h1
        go_wp2_with fail
        go_roundg (gk - 1)
        case measure => omega
        case rel => exact ⟨k + 1, by omega, by go_num, Hf, rfl⟩
    · have Hf : Hid ((0 : Int) = hasI l p) := by rw [← hall.out, List.drop_eq_nil_of_le (by omega)]; exact rfl
      go_wp2_with fail
      go_ret
      exact ⟨ret_int Hf.out, rfl⟩
theorem refhas15_is {t : Int} (w : World) (B : Nat) (v : Value) (l : List Int) (p : Int) (h : Ints w B v l) (ht : hasI l p = t) :
    Calls Tryd.prog 65 #[v, .int .i64 p] w fun e w' => e = .returned (.int .i64 t) ∧ w = w' := by
  rw [← ht]; exact refhas15_any w B v l p h

theorem box3' {w : World} {b : Nat} {v0 v1 v2 : Value} {t : TypeId} {fr : Nat × Nat} (h : w.heap[b]? = some (.cells #[v0, v1, v2] t fr)) :
    w.cell? ⟨b, 0, none⟩ = some v0 ∧ w.cell? ⟨b, 1, none⟩ = some v1 ∧ w.cell? ⟨b, 2, none⟩ = some v2 :=
  ⟨by rw [cell_of_block h]; rfl, by rw [cell_of_block h]; rfl, by rw [cell_of_block h]; rfl⟩

theorem enB_no {t : Tr} {m : List Int} {k : Nat} (h : k < t.inn.length) (h0 : zeroAt m t.inn[k] = true) : t.enB m = false := by
  unfold Tr.enB
  rw [Bool.not_eq_false', List.any_eq_true]
  exact ⟨_, List.getElem_mem h, h0⟩
theorem enB_yes {t : Tr} {m : List Int} (h : ∀ q (hq : q < t.inn.length), zeroAt m t.inn[q] = false) : t.enB m = true := by
  unfold Tr.enB
  rw [Bool.not_eq_true', List.any_eq_false]
  intro x hx
  obtain ⟨q, hq, rfl⟩ := List.getElem_of_mem hx
  rw [h q hq]; simp
set_option maxHeartbeats 1000000 in
theorem refis_any (w : World) (B : Nat) (hB : B ≤ w.heap.size) (t : Tr) (vi vo vm : Value) (m : List Int) (hi : Ints w B vi t.inn) (hm : Ints w B vm m) (hpi : PlacesOk m.length t.inn) (ht : Tokens m) :
    Calls Tryd.prog 43 #[.agg #[.string t.label, vi, vo], vm] w fun e w' => e = .returned (.bool (t.enB m)) ∧ Below w.heap.size w w' := by
  have hbA := (Below.refl w.heap.size w).alloc (Nat.le_refl _) (.cells #[.string t.label, vi, vo] 65)
  have hboxA := heap_alloc_new w (.cells #[.string t.label, vi, vo] 65)
  obtain ⟨W1, hW1⟩ : ∃ W1, w.alloc (.cells #[.string t.label, vi, vo] 65) = W1 := ⟨_, rfl⟩
  rw [hW1] at hbA hboxA
  have hi1 := hi.mono (hbA.mono hB) (Nat.le_refl _)
  have hm1 := hm.mono (hbA.mono hB) (Nat.le_refl _)
  obtain ⟨ai, ci, rfl⟩ := hi.val
  obtain ⟨am, cm, rfl⟩ := hm.val
  obtain ⟨c0, c1, c2⟩ := box3' hboxA
  have hil := hi.len
  have hml := hm.len
  have HP := Lib.hid hpi
  have HT := Lib.hid ht
  clear hi hm hpi ht
  go_enter Tryd.func43, Tryd.ntmps43
  go_wp2_with fail
  go_loopg [5] t.inn.length (fun gh s5 wr => ∃ (k : Nat), k + gh = t.inn.length ∧ s5 = .int .i64 (k : Int) ∧ Hid (∀ q (hq : q < t.inn.length), q < k → zeroAt m t.inn[q] = false) ∧ wr = W1)
  case atStart => exact ⟨0, by omega, rfl, fun q _ h => by omega, rfl⟩
  case round =>
    obtain ⟨k, hkg, rfl, hall, rfl⟩ := hrel
    by_cases hk : k < t.inn.length
    · obtain ⟨b, o, rfl, _, hc⟩ := hi1.col k hk
      have hpk := HP.out _ (List.getElem_mem hk)
      have hno := Lib.hid (fun e => enB_no (t := t) (m := m) hk e)
      have hal2 := Lib.hid (fun (e : zeroAt m t.inn[k] = false) => (fun q hq hqk => by
        by_cases e2 : q < k
        · exact hall.out q hq e2
        · obtain rfl : q = k := by omega
          exact e : ∀ q (hq : q < t.inn.length), q < k + 1 → zeroAt m t.inn[q] = false))
      obtain ⟨p, hp⟩ : ∃ p, t.inn[k] = p := ⟨_, rfl⟩
      rw [hp] at hc hpk hno hal2
      clear hp
      obtain ⟨q, rfl⟩ := Int.eq_ofNat_of_zero_le hpk.1
      have hq : q < m.length := by omega
      obtain ⟨bm, om, rfl, _, hcm⟩ := hm1.col q hq
      have htk := HT.out _ (List.getElem_mem hq)
      have hz : Hid (zeroAt m (q : Int) = (m[q] == 0)) := by unfold zeroAt; rw [getI_eq hq]; exact rfl
      obtain ⟨x, hx⟩ : ∃ x, m[q] = x := ⟨_, rfl⟩
      rw [hx] at hcm htk hz
      clear hx
      have hq' : (q : Int) < (m.length : Int) := by omega
      by_cases h1 : x < 1
      · have Hf : Hid (false = t.enB m) := (hno.out (by rw [hz.out]; simp; omega)).symm
        have hd1 : decide (x < 1) = true := decide_eq_true h1
        go_wp2_with fail
        go_ret
        exact ⟨ret_bool Hf.out, hbA⟩
      · have Hn := Lib.hid (hal2.out (by rw [hz.out]; simp; omega))
        have hd1 : decide (x < 1) = false := decide_eq_false h1
        clear hal2
        go_wp2_with fail
        go_roundg (gk - 1)
        case measure => omega
        case rel => exact ⟨k + 1, by omega, by go_num, Hn, rfl⟩
    · have Hf : Hid (true = t.enB m) := (enB_yes (fun q hq => hall.out q hq (by omega))).symm
      go_wp2_with fail
      go_ret
      exact ⟨ret_bool Hf.out, hbA⟩
theorem refis_is {x : Bool} (w : World) (B : Nat) (hB : B ≤ w.heap.size) (t : Tr) (vi vo vm : Value) (m : List Int) (hi : Ints w B vi t.inn) (hm : Ints w B vm m) (hpi : PlacesOk m.length t.inn) (ht : Tokens m) (hx : t.enB m = x) :
    Calls Tryd.prog 43 #[.agg #[.string t.label, vi, vo], vm] w fun e w' => e = .returned (.bool x) ∧ Below w.heap.size w w' := by
  rw [← hx]; exact refis_any w B hB t vi vo vm m hi hm hpi ht

/-- What the document's After says of a place. -/
def aftD (t : Tr) (m : List Int) (p : Nat) : Int := getI m p - hasI t.inn p + hasI t.out p
def aftDL (t : Tr) (m : List Int) (k : Nat) : List Int := (List.range k).map (aftD t m)
def aftOk (t : Tr) (m : List Int) (k : Nat) : Bool := (List.range k).all (fun p => decide (aftD t m p ≤ 2147483647))
theorem aftDL_succ (t : Tr) (m : List Int) (k : Nat) : aftDL t m (k + 1) = aftDL t m k ++ [aftD t m k] := by simp [aftDL, List.range_succ]
theorem aftOk_succ (t : Tr) (m : List Int) (k : Nat) : aftOk t m (k + 1) = (aftOk t m k && decide (aftD t m k ≤ 2147483647)) := by simp [aftOk, List.range_succ]
theorem aftDL_fire {n : Nt} {m : List Int} (h : n.Mark m) {t : Tr} (ht : t ∈ n.trans) (h0 : (t.fireE m).1 = 0) : aftDL t m m.length = (t.fireE m).2 := by
  refine List.ext_getElem (by simp [aftDL, len_fire]) ?_
  intro p h1 h2
  rw [len_fire] at h2
  have := getI_fire h ht h0 (p := (p : Int)) (by omega) (by omega)
  rw [getI_eq (by rw [len_fire]; exact h2)] at this
  rw [this]
  simp [aftDL, aftD]
theorem aftOk_fire {n : Nt} {m : List Int} (h : n.Mark m) {t : Tr} (ht : t ∈ n.trans) (he : t.enB m = true) : aftOk t m m.length = decide ((t.fireE m).1 = 0) := by
  rw [Bool.eq_iff_iff, decide_eq_true_eq, fire_iff h ht]
  unfold aftOk
  rw [List.all_eq_true]
  have hz : ∀ p ∈ t.inn, getI m p ≠ 0 := fun p hp e => by
    have : t.enB m = false := by
      obtain ⟨k, hk, rfl⟩ := List.getElem_of_mem hp
      exact enB_no hk (by unfold zeroAt; rw [e]; rfl)
    rw [he] at this; cases this
  constructor
  · intro hall
    refine ⟨hz, fun p hp => ?_⟩
    have hpl := (h.ok.out t ht).1 p hp
    rw [← h.len] at hpl
    obtain ⟨q, rfl⟩ := Int.eq_ofNat_of_zero_le hpl.1
    have := hall q (List.mem_range.2 (by omega))
    have h1 : hasI t.out (q : Int) = 1 := hasI_yes hp
    have := of_decide_eq_true this
    unfold aftD at this
    rw [h1] at this
    omega
  · rintro ⟨-, hall⟩ q hq
    have hq := List.mem_range.1 hq
    refine decide_eq_true ?_
    unfold aftD
    have hin := hasI_range t.inn (q : Int)
    by_cases ho : (q : Int) ∈ t.out
    · have := hall _ ho
      rw [hasI_yes ho]; omega
    · rw [hasI_no ho, getI_eq hq]
      have := h.tok _ (List.getElem_mem hq)
      omega
/-- What the document's After hands back. -/
def AftPost (w : World) (t : Tr) (m : List Int) (e : Ending) (w' : World) : Prop :=
  ∃ v, e = .returned (.tuple #[v, .bool (aftOk t m m.length)]) ∧ OwnI w' w.heap.size v (aftDL t m m.length) ∧ Below w.heap.size w w'
set_option maxHeartbeats 2000000 in
theorem refafter15_any (w : World) (B : Nat) (hB : B ≤ w.heap.size) (t : Tr) (vi vo vm : Value) (m : List Int) (hi : Ints w B vi t.inn) (ho : Ints w B vo t.out) (hm : Ints w B vm m) (ht : Tokens m) (hml : m.length ≤ 4096) :
    Calls Tryd.prog 44 #[.agg #[.string t.label, vi, vo], vm] w (AftPost w t m) := by
  obtain ⟨i0, hti, hz0, hz1, hz2⟩ := info_parts info_int
  have hbA := (Below.refl w.heap.size w).alloc (Nat.le_refl _) (.cells #[.string t.label, vi, vo] 65)
  have hboxA := heap_alloc_new w (.cells #[.string t.label, vi, vo] 65)
  obtain ⟨W1, hW1⟩ : ∃ W1, w.alloc (.cells #[.string t.label, vi, vo] 65) = W1 := ⟨_, rfl⟩
  have hs1 : W1.heap.size = w.heap.size + 1 := by rw [← hW1]; exact World.size_alloc _ _
  rw [hW1] at hbA hboxA
  obtain ⟨ai, ci, rfl⟩ := hi.val
  obtain ⟨ao, co, rfl⟩ := ho.val
  obtain ⟨am, cm, rfl⟩ := hm.val
  have hs1a : w.heap.size + 1 ≤ W1.heap.size := by omega
  have hs1b : W1.heap.size ≤ w.heap.size + 1 := by omega
  have HT := Lib.hid ht
  clear hs1 ht
  go_enter Tryd.func44, Tryd.ntmps44
  go_wp2_with fail
  go_loopg [6, 7, 8] m.length (fun gh s6 s7 s8 wr => ∃ (k : Nat) (ok : Bool) (L : List Int), k + gh = m.length ∧ s8 = .int .i64 (k : Int) ∧ s7 = .bool ok ∧ Hid (ok = aftOk t m k) ∧ Hid (L = aftDL t m k) ∧ L.length ≤ k ∧ OwnI wr W1.heap.size s6 L ∧ Below W1.heap.size W1 wr)
  case atStart => exact ⟨0, true, [], by omega, rfl, rfl, rfl, rfl, by simp, OwnI.nil _ _, Below.refl _ _⟩
  case round =>
    obtain ⟨k, ok, L, hkg, rfl, rfl, hok, hL, hLk, how, hbr⟩ := hrel
    have hzr := hbr.size
    have hbrw := hbA.trans (hbr.mono (by omega))
    have hx := (hbr.block w.heap.size (by omega)).trans hboxA
    obtain ⟨c0, c1, c2⟩ := box3' hx
    by_cases hk : k < m.length
    · obtain ⟨b, o, rfl, hb, hc⟩ := hm.col k hk
      rw [← Below.cellB hbrw (by omega)] at hc
      have hir := hi.mono (hbrw.mono hB) (Nat.le_refl B)
      have hor := ho.mono (hbrw.mono hB) (Nat.le_refl B)
      have htk := HT.out _ (List.getElem_mem hk)
      have ra := hasI_range t.inn (k : Int)
      have rb := hasI_range t.out (k : Int)
      obtain ⟨x, hxe⟩ : ∃ x, m[k] = x := ⟨_, rfl⟩
      have hD : Hid (aftD t m k = m[k] - hasI t.inn (k : Int) + hasI t.out (k : Int)) := by unfold aftD; rw [getI_eq hk]; exact rfl
      obtain ⟨a, ha⟩ : ∃ a, hasI t.inn (k : Int) = a := ⟨_, rfl⟩
      obtain ⟨c, hcc⟩ : ∃ c, hasI t.out (k : Int) = c := ⟨_, rfl⟩
      rw [ha] at ra
      rw [hcc] at rb
      rw [hxe, ha, hcc] at hD
      have Hi := Lib.hid (fun n => refhas15_is (wr.drewN n) _ _ _ (k : Int) (hir.drewN n) ha)
      have Ho := Lib.hid (fun n => refhas15_is (wr.drewN n) _ _ _ (k : Int) (hor.drewN n) hcc)
      rw [hxe] at hc htk
      clear hxe ha hcc hir hor
      have hw1 : IntKind.i64.wrap (x - a) = x - a := IntWalk.i64_in _ (by omega)
      have hw2 : IntKind.i64.wrap (x - a + c) = x - a + c := IntWalk.i64_in _ (by omega)
      have hkm : (k : Int) < (m.length : Int) := by omega
      have hL2 : Hid (L ++ [x - a + c] = aftDL t m (k + 1)) := by rw [aftDL_succ, hL.out, hD.out]; exact rfl
      have hok2 : Hid ((ok && decide (x - a + c ≤ 2147483647)) = aftOk t m (k + 1)) := by rw [aftOk_succ, hok.out, hD.out]; exact rfl
      obtain ⟨aa, cc, rfl⟩ := how.shape
      go_wp2_with fail
      go_quiet (first | (go_at_call_of 65 (Value.slice ai t.inn.length ci); exact quiet_left (Hi.out _)) | (go_at_call_of 65 (Value.slice ao t.out.length co); exact quiet_left (Ho.out _)))
      clear hw1 hw2
      obtain ⟨y, hy⟩ : ∃ y, x - a + c = y := ⟨_, rfl⟩
      rw [hy] at hL2 hok2
      rw [hy]
      have hbd : Below wr.heap.size wr (wr.drewN nq) := below_drewN' nq
      have how6 := how.kept hbd (Nat.le_refl _)
      have hB6 := hbr.trans (hbd.mono hzr)
      obtain ⟨w6, hw6⟩ : ∃ w6, wr.drewN nq = w6 := ⟨_, rfl⟩
      rw [hw6] at how6 hB6
      rw [hw6]
      have hz6 := hB6.size
      clear hw6 hbd how hbr hx c0 c1 c2 hc hbrw Hi Ho
      cases ok with
      | false =>
        have hok3 : Hid (false = aftOk t m (k + 1)) := hok2
        go_wp2_with (at_builtin; go_must (refine wpList_append_own _ rfl _ _ 26 rfl W1.heap.size 3 i0 (.int .i64 0) 1 8 Tryd.underlying26 hti hz0 hz1 hz2 rfl (by decide) _ L.length (L.map (Value.int .i64)) rfl (how6.kept ((Below.refl _ _).alloc (Nat.le_refl _) _) (Nat.le_refl _)) ⟨w6.heap.size, 0, none⟩ 1 1 [.int .i64 y] rfl rfl (cell_one_new _ _ _) (ints_oneCell' [y]) (by unfold maxLen; omega) (by omega) (by simp; omega) ?_; intro v' w4 hown hg4 _))
        go_roundg (gk - 1)
        case measure => omega
        case rel => exact ⟨k + 1, false, L ++ [y], by omega, by go_num, rfl, hok3, hL2, by simp; omega, by unfold OwnI; simpa using hown, (hB6.alloc hz6 _).grown hg4 (by simp; omega) (fun j hj => (World.ownsRow.lt how6 j hj).1)⟩
      | true =>
        by_cases hyl : y ≤ 2147483647
        · have hd : decide (y ≤ 2147483647) = true := decide_eq_true hyl
          have hok3 : Hid (true = aftOk t m (k + 1)) := by rw [← hok2.out, hd]; exact rfl
          clear hok2
          go_wp2_with (at_builtin; go_must (refine wpList_append_own _ rfl _ _ 26 rfl W1.heap.size 3 i0 (.int .i64 0) 1 8 Tryd.underlying26 hti hz0 hz1 hz2 rfl (by decide) _ L.length (L.map (Value.int .i64)) rfl (how6.kept ((Below.refl _ _).alloc (Nat.le_refl _) _) (Nat.le_refl _)) ⟨w6.heap.size, 0, none⟩ 1 1 [.int .i64 y] rfl rfl (cell_one_new _ _ _) (ints_oneCell' [y]) (by unfold maxLen; omega) (by omega) (by simp; omega) ?_; intro v' w4 hown hg4 _))
          go_roundg (gk - 1)
          case measure => omega
          case rel => exact ⟨k + 1, true, L ++ [y], by omega, by go_num, rfl, hok3, hL2, by simp; omega, by unfold OwnI; simpa using hown, (hB6.alloc hz6 _).grown hg4 (by simp; omega) (fun j hj => (World.ownsRow.lt how6 j hj).1)⟩
        · have hd : decide (y ≤ 2147483647) = false := decide_eq_false hyl
          have hok3 : Hid (false = aftOk t m (k + 1)) := by rw [← hok2.out, hd]; exact rfl
          clear hok2
          go_wp2_with (at_builtin; go_must (refine wpList_append_own _ rfl _ _ 26 rfl W1.heap.size 3 i0 (.int .i64 0) 1 8 Tryd.underlying26 hti hz0 hz1 hz2 rfl (by decide) _ L.length (L.map (Value.int .i64)) rfl (how6.kept ((Below.refl _ _).alloc (Nat.le_refl _) _) (Nat.le_refl _)) ⟨w6.heap.size, 0, none⟩ 1 1 [.int .i64 y] rfl rfl (cell_one_new _ _ _) (ints_oneCell' [y]) (by unfold maxLen; omega) (by omega) (by simp; omega) ?_; intro v' w4 hown hg4 _))
          go_roundg (gk - 1)
          case measure => omega
          case rel => exact ⟨k + 1, false, L ++ [y], by omega, by go_num, rfl, hok3, hL2, by simp; omega, by unfold OwnI; simpa using hown, (hB6.alloc hz6 _).grown hg4 (by simp; omega) (fun j hj => (World.ownsRow.lt how6 j hj).1)⟩
    · have hLe : Hid (L = aftDL t m m.length) := by rw [hL.out, show k = m.length by omega]; exact rfl
      obtain rfl : ok = aftOk t m m.length := by rw [hok.out, show k = m.length by omega]
      go_wp2_with fail
      go_ret2
      exact ⟨_, rfl, by rw [← hLe.out]; exact how.lower (by omega), hbA.trans (hbr.mono (by omega))⟩

end Go.Proofs.YtapnkkoplnhleaaDoor

/- The document's graph (tollgateref17) in memory of the call's own. -/
namespace Go.Proofs.YtapnkkoplnhleaaDoor
open Go.RowKit

/-- The seven cells of the document's graph. -/
def hCells (v0 v1 : Value) (a b : Int) (vM vE vF : Value) : Array Value := #[v0, v1, .int .i64 a, .int .i64 b, vM, vE, vF]
abbrev RowR (w : World) (base : Nat) (v : Value) (F : List (Int × Int)) : Prop := OwnF cellE 80 2 w base v F
abbrev GridR (w : World) (base : Nat) (v : Value) (Es : List (List (Int × Int) × Value)) : Prop := Grid cellE 80 2 43 w base v Es
structure HOwn (w : World) (base p : Nat) (v0 v1 : Value) (a b : Int) (vM vE vF : Value) (Ms : List (List Int × Value)) (Es : List (List (Int × Int) × Value)) (F : List (Int × Int)) : Prop where
  box : w.heap[p]? = some (.cells (hCells v0 v1 a b vM vE vF) 45)
  hp : base ≤ p
  rowM : RowM w base vM Ms
  marks : ∀ x ∈ Ms, OwnI w base x.2 x.1
  grid : GridR w base vE Es
  rowF : RowR w base vF F
  apartF : ∀ x ∈ Es, ∀ b, x.2.ownBlock = some b → vF.ownBlock ≠ some b

/-- No block of a type. -/
def Apt (w : World) (e : TypeId) (r : Option Nat) : Prop := ∀ q c, r = some q → w.heap[q]? ≠ some (.cells c e)
theorem OwnF.apt {α : Type} {f : α → List Value} {e1 : TypeId} {k : Nat} {w : World} {base : Nat} {v : Value} {A : List α} (h : OwnF f e1 k w base v A) {e : TypeId} (hne : e1 ≠ e) : Apt w e v.ownBlock := by
  intro q c hq hc
  obtain ⟨⟨c1, h1⟩, _⟩ := h.ty hq
  exact type_ne h1 hc hne rfl
theorem apt_box {w : World} {p : Nat} {c : Array Value} {t e : TypeId} (h : w.heap[p]? = some (.cells c t)) (hne : t ≠ e) : Apt w e (some p) := by
  intro q c2 hq hc
  obtain rfl : p = q := Option.some.inj hq
  exact type_ne h hc hne rfl
theorem OwnF.frmT {α : Type} {f : α → List Value} {e : TypeId} {k : Nat} {S : List (Option Nat)} {w w' : World} {base : Nat} {v : Value} {A : List α} (h : OwnF f e k w base v A) (fr : Frm S w w') (hS : ∀ r ∈ S, Apt w e r ∨ ∀ q, v.ownBlock = Option.some q → r ≠ Option.some q) : OwnF f e k w' base v A :=
  h.frm fr (fun q c hq hc r hr e2 => by
    rcases hS r hr with h1 | h1
    · exact h1 q c e2 hc
    · exact h1 q hq e2)
theorem OwnI.frmT {S : List (Option Nat)} {w w' : World} {base : Nat} {v : Value} {l : List Int} (h : OwnI w base v l) (fr : Frm S w w') (hS : ∀ r ∈ S, Apt w 3 r) : OwnI w' base v l :=
  h.frm fr (fun q c hc r hr e2 => hS r hr q c e2 hc)
theorem Frm.block {S : List (Option Nat)} {w w' : World} {p : Nat} {c : Array Value} {t : TypeId} (fr : Frm S w w') (h : w.heap[p]? = some (.cells c t)) (hS : ∀ r ∈ S, Apt w t r) : w'.heap[p]? = some (.cells c t) :=
  (fr.keep p (lt_of_block h) (fun r hr e => hS r hr p c e h)).trans h
theorem Frm.toBelow {S : List (Option Nat)} {w w' : World} {base : Nat} (fr : Frm S w w') (hb : base ≤ w.heap.size) (hS : ∀ r ∈ S, ∀ q, r = some q → base ≤ q) : Below base w w' :=
  ⟨fr.os, fr.tape, fr.output, fr.size, fun k hk => fr.keep k (by omega) (fun r hr e => by have := hS r hr k e; omega)⟩

section
variable {w w1 : World} {base p : Nat} {v0 v1 : Value} {a b : Int} {vM vE vF : Value} {Ms : List (List Int × Value)} {Es : List (List (Int × Int) × Value)} {F : List (Int × Int)}

theorem HOwn.kept {w' : World} (h : HOwn w base p v0 v1 a b vM vE vF Ms Es F) (hb : Below w.heap.size w w') : HOwn w' base p v0 v1 a b vM vE vF Ms Es F :=
  ⟨(hb.block p (lt_of_block h.box)).trans h.box, h.hp, OwnF.kept h.rowM hb, fun x hx => (h.marks x hx).kept hb (Nat.le_refl _), h.grid.kept hb, OwnF.kept h.rowF hb, h.apartF⟩
theorem HOwn.le (h : HOwn w base p v0 v1 a b vM vE vF Ms Es F) : base ≤ w.heap.size := Nat.le_trans h.hp (Nat.le_of_lt (lt_of_block h.box))

/-- What a store leaves of all that is no part of what it changes. -/
def HKeep (base : Nat) (w w' : World) : Prop := Below base w w' ∧ ∀ base' v l, OwnI w base' v l → OwnI w' base' v l

/-- A marking more. -/
theorem HOwn.pushM (h : HOwn w base p v0 v1 a b vM vE vF Ms Es F) {m : List Int} {v u : Value} (hg : w.grownBy w1 vM.ownBlock) (rM : RowM w1 base u (Ms ++ [(m, v)])) (hm : OwnI w base v m) :
    HOwn (w1.setCell ⟨p, 4, none⟩ u) base p v0 v1 a b u vE vF (Ms ++ [(m, v)]) Es F ∧ HKeep base w (w1.setCell ⟨p, 4, none⟩ u) := by
  have f1 : Frm [vM.ownBlock, some p] w w1 := (Frm.refl _ w).grown hg (by simp)
  have f2 := f1.grown (grownBy_setCell w1 p 4 u) (by simp)
  have hp1 : w1.heap[p]? = some (.cells (hCells v0 v1 a b vM vE vF) 45) := lit_other h.box h.rowM (by decide) hg
  have aI : ∀ r ∈ [vM.ownBlock, some p], Apt w 3 r := by
    intro r hr
    simp only [List.mem_cons, List.mem_nil_iff, or_false] at hr
    rcases hr with rfl | rfl
    · exact OwnF.apt h.rowM (by decide)
    · exact apt_box h.box (by decide)
  have aE : ∀ r ∈ [vM.ownBlock, some p], Apt w 80 r := by
    intro r hr
    simp only [List.mem_cons, List.mem_nil_iff, or_false] at hr
    rcases hr with rfl | rfl
    · exact OwnF.apt h.rowM (by decide)
    · exact apt_box h.box (by decide)
  have aX : ∀ r ∈ [vM.ownBlock, some p], Apt w 43 r := by
    intro r hr
    simp only [List.mem_cons, List.mem_nil_iff, or_false] at hr
    rcases hr with rfl | rfl
    · exact OwnF.apt h.rowM (by decide)
    · exact apt_box h.box (by decide)
  have toI : ∀ base' v l, OwnI w base' v l → OwnI (w1.setCell ⟨p, 4, none⟩ u) base' v l := fun base' v l hv => hv.frmT f2 aI
  refine ⟨⟨box_set (i := 4) hp1 u, h.hp, row_box rM hp1 (by decide) u, ?_, ⟨OwnF.frmT h.grid.row f2 (fun r hr => Or.inl (aX r hr)), fun x hx => OwnF.frmT (h.grid.own x hx) f2 (fun r hr => Or.inl (aE r hr)), h.grid.apart⟩, OwnF.frmT h.rowF f2 (fun r hr => Or.inl (aE r hr)), h.apartF⟩, f2.toBelow h.le ?_, toI⟩
  · intro x hx
    rcases List.mem_append.1 hx with hx | hx
    · exact toI _ _ _ (h.marks x hx)
    · obtain rfl : x = (m, v) := by simpa using hx
      exact toI _ _ _ hm
  · intro r hr q hq
    simp only [List.mem_cons, List.mem_nil_iff, or_false] at hr
    rcases hr with rfl | rfl
    · exact (OwnF.ty h.rowM hq).2
    · obtain rfl := Option.some.inj hq; exact h.hp

/-- An empty row of edges more. -/
theorem HOwn.pushE (h : HOwn w base p v0 v1 a b vM vE vF Ms Es F) {u : Value} (hg : w.grownBy w1 vE.ownBlock) (rE : OwnF cell1 43 1 w1 base u (Es ++ [([], .slice none 0 0)])) :
    HOwn (w1.setCell ⟨p, 5, none⟩ u) base p v0 v1 a b vM u vF Ms (Es ++ [([], .slice none 0 0)]) F ∧ HKeep base w (w1.setCell ⟨p, 5, none⟩ u) := by
  have f1 : Frm [vE.ownBlock, some p] w w1 := (Frm.refl _ w).grown hg (by simp)
  have f2 := f1.grown (grownBy_setCell w1 p 5 u) (by simp)
  have hp1 : w1.heap[p]? = some (.cells (hCells v0 v1 a b vM vE vF) 45) := lit_other h.box h.grid.row (by decide) hg
  have ap : ∀ e : TypeId, 43 ≠ e → 45 ≠ e → ∀ r ∈ [vE.ownBlock, some p], Apt w e r := by
    intro e h1 h2 r hr
    simp only [List.mem_cons, List.mem_nil_iff, or_false] at hr
    rcases hr with rfl | rfl
    · exact OwnF.apt h.grid.row h1
    · exact apt_box h.box h2
  have toI : ∀ base' v l, OwnI w base' v l → OwnI (w1.setCell ⟨p, 5, none⟩ u) base' v l := fun base' v l hv => hv.frmT f2 (ap _ (by decide) (by decide))
  refine ⟨⟨box_set (i := 5) hp1 u, h.hp, OwnF.frmT h.rowM f2 (fun r hr => Or.inl (ap _ (by decide) (by decide) r hr)), fun x hx => toI _ _ _ (h.marks x hx), ⟨row_box rE hp1 (by decide) u, ?_, ?_⟩, OwnF.frmT h.rowF f2 (fun r hr => Or.inl (ap _ (by decide) (by decide) r hr)), ?_⟩, f2.toBelow h.le ?_, toI⟩
  · intro x hx
    rcases List.mem_append.1 hx with hx | hx
    · exact OwnF.frmT (h.grid.own x hx) f2 (fun r hr => Or.inl (ap _ (by decide) (by decide) r hr))
    · obtain rfl : x = ([], .slice none 0 0) := by simpa using hx
      exact OwnF.nil _ _
  · refine List.pairwise_append.2 ⟨h.grid.apart, by simp, ?_⟩
    intro x _ y hy q _ e
    obtain rfl : y = ([], .slice none 0 0) := by simpa using hy
    cases e
  · intro x hx q hq
    rcases List.mem_append.1 hx with hx | hx
    · exact h.apartF x hx q hq
    · obtain rfl : x = ([], .slice none 0 0) := by simpa using hx
      cases hq
  · intro r hr q hq
    simp only [List.mem_cons, List.mem_nil_iff, or_false] at hr
    rcases hr with rfl | rfl
    · exact (OwnF.ty h.grid.row hq).2
    · obtain rfl := Option.some.inj hq; exact h.hp

/-- One more by which a marking was found. -/
theorem HOwn.pushF (h : HOwn w base p v0 v1 a b vM vE vF Ms Es F) {x : Int × Int} {u : Value} (hg : w.grownBy w1 vF.ownBlock) (rF : RowR w1 base u (F ++ [x])) (hat : u.ownBlock = vF.ownBlock ∨ ∃ q, u.ownBlock = some q ∧ w.heap.size ≤ q) :
    HOwn (w1.setCell ⟨p, 6, none⟩ u) base p v0 v1 a b vM vE u Ms Es (F ++ [x]) ∧ HKeep base w (w1.setCell ⟨p, 6, none⟩ u) := by
  have f1 : Frm [vF.ownBlock, some p] w w1 := (Frm.refl _ w).grown hg (by simp)
  have f2 := f1.grown (grownBy_setCell w1 p 6 u) (by simp)
  have hp1 : w1.heap[p]? = some (.cells (hCells v0 v1 a b vM vE vF) 45) := lit_other h.box h.rowF (by decide) hg
  have ap : ∀ e : TypeId, 80 ≠ e → 45 ≠ e → ∀ r ∈ [vF.ownBlock, some p], Apt w e r := by
    intro e h1 h2 r hr
    simp only [List.mem_cons, List.mem_nil_iff, or_false] at hr
    rcases hr with rfl | rfl
    · exact OwnF.apt h.rowF h1
    · exact apt_box h.box h2
  have toI : ∀ base' v l, OwnI w base' v l → OwnI (w1.setCell ⟨p, 6, none⟩ u) base' v l := fun base' v l hv => hv.frmT f2 (ap _ (by decide) (by decide))
  refine ⟨⟨box_set (i := 6) hp1 u, h.hp, OwnF.frmT h.rowM f2 (fun r hr => Or.inl (ap _ (by decide) (by decide) r hr)), fun x hx => toI _ _ _ (h.marks x hx), ⟨OwnF.frmT h.grid.row f2 (fun r hr => Or.inl (ap _ (by decide) (by decide) r hr)), ?_, h.grid.apart⟩, row_box rF hp1 (by decide) u, ?_⟩, f2.toBelow h.le ?_, toI⟩
  · intro y hy
    refine OwnF.frmT (h.grid.own y hy) f2 (fun r hr => ?_)
    simp only [List.mem_cons, List.mem_nil_iff, or_false] at hr
    rcases hr with rfl | rfl
    · exact Or.inr (fun q hq => h.apartF y hy q hq)
    · exact Or.inl (apt_box h.box (by decide))
  · intro y hy q hq e
    rcases hat with h2 | ⟨q2, h2, h3⟩
    · rw [h2] at e; exact h.apartF y hy q hq e
    · rw [h2] at e
      obtain rfl := Option.some.inj e
      obtain ⟨⟨c, hc⟩, _⟩ := OwnF.ty (h.grid.own y hy) hq
      have := lt_of_block hc
      omega
  · intro r hr q hq
    simp only [List.mem_cons, List.mem_nil_iff, or_false] at hr
    rcases hr with rfl | rfl
    · exact (OwnF.ty h.rowF hq).2
    · obtain rfl := Option.some.inj hq; exact h.hp

/-- An edge more. -/
theorem HOwn.addE {gE nE cE : Nat} (h : HOwn w base p v0 v1 a b vM (.slice (some ⟨gE, 0, none⟩) nE cE) vF Ms Es F) {i : Nat} (hi : i < Es.length) {x : Int × Int} {u : Value} (hg : w.grownBy w1 Es[i].2.ownBlock) (h1 : RowR w1 base u (Es[i].1 ++ [x]))
    (hat : u.ownBlock = Es[i].2.ownBlock ∨ ∃ q, u.ownBlock = some q ∧ w.heap.size ≤ q) :
    HOwn (w1.setCell ⟨gE, i, none⟩ u) base p v0 v1 a b vM (.slice (some ⟨gE, 0, none⟩) nE cE) vF Ms (Es.set i (Es[i].1 ++ [x], u)) F ∧ HKeep base w (w1.setCell ⟨gE, i, none⟩ u) := by
  have hpush := h.grid.push hi (by decide) hg h1 hat
  have hEi : RowR w base Es[i].2 Es[i].1 := h.grid.own _ (List.getElem_mem hi)
  obtain ⟨cE', hcE, hgE, _⟩ := OwnF.block h.grid.row
  have f1 : Frm [Es[i].2.ownBlock, some gE] w w1 := (Frm.refl _ w).grown hg (by simp)
  have f2 := f1.grown (grownBy_setCell w1 gE i u) (by simp)
  have ap : ∀ e : TypeId, 80 ≠ e → 43 ≠ e → ∀ r ∈ [Es[i].2.ownBlock, some gE], Apt w e r := by
    intro e h1 h2 r hr
    simp only [List.mem_cons, List.mem_nil_iff, or_false] at hr
    rcases hr with rfl | rfl
    · exact OwnF.apt hEi h1
    · exact apt_box hcE h2
  have toI : ∀ base' v l, OwnI w base' v l → OwnI (w1.setCell ⟨gE, i, none⟩ u) base' v l := fun base' v l hv => hv.frmT f2 (ap _ (by decide) (by decide))
  refine ⟨⟨f2.block h.box (ap _ (by decide) (by decide)), h.hp, OwnF.frmT h.rowM f2 (fun r hr => Or.inl (ap _ (by decide) (by decide) r hr)), fun x hx => toI _ _ _ (h.marks x hx), hpush, ?_, ?_⟩, f2.toBelow h.le ?_, toI⟩
  · refine OwnF.frmT h.rowF f2 (fun r hr => ?_)
    simp only [List.mem_cons, List.mem_nil_iff, or_false] at hr
    rcases hr with rfl | rfl
    · exact Or.inr (fun q hq e => h.apartF _ (List.getElem_mem hi) q e hq)
    · exact Or.inl (apt_box hcE (by decide))
  · intro y hy q hq e
    obtain ⟨j, hj, rfl⟩ := List.getElem_of_mem hy
    rw [List.length_set] at hj
    rw [List.getElem_set] at hq
    by_cases e2 : i = j
    · rw [if_pos e2] at hq
      have hq' : u.ownBlock = some q := hq
      rcases hat with h2 | ⟨q2, h2, h3⟩
      · rw [h2] at hq'
        exact h.apartF _ (List.getElem_mem hi) q hq' e
      · rw [h2] at hq'
        obtain rfl := Option.some.inj hq'
        obtain ⟨⟨c, hc⟩, _⟩ := OwnF.ty h.rowF e
        have := lt_of_block hc
        omega
    · rw [if_neg e2] at hq
      exact h.apartF _ (List.getElem_mem hj) q hq e
  · intro r hr q hq
    simp only [List.mem_cons, List.mem_nil_iff, or_false] at hr
    rcases hr with rfl | rfl
    · exact (OwnF.ty hEi hq).2
    · obtain rfl := Option.some.inj hq; exact hgE

theorem HOwn.readM (h : HOwn w base p v0 v1 a b vM vE vF Ms Es F) (hl : Ms.length ≤ 4096) (hr : ∀ x ∈ Ms, x.1.length ≤ 4096) : VCol Ints w w.heap.size vM (Ms.map Prod.fst) := by
  obtain ⟨aM, cM, rfl⟩ := OwnF.shape h.rowM
  refine ⟨aM, cM, by simp, by simpa using hl, fun i hi => ?_⟩
  have hi' : i < Ms.length := by simpa using hi
  obtain ⟨gM, rfl, _, _, hlt⟩ := OwnF.some h.rowM (by omega)
  have := OwnF.at cellM_len h.rowM (i := i) hi' (j := 0) (by omega)
  rw [Nat.mul_one, Nat.add_zero] at this
  refine ⟨gM, 0, Ms[i].2, rfl, hlt, by rw [Nat.zero_add]; exact this, ?_⟩
  rw [List.getElem_map]
  exact (h.marks _ (List.getElem_mem hi')).col (by have := hr _ (List.getElem_mem hi'); omega) (Nat.le_refl _)
theorem HOwn.readE (h : HOwn w base p v0 v1 a b vM vE vF Ms Es F) (hl : Es.length ≤ 4096) (hr : ∀ x ∈ Es, x.1.length ≤ 8192) : VCol Prs w w.heap.size vE (Es.map Prod.fst) := by
  obtain ⟨aE, cE, rfl⟩ := OwnF.shape h.grid.row
  refine ⟨aE, cE, by simp, by simpa using hl, fun i hi => ?_⟩
  have hi' : i < Es.length := by simpa using hi
  obtain ⟨gE, rfl, _, _, hlt⟩ := OwnF.some h.grid.row (by omega)
  have := OwnF.at cell1_len h.grid.row (i := i) hi' (j := 0) (by omega)
  rw [Nat.mul_one, Nat.add_zero] at this
  refine ⟨gE, 0, Es[i].2, rfl, hlt, by rw [Nat.zero_add]; exact this, ?_⟩
  rw [List.getElem_map]
  obtain ⟨a2, c2, e2⟩ := OwnF.shape (h.grid.own _ (List.getElem_mem hi'))
  have h2 := h.grid.own _ (List.getElem_mem hi')
  rw [e2] at h2
  rw [e2]
  exact ⟨a2, c2, rfl, by have := hr _ (List.getElem_mem hi'); omega, OwnF.cap h2, OwnF.col cellE_len h2 (Nat.le_refl _)⟩
end

/-- The document's graph as it stands. -/
def RgR (w : World) (B p nt : Nat) (g : Gr) : Prop :=
  ∃ v0 a1 c1 x y vM vE vF, w.heap[p]? = some (.cells (hCells v0 (.slice a1 nt c1) x y vM vE vF) 45) ∧ p < B ∧ VCol Ints w B vM g.marks ∧ VCol Prs w B vE g.edges ∧ Prs w B vF g.src ∧ nt ≤ 8192
theorem RgR.mono {w w' : World} {B B' p nt : Nat} {g : Gr} (h : RgR w B p nt g) (hb : Below B w w') (hB : B ≤ B') : RgR w' B' p nt g := by
  obtain ⟨v0, a1, c1, x, y, vM, vE, vF, h1, h2, h3, h4, h5, h6⟩ := h
  exact ⟨v0, a1, c1, x, y, vM, vE, vF, (hb.block p h2).trans h1, by omega, VCol.mono (R := Ints) (fun a b c => ColV.mono a b c) h3 hb hB, VCol.mono (R := Prs) (fun a b c => Prs.mono a b c) h4 hb hB, h5.mono hb hB, h6⟩
theorem hbox {w : World} {p : Nat} {v0 v1 : Value} {a b : Int} {vM vE vF : Value} {t : TypeId} {fr : Nat × Nat} (h : w.heap[p]? = some (.cells (hCells v0 v1 a b vM vE vF) t fr)) :
    w.cell? ⟨p, 1, none⟩ = some v1 ∧ w.cell? ⟨p, 4, none⟩ = some vM ∧ w.cell? ⟨p, 5, none⟩ = some vE ∧ w.cell? ⟨p, 6, none⟩ = some vF := by
  refine ⟨?_, ?_, ?_, ?_⟩ <;> (rw [cell_of_block h]; rfl)

end Go.Proofs.YtapnkkoplnhleaaDoor

/- (*tollgateref17.Graph).Find: the number of a marking. -/
namespace Go.Proofs.YtapnkkoplnhleaaDoor
open Go.RowKit

theorem refcmp_dr {x : Int} (w : World) (B : Nat) (va vb : Value) (a b : List Int) (ha : Ints w B va a) (hb : Ints w B vb b) (h : cmpL a b = x) :
    Calls Tryd.prog 22 #[va, vb] w fun e w' => e = .returned (.int .i64 x) ∧ ∃ n, w' = w.drewN n := by
  rw [← h]
  exact refcmp_any w B va vb a b ha hb
theorem findM_first {l : List (List Int)} {m : List Int} {k : Nat} (hk : k < l.length) (he : l[k] = m) (hno : ∀ j (hj : j < l.length), j < k → l[j] ≠ m) : findM l m = (k : Int) := by
  have h0 : 0 ≤ findM l m := findM_mem (by rw [← he]; exact List.getElem_mem hk)
  obtain ⟨i, hi, e, e2, e3⟩ := findM_at h0
  rw [e]
  by_cases h1 : i < k
  · exact absurd e2 (hno i hi h1)
  · by_cases h2 : k < i
    · exact absurd he (e3 k h2)
    · have : i = k := by omega
      rw [this]
theorem findM_none {l : List (List Int)} {m : List Int} (hno : ∀ j (hj : j < l.length), l[j] ≠ m) : findM l m = -1 := by
  by_cases h0 : 0 ≤ findM l m
  · obtain ⟨i, hi, e, e2, e3⟩ := findM_at h0
    exact absurd e2 (hno i hi)
  · have := findM_range l m
    omega
theorem reffind_any (w : World) (B p : Nat) (vM vm : Value) (l : List (List Int)) (m : List Int) (hc : w.cell? ⟨p, 4, none⟩ = some vM) (hV : VCol Ints w B vM l) (hm : Ints w B vm m) :
    Calls Tryd.prog 17 #[.pointer (some ⟨p, 0, none⟩), vm] w fun e w' => e = .returned (.int .i64 (findM l m)) ∧ ∃ n, w' = w.drewN n := by
  obtain ⟨aM, cM, rfl⟩ := hV.val
  obtain ⟨am, cm, rfl⟩ := hm.val
  have hl := hV.len
  go_enter Tryd.func17, Tryd.ntmps17
  go_wp2_with fail
  go_loopg [5] l.length (fun gh s5 wr => ∃ (k n : Nat), k + gh = l.length ∧ s5 = .int .i64 (k : Int) ∧ Hid (∀ j (hj : j < l.length), j < k → l[j] ≠ m) ∧ wr = w.drewN n)
  case atStart => exact ⟨0, 0, by omega, rfl, fun j _ h => by omega, rfl⟩
  case round =>
    obtain ⟨k, n, hkg, rfl, hall, rfl⟩ := hrel
    by_cases hk : k < l.length
    · obtain ⟨b, o, u, rfl, _, hcu, hu⟩ := hV.at k hk
      have hfirst := Lib.hid (fun e => findM_first (m := m) hk e hall.out)
      have hnext := Lib.hid (fun (e : l[k] ≠ m) => (fun j hj hjk => by
        by_cases e2 : j < k
        · exact hall.out j hj e2
        · obtain rfl : j = k := by omega
          exact e : ∀ j (hj : j < l.length), j < k + 1 → l[j] ≠ m))
      obtain ⟨x, hx⟩ : ∃ x, l[k] = x := ⟨_, rfl⟩
      rw [hx] at hu hfirst hnext
      clear hx
      obtain ⟨au, cu, rfl⟩ := hu.val
      have hu' := hu.drewN n
      have hm' := hm.drewN n
      by_cases he : x = m
      · have HC := Lib.hid (refcmp_dr (w.drewN n) B _ _ x m hu' hm' (cmpL_eq_zero.2 he))
        have Hf := Lib.hid (hfirst.out he)
        clear he hfirst hnext
        go_wp2_with (go_at_call 22; go_must (refine HC.out.mono ?_; rintro e w4 ⟨rfl, nd2, rfl⟩))
        go_ret
        exact ⟨ret_int Hf.out.symm, _, rfl⟩
      · obtain ⟨c, hcc⟩ : ∃ c, cmpL x m = c := ⟨_, rfl⟩
        have hc0 : (c == 0) = false := by
          have : c ≠ 0 := fun e => he (cmpL_eq_zero.1 (hcc.trans e))
          simpa using this
        have HC := Lib.hid (refcmp_dr (w.drewN n) B _ _ x m hu' hm' hcc)
        have Hn := Lib.hid (hnext.out he)
        clear he hcc hfirst hnext
        go_wp2_with (go_at_call 22; go_must (refine HC.out.mono ?_; rintro e w4 ⟨rfl, nd2, rfl⟩))
        go_roundg (gk - 1)
        case measure => omega
        case rel => exact ⟨k + 1, _, by omega, by go_num, Hn, rfl⟩
    · have Hf := Lib.hid (findM_none (l := l) (m := m) (fun j hj => hall.out j hj (by omega)))
      go_wp2_with fail
      go_ret
      exact ⟨ret_int Hf.out.symm, n, rfl⟩
theorem reffind_is (w : World) (B p : Nat) (vM vm : Value) (l : List (List Int)) (m : List Int) (hc : w.cell? ⟨p, 4, none⟩ = some vM) (hV : VCol Ints w B vM l) (hm : Ints w B vm m) {t : Int} (ht : findM l m = t) :
    Calls Tryd.prog 17 #[.pointer (some ⟨p, 0, none⟩), vm] w fun e w' => e = .returned (.int .i64 t) ∧ ∃ n, w' = w.drewN n := by
  rw [← ht]; exact reffind_any w B p vM vm l m hc hV hm

end Go.Proofs.YtapnkkoplnhleaaDoor
