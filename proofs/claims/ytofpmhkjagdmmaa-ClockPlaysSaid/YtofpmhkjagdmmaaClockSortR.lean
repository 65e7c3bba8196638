/- A row of entries as the kit's sort reads and lays it; the comparing in the sort's words; Next. -/
import Derived.Test.YtofpmhkjagdmmaaClockSet
import Derived.Shelf.SlSortCmp.InsertionK
set_option maxRecDepth 100000
namespace Go.Proofs.Ytofpmhkjagdmmaa
open Go.RowKit Go.Sort

theorem flat_cellsE (l : List Ent) : flatK cellE 5 l.toArray = (cellsE l).toArray := by
  refine ext_get! (by simp [cellsE_len]) fun t ht => ?_
  have ht' : t < l.length * 5 := by simpa using ht
  rw [get_flatK _ _ _ t (by simpa using ht')]
  have h1 : t / 5 < l.length := by omega
  have h2 := cellsE_at l (t / 5) (t % 5) h1 (by omega)
  rw [show t / 5 * 5 + t % 5 = t by omega] at h2
  rw [getElem!_pos l.toArray (t / 5) (by simpa using h1)]
  have h3 : (t % 5) < (cellE l[t / 5]).length := by show t % 5 < 5; omega
  rw [getElem!_pos (cellE l.toArray[t / 5]) (t % 5) (by show t % 5 < 5; omega), getElem!_pos (cellsE l).toArray t (by simp [cellsE_len]; omega)]
  rw [List.getElem?_eq_getElem (by rw [cellsE_len]; exact ht'), List.getElem?_eq_getElem h3] at h2
  injection h2 with h2
  simpa using h2.symm

theorem Row.holds {w : World} {base g cap : Nat} {l : List Ent} (h : Row w base (.slice (some ⟨g, 0, none⟩) l.length cap) l) : HoldsK cellE 5 w g 0 l.toArray := by
  unfold HoldsK
  rw [flat_cellsE]
  intro j hj
  have hj' : j < (cellsE l).length := by simpa using hj
  refine ⟨?_, World.ownsRow.frozenAt h _⟩
  have := World.ownsRow.cells h rfl j (cellsE l)[j] (List.getElem?_eq_getElem hj')
  rw [add_addr] at this
  rw [this, getElem!_pos _ j (by simpa using hj')]
  simp

theorem sort_row {w : World} {base g cap m : Nat} {l : List Ent} {d : Array Ent} {os : Array Obj} (h : Row w base (.slice (some ⟨g, 0, none⟩) l.length cap) l) (hd : d.size = l.length) :
    Row (sortWorldK cellE 5 w g 0 m d os) base (.slice (some ⟨g, 0, none⟩) l.length cap) d.toList ∧ Frm [some g] w (sortWorldK cellE 5 w g 0 m d os) := by
  have hfl : flatK cellE 5 d = (cellsE d.toList).toArray := by
    have := flat_cellsE d.toList
    simpa using this
  have hlen : (cellsE d.toList).length = l.length * 5 := by rw [cellsE_len]; simp [hd]
  constructor
  · rcases h.2 with ⟨e0, _⟩ | ⟨g', cap', cur, e0, hb, hg, hn, hm, hs, ht⟩
    · cases e0
    · injection e0 with e1 _ e3
      injection e1 with e1
      injection e1 with e1
      subst e1; subst e3
      have hgl := lt_of_block hg
      show World.ownsRow _ _ _ _ _ d.toList.length (cellsE d.toList)
      refine ⟨by rw [hlen]; simp [hd], .inr ⟨g, cap, putCells id 0 (cellsE d.toList).toArray cur, ?_, hb, ?_, by simp [hd]; omega, hm, by simpa [putCells] using hs, ?_⟩⟩
      · simp [hd]
      · unfold sortWorldK putRowK putRow mapBlock grow
        rw [hfl]
        simp only [Sort.ahead]
        rw [Array.getElem?_append_left (by simpa using hgl)]
        simp [Array.getElem?_modify, hg, onCells]
      · apply List.ext_getElem?
        intro j
        rw [List.getElem?_take, Array.getElem?_toList]
        have hdl : d.toList.length = l.length := by simp [hd]
        rw [hdl]
        by_cases hj : j < l.length * 5
        · have hjc : j < cur.size := by omega
          simp only [if_pos hj, putCells, Array.getElem?_mapIdx, Array.getElem?_eq_getElem hjc, Option.map_some]
          rw [if_pos (by simp; omega), List.getElem?_eq_getElem (by omega), getElem!_pos _ _ (by simp; omega)]
          simp
        · rw [if_neg hj, List.getElem?_eq_none (by omega)]
  · refine ⟨rfl, rfl, rfl, ?_, fun k hk hr => ?_⟩
    · unfold sortWorldK putRowK putRow mapBlock grow
      simp [Sort.ahead]
    · have hne : g ≠ k := fun e => hr (some g) (by simp) (by rw [e])
      unfold sortWorldK putRowK putRow mapBlock grow
      simp only [Sort.ahead]
      rw [Array.getElem?_append_left (by simpa using hk)]
      simp [Array.getElem?_modify, hne]

set_option maxHeartbeats 2000000 in
theorem ent_cmpG (w : World) (e f : Ent) : Calls Try.prog 33 #[valE e, valE f] w fun r w' => r = .returned (.int .i64 (cmpEnt e f)) ∧ ∃ q os, w' = grow (w.drewN q) os := by
  obtain ⟨⟨ed, et, ev, ei⟩, en⟩ := e
  obtain ⟨⟨fd, ft, fv, fi⟩, fn⟩ := f
  have hb1 := (Below.refl w.heap.size w).alloc (Nat.le_refl _) (.cells #[.int .i64 ed, .int .i64 et, .string ev, .int .i64 ei, .int .i64 en] 67)
  have hx1 := heap_alloc_new w (.cells #[.int .i64 ed, .int .i64 et, .string ev, .int .i64 ei, .int .i64 en] 67)
  obtain ⟨w1, hw1⟩ : ∃ w1, w.alloc (.cells #[.int .i64 ed, .int .i64 et, .string ev, .int .i64 ei, .int .i64 en] 67) = w1 := ⟨_, rfl⟩
  have hs1 : w1.heap.size = w.heap.size + 1 := by rw [← hw1]; exact World.size_alloc _ _
  rw [hw1] at hb1 hx1
  have hb2 := (Below.refl w1.heap.size w1).alloc (Nat.le_refl _) (.cells #[.int .i64 fd, .int .i64 ft, .string fv, .int .i64 fi, .int .i64 fn] 67)
  have hx2 := heap_alloc_new w1 (.cells #[.int .i64 fd, .int .i64 ft, .string fv, .int .i64 fi, .int .i64 fn] 67)
  have hx1' := (hb2.block _ (by omega)).trans hx1
  obtain ⟨w2, hw2⟩ : ∃ w2, w1.alloc (.cells #[.int .i64 fd, .int .i64 ft, .string fv, .int .i64 fi, .int .i64 fn] 67) = w2 := ⟨_, rfl⟩
  have hs2 : w2.heap.size = w1.heap.size + 1 := by rw [← hw2]; exact World.size_alloc _ _
  rw [hw2] at hb2 hx2 hx1'
  obtain ⟨a0, a1, a2, a3, a4⟩ := box5 hx1'
  obtain ⟨b0, b1, b2, b3, b4⟩ := box5 hx2
  have B2 := hb1.trans (hb2.mono (by omega))
  have g0 : w.heap.size < w2.heap.size := by omega
  have g1 : w1.heap.size < w2.heap.size := by omega
  have HW1 := Lib.hid hw1
  have HW2 := Lib.hid hw2
  clear hx1 hx1' hx2 hb1 hb2 hs1 hs2 a2 a3 b2 b3
  go_enter Try.func33, Try.ntmps33
  go_wp2_with fail
  clear hw1 hw2
  go_region_held3 (fun w' => w'.cell? ⟨w.heap.size, 0, none⟩ = some (.int .i64 ed) ∧ w'.cell? ⟨w.heap.size, 1, none⟩ = some (.int .i64 et) ∧ w'.cell? ⟨w.heap.size, 4, none⟩ = some (.int .i64 en) ∧ w'.cell? ⟨w1.heap.size, 0, none⟩ = some (.int .i64 fd) ∧ w'.cell? ⟨w1.heap.size, 1, none⟩ = some (.int .i64 ft) ∧ w'.cell? ⟨w1.heap.size, 4, none⟩ = some (.int .i64 fn))
    (first | go_keep)
    (first | (go_at_call 40; refine (compare_any _ _ _).mono ?_; rintro e w7 ⟨rfl, rfl⟩) | (go_at_call 39; refine (or_any _ _ _ _ _ (show (World.alloc w2 _).drew.heap[w2.heap.size]? = _ from heap_alloc_new w2 _)).mono ?_; rintro e w7 ⟨rfl, rfl⟩))
  go_wp2_with fail
  go_ret
  exact ⟨rfl, 1, _, by rw [← HW2.out, ← HW1.out, alloc_eq_grow, alloc_eq_grow, alloc_eq_grow, grow_grow, grow_grow]; rfl⟩

theorem cmp_lays (blk off size : Nat) (w : World) : CmpLays Try.prog 33 #[] cellE 5 cmpEnt blk off size w :=
  fun _ _ _ _ x y => ent_cmpG _ x y

theorem swo_ent : SWO (ltOf cmpEnt) where
  irrefl x := by
    cases h : ltOf cmpEnt x x with
    | false => rfl
    | true => have c := (ltEnt_iff x x).1 h; exfalso; omega
  trans x y z h1 h2 := by
    have a := (ltEnt_iff x y).1 h1
    have b := (ltEnt_iff y z).1 h2
    exact (ltEnt_iff x z).2 (by omega)
  ntrans x y z h1 h2 := by
    have a : ¬ _ := fun h => by have := (ltEnt_iff x y).2 h; rw [show ltEnt x y = ltOf cmpEnt x y from rfl, h1] at this; cases this
    have b : ¬ _ := fun h => by have := (ltEnt_iff y z).2 h; rw [show ltEnt y z = ltOf cmpEnt y z from rfl, h2] at this; cases this
    cases hc : ltOf cmpEnt x z with
    | false => rfl
    | true => have c := (ltEnt_iff x z).1 hc; exfalso; omega

set_option maxHeartbeats 1000000 in
theorem next_any (w : World) (base p : Nat) (now many : Int) (v : Value) (l : List Ent) (hc : Clk w p now v many) (hr : Row w base v l) (hl : l.length ≤ 1048576) {x : Int} {b : Bool} (hx : (if 0 < l.length then (atL l 0).al.due else 0) = x) (hb : decide (0 < l.length) = b) :
    Calls Try.prog 21 #[.pointer (some ⟨p, 0, none⟩)] w fun r w' => r = .returned (.tuple #[.int .i64 x, .bool b]) ∧ Below w.heap.size w w' := by
  obtain ⟨c0, c1, c2⟩ := box3 hc
  cases l with
  | nil =>
    obtain rfl : (0 : Int) = x := by rw [← hx]; rfl
    obtain rfl : false = b := by rw [← hb]; rfl
    obtain ⟨a, cap, rfl⟩ := hr.shape
    go_enter Try.func21, Try.ntmps21
    go_wp2_with fail
    go_ret2
    exact ⟨rfl, Below.refl _ _⟩
  | cons e l =>
    obtain rfl : e.al.due = x := by rw [← hx]; rfl
    obtain rfl : true = b := by rw [← hb]; rfl
    rcases hr.own with ⟨rfl, h0⟩ | ⟨g, cap, rfl, hg, hgl⟩
    · cases h0
    · obtain ⟨q0, -⟩ := (Row.at hr (i := 0) (by simp))
      rw [show atL (e :: l) 0 = e from rfl, Nat.zero_mul] at q0
      obtain ⟨n, hn, hn0⟩ : ∃ n, (e :: l).length = n ∧ 0 < n := ⟨_, rfl, by simp⟩
      obtain ⟨x, hx2⟩ : ∃ x, e.al.due = x := ⟨_, rfl⟩
      rw [hx2] at q0 ⊢
      rw [hn] at c1 hr hc
      have d0 : ((n : Int) == 0) = false := by rw [beq_eq_false_iff_ne]; omega
      clear hn hx hb hx2 hr hc hl
      go_enter Try.func21, Try.ntmps21
      go_wp2_with fail
      go_ret2
      exact ⟨rfl, Below.refl _ _⟩

end Go.Proofs.Ytofpmhkjagdmmaa
