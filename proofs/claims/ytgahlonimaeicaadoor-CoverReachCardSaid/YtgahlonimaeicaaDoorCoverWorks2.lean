/- works is true. -/
import Derived.Test.YtgahlonimaeicaaDoorCoverWorks
set_option maxRecDepth 100000
namespace Go.Proofs.YtgahlonimaeicaaDoor
open Go.RowKit

theorem len_is (w : World) (B p : Nat) (l : List Nd) (h : TreeR w B p l) {t : Int} (ht : (l.length : Int) = t) : Calls Tryd.prog 13 #[.pointer (some ⟨p, 0, none⟩)] w fun e w' => e = .returned (.int .i64 t) ∧ w = w' := by
  rw [← ht]; exact len_any w B p l h
theorem bounded_is (w : World) (B p : Nat) (l : List Nd) (h : TreeR w B p l) (hB : B ≤ w.heap.size) {t : Bool} (ht : boundedB l = t) : Calls Tryd.prog 22 #[.pointer (some ⟨p, 0, none⟩)] w fun e w' => e = .returned (.bool t) ∧ Below w.heap.size w w' := by
  rw [← ht]; exact bounded_any w B p l h hB
theorem node_is (w : World) (B p : Nat) (l : List Nd) (h : TreeR w B p l) (hB : B ≤ w.heap.size) (i : Nat) (hi : i < l.length) {a b c : Int} {m : List Int} (hd : l[i] = ⟨a, b, m, c⟩) {j : Int} (hj : (i : Int) = j) :
    Calls Tryd.prog 14 #[.pointer (some ⟨p, 0, none⟩), .int .i64 j] w fun e w' => ∃ v, e = .returned (.tuple #[.agg #[.int .i64 a, .int .i64 b, v, .int .i64 c], .int .i64 0]) ∧ OwnI w' w.heap.size v m ∧ Below w.heap.size w w' := by
  have := node_any w B p l h hB i hi
  rw [hd] at this
  rw [← hj]; exact this

set_option maxHeartbeats 2000000 in
theorem works_any (w : World) (B : Nat) (hB : B ≤ w.heap.size) (htab : Pow10 B w) : Calls Tryd.prog 10 #[] w fun e w' => e = .returned (.bool true) ∧ Below w.heap.size w w' := by
  go_enter Tryd.func10, Tryd.ntmps10
  go_wp2_with fail
  refine (small_any _).mono ?_
  rintro e w1 ⟨vp, vt, rfl, hn1, hb1⟩
  have t1 := tab_up (htab.on (hb1.mono hB)) (show B ≤ w1.heap.size by have := hb1.size; omega)
  go_wp2_with fail
  refine (grow_ok _ _ (Nat.le_refl _) _ _ smallC hn1 9 t1 small_grows).mono ?_
  rintro e w2 ⟨pa, rfl, ha, -, hb2⟩
  have B2 := hb1.trans (hb2.mono hb1.size)
  clear hn1 t1
  go_wp2_with fail
  refine (moreNet_any _).mono ?_
  rintro e w3 ⟨vp3, vt3, rfl, hn3, hb3⟩
  have B3 := B2.trans (hb3.mono B2.size)
  have t3 := tab_up (htab.on (B3.mono hB)) (show B ≤ w3.heap.size by have := B3.size; omega)
  have ha3 := ha.mono hb3 hb3.size
  go_wp2_with fail
  refine (grow_ok _ _ (Nat.le_refl _) _ _ moreC hn3 9 t3 more_grows).mono ?_
  rintro e w4 ⟨pb, rfl, hb, -, hb4⟩
  have B4 := B3.trans (hb4.mono B3.size)
  have ha4 := ha3.mono hb4 hb4.size
  have hb4' := hb
  clear hn3 t3 ha ha3 hb
  go_wp2_with fail
  refine (node_is _ _ pb moreT hb4' (Nat.le_refl _) 2 (by decide) (a := 1) (b := 1) (c := -1) (m := [0, 1, -1]) rfl rfl).mono ?_
  rintro e w5 ⟨v5, rfl, how5, hb5⟩
  have B5 := B4.trans (hb5.mono B4.size)
  rcases how5.val with ⟨-, h0⟩ | ⟨g5, cap5, rfl, hg50, hg51⟩
  · cases h0
  have hz5 := hb5.size
  obtain ⟨W5, hW5⟩ : ∃ W5, w5.alloc (.cells #[.int .i64 1, .int .i64 1, .slice (some ⟨g5, 0, none⟩) 3 cap5, .int .i64 (-1)] 36) = W5 := ⟨_, rfl⟩
  have hbW5 : Below w5.heap.size w5 W5 := by rw [← hW5]; exact (Below.refl _ _).alloc (Nat.le_refl _) _
  have hsW5 : W5.heap.size = w5.heap.size + 1 := by rw [← hW5]; exact World.size_alloc _ _
  have hxW5 : W5.heap[w5.heap.size]? = some (.cells #[.int .i64 1, .int .i64 1, .slice (some ⟨g5, 0, none⟩) 3 cap5, .int .i64 (-1)] 36) := by rw [← hW5]; exact heap_alloc_new _ _
  have BW5 := B5.trans (hbW5.mono B5.size)
  have h45 : Below w4.heap.size w4 W5 := hb5.trans (hbW5.mono hz5)
  have hbT5 := hb4'.mono h45 (show w4.heap.size ≤ W5.heap.size by omega)
  have haT5 := ha4.mono h45 (show w4.heap.size ≤ W5.heap.size by omega)
  have hc5 := (how5.at (i := 2) (by decide)).1
  rw [← Below.cellB hbW5 hg51] at hc5
  clear how5
  go_wp2_with fail
  refine (node_is _ _ pb moreT hbT5 (Nat.le_refl _) 3 (by decide) (a := 2) (b := 1) (c := 2) (m := [0, 1, -1]) rfl rfl).mono ?_
  rintro e w6 ⟨v6, rfl, how6, hb6⟩
  rcases how6.val with ⟨-, h0⟩ | ⟨g6, cap6, rfl, hg60, hg61⟩
  · cases h0
  have hz6 := hb6.size
  clear hW5
  obtain ⟨W6, hW6⟩ : ∃ W6, w6.alloc (.cells #[.int .i64 2, .int .i64 1, .slice (some ⟨g6, 0, none⟩) 3 cap6, .int .i64 2] 36) = W6 := ⟨_, rfl⟩
  have hbW6 : Below w6.heap.size w6 W6 := by rw [← hW6]; exact (Below.refl _ _).alloc (Nat.le_refl _) _
  have hsW6 : W6.heap.size = w6.heap.size + 1 := by rw [← hW6]; exact World.size_alloc _ _
  have hxW6 : W6.heap[w6.heap.size]? = some (.cells #[.int .i64 2, .int .i64 1, .slice (some ⟨g6, 0, none⟩) 3 cap6, .int .i64 2] 36) := by rw [← hW6]; exact heap_alloc_new _ _
  have h56 : Below W5.heap.size W5 W6 := hb6.trans (hbW6.mono hz6)
  have BW6 := BW5.trans (h56.mono BW5.size)
  have hbT6 := hbT5.mono h56 (show W5.heap.size ≤ W6.heap.size by omega)
  have haT6 := haT5.mono h56 (show W5.heap.size ≤ W6.heap.size by omega)
  rw [← Below.cellB h56 (by omega)] at hc5
  have hxW56 : W6.heap[w5.heap.size]? = some (.cells #[.int .i64 1, .int .i64 1, .slice (some ⟨g5, 0, none⟩) 3 cap5, .int .i64 (-1)] 36) := (h56.block _ (by omega)).trans hxW5
  clear how6
  go_wp2_with (first | (go_at_call 13; refine (len_is _ _ pa smallT haT6 (t := 3) rfl).mono ?_; rintro e w7 ⟨rfl, rfl⟩; refine Hid.out ?_))
  refine Lib.hid ?_
  clear hW6
  go_wp2_with (first | (go_at_call 22; refine (bounded_is _ _ pa smallT haT6 (Nat.le_refl _) (t := true) rfl).mono ?_; rintro e w7 ⟨rfl, hb7⟩; refine Hid.out ?_))
  refine Lib.hid ?_
  have hz7 := hb7.size
  have hbT7 := hbT6.mono hb7 hz7
  go_wp2_with (first | (go_at_call 13; refine (len_is _ _ pb moreT hbT7 (t := 4) rfl).mono ?_; rintro e w8 ⟨rfl, rfl⟩; refine Hid.out ?_))
  refine Lib.hid ?_
  go_wp2_with (first | (go_at_call 22; refine (bounded_is _ _ pb moreT hbT7 (Nat.le_refl _) (t := false) rfl).mono ?_; rintro e w8 ⟨rfl, hb8⟩; refine Hid.out ?_))
  refine Lib.hid ?_
  have h68 : Below W6.heap.size W6 w8 := hb7.trans (hb8.mono hz7)
  have B8 := BW6.trans (h68.mono BW6.size)
  rw [← Below.cellB h68 (by omega)] at hc5
  obtain ⟨x0, x1, x2, x3⟩ := box4 ((h68.block _ (by omega)).trans hxW6)
  obtain ⟨y0, y1, y2, y3⟩ := box4 ((h68.block _ (by omega)).trans hxW56)
  go_wp2_with fail
  go_ret
  exact ⟨rfl, B8⟩

end Go.Proofs.YtgahlonimaeicaaDoor
