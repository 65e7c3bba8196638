/- The walk of the closed law NetNames. -/
import Derived.Test.YtopgakpggnkkmaaLNetNames
import Derived.Deep.RegionLaw
import Derived.Laws.NewBlocks
set_option maxRecDepth 100000
namespace Go.Proofs.Ytopgakpggnkkmaa
open Go.RowKit

theorem lit_ints (w : World) (l : List Int) (hl : l.length ≤ 1000) : Ints (w.alloc (.cells (l.map (Value.int .i64)).toArray 3)) (w.heap.size + 1) (.slice (some ⟨w.heap.size, 0, none⟩) l.length l.length) l := ints_lit (heap_alloc_new _ _) (by omega) (by omega) (Nat.le_refl _)
theorem lit_below (w : World) (o : Obj) : Below w.heap.size w (w.alloc o) := (Below.refl _ _).alloc (Nat.le_refl _) _

theorem row_is (w : World) (B : Nat) (hB : B ≤ w.heap.size) (vp vt vm vr : Value) (n : Nt) (m row : List Int) (hn : NtR w B vp vt n) (hm : Ints w B vm m) (hr : Ints w B vr row) {l : List Int} {k c : Int} (h : n.rowE m row = (l, k, c)) :
    Calls Try.prog 16 #[.agg #[vp, vt, .int .i64 n.init, .int .i64 n.final], vm, vr] w fun e w' => ∃ v, e = .returned (.tuple #[v, .int .i64 k, .int .i64 c]) ∧ OwnI w' w.heap.size v l ∧ Below w.heap.size w w' := by
  have := row_any w vp vt vm vr n m row B hB hn hm hr
  rw [h] at this; exact this
theorem fire_is (w : World) (B : Nat) (hB : B ≤ w.heap.size) (vp vt vm : Value) (n : Nt) (m : List Int) (t : Int) (hn : NtR w B vp vt n) (hm : Ints w B vm m) {l : List Int} {k c : Int} (h : n.rowE m [t] = (l, k, c)) :
    Calls Try.prog 20 #[.agg #[vp, vt, .int .i64 n.init, .int .i64 n.final], vm, .int .i64 t] w fun e w' => ∃ v, e = .returned (.tuple #[v, .int .i64 c]) ∧ OwnI w' w.heap.size v l ∧ Below w.heap.size w w' := by
  have := fireNet_any w vp vt vm n m t B hB hn hm
  rw [h] at this; exact this
theorem en_is (w : World) (B : Nat) (hB : B ≤ w.heap.size) (vp vt vm : Value) (n : Nt) (m : List Int) (hn : NtR w B vp vt n) (hm : Ints w B vm m) {l : List Int} {c : Int} (h : n.markE m = c ∧ n.enL m = l) :
    Calls Try.prog 19 #[.agg #[vp, vt, .int .i64 n.init, .int .i64 n.final], vm] w fun e w' => ∃ v, e = .returned (.tuple #[v, .int .i64 c]) ∧ OwnI w' w.heap.size v l ∧ Below w.heap.size w w' := by
  have := enabledNet_any w vp vt vm n m B hB hn hm
  rw [h.1, h.2] at this; exact this
def BadAt (w : World) (base g : Nat) : Prop := ∀ k, k < 4 → ∃ a n c l, w.cell? ⟨g, k, none⟩ = some (.slice a n c) ∧ OwnI w base (.slice a n c) l ∧ BadL l
def badW (w : World) : World := ((((w.alloc (.cells #[.int .i64 1, .int .i64 0] 3)).alloc (.cells #[.int .i64 0, .int .i64 0] 3)).alloc (.cells #[.int .i64 3] 3)).alloc (.cells #[.int .i64 (-1)] 3)).alloc (.cells #[.slice (some ⟨w.heap.size, 0, none⟩) 2 2, .slice (some ⟨w.heap.size + 1, 0, none⟩) 2 2, .slice (some ⟨w.heap.size + 2, 0, none⟩) 1 1, .slice (some ⟨w.heap.size + 3, 0, none⟩) 1 1] 22)
theorem bad_at (w : World) : BadAt (badW w) w.heap.size (w.heap.size + 4) ∧ Below w.heap.size w (badW w) ∧ (badW w).heap.size = w.heap.size + 5 := by
  have hg : (badW w).heap[w.heap.size + 4]? = some (.cells #[.slice (some ⟨w.heap.size, 0, none⟩) 2 2, .slice (some ⟨w.heap.size + 1, 0, none⟩) 2 2, .slice (some ⟨w.heap.size + 2, 0, none⟩) 1 1, .slice (some ⟨w.heap.size + 3, 0, none⟩) 1 1] 22) := by
    unfold badW; simp only [alloc_get', World.size_alloc]; repeat (first | rfl | rw [if_pos trivial] | rw [if_pos (by omega)] | rw [if_neg (by omega)])
  have h0 : (badW w).heap[w.heap.size]? = some (.cells (([1, 0] : List Int).map (Value.int .i64)).toArray 3) := by
    unfold badW; simp only [alloc_get', World.size_alloc]; repeat (first | rfl | rw [if_pos trivial] | rw [if_pos (by omega)] | rw [if_neg (by omega)])
  have h1 : (badW w).heap[w.heap.size + 1]? = some (.cells (([0, 0] : List Int).map (Value.int .i64)).toArray 3) := by
    unfold badW; simp only [alloc_get', World.size_alloc]; repeat (first | rfl | rw [if_pos trivial] | rw [if_pos (by omega)] | rw [if_neg (by omega)])
  have h2 : (badW w).heap[w.heap.size + 2]? = some (.cells (([3] : List Int).map (Value.int .i64)).toArray 3) := by
    unfold badW; simp only [alloc_get', World.size_alloc]; repeat (first | rfl | rw [if_pos trivial] | rw [if_pos (by omega)] | rw [if_neg (by omega)])
  have h3 : (badW w).heap[w.heap.size + 3]? = some (.cells (([-1] : List Int).map (Value.int .i64)).toArray 3) := by
    unfold badW; simp only [alloc_get', World.size_alloc]; repeat (first | rfl | rw [if_pos trivial] | rw [if_pos (by omega)] | rw [if_neg (by omega)])
  refine ⟨fun k hk => ?_, ?_, by simp [badW]⟩
  · rcases (by omega : k = 0 ∨ k = 1 ∨ k = 2 ∨ k = 3) with rfl | rfl | rfl | rfl
    · exact ⟨_, _, _, _, by rw [cell_of_block hg]; rfl, own_lit h0 (by omega) (by decide), bad_1⟩
    · exact ⟨_, _, _, _, by rw [cell_of_block hg]; rfl, own_lit h1 (by omega) (by decide), bad_2⟩
    · exact ⟨_, _, _, _, by rw [cell_of_block hg]; rfl, own_lit h2 (by omega) (by decide), bad_3⟩
    · exact ⟨_, _, _, _, by rw [cell_of_block hg]; rfl, own_lit h3 (by omega) (by decide), bad_4⟩
  · unfold badW
    repeat (first | exact Below.refl _ _ | refine Below.alloc ?_ (by simp <;> omega) _)
theorem box_kept {w w' : World} {b : Nat} {o : Obj} (h : w.heap[b]? = some o) (hb : Below w.heap.size w w') : w'.heap[b]? = some o := (hb.block b (by
  rcases Nat.lt_or_ge b w.heap.size with h1 | h1
  · exact h1
  · rw [Array.getElem?_eq_none h1] at h; cases h)).trans h

set_option maxHeartbeats 8000000 in
theorem netNames_walk (W : World) : Calls Try.prog 9 #[] W fun e w' => e = .returned (.bool true) ∧ Below W.heap.size W w' := by
  obtain ⟨i1, htr, hr0, hr1, hr2⟩ := info_parts info_tr
  go_enter Try.func9, Try.ntmps9
  go_wp2_with fail
  refine (works_any _).mono ?_
  rintro e w1 ⟨rfl, B1⟩
  go_wp2_with fail
  refine (small_any _).mono ?_
  rintro e w2 ⟨vp2, vt2, rfl, hn2, hb2⟩
  have B2 := B1.trans (hb2.mono B1.size)
  obtain ⟨ap, cp, rfl⟩ := hn2.1.val
  obtain ⟨at_, ct, rfl⟩ := hn2.2.val
  obtain ⟨w3, hw3⟩ : ∃ w3, w2.alloc (.cells #[.slice ap smallN.places.length cp, .slice at_ smallN.trans.length ct, .int .i64 smallN.init, .int .i64 smallN.final] 28) = w3 := ⟨_, rfl⟩
  have hb3 : Below w2.heap.size w2 w3 := by rw [← hw3]; exact lit_below _ _
  have hx3 : w3.heap[w2.heap.size]? = some (.cells #[.slice ap smallN.places.length cp, .slice at_ smallN.trans.length ct, .int .i64 smallN.init, .int .i64 smallN.final] 28) := by rw [← hw3]; exact heap_alloc_new _ _
  have hz3 : w2.heap.size < w3.heap.size := by rw [← hw3]; simp
  have hn3 := hn2.mono hb3 hb3.size
  have B3 := B2.trans (hb3.mono B2.size)
  obtain ⟨x0, x1, x2, x3⟩ := box4' hx3
  obtain ⟨b, hbE⟩ : ∃ b, w2.heap.size = b := ⟨_, rfl⟩
  rw [hbE] at hx3 hz3 x0 x1 x2 x3
  clear hb2 hb3 hn2
  go_wp2_with (first | (go_at_call 23; refine (first_small _ _ _ hn3).mono ?_; rintro e w4 ⟨v4, rfl, ho4, hb4⟩; refine Hid.out ?_))
  refine Lib.hid ?_
  clear hw3 hbE
  have B4 := B3.trans (hb4.mono B3.size)
  have hn4 := hn3.mono hb4 hb4.size
  have hx4 := box_kept hx3 hb4
  have hm4 : Ints w4 w4.heap.size v4 [1, 0, 0] := ho4.col (by simp) (Nat.le_refl _)
  obtain ⟨am, cm, rfl⟩ := hm4.val
  clear x0 x1 x2 x3 hx3 hn3 hz3 ho4 hb4
  obtain ⟨x0, x1, x2, x3⟩ := box4' hx4
  obtain ⟨L5, hL5⟩ : ∃ L, w4.alloc (.cells #[.int .i64 0, .int .i64 0] 3) = L := ⟨_, rfl⟩
  have hl5 : Ints L5 (w4.heap.size + 1) (.slice (some ⟨w4.heap.size, 0, none⟩) 2 2) [0, 0] := by rw [← hL5]; exact lit_ints w4 [0, 0] (by decide)
  have hbl5 : Below w4.heap.size w4 L5 := by rw [← hL5]; exact lit_below _ _
  have hlz5 : w4.heap.size + 1 ≤ L5.heap.size := by rw [← hL5]; simp
  have hl5 := hl5.mono (Below.refl _ _) hlz5
  have hn4' := hn4.mono hbl5 hbl5.size
  have hm4' := hm4.mono hbl5 hbl5.size
  have hx4' := box_kept hx4 hbl5
  have B4' := B4.trans (hbl5.mono B4.size)
  clear hn4 hm4 hx4 B4 hbl5
  go_wp2_with (first | (go_at_call 16; refine (row_is _ _ (Nat.le_refl _) _ _ _ _ smallN _ _ hn4' hm4' hl5 names_row).mono ?_; rintro e w5 ⟨v5, rfl, ho5, hb5⟩; refine Hid.out ?_))
  refine Lib.hid ?_
  have B5 := B4'.trans (hb5.mono B4'.size)
  have hn5 := hn4'.mono hb5 hb5.size
  have hm5 := hm4'.mono hb5 hb5.size
  have hx5 := box_kept hx4' hb5
  obtain ⟨aR5, cR5, rfl⟩ := ho5.shape
  clear x0 x1 x2 x3 hn4' hm4' hx4' B4' ho5 hb5 hl5 hL5 hlz5
  obtain ⟨x0, x1, x2, x3⟩ := box4' hx5
  go_wp2_with (first | (go_at_call 20; refine (fire_is _ _ (Nat.le_refl _) _ _ _ smallN _ 1 hn5 hm5 names_fire1).mono ?_; rintro e w6 ⟨v6, rfl, ho6, hb6⟩; refine Hid.out ?_))
  refine Lib.hid ?_
  have B6 := B5.trans (hb6.mono B5.size)
  have hn6 := hn5.mono hb6 hb6.size
  have hm6 := hm5.mono hb6 hb6.size
  have hx6 := box_kept hx5 hb6
  obtain ⟨aR6, cR6, rfl⟩ := ho6.shape
  clear x0 x1 x2 x3 hn5 hm5 hx5 B5 ho6 hb6
  obtain ⟨x0, x1, x2, x3⟩ := box4' hx6
  go_wp2_with (first | (go_at_call 20; refine (fire_is _ _ (Nat.le_refl _) _ _ _ smallN _ 2 hn6 hm6 names_fire2).mono ?_; rintro e w7 ⟨v7, rfl, ho7, hb7⟩; refine Hid.out ?_))
  refine Lib.hid ?_
  have B7 := B6.trans (hb7.mono B6.size)
  have hn7 := hn6.mono hb7 hb7.size
  have hm7 := hm6.mono hb7 hb7.size
  have hx7 := box_kept hx6 hb7
  obtain ⟨aR7, cR7, rfl⟩ := ho7.shape
  clear x0 x1 x2 x3 hn6 hm6 hx6 B6 ho7 hb7
  obtain ⟨x0, x1, x2, x3⟩ := box4' hx7
  obtain ⟨L8, hL8⟩ : ∃ L, w7.alloc (.cells #[.int .i64 1, .int .i64 0] 3) = L := ⟨_, rfl⟩
  have hl8 : Ints L8 (w7.heap.size + 1) (.slice (some ⟨w7.heap.size, 0, none⟩) 2 2) [1, 0] := by rw [← hL8]; exact lit_ints w7 [1, 0] (by decide)
  have hbl8 : Below w7.heap.size w7 L8 := by rw [← hL8]; exact lit_below _ _
  have hlz8 : w7.heap.size + 1 ≤ L8.heap.size := by rw [← hL8]; simp
  have hl8 := hl8.mono (Below.refl _ _) hlz8
  have hn7' := hn7.mono hbl8 hbl8.size
  have hm7' := hm7.mono hbl8 hbl8.size
  have hx7' := box_kept hx7 hbl8
  have B7' := B7.trans (hbl8.mono B7.size)
  clear hn7 hm7 hx7 B7 hbl8
  go_wp2_with (first | (go_at_call 19; refine (en_is _ _ (Nat.le_refl _) _ _ _ smallN _ hn7' hl8 names_en1).mono ?_; rintro e w8 ⟨v8, rfl, ho8, hb8⟩; refine Hid.out ?_))
  refine Lib.hid ?_
  have B8 := B7'.trans (hb8.mono B7'.size)
  have hn8 := hn7'.mono hb8 hb8.size
  have hm8 := hm7'.mono hb8 hb8.size
  have hx8 := box_kept hx7' hb8
  obtain ⟨aR8, cR8, rfl⟩ := ho8.shape
  clear x0 x1 x2 x3 hn7' hm7' hx7' B7' ho8 hb8 hl8 hL8 hlz8
  obtain ⟨x0, x1, x2, x3⟩ := box4' hx8
  obtain ⟨L9, hL9⟩ : ∃ L, w8.alloc (.cells #[.int .i64 1, .int .i64 0, .int .i64 (-1)] 3) = L := ⟨_, rfl⟩
  have hl9 : Ints L9 (w8.heap.size + 1) (.slice (some ⟨w8.heap.size, 0, none⟩) 3 3) [1, 0, -1] := by rw [← hL9]; exact lit_ints w8 [1, 0, -1] (by decide)
  have hbl9 : Below w8.heap.size w8 L9 := by rw [← hL9]; exact lit_below _ _
  have hlz9 : w8.heap.size + 1 ≤ L9.heap.size := by rw [← hL9]; simp
  have hl9 := hl9.mono (Below.refl _ _) hlz9
  have hn8' := hn8.mono hbl9 hbl9.size
  have hm8' := hm8.mono hbl9 hbl9.size
  have hx8' := box_kept hx8 hbl9
  have B8' := B8.trans (hbl9.mono B8.size)
  clear hn8 hm8 hx8 B8 hbl9
  go_wp2_with (first | (go_at_call 19; refine (en_is _ _ (Nat.le_refl _) _ _ _ smallN _ hn8' hl9 names_en2).mono ?_; rintro e w9 ⟨v9, rfl, ho9, hb9⟩; refine Hid.out ?_))
  refine Lib.hid ?_
  have B9 := B8'.trans (hb9.mono B8'.size)
  have hn9 := hn8'.mono hb9 hb9.size
  have hm9 := hm8'.mono hb9 hb9.size
  have hx9 := box_kept hx8' hb9
  obtain ⟨aR9, cR9, rfl⟩ := ho9.shape
  clear x0 x1 x2 x3 hn8' hm8' hx8' B8' ho9 hb9 hl9 hL9 hlz9
  obtain ⟨x0, x1, x2, x3⟩ := box4' hx9
  obtain ⟨L10, hL10⟩ : ∃ L, w9.alloc (.cells #[.int .i64 1, .int .i64 0, .int .i64 2147483648] 3) = L := ⟨_, rfl⟩
  have hl10 : Ints L10 (w9.heap.size + 1) (.slice (some ⟨w9.heap.size, 0, none⟩) 3 3) [1, 0, 2147483648] := by rw [← hL10]; exact lit_ints w9 [1, 0, 2147483648] (by decide)
  have hbl10 : Below w9.heap.size w9 L10 := by rw [← hL10]; exact lit_below _ _
  have hlz10 : w9.heap.size + 1 ≤ L10.heap.size := by rw [← hL10]; simp
  have hl10 := hl10.mono (Below.refl _ _) hlz10
  have hn9' := hn9.mono hbl10 hbl10.size
  have hm9' := hm9.mono hbl10 hbl10.size
  have hx9' := box_kept hx9 hbl10
  have B9' := B9.trans (hbl10.mono B9.size)
  clear hn9 hm9 hx9 B9 hbl10
  go_wp2_with (first | (go_at_call 19; refine (en_is _ _ (Nat.le_refl _) _ _ _ smallN _ hn9' hl10 names_en3).mono ?_; rintro e w10 ⟨v10, rfl, ho10, hb10⟩; refine Hid.out ?_))
  refine Lib.hid ?_
  have B10 := B9'.trans (hb10.mono B9'.size)
  have hn10 := hn9'.mono hb10 hb10.size
  have hm10 := hm9'.mono hb10 hb10.size
  have hx10 := box_kept hx9' hb10
  obtain ⟨aR10, cR10, rfl⟩ := ho10.shape
  clear x0 x1 x2 x3 hn9' hm9' hx9' B9' ho10 hb10 hl10 hL10 hlz10
  obtain ⟨x0, x1, x2, x3⟩ := box4' hx10
  clear x0 x1 x2 x3 hn10 hm10 hx10
  have cmpA : cmpL [0, 5] [1, 0] = -1 := by rfl
  have cmpB : cmpL [1] [1, 0] = -1 := by rfl
  obtain ⟨LA, hLA⟩ : ∃ L, w10.alloc (.cells #[.int .i64 0, .int .i64 5] 3) = L := ⟨_, rfl⟩
  obtain ⟨LB, hLB⟩ : ∃ L, LA.alloc (.cells #[.int .i64 1, .int .i64 0] 3) = L := ⟨_, rfl⟩
  have hzA : LA.heap.size = w10.heap.size + 1 := by rw [← hLA]; simp
  have hzB : LB.heap.size = LA.heap.size + 1 := by rw [← hLB]; simp
  have hbA : Below w10.heap.size w10 LA := by rw [← hLA]; exact lit_below _ _
  have hbB : Below LA.heap.size LA LB := by rw [← hLB]; exact lit_below _ _
  have hiA : Ints LA (w10.heap.size + 1) (.slice (some ⟨w10.heap.size, 0, none⟩) 2 2) [0, 5] := by rw [← hLA]; exact lit_ints w10 [0, 5] (by decide)
  have hiB : Ints LB (LA.heap.size + 1) (.slice (some ⟨LA.heap.size, 0, none⟩) 2 2) [1, 0] := by rw [← hLB]; exact lit_ints LA [1, 0] (by decide)
  have hiA := hiA.mono (hbB.mono (show w10.heap.size + 1 ≤ LA.heap.size by omega)) (show w10.heap.size + 1 ≤ LB.heap.size by omega)
  have hiB := hiB.mono (Below.refl _ _) (show LA.heap.size + 1 ≤ LB.heap.size by omega)
  have BB := B10.trans ((hbA.trans (hbB.mono (by omega))).mono B10.size)
  have HC := Lib.hid (cmp_is _ _ _ _ _ _ hiA hiB cmpA)
  clear hiA hiB hzA hzB hbA hbB
  go_wp2_with fail
  refine HC.out.mono ?_
  rintro e w11 ⟨rfl, rfl⟩
  clear HC hLA hLB B10
  obtain ⟨LC, hLC⟩ : ∃ L, LB.alloc (.cells #[.int .i64 1] 3) = L := ⟨_, rfl⟩
  obtain ⟨LD, hLD⟩ : ∃ L, LC.alloc (.cells #[.int .i64 1, .int .i64 0] 3) = L := ⟨_, rfl⟩
  have hzA : LC.heap.size = LB.heap.size + 1 := by rw [← hLC]; simp
  have hzB : LD.heap.size = LC.heap.size + 1 := by rw [← hLD]; simp
  have hbA : Below LB.heap.size LB LC := by rw [← hLC]; exact lit_below _ _
  have hbB : Below LC.heap.size LC LD := by rw [← hLD]; exact lit_below _ _
  have hiA : Ints LC (LB.heap.size + 1) (.slice (some ⟨LB.heap.size, 0, none⟩) 1 1) [1] := by rw [← hLC]; exact lit_ints LB [1] (by decide)
  have hiB : Ints LD (LC.heap.size + 1) (.slice (some ⟨LC.heap.size, 0, none⟩) 2 2) [1, 0] := by rw [← hLD]; exact lit_ints LC [1, 0] (by decide)
  have hiA := hiA.mono (hbB.mono (show LB.heap.size + 1 ≤ LC.heap.size by omega)) (show LB.heap.size + 1 ≤ LD.heap.size by omega)
  have hiB := hiB.mono (Below.refl _ _) (show LC.heap.size + 1 ≤ LD.heap.size by omega)
  have BD := BB.trans ((hbA.trans (hbB.mono (by omega))).mono BB.size)
  have HC := Lib.hid (cmp_is _ _ _ _ _ _ hiA hiB cmpB)
  clear hiA hiB hzA hzB hbA hbB
  go_wp2_with fail
  refine HC.out.mono ?_
  rintro e w11 ⟨rfl, rfl⟩
  clear HC hLC hLD BB cmpA cmpB
  obtain ⟨LE, hLE⟩ : ∃ L, badW LD = L := ⟨_, rfl⟩
  obtain ⟨hBad, hbE, hzE⟩ := bad_at LD
  rw [hLE] at hBad hbE hzE
  unfold badW at hLE
  have BE := BD.trans (hbE.mono BD.size)
  have hWD := BD.size
  have hBad := Lib.hid hBad
  have hgE : LD.heap.size + 4 < LE.heap.size := by omega
  have hzE' : LD.heap.size ≤ LE.heap.size := by omega
  clear hzE hbE
  go_wp2_with fail
  clear hLE
  go_loopg [130] 4 (fun gh s130 wr => ∃ k : Nat, k + gh = 4 ∧ s130 = .int .i64 (k : Int) ∧ Below LE.heap.size LE wr)
  case atStart => exact ⟨0, by omega, rfl, Below.refl _ _⟩
  case round =>
    obtain ⟨k, hkg, rfl, hbr⟩ := hrel
    by_cases hk : k < 4
    · as_aux_lemma =>
        obtain ⟨a, n, c, l, hc, ho, hb1, hb2, hll⟩ := hBad.out k hk
        have hbrs := hbr.size
        rw [← Below.cellB hbr hgE] at hc
        have ho := ho.kept hbr (Nat.le_refl _)
        have hk' : (k : Int) < 4 := by omega
        obtain rfl : n = l.length := by obtain ⟨a', c', e⟩ := ho.shape; injection e
        go_wp2_with (first | (go_at_call 22; refine (small_own _).mono ?_; rintro e wa ⟨vp, vt, ja, jb, jc, jd, rfl, hS, hT, hba⟩; refine Hid.out ?_))
        refine Lib.hid ?_
        obtain ⟨as1, cs1, rfl⟩ := hS.shape
        obtain ⟨at1, ct1, rfl⟩ := hT.1.shape
        obtain ⟨g1, rfl, -, hg1, hl1⟩ := OwnF.some hT.1 (by simp)
        have hT := hT.lower (show LD.heap.size ≤ wr.heap.size by omega)
        have hS := hS.lower (show LD.heap.size ≤ wr.heap.size by omega)
        have hT : OwnT wa LD.heap.size (.slice (some ⟨g1, 0, none⟩) 2 ct1) [(trS, ja, jb), (trE, jc, jd)] := hT
        have ho := ho.kept hba (Nat.le_refl _)
        have hbas := hba.size
        obtain ⟨Wa, hWa⟩ : ∃ Wa, wa.alloc (.cells #[.slice as1 place3.length cs1, .slice (some ⟨g1, 0, none⟩) 2 ct1, .int .i64 0, .int .i64 2] 28) = Wa := ⟨_, rfl⟩
        have hbb : Below wa.heap.size wa Wa := by rw [← hWa]; exact lit_below _ _
        have hxa : Wa.heap[wa.heap.size]? = some (.cells #[.slice as1 place3.length cs1, .slice (some ⟨g1, 0, none⟩) 2 ct1, .int .i64 0, .int .i64 2] 28) := by rw [← hWa]; exact heap_alloc_new _ _
        have hza : wa.heap.size + 1 ≤ Wa.heap.size := by rw [← hWa]; simp
        obtain ⟨x0, x1, x2, x3⟩ := box4' hxa
        have hT1 := hT.kept hbb
        have hS1 := hS.kept hbb
        have ho1 := ho.kept hbb (Nat.le_refl _)
        have y1 : Wa.cell? ⟨g1, 1, none⟩ = some ja := OwnF.at cellT_len hT1.1 (i := 0) (j := 1) (by simp) (by omega)
        have f1 : Wa.frozen? ⟨g1, 1, none⟩ = false := OwnF.free hT1.1 1
        have hTs := hT1.setIn (i := 0) (by simp) ho1
        obtain ⟨wb, hwb⟩ : ∃ wb, Wa.setCell ⟨g1, 1, none⟩ (.slice a l.length c) = wb := ⟨_, rfl⟩
        have hTs : OwnT wb LD.heap.size (.slice (some ⟨g1, 0, none⟩) 2 ct1) [(⟨⟨#[115]⟩, l, [1]⟩, .slice a l.length c, jb), (trE, jc, jd)] := by rw [← hwb]; exact hTs
        have hSs : OwnS wb LD.heap.size (.slice as1 place3.length cs1) place3 := by
          rw [← hwb]
          refine hS1.turned (grownBy_setCell _ _ _ _) (fun cur e => ?_)
          obtain ⟨cur', hc, _⟩ := hT1.1.block
          rw [hc] at e; injection e with e; injection e with _ e _; exact absurd e (by decide)
        have hxb : wb.heap[wa.heap.size]? = some (.cells #[.slice as1 place3.length cs1, .slice (some ⟨g1, 0, none⟩) 2 ct1, .int .i64 0, .int .i64 2] 28) := by rw [← hwb, heap_setCell_ne _ _ (by show wa.heap.size ≠ g1; omega)]; exact hxa
        have ho2 : OwnI wb LD.heap.size (.slice a l.length c) l := by
          rw [← hwb]
          refine ho1.turned (grownBy_setCell _ _ _ _) (fun cur e => ?_)
          obtain ⟨cur', hc, _⟩ := hT1.1.block
          rw [hc] at e; injection e with e; injection e with _ e _; exact absurd e (by decide)
        have hzb : wb.heap.size = Wa.heap.size := by rw [← hwb]; simp
        have Bb : Below LE.heap.size LE wb := by
          rw [← hwb]
          exact (hbr.trans ((hba.trans (hbb.mono hbas)).mono hbrs)).setCell (by show LE.heap.size ≤ g1; omega) _
        have hnO : NtR wb wb.heap.size (.slice as1 place3.length cs1) (.slice (some ⟨g1, 0, none⟩) 2 ct1) (badIn l) :=
          own_net (n := badIn l) hSs hTs rfl (show place3.length ≤ 1000 by decide) (by simp) (by intro x hx; simp at hx; rcases hx with rfl | rfl <;> simp [trE] <;> omega)
        clear hTs hSs hT1 hS1 hT hS ho ho1 hxa hbr hba hbb
        go_wp2_with (first | (go_at_call 22; refine (small_own _).mono ?_; rintro e wc ⟨vp, vt, ka, kb, kc, kd, rfl, hS, hT, hbc⟩; refine Hid.out ?_))
        refine Lib.hid ?_
        clear x0 x1 x2 x3 y1 f1 hwb hWa
        obtain ⟨as2, cs2, rfl⟩ := hS.shape
        obtain ⟨at2, ct2, rfl⟩ := hT.1.shape
        obtain ⟨g2, rfl, -, hg2, hl2⟩ := OwnF.some hT.1 (by simp)
        have hT := hT.lower (show LD.heap.size ≤ wb.heap.size by omega)
        have hS := hS.lower (show LD.heap.size ≤ wb.heap.size by omega)
        have hT : OwnT wc LD.heap.size (.slice (some ⟨g2, 0, none⟩) 2 ct2) [(trS, ka, kb), (trE, kc, kd)] := hT
        have ho3 := ho2.kept hbc (Nat.le_refl _)
        have hbcs := hbc.size
        have hnO2 := hnO.mono hbc hbcs
        have hxc := box_kept hxb hbc
        obtain ⟨Wc, hWc⟩ : ∃ Wc, wc.alloc (.cells #[.slice as2 place3.length cs2, .slice (some ⟨g2, 0, none⟩) 2 ct2, .int .i64 0, .int .i64 2] 28) = Wc := ⟨_, rfl⟩
        have hbd : Below wc.heap.size wc Wc := by rw [← hWc]; exact lit_below _ _
        have hxd : Wc.heap[wc.heap.size]? = some (.cells #[.slice as2 place3.length cs2, .slice (some ⟨g2, 0, none⟩) 2 ct2, .int .i64 0, .int .i64 2] 28) := by rw [← hWc]; exact heap_alloc_new _ _
        have hzd : wc.heap.size + 1 ≤ Wc.heap.size := by rw [← hWc]; simp
        obtain ⟨x0, x1, x2, x3⟩ := box4' hxd
        have hT1 := hT.kept hbd
        have hS1 := hS.kept hbd
        have ho4 := ho3.kept hbd (Nat.le_refl _)
        have y1 : Wc.cell? ⟨g2, 5, none⟩ = some kd := OwnF.at cellT_len hT1.1 (i := 1) (j := 2) (by simp) (by omega)
        have f1 : Wc.frozen? ⟨g2, 5, none⟩ = false := OwnF.free hT1.1 5
        have hTs := hT1.set (i := 1) (by simp) ho4
        have hxc2 := box_kept hxc hbd
        obtain ⟨wd, hwd⟩ : ∃ wd, Wc.setCell ⟨g2, 5, none⟩ (.slice a l.length c) = wd := ⟨_, rfl⟩
        have hTs : OwnT wd LD.heap.size (.slice (some ⟨g2, 0, none⟩) 2 ct2) [(trS, ka, kb), (⟨⟨#[101]⟩, [1], l⟩, kc, .slice a l.length c)] := by rw [← hwd]; exact hTs
        have hSs : OwnS wd LD.heap.size (.slice as2 place3.length cs2) place3 := by
          rw [← hwd]
          refine hS1.turned (grownBy_setCell _ _ _ _) (fun cur e => ?_)
          obtain ⟨cur', hc, _⟩ := hT1.1.block
          rw [hc] at e; injection e with e; injection e with _ e _; exact absurd e (by decide)
        have hxE : wd.heap[wc.heap.size]? = some (.cells #[.slice as2 place3.length cs2, .slice (some ⟨g2, 0, none⟩) 2 ct2, .int .i64 0, .int .i64 2] 28) := by rw [← hwd, heap_setCell_ne _ _ (by show wc.heap.size ≠ g2; omega)]; exact hxd
        have hxF : wd.heap[wa.heap.size]? = some (.cells #[.slice as1 place3.length cs1, .slice (some ⟨g1, 0, none⟩) 2 ct1, .int .i64 0, .int .i64 2] 28) := by rw [← hwd, heap_setCell_ne _ _ (by show wa.heap.size ≠ g2; omega)]; exact hxc2
        have hbe : Below wb.heap.size wb wd := by
          rw [← hwd]
          exact (hbc.trans (hbd.mono hbcs)).setCell (by show wb.heap.size ≤ g2; omega) _
        have hnO3 : NtR wd wd.heap.size (.slice as1 place3.length cs1) (.slice (some ⟨g1, 0, none⟩) 2 ct1) (badIn l) := hnO.mono hbe hbe.size
        have hnP : NtR wd wd.heap.size (.slice as2 place3.length cs2) (.slice (some ⟨g2, 0, none⟩) 2 ct2) (badOut l) :=
          own_net (n := badOut l) hSs hTs rfl (show place3.length ≤ 1000 by decide) (by simp) (by intro x hx; simp at hx; rcases hx with rfl | rfl <;> simp [trS] <;> omega)
        have Bd := Bb.trans (hbe.mono Bb.size)
        have HC1 := Lib.hid (check_is _ _ _ (badIn l) _ (Nat.le_refl _) hnO3 hb1)
        obtain ⟨z0, z1, z2, z3⟩ := box4' hxE
        obtain ⟨u0, u1, u2, u3⟩ := box4' hxF
        clear hTs hSs hT1 hS1 hT hS ho2 ho3 ho4 hxd hxc hxc2 hbd hbe hnO hnO2 hnO3 hxb hbc
        go_wp2_with (first | (go_at_call 24; refine HC1.out.mono ?_; rintro e we ⟨rfl, hbf⟩; refine Hid.out ?_))
        refine Lib.hid ?_
        have hnP2 := hnP.mono hbf hbf.size
        have hxG := box_kept hxE hbf
        have Be := Bd.trans (hbf.mono Bd.size)
        have HC2 := Lib.hid (check_is _ _ _ (badOut l) _ (Nat.le_refl _) hnP2 hb2)
        clear x0 x1 x2 x3 y1 f1 z0 z1 z2 z3 u0 u1 u2 u3 hwd hWc HC1 hnP hxE hxF
        obtain ⟨z0, z1, z2, z3⟩ := box4' hxG
        go_wp2_with (first | (go_at_call 24; refine HC2.out.mono ?_; rintro e wf ⟨rfl, hbg⟩; refine Hid.out ?_))
        refine Lib.hid ?_
        clear z0 z1 z2 z3
        go_wp2_with fail
        go_roundg (gk - 1)
        case measure => omega
        case rel => exact ⟨k + 1, by omega, by go_num, Be.trans (hbg.mono Be.size)⟩
    · have hk' : ¬ ((k : Int) < 4) := by omega
      have Bl := BE.trans (hbr.mono BE.size)
      clear hBad hbr hk BE
      go_wp2_with (first | (go_at_call 22; refine (small_own _).mono ?_; rintro e wa ⟨vp, vt, ja, jb, jc, jd, rfl, hS, hT, hba⟩; refine Hid.out ?_))
      refine Lib.hid ?_
      have B1 := Bl.trans (hba.mono Bl.size)
      obtain ⟨as1, cs1, rfl⟩ := hS.shape
      obtain ⟨at1, ct1, rfl⟩ := hT.1.shape
      obtain ⟨g1, rfl, -, hg1, hl1⟩ := OwnF.some hT.1 (by simp)
      have hT : OwnT wa wr.heap.size (.slice (some ⟨g1, 0, none⟩) 2 ct1) [(trS, ja, jb), (trE, jc, jd)] := hT
      have hbas := hba.size
      have hWr := Bl.size
      obtain ⟨Wa, hWa⟩ : ∃ Wa, wa.alloc (.cells #[.slice as1 place3.length cs1, .slice (some ⟨g1, 0, none⟩) 2 ct1, .int .i64 0, .int .i64 2] 28) = Wa := ⟨_, rfl⟩
      have hbb : Below wa.heap.size wa Wa := by rw [← hWa]; exact lit_below _ _
      have hxa : Wa.heap[wa.heap.size]? = some (.cells #[.slice as1 place3.length cs1, .slice (some ⟨g1, 0, none⟩) 2 ct1, .int .i64 0, .int .i64 2] 28) := by rw [← hWa]; exact heap_alloc_new _ _
      obtain ⟨x0, x1, x2, x3⟩ := box4' hxa
      have hT1 := hT.kept hbb
      have hS1 := hS.kept hbb
      have y1 : Wa.cell? ⟨g1, 3, none⟩ = some (.string ⟨#[101]⟩) := OwnF.at cellT_len hT1.1 (i := 1) (j := 0) (by simp) (by omega)
      have f1 : Wa.frozen? ⟨g1, 3, none⟩ = false := OwnF.free hT1.1 3
      have hTs := hT1.setLabel (i := 1) (by simp) ⟨#[120]⟩
      obtain ⟨wb, hwb⟩ : ∃ wb, Wa.setCell ⟨g1, 3, none⟩ (.string ⟨#[120]⟩) = wb := ⟨_, rfl⟩
      have hTs : OwnT wb wr.heap.size (.slice (some ⟨g1, 0, none⟩) 2 ct1) [(trS, ja, jb), (⟨⟨#[120]⟩, [1], [2]⟩, jc, jd)] := by rw [← hwb]; exact hTs
      have hSs : OwnS wb wr.heap.size (.slice as1 place3.length cs1) place3 := by
        rw [← hwb]
        refine hS1.turned (grownBy_setCell _ _ _ _) (fun cur e => ?_)
        obtain ⟨cur', hc, _⟩ := hT1.1.block
        rw [hc] at e; injection e with e; injection e with _ e _; exact absurd e (by decide)
      have hxb : wb.heap[wa.heap.size]? = some (.cells #[.slice as1 place3.length cs1, .slice (some ⟨g1, 0, none⟩) 2 ct1, .int .i64 0, .int .i64 2] 28) := by rw [← hwb, heap_setCell_ne _ _ (by show wa.heap.size ≠ g1; omega)]; exact hxa
      have hnO : NtR wb wb.heap.size (.slice as1 place3.length cs1) (.slice (some ⟨g1, 0, none⟩) 2 ct1) otherN :=
        own_net (n := otherN) hSs hTs rfl (show place3.length ≤ 1000 by decide) (by simp) (by intro x hx; simp at hx; rcases hx with rfl | rfl <;> simp [trS])
      have Bb : Below W.heap.size W wb := by
        rw [← hwb]
        exact (B1.trans (hbb.mono B1.size)).setCell (by show W.heap.size ≤ g1; omega) _
      clear hTs hSs hT1 hS1 hT hS hxa hbb B1
      go_upto_region 25 with fail
      clear x0 x1 x2 x3 y1 f1 hwb hWa
      obtain ⟨x0, x1, x2, x3⟩ := box4' hxb
      go_cut [168] (fun s168 wx => ∃ w7, w7 = wx ∧ s168 = .bool false ∧ Below wb.heap.size wb w7)
      case first =>
        as_aux_lemma =>
          have f0 : wa.heap.size < wb.heap.size := lt_of_block hxb
          have hD : Below wb.heap.size wb wb.drew := (Below.refl _ _).drew
          go_region_held3 (fun w' => w'.cell? ⟨wa.heap.size, 0, none⟩ = some (.slice as1 place3.length cs1) ∧ w'.cell? ⟨wa.heap.size, 1, none⟩ = some (.slice (some ⟨g1, 0, none⟩) 2 ct1) ∧ w'.cell? ⟨wa.heap.size, 2, none⟩ = some (.int .i64 0) ∧ w'.cell? ⟨wa.heap.size, 3, none⟩ = some (.int .i64 2))
            (first | go_keep | (refine ⟨?_, ?_, ?_, ?_⟩ <;> (first | (rw [Below.cellB b8 f0]; assumption) | (rw [Below.cellB b3 f0]; assumption) | (rw [Below.cellB b2 f0]; assumption) | (rw [Below.cellB bS f0]; assumption) | (rw [Below.cellB b1 f0]; assumption))))
            (first
              | (go_at_call 22; first | (have _ := hnS2; refine (small_any _).mono ?_; rintro e wS3 ⟨vp3, vt3, rfl, hnS3, hb3⟩; have b3 := b2.trans (hb3.mono b2.size); have hnS2' := hnS2.mono hb3 hb3.size) | (have _ := bS; refine (small_any _).mono ?_; rintro e wS2 ⟨vp2, vt2, rfl, hnS2, hb2⟩; have b2 := bS.trans (hb2.mono bS.size)) | (refine (small_any _).mono ?_; rintro e wS1 ⟨vp1, vt1, rfl, hnS1, hb1⟩; have b1 : Below wb.heap.size wb wS1 := hD.trans (hb1.mono (by simp)); have hO1 := hnO.mono b1 b1.size))
              | (go_at_call 25; first | (have _ := hnS3; refine (same_is _ _ (Nat.le_refl _) _ _ _ _ smallN smallN (by assumption) (by assumption) same_yes).mono ?_; rintro e w8 ⟨rfl, hb8⟩; have b8 := b3.trans (hb8.mono b3.size)) | (refine (same_is _ _ (Nat.le_refl _) _ _ _ _ otherN smallN hO1 hnS1 same_no).mono ?_; rintro e wE ⟨rfl, hbE⟩; have bS := b1.trans (hbE.mono b1.size))))
          all_goals go_wp2_with fail
          all_goals go_meet
          all_goals exact ⟨_, rfl, rfl, b8⟩
      case rest =>
        obtain ⟨w7, rfl, rfl, hb7⟩ := hcut
        have B7 := Bb.trans (hb7.mono Bb.size)
        have hx7 := box_kept hxb hb7
        clear hnO hxb hb7 x0 x1 x2 x3 Bb
        obtain ⟨x0, x1, x2, x3⟩ := box4' hx7
        have f0 := free_of_block hx7 0
        have f1 := free_of_block hx7 1
        have f2 := free_of_block hx7 2
        have f3 := free_of_block hx7 3
        go_wp2_with (first | (go_at_call 22; refine (small_own _).mono ?_; rintro e w8 ⟨vp8, vt8, ja, jb, jc, jd, rfl, hS8, hT8, hb8⟩; refine Hid.out ?_))
        refine Lib.hid ?_
        have B8 := B7.trans (hb8.mono B7.size)
        have hx8 := box_kept hx7 hb8
        clear x0 x1 x2 x3 f0 f1 f2 f3 hx7
        obtain ⟨x0, x1, x2, x3⟩ := box4' hx8
        have f0 := free_of_block hx8 0
        have f1 := free_of_block hx8 1
        have f2 := free_of_block hx8 2
        have f3 := free_of_block hx8 3
        obtain ⟨ap8, cp8, rfl⟩ := hS8.shape
        obtain ⟨at8, ct8, rfl⟩ := hT8.1.shape
        have hT8 : OwnT w8 w7.heap.size (.slice at8 2 ct8) [(trS, ja, jb), (trE, jc, jd)] := hT8
        go_upto_region 29 with fail
        obtain ⟨q1, r1, s1⟩ := box_set hx8 hS8 hT8 0 (.slice ap8 place3.length cp8)
        obtain ⟨q2, r2, s2⟩ := box_set q1 r1 s1 1 (.slice at8 2 ct8)
        obtain ⟨q3, r3, s3⟩ := box_set q2 r2 s2 2 (.int .i64 0)
        obtain ⟨q4, r4, s4⟩ := box_set q3 r3 s3 3 (.int .i64 2)
        obtain ⟨q5, r5, s5⟩ := box_set q4 r4 s4 2 (.int .i64 2)
        have hbw : W.heap.size ≤ wa.heap.size := by omega
        have B9 : Below W.heap.size W (((((w8.setCell ⟨wa.heap.size, 0, none⟩ (.slice ap8 place3.length cp8)).setCell ⟨wa.heap.size, 1, none⟩ (.slice at8 2 ct8)).setCell ⟨wa.heap.size, 2, none⟩ (.int .i64 0)).setCell ⟨wa.heap.size, 3, none⟩ (.int .i64 2)).setCell ⟨wa.heap.size, 2, none⟩ (.int .i64 2)) := ((((B8.setCell hbw _).setCell hbw _).setCell hbw _).setCell hbw _).setCell hbw _
        obtain ⟨w9, hw9⟩ : ∃ w9, ((((w8.setCell ⟨wa.heap.size, 0, none⟩ (.slice ap8 place3.length cp8)).setCell ⟨wa.heap.size, 1, none⟩ (.slice at8 2 ct8)).setCell ⟨wa.heap.size, 2, none⟩ (.int .i64 0)).setCell ⟨wa.heap.size, 3, none⟩ (.int .i64 2)).setCell ⟨wa.heap.size, 2, none⟩ (.int .i64 2) = w9 := ⟨_, rfl⟩
        rw [hw9] at q5 r5 s5 B9
        rw [hw9]
        clear hw9 q1 q2 q3 q4 r1 r2 r3 r4 s1 s2 s3 s4
        have hx9 : w9.heap[wa.heap.size]? = some (.cells #[.slice ap8 place3.length cp8, .slice at8 2 ct8, .int .i64 2, .int .i64 2] 28) := q5
        have hn9 : NtR w9 w9.heap.size (.slice ap8 place3.length cp8) (.slice at8 2 ct8) ⟨place3, [trS, trE], 2, 2⟩ :=
          own_net (n := ⟨place3, [trS, trE], 2, 2⟩) r5 s5 rfl (show place3.length ≤ 1000 by decide) (by simp) (by intro x hx; simp at hx; rcases hx with rfl | rfl <;> simp [trS, trE])
        clear q5 r5 s5 hS8 hT8 hx8 hb8 x0 x1 x2 x3 f0 f1 f2 f3 B8 B7
        go_wp2_with (first | (go_at_call 22; refine (small_own _).mono ?_; rintro e w10 ⟨vp10, vt10, ja, jb, jc, jd, rfl, hS10, hT10, hb10⟩; refine Hid.out ?_))
        refine Lib.hid ?_
        have B10 := B9.trans (hb10.mono B9.size)
        have hx10 := box_kept hx9 hb10
        have hn10 := hn9.mono hb10 hb10.size
        obtain ⟨ap10, cp10, rfl⟩ := hS10.shape
        obtain ⟨at10, ct10, rfl⟩ := hT10.1.shape
        have hT10 : OwnT w10 w9.heap.size (.slice at10 2 ct10) [(trS, ja, jb), (trE, jc, jd)] := hT10
        go_upto_region 31 with fail
        obtain ⟨Wp, hWp⟩ : ∃ L, w10.alloc (.cells #[.slice ap10 place3.length cp10, .slice at10 2 ct10, .int .i64 0, .int .i64 3] 28) = L := ⟨_, rfl⟩
        have hbp : Below w10.heap.size w10 Wp := by rw [← hWp]; exact lit_below _ _
        have hxp : Wp.heap[w10.heap.size]? = some (.cells #[.slice ap10 place3.length cp10, .slice at10 2 ct10, .int .i64 0, .int .i64 3] 28) := by rw [← hWp]; exact heap_alloc_new _ _
        have fp : w10.heap.size < Wp.heap.size := lt_of_block hxp
        have hx11 := box_kept hx10 hbp
        have f0 : wa.heap.size < Wp.heap.size := lt_of_block hx11
        have hn11 : NtR Wp Wp.heap.size (.slice ap8 place3.length cp8) (.slice at8 2 ct8) ⟨place3, [trS, trE], 2, 2⟩ := hn10.mono hbp hbp.size
        have hnp : NtR Wp Wp.heap.size (.slice ap10 place3.length cp10) (.slice at10 2 ct10) ⟨place3, [trS, trE], 0, 3⟩ :=
          own_net (n := ⟨place3, [trS, trE], 0, 3⟩) (hS10.kept hbp) (hT10.kept hbp) rfl (show place3.length ≤ 1000 by decide) (by simp) (by intro x hx; simp at hx; rcases hx with rfl | rfl <;> simp [trS, trE])
        have Bp := B10.trans (hbp.mono B10.size)
        obtain ⟨x0, x1, x2, x3⟩ := box4' hx11
        obtain ⟨y0, y1, y2, y3⟩ := box4' hxp
        obtain ⟨c4, r4, s4⟩ := mk_strs 4096 (by omega)
        obtain ⟨d4, q4, t4⟩ := mk_trs 8192 (by omega)
        obtain ⟨c5, r5, s5⟩ := mk_strs 4097 (by omega)
        obtain ⟨c6, r6, s6⟩ := mk_strs 2 (by omega)
        obtain ⟨d6, q6, t6⟩ := mk_trs 8193 (by omega)
        have r4 : ∀ w, (Instr.makeSlice 25 (.int .i64 4096) (.int .i64 4096)).run Try.prog w = .ok (.slice (some ⟨w.heap.size, 0, none⟩) 4096 4096) (w.alloc (.cells c4 9)) := r4
        have q4 : ∀ w, (Instr.makeSlice 26 (.int .i64 8192) (.int .i64 8192)).run Try.prog w = .ok (.slice (some ⟨w.heap.size, 0, none⟩) 8192 8192) (w.alloc (.cells d4 38)) := q4
        have r5 : ∀ w, (Instr.makeSlice 25 (.int .i64 4097) (.int .i64 4097)).run Try.prog w = .ok (.slice (some ⟨w.heap.size, 0, none⟩) 4097 4097) (w.alloc (.cells c5 9)) := r5
        have r6 : ∀ w, (Instr.makeSlice 25 (.int .i64 2) (.int .i64 2)).run Try.prog w = .ok (.slice (some ⟨w.heap.size, 0, none⟩) 2 2) (w.alloc (.cells c6 9)) := r6
        have q6 : ∀ w, (Instr.makeSlice 26 (.int .i64 8193) (.int .i64 8193)).run Try.prog w = .ok (.slice (some ⟨w.heap.size, 0, none⟩) 8193 8193) (w.alloc (.cells d6 38)) := q6
        have K4ab := Lib.hid (fun u => chk_ab (check_rep 4096 8192 (by omega) (by omega) (by omega)) (by omega) (by omega) s4 t4 u)
        have K4ba := Lib.hid (fun u => chk_ba (check_rep 4096 8192 (by omega) (by omega) (by omega)) (by omega) (by omega) s4 t4 u)
        have K5 := Lib.hid (fun u => chk_p (check_rep_no 4097 0 (by omega)) (by omega) s5 u)
        have K6ab := Lib.hid (fun u => chk_ab (check_rep_no 2 8193 (by omega)) (by omega) (by omega) s6 t6 u)
        have K6ba := Lib.hid (fun u => chk_ba (check_rep_no 2 8193 (by omega)) (by omega) (by omega) s6 t6 u)
        have HK1 : Hid (∀ u, Below Wp.heap.size Wp u → Calls Try.prog 24 #[.agg #[.slice ap8 place3.length cp8, .slice at8 2 ct8, .int .i64 2, .int .i64 2]] u fun e w' => e = .returned (.int .i64 1) ∧ Below u.heap.size u w') := Lib.hid (fun u h => check_is u _ _ ⟨place3, [trS, trE], 2, 2⟩ _ (Nat.le_refl _) (hn11.mono h h.size) check_init)
        have HK2 : Hid (∀ u, Below Wp.heap.size Wp u → Calls Try.prog 24 #[.agg #[.slice ap10 place3.length cp10, .slice at10 2 ct10, .int .i64 0, .int .i64 3]] u fun e w' => e = .returned (.int .i64 1) ∧ Below u.heap.size u w') := Lib.hid (fun u h => check_is u _ _ ⟨place3, [trS, trE], 0, 3⟩ _ (Nat.le_refl _) (hnp.mono h h.size) check_final)
        rw [hWp]
        clear s4 s5 s6 t4 t6 hn11 hnp hS10 hT10 hx11 hxp hbp hx10 hn10 hx9 hn9 B9 B10 hWp hb10
        go_cut [205] (fun s205 wx => ∃ w7, w7 = wx ∧ s205 = .bool false ∧ Below Wp.heap.size Wp w7)
        case first =>
          as_aux_lemma =>
            have hD : Below Wp.heap.size Wp Wp.drew := (Below.refl _ _).drew
            go_region_held3 (fun w' => (w'.cell? ⟨wa.heap.size, 0, none⟩ = some (.slice ap8 place3.length cp8) ∧ w'.cell? ⟨wa.heap.size, 1, none⟩ = some (.slice at8 2 ct8) ∧ w'.cell? ⟨wa.heap.size, 2, none⟩ = some (.int .i64 2) ∧ w'.cell? ⟨wa.heap.size, 3, none⟩ = some (.int .i64 2)) ∧ (w'.cell? ⟨w10.heap.size, 0, none⟩ = some (.slice ap10 place3.length cp10) ∧ w'.cell? ⟨w10.heap.size, 1, none⟩ = some (.slice at10 2 ct10) ∧ w'.cell? ⟨w10.heap.size, 2, none⟩ = some (.int .i64 0) ∧ w'.cell? ⟨w10.heap.size, 3, none⟩ = some (.int .i64 3)))
              (first | go_keep | (refine ⟨⟨?_, ?_, ?_, ?_⟩, ?_, ?_, ?_, ?_⟩ <;> (first | (rw [Below.cellB b6 (by assumption)]; assumption) | (rw [Below.cellB b5 (by assumption)]; assumption) | (rw [Below.cellB b4 (by assumption)]; assumption) | (rw [Below.cellB b3 (by assumption)]; assumption) | (rw [Below.cellB b2 (by assumption)]; assumption) | (rw [Below.cellB b1 (by assumption)]; assumption))))
              (first
                | (go_at_call 24; first | (have _ := b5; first | ((with_reducible refine (K6ab.out _).mono ?_); rintro e u6 ⟨rfl, hb6⟩; have b6 := b5.trans (hb6.mono b5.size)) | ((with_reducible refine (K6ba.out _).mono ?_); rintro e u6 ⟨rfl, hb6⟩; have b6 := b5.trans (hb6.mono b5.size))) | (have _ := b4; (with_reducible refine (K5.out _).mono ?_); rintro e u5 ⟨rfl, hb5⟩; have b5 := b4.trans (hb5.mono b4.size)) | (have _ := b3; first | ((with_reducible refine (K4ab.out _).mono ?_); rintro e u4 ⟨rfl, hb4⟩; have b4 := b3.trans (hb4.mono b3.size)) | ((with_reducible refine (K4ba.out _).mono ?_); rintro e u4 ⟨rfl, hb4⟩; have b4 := b3.trans (hb4.mono b3.size))) | (have _ := b2; (with_reducible refine (chk_none _).mono ?_); rintro e u3 ⟨rfl, hb3⟩; have b3 := b2.trans (hb3.mono b2.size)) | (have _ := b1; (with_reducible refine (HK2.out _ b1).mono ?_); rintro e u2 ⟨rfl, hb2⟩; have b2 := b1.trans (hb2.mono b1.size)) | ((with_reducible refine (HK1.out _ hD).mono ?_); rintro e u1 ⟨rfl, hb1⟩; have b1 : Below Wp.heap.size Wp u1 := hD.trans (hb1.mono (by simp)))))
            all_goals go_wp2_with fail
            all_goals go_meet
            all_goals exact ⟨_, rfl, rfl, b6⟩
        case rest =>
          obtain ⟨w7, rfl, rfl, hb7⟩ := hcut
          clear r4 q4 r5 r6 q6 K4ab K4ba K5 K6ab K6ba HK1 HK2 x0 x1 x2 x3 y0 y1 y2 y3 f0 fp
          have B7 := Bp.trans (hb7.mono Bp.size)
          clear Bp hb7
          obtain ⟨hnq, hxq, hbq⟩ := over_at w7
          obtain ⟨Wq, hWq⟩ : ∃ L, overW w7 = L := ⟨_, rfl⟩
          rw [hWq] at hnq hxq hbq
          unfold overW at hWq
          obtain ⟨Lr, hLr⟩ : ∃ L, Wq.alloc (.cells #[.int .i64 2147483647, .int .i64 0] 3) = L := ⟨_, rfl⟩
          have hbl : Below Wq.heap.size Wq Lr := by rw [← hLr]; exact lit_below _ _
          have hil : Ints Lr (Wq.heap.size + 1) (.slice (some ⟨Wq.heap.size, 0, none⟩) 2 2) [2147483647, 0] := by rw [← hLr]; exact lit_ints Wq [2147483647, 0] (by decide)
          have hlz : Wq.heap.size + 1 ≤ Lr.heap.size := by rw [← hLr]; simp
          have hil := hil.mono (Below.refl _ _) hlz
          have hnr := hnq.mono hbl hbl.size
          have hxr := box_kept hxq hbl
          have Br := B7.trans ((hbq.trans (hbl.mono hbq.size)).mono B7.size)
          have HF := Lib.hid (fire_is _ _ (Nat.le_refl _) _ _ _ overN _ 0 hnr hil over_0)
          obtain ⟨x0, x1, x2, x3⟩ := box4' hxq
          clear hxq hbl hil hlz hbq hnq B7
          go_wp2_with (first | (go_at_call 20; refine HF.out.mono ?_; rintro e ws ⟨vs, rfl, hos, hbs⟩; refine Hid.out ?_))
          refine Lib.hid ?_
          obtain ⟨as_, cs_, rfl⟩ := hos.shape
          have hns := hnr.mono hbs hbs.size
          have hxs := box_kept hxr hbs
          have Bs := Br.trans (hbs.mono Br.size)
          clear HF x0 x1 x2 x3 hLr hWq hnr hxr Br hos hbs
          obtain ⟨x0, x1, x2, x3⟩ := box4' hxs
          obtain ⟨Lt, hLt⟩ : ∃ L, ws.alloc (.cells #[.int .i64 2147483647, .int .i64 0] 3) = L := ⟨_, rfl⟩
          have hbl : Below ws.heap.size ws Lt := by rw [← hLt]; exact lit_below _ _
          have hil : Ints Lt (ws.heap.size + 1) (.slice (some ⟨ws.heap.size, 0, none⟩) 2 2) [2147483647, 0] := by rw [← hLt]; exact lit_ints ws [2147483647, 0] (by decide)
          have hlz : ws.heap.size + 1 ≤ Lt.heap.size := by rw [← hLt]; simp
          have hil := hil.mono (Below.refl _ _) hlz
          have hnt := hns.mono hbl hbl.size
          have Bt := Bs.trans (hbl.mono Bs.size)
          have HF := Lib.hid (fire_is _ _ (Nat.le_refl _) _ _ _ overN _ 1 hnt hil over_1)
          clear hxs hbl hil hlz hns Bs
          go_wp2_with (first | (go_at_call 20; refine HF.out.mono ?_; rintro e wu ⟨vu, rfl, hou, hbu⟩; refine Hid.out ?_))
          refine Lib.hid ?_
          obtain ⟨au, cu, rfl⟩ := hou.shape
          have Bu := Bt.trans (hbu.mono Bt.size)
          obtain ⟨b9, o9, hau, -, hc9⟩ := (hou.col (by simp) (Nat.le_refl _)).col 0 (by simp)
          subst hau
          have hc9 : wu.cell? ⟨b9, o9, none⟩ = some (.int .i64 2147483647) := hc9
          clear HF x0 x1 x2 x3 hLt hnt Bt hou hbu
          go_wp2_with fail
          go_ret
          exact ⟨rfl, Bu⟩

end Go.Proofs.Ytopgakpggnkkmaa
