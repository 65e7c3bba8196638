/- The walk of the law StubNames. -/
import Derived.Test.YtbolacnpljkpbaaDoorStubRB
import Derived.Test.YtbolacnpljkpbaaDoorStubNum
import Derived.Test.YtbolacnpljkpbaaDoorReachExp
set_option maxRecDepth 100000
namespace Go.Proofs.YtbolacnpljkpbaaDoor
open Go.RowKit
open Classical

theorem sexpR_0 : sexpR rowsN 0 = .inl 1 := by unfold sexpR; rw [rows_ok, if_pos rfl, if_pos (by omega)]
theorem sexpR_1025 : sexpR rowsN 1025 = .inl 1 := by unfold sexpR; rw [rows_ok, if_pos rfl, if_neg (by omega), if_pos (by omega)]
theorem sexpR_3 : sexpR rowsN 3 = .inl 170 := by
  unfold sexpR
  rw [rows_ok, if_pos rfl, if_neg (by omega), if_neg (by omega), show ((3 : Int).toNat) = 3 from rfl, rows_stub3]
theorem rows_exp : ∃ g, expR rowsN 9 = .inr g ∧ (g.marks.length : Int) = 5 := by
  obtain ⟨g, h, hl⟩ := rows_all
  refine ⟨g, ?_, by omega⟩
  unfold expR
  rw [rows_ok, if_pos rfl, if_neg (by omega), if_neg (by omega), show ((9 : Int).toNat) = 9 from rfl, h]
theorem rows_setS : rowsN.setS [0, 0, 1, 0, 1, 0] = [1] ∧ rowsN.markE [0, 0, 1, 0, 1, 0] = 0 := ⟨by unfold Nt.setS; rw [rows_mark, if_pos rfl, rows_set], by unfold Nt.markE; rw [rows_mark]; rfl⟩
theorem rows_setN : rowsN.markE [] = 1 := by rfl
theorem glen_is (w : World) (B p nt : Nat) (g : Gr) (hs : List Int) (h : GrR w B p nt g hs) {t : Int} (ht : (g.marks.length : Int) = t) : Calls Tryd.prog 23 #[.pointer (some ⟨p, 0, none⟩)] w fun e w' => e = .returned (.int .i64 t) ∧ w = w' := by
  rw [← ht]; exact glen_any w B p nt g hs h

set_option maxHeartbeats 4000000 in
theorem stubNames_walk (W : World) (htab : Pow10 W.heap.size W) : Calls Tryd.prog 5 #[] W fun e w' => e = .returned (.bool true) ∧ Below W.heap.size W w' := by
  obtain ⟨gA, hgA, hgAl⟩ := rows_exp
  have HGA := Lib.hid (And.intro hgA hgAl)
  clear hgA hgAl
  go_enter Tryd.func5, Tryd.ntmps5
  go_wp2_with (first | (go_at_call 16; refine (smark_nil _ _).mono ?_; rintro e w2 ⟨v2, rfl, ho2, hb2⟩; refine Hid.out ?_))
  refine Lib.hid ?_
  go_wp2_with (first | (go_at_call 17; refine (sedges_nil _ _).mono ?_; rintro e w3 ⟨v3, rfl, ho3, hb3⟩; refine Hid.out ?_))
  refine Lib.hid ?_
  have B3 := hb2.trans (hb3.mono hb2.size)
  clear ho2 ho3 hb2 hb3
  go_wp2_with (first | (go_at_call 18; refine (rows_any _).mono ?_; rintro e w4 ⟨vp, vt, rfl, hn4, hb4⟩; refine Hid.out ?_))
  refine Lib.hid ?_
  have B4 := B3.trans (hb4.mono B3.size)
  obtain ⟨ap, cp, hvp⟩ := hn4.1.val
  obtain ⟨at_, ct, hvt⟩ := hn4.2.val
  rw [show rowsN.places.length = 6 from rfl] at hvp
  rw [show rowsN.trans.length = 3 from rfl] at hvt
  subst hvp hvt
  have hbx5 := heap_alloc_new w4 (.cells #[.slice ap 6 cp, .slice at_ 3 ct, .int .i64 0, .int .i64 1] 25)
  have hb5 := (Below.refl w4.heap.size w4).alloc (Nat.le_refl _) (.cells #[.slice ap 6 cp, .slice at_ 3 ct, .int .i64 0, .int .i64 1] 25)
  obtain ⟨w5, hw5⟩ : ∃ w5, w4.alloc (.cells #[.slice ap 6 cp, .slice at_ 3 ct, .int .i64 0, .int .i64 1] 25) = w5 := ⟨_, rfl⟩
  rw [hw5] at hbx5 hb5
  have hn5 := Lib.hid (hn4.mono hb5 hb5.size)
  have B5 := B4.trans (hb5.mono B4.size)
  have T5 := Lib.hid (tab_up (htab.on B5) B5.size)
  have X5 := Lib.hid hbx5
  obtain ⟨c0, c1, c2, c3⟩ := box4' hbx5
  clear hn4 hb4 hb5 B4 B3 hbx5
  have H6 := Lib.hid (exp_ok w5 w5.heap.size (Nat.le_refl _) _ _ rowsN hn5.out 9 T5.out HGA.out.1)
  go_wp2_with (first | (go_at_call 19; refine H6.out.mono ?_; rintro e w6 ⟨p6, rfl, hg6, hb6⟩; refine Hid.out ?_))
  refine Lib.hid ?_
  clear hw5
  have B6 := B5.trans (hb6.mono B5.size)
  have T6 := Lib.hid (tab_up (T5.out.on hb6) hb6.size)
  have X6 := Lib.hid (box_up X5.out hb6)
  have hn6 := Lib.hid (hn5.out.mono hb6 hb6.size)
  clear c0 c1 c2 c3
  obtain ⟨c0, c1, c2, c3⟩ := box4' X6.out
  have H7 := Lib.hid (sexp_ok w6 w6.heap.size (Nat.le_refl _) _ _ rowsN hn6.out 9 T6.out sexpR_rows)
  go_wp2_with (first | (go_at_call 20; refine H7.out.mono ?_; rintro e w7 ⟨p7, rfl, hg7, hb7⟩; refine Hid.out ?_))
  refine Lib.hid ?_
  have B7 := B6.trans (hb7.mono B6.size)
  have T7 := Lib.hid (tab_up (T6.out.on hb7) hb7.size)
  have X7 := Lib.hid (box_up X6.out hb7)
  have hn7 := Lib.hid (hn6.out.mono hb7 hb7.size)
  clear c0 c1 c2 c3
  obtain ⟨c0, c1, c2, c3⟩ := box4' X7.out
  have G6 := Lib.hid (hg6.mono hb7 hb7.size)
  clear hg6
  have hm7 := heap_alloc_new w7 (.cells #[.int .i64 0, .int .i64 0, .int .i64 1, .int .i64 0, .int .i64 1, .int .i64 0] 3)
  have hb8 := (Below.refl w7.heap.size w7).alloc (Nat.le_refl _) (.cells #[.int .i64 0, .int .i64 0, .int .i64 1, .int .i64 0, .int .i64 1, .int .i64 0] 3)
  obtain ⟨w8, hw8⟩ : ∃ w8, w7.alloc (.cells #[.int .i64 0, .int .i64 0, .int .i64 1, .int .i64 0, .int .i64 1, .int .i64 0] 3) = w8 := ⟨_, rfl⟩
  rw [hw8] at hm7 hb8
  have HI8 : Hid (Ints w8 w8.heap.size (.slice (some ⟨w7.heap.size, 0, none⟩) 6 6) [0, 0, 1, 0, 1, 0]) := Lib.hid (ints_lit (l := [0, 0, 1, 0, 1, 0]) hm7 (by simp) (lt_of_block hm7))
  have B8 := B7.trans (hb8.mono B7.size)
  have T8 := Lib.hid (tab_up (T7.out.on hb8) hb8.size)
  have X8 := Lib.hid (box_up X7.out hb8)
  have hn8 := Lib.hid (hn7.out.mono hb8 hb8.size)
  have G7 := Lib.hid (hg7.mono hb8 hb8.size)
  have G6 := Lib.hid (G6.out.mono hb8 hb8.size)
  obtain ⟨c0', c1', c2', c3'⟩ := box4' X8.out
  clear hg7 hm7
  have H9 := Lib.hid (sset_any w8 _ _ _ rowsN [0, 0, 1, 0, 1, 0] w8.heap.size (Nat.le_refl _) hn8.out HI8.out)
  rw [rows_setS.1, rows_setS.2] at H9
  go_wp2_with (first | (go_at_call 11; refine H9.out.mono ?_; rintro e w9 ⟨v9, rfl, ho9, hb9⟩; refine Hid.out ?_))
  refine Lib.hid ?_
  clear hw8 c0' c1' c2' c3'
  have B9 := B8.trans (hb9.mono B8.size)
  have T9 := Lib.hid (tab_up (T8.out.on hb9) hb9.size)
  have X9 := Lib.hid (box_up X8.out hb9)
  have hn9 := Lib.hid (hn8.out.mono hb9 hb9.size)
  clear c0 c1 c2 c3
  obtain ⟨c0, c1, c2, c3⟩ := box4' X9.out
  obtain ⟨a9, k9, rfl⟩ := ho9.shape
  have O9 := Lib.hid ho9
  have G7 := Lib.hid (G7.out.mono hb9 hb9.size)
  have G6 := Lib.hid (G6.out.mono hb9 hb9.size)
  clear ho9
  have H10 := Lib.hid (sset_any w9 _ _ (.slice none 0 0) rowsN [] w9.heap.size (Nat.le_refl _) hn9.out (ColV.nil _ _ _ _))
  rw [rows_setN] at H10
  go_wp2_with (first | (go_at_call 11; refine H10.out.mono ?_; rintro e w10 ⟨v10, rfl, ho10, hb10⟩; refine Hid.out ?_))
  refine Lib.hid ?_
  have B10 := B9.trans (hb10.mono B9.size)
  have T10 := Lib.hid (tab_up (T9.out.on hb10) hb10.size)
  have X10 := Lib.hid (box_up X9.out hb10)
  have hn10 := Lib.hid (hn9.out.mono hb10 hb10.size)
  clear c0 c1 c2 c3
  obtain ⟨c0, c1, c2, c3⟩ := box4' X10.out
  have O9 := Lib.hid (O9.out.kept hb10 (Nat.le_refl _))
  have G7 := Lib.hid (G7.out.mono hb10 hb10.size)
  have G6 := Lib.hid (G6.out.mono hb10 hb10.size)
  clear ho10
  have H11 := Lib.hid (sexp_no w10 w10.heap.size (Nat.le_refl _) _ _ rowsN hn10.out 0 T10.out sexpR_0)
  go_wp2_with (first | (go_at_call 20; refine H11.out.mono ?_; rintro e w11 ⟨rfl, hb11⟩; refine Hid.out ?_))
  refine Lib.hid ?_
  have B11 := B10.trans (hb11.mono B10.size)
  have T11 := Lib.hid (tab_up (T10.out.on hb11) hb11.size)
  have X11 := Lib.hid (box_up X10.out hb11)
  have hn11 := Lib.hid (hn10.out.mono hb11 hb11.size)
  clear c0 c1 c2 c3
  obtain ⟨c0, c1, c2, c3⟩ := box4' X11.out
  have O9 := Lib.hid (O9.out.kept hb11 (Nat.le_refl _))
  have G7 := Lib.hid (G7.out.mono hb11 hb11.size)
  have G6 := Lib.hid (G6.out.mono hb11 hb11.size)
  have H12 := Lib.hid (sexp_no w11 w11.heap.size (Nat.le_refl _) _ _ rowsN hn11.out 1025 T11.out sexpR_1025)
  go_wp2_with (first | (go_at_call 20; refine H12.out.mono ?_; rintro e w12 ⟨rfl, hb12⟩; refine Hid.out ?_))
  refine Lib.hid ?_
  have B12 := B11.trans (hb12.mono B11.size)
  have T12 := Lib.hid (tab_up (T11.out.on hb12) hb12.size)
  have X12 := Lib.hid (box_up X11.out hb12)
  have hn12 := Lib.hid (hn11.out.mono hb12 hb12.size)
  clear c0 c1 c2 c3
  obtain ⟨c0, c1, c2, c3⟩ := box4' X12.out
  have O9 := Lib.hid (O9.out.kept hb12 (Nat.le_refl _))
  have G7 := Lib.hid (G7.out.mono hb12 hb12.size)
  have G6 := Lib.hid (G6.out.mono hb12 hb12.size)
  have H13 := Lib.hid (sexp_no w12 w12.heap.size (Nat.le_refl _) _ _ rowsN hn12.out 3 T12.out sexpR_3)
  go_wp2_with (first | (go_at_call 20; refine H13.out.mono ?_; rintro e w13 ⟨rfl, hb13⟩; refine Hid.out ?_))
  refine Lib.hid ?_
  have B13 := B12.trans (hb13.mono B12.size)
  have T13 := Lib.hid (tab_up (T12.out.on hb13) hb13.size)
  have X13 := Lib.hid (box_up X12.out hb13)
  have hn13 := Lib.hid (hn12.out.mono hb13 hb13.size)
  clear c0 c1 c2 c3
  obtain ⟨c0, c1, c2, c3⟩ := box4' X13.out
  have O9 := Lib.hid (O9.out.kept hb13 (Nat.le_refl _))
  have G7 := Lib.hid (G7.out.mono hb13 hb13.size)
  have G6 := Lib.hid (G6.out.mono hb13 hb13.size)
  clear c0 c1 c2 c3
  go_wp2_with (first | (go_at_call 21; refine (slen_nil _).mono ?_; rintro e wa ⟨rfl, rfl⟩) | (go_at_call 22; refine (sdeadl_nil _).mono ?_; rintro e w14 ⟨v14, rfl, ho14, hb14⟩; refine Hid.out ?_))
  refine Lib.hid ?_
  obtain ⟨a14, k14, rfl⟩ := ho14.shape
  rw [show ([] : List Int).length = 0 from rfl]
  have B14 := B13.trans (hb14.mono B13.size)
  have T14 := Lib.hid (tab_up (T13.out.on hb14) hb14.size)
  have O9 := Lib.hid (O9.out.kept hb14 (Nat.le_refl _))
  have G7 := Lib.hid (G7.out.mono hb14 hb14.size)
  have G6 := Lib.hid (G6.out.mono hb14 hb14.size)
  have HLA := Lib.hid (glen_is w14 w14.heap.size _ _ _ _ G6.out HGA.out.2)
  have HLB := Lib.hid (slen_is w14 w14.heap.size _ rowsG G7.out (t := 4) rfl)
  have hm14 := heap_alloc_new w14 (.cells #[.int .i64 1] 3)
  have hb15 := (Below.refl w14.heap.size w14).alloc (Nat.le_refl _) (.cells #[.int .i64 1] 3)
  have HI15 : Ints (w14.alloc (.cells #[.int .i64 1] 3)) (w14.alloc (.cells #[.int .i64 1] 3)).heap.size (.slice (some ⟨w14.heap.size, 0, none⟩) 1 1) [1] := ints_lit (l := [1]) hm14 (by simp) (lt_of_block hm14)
  have HNu := Lib.hid (numbers_any (w14.alloc (.cells #[.int .i64 1] 3)) _ _ [1] [1] ((O9.out.kept hb15 (Nat.le_refl _)).col (by simp) (Nat.le_refl _)) HI15)
  rw [show (([1] : List Int) == [1]) = true from rfl] at HNu
  have B15 := B14.trans (hb15.mono B14.size)
  have T15 := Lib.hid (tab_up (T14.out.on hb15) hb15.size)
  clear hm14 HI15 ho14
  go_wp2_with (first | (go_at_call 23; refine HLA.out.mono ?_; rintro e wb ⟨rfl, rfl⟩) | (go_at_call 21; refine HLB.out.mono ?_; rintro e wc ⟨rfl, rfl⟩) | (go_at_call 12; refine HNu.out.mono ?_; rintro e w16 ⟨rfl, q16, hq16⟩; have HQ16 := Lib.hid hq16; clear hq16; refine Hid.out ?_))
  refine Lib.hid ?_
  have hb16 : Below (w14.alloc (.cells #[.int .i64 1] 3)).heap.size (w14.alloc (.cells #[.int .i64 1] 3)) w16 := by rw [HQ16.out]; exact below_drewN' _
  have B16 := B15.trans (hb16.mono B15.size)
  have HA16 := Lib.hid (awake_any w16 w16.heap.size (Nat.le_refl _) (tab_up (T15.out.on hb16) hb16.size))
  clear hb16
  go_wp2_with (first | (go_at_call 8; refine HA16.out.mono ?_; rintro e w17 ⟨rfl, hb17⟩))
  go_ret
  exact ⟨rfl, B16.trans (hb17.mono B16.size)⟩
end Go.Proofs.YtbolacnpljkpbaaDoor
