/- Readers of a graph: Way, Deadlocks, Dead. -/
import Derived.Test.YtapnkkoplnhleaaDoorReachRead2
import Derived.Lib.OwnBridge
set_option maxRecDepth 100000
namespace Go.Proofs.YtapnkkoplnhleaaDoor
open Go.RowKit Go.Maps Go.WideMaps

theorem reverse_any (w : World) (base : Nat) (v : Value) (l : List Int) (h : OwnI w base v l) (hl : l.length ≤ 4096) :
    Calls Tryd.prog 49 #[v] w fun e w' => e = .returned (.tuple #[]) ∧ OwnI w' base v l.reverse ∧ Below base w w' := by
  by_cases hv : v = .slice none 0 0
  · subst hv
    rcases h.val with ⟨_, rfl⟩ | ⟨g, cap, hv, _⟩
    · refine (Tryd.slices_Reverse_int_empty none 0 w).mono ?_
      rintro e w' ⟨rfl, rfl⟩
      exact ⟨rfl, OwnI.nil _ _, Below.refl _ _⟩
    · cases hv
  · obtain ⟨g, cap, rfl, hb, hg, hn, hm, _, hH⟩ := Lib.holds_of_ownsRow h hv
    refine (Tryd.slices_Reverse_int g 0 cap l w hH (by omega)).mono ?_
    rintro e w' ⟨rfl, q, rfl⟩
    refine ⟨rfl, ?_, Lib.below_putRow (Below.refl _ _) hb⟩
    have := Lib.ownsRow_putRow (q := q) (k := l.length) h (ys := l.reverse) (by simp) (Nat.le_refl _)
    unfold OwnI
    rw [List.length_reverse]
    rw [List.take_of_length_le (by simp)] at this
    exact this

theorem gway_nil (w : World) (i : Int) : Calls Tryd.prog 21 #[.pointer none, .int .i64 i] w (ListPost w [] 2) := by
  go_enter Tryd.func21, Tryd.ntmps21
  go_wp2_with (go_at_call 46; go_must (refine (ghas_nil _ _).mono ?_; rintro e w2 ⟨rfl, rfl⟩))
  go_ret2
  exact ⟨_, rfl, OwnI.nil _ _, Below.refl _ _⟩
theorem gway_no (w : World) (B p nt : Nat) (g : Gr) (hs : List Int) (h : GrR w B p nt g hs) (i : Int) (hi : ¬ (0 ≤ i ∧ i < (g.marks.length : Int))) : Calls Tryd.prog 21 #[.pointer (some ⟨p, 0, none⟩), .int .i64 i] w (ListPost w [] 1) := by
  have HC := Lib.hid (ghas_is w B p nt g hs h i 1 (hasE_no hi))
  clear hi
  go_enter Tryd.func21, Tryd.ntmps21
  go_wp2_with (go_at_call 46; go_must (refine HC.out.mono ?_; rintro e w2 ⟨rfl, rfl⟩))
  go_ret2
  exact ⟨_, rfl, OwnI.nil _ _, Below.refl _ _⟩
set_option maxHeartbeats 1000000 in
theorem gway_any (w : World) (B p nt : Nat) (g : Gr) (hs : List Int) (h : GrR w B p nt g hs) (hB : B ≤ w.heap.size) {n : Nt} {most : Nat} (x : XOk n most g) (hm : most ≤ 1024) (i : Nat) (hi : i < g.marks.length) :
    Calls Tryd.prog 21 #[.pointer (some ⟨p, 0, none⟩), .int .i64 (i : Int)] w (ListPost w (gwayE g i) 0) := by
  have HC := Lib.hid (ghas_is w B p nt g hs h i 0 (hasE_yes hi))
  have HX := Lib.hid x
  have hle := x.le
  have hsl := Lib.hid x.slen
  obtain ⟨v0, a1, c1, x, y, vM, mp, vE, vF, vH, h1, h2, h3, h4, h5, h6, h7, h8, h10⟩ := h
  obtain ⟨k1, k4, k5, k6, k7, k8⟩ := gbox h1
  obtain ⟨aF, cF, rfl⟩ := h5.val
  obtain ⟨i0, hti, hz0, hz1, hz2⟩ := info_parts info_int
  have hplt : p < w.heap.size := by omega
  have HF := Lib.hid h5
  obtain ⟨W, hW⟩ : ∃ W, gwayE g i = W := ⟨_, rfl⟩
  have HW := Lib.hid hW
  rw [hW]
  clear h1 h8 h3 h4 h6 hW
  go_enter Tryd.func21, Tryd.ntmps21
  go_wp2_with (go_at_call 46; go_must (refine HC.out.mono ?_; rintro e w2 ⟨rfl, rfl⟩))
  go_loopg [1, 7] i (fun gh s1 s7 wr => ∃ (j : Nat) (acc : List Int), j ≤ gh ∧ s1 = .int .i64 (j : Int) ∧ j < g.marks.length ∧ Hid (gwayE g j ++ acc.reverse = W) ∧ acc.length + gh ≤ g.marks.length ∧ OwnI wr w.heap.size s7 acc ∧ Below w.heap.size w wr)
  case atStart => exact ⟨i, [], Nat.le_refl _, rfl, hi, by rw [HW.out.symm]; refine Lib.hid ?_; simp, by simp; omega, OwnI.nil _ _, Below.refl _ _⟩
  case round =>
    obtain ⟨j, acc, hjg, rfl, hj, hA, hal, hO, hbel⟩ := hrel
    by_cases hj0 : 0 < j
    · have hjl : j < g.src.length := by rw [hsl.out]; exact hj
      obtain ⟨k, q, hs, hkj, hq, -, -⟩ := HX.out.src_at hj0 hj
      have hst := HX.out.way_step hj0 hj hs
      obtain ⟨b, o, rfl, hb, hc0, hc1⟩ := HF.out.at hjl
      have hge : g.src[j] = ((q : Int), (k : Int)) := by rw [← hs]; simp [hjl]
      rw [hge] at hc0 hc1
      rw [← Below.cellB hbel (by omega)] at hc0 hc1
      rw [← Below.cellB hbel hplt] at k7
      have HA : Hid (gwayE g k ++ (acc ++ [(q : Int)]).reverse = W) := by
        refine Lib.hid ?_
        rw [← hA.out, hst]; simp
      have hwr := hbel.size
      have hx3 := (Below.refl wr.heap.size wr).alloc (Nat.le_refl _) (.cells #[.int .i64 (q : Int)] 3)
      have hT4 := hO.kept hx3 (Nat.le_refl _)
      have HXx := Lib.hid (hbel.trans (hx3.mono hbel.size))
      obtain ⟨a7, c7, rfl⟩ := hO.shape
      have hbg : b < wr.heap.size := by omega
      have hpg : p < wr.heap.size := by omega
      have h1a : acc.length ≤ 1024 := by omega
      clear hs hst hge hx3
      have hal2 : acc.length + 1 + (gk - 1) ≤ g.marks.length := by omega
      go_wp2_with (at_builtin; refine wpList_append_own_at _ rfl _ _ 26 rfl w.heap.size 3 i0 (.int .i64 0) 1 8 Tryd.underlying26 hti hz0 hz1 hz2 rfl (by decide) _ _ _ rfl hT4 ⟨wr.heap.size, 0, none⟩ 1 1 [.int .i64 (q : Int)] rfl rfl (cell_one_new _ _ _) (by intro u hu; simp at hu; subst hu; rfl) (by unfold maxLen; omega) (by omega) (by simp; omega) ?_; intro v6 w6 hown6 hg6 _ hat6; have hb6 : Below w.heap.size w w6 := HXx.out.grown hg6 HXx.out.size (fun k hk => (World.ownsRow.lt hT4 k hk).1); have k7' := k7; rw [Below.cellB hbel hplt, ← Below.cellB hb6 hplt] at k7'; have hc1' := hc1; rw [Below.cellB hbel (by omega), ← Below.cellB hb6 (by omega)] at hc1')
      go_roundg (gk - 1)
      case measure => omega
      case rel => exact ⟨k, acc ++ [(q : Int)], by omega, rfl, by omega, HA, by simp; omega, by unfold OwnI; simpa using hown6, hb6⟩
    · have hj1 : j = 0 := by omega
      subst hj1
      have HAR : Hid (acc.reverse = W) := by refine Lib.hid ?_; rw [← hA.out, gway_zero]; rfl
      have hac : acc.length ≤ 4096 := by omega
      obtain ⟨a7, c7, rfl⟩ := hO.shape
      have HRv := Lib.hid (reverse_any wr w.heap.size _ acc hO hac)
      have HB := Lib.hid hbel
      clear hO hbel
      go_wp2_with (go_at_call 49; refine HRv.out.mono ?_; rintro e w9 ⟨rfl, hO9, hb9⟩; refine Hid.out ?_)
      refine Lib.hid ?_
      have hlen : Hid (acc.length = W.length) := by refine Lib.hid ?_; rw [← HAR.out]; simp
      go_wp2_with fail
      go_ret2
      refine ⟨_, rfl, ?_, HB.out.trans hb9⟩
      rw [HAR.out] at hO9
      exact hO9

theorem gdeadl_nil (w : World) : Calls Tryd.prog 26 #[.pointer none] w fun e w' => ∃ v, e = .returned v ∧ OwnI w' w.heap.size v [] ∧ Below w.heap.size w w' := by
  go_enter Tryd.func26, Tryd.ntmps26
  go_wp2_with fail
  go_ret
  exact ⟨_, rfl, OwnI.nil _ _, Below.refl _ _⟩
/-- The markings without edges. -/
def deadTo (E : List (List (Int × Int))) (k : Nat) : List Int := ((List.range k).filter (fun i => (E.getD i []).isEmpty)).map (fun i : Nat => (i : Int))
def deadE (E : List (List (Int × Int))) : List Int := deadTo E E.length
theorem deadTo_len (E : List (List (Int × Int))) (k : Nat) : (deadTo E k).length ≤ k := by
  have := List.length_filter_le (fun i => (E.getD i []).isEmpty) (List.range k)
  unfold deadTo
  simpa using this
theorem deadTo_succ {E : List (List (Int × Int))} {k : Nat} (h : k < E.length) : deadTo E (k + 1) = if E[k].length = 0 then deadTo E k ++ [(k : Int)] else deadTo E k := by
  unfold deadTo
  have e : E.getD k [] = E[k] := by simp [h]
  rw [List.range_succ, List.filter_append, List.map_append, List.filter_cons, List.filter_nil, e]
  cases E[k] <;> simp
set_option maxHeartbeats 1000000 in
theorem gdeadl_any (w : World) (B p nt : Nat) (g : Gr) (hs : List Int) (h : GrR w B p nt g hs) (hB : B ≤ w.heap.size) (hE : EOk g.edges) :
    Calls Tryd.prog 26 #[.pointer (some ⟨p, 0, none⟩)] w fun e w' => ∃ v, e = .returned v ∧ OwnI w' w.heap.size v (deadE g.edges) ∧ Below w.heap.size w w' := by
  obtain ⟨v0, a1, c1, x, y, vM, mp, vE, vF, vH, h1, h2, h3, h4, h5, h6, h7, h8, h10⟩ := h
  obtain ⟨k1, k4, k5, k6, k7, k8⟩ := gbox h1
  obtain ⟨aE, cE, rfl⟩ := h4.val
  obtain ⟨i0, hti, hz0, hz1, hz2⟩ := info_parts info_int
  have hl := hE.len
  have HV := Lib.hid h4
  unfold deadE
  obtain ⟨E, hEE⟩ : ∃ E, g.edges = E := ⟨_, rfl⟩
  rw [hEE] at hl HV hE k6 ⊢
  clear h1 h8 h3 h4 h5 h6 hEE
  go_enter Tryd.func26, Tryd.ntmps26
  go_wp2_with fail
  go_loopg [3, 13] E.length (fun gh s3 s13 wr => ∃ k : Nat, k + gh = E.length ∧ s13 = .int .i64 (k : Int) ∧ OwnI wr w.heap.size s3 (deadTo E k) ∧ Below w.heap.size w wr)
  case atStart => exact ⟨0, by omega, rfl, OwnI.nil _ _, Below.refl _ _⟩
  case round =>
    obtain ⟨k, hkg, rfl, hO, hbel⟩ := hrel
    by_cases hk : k < E.length
    · obtain ⟨b, o, u, rfl, hb, hc, hu⟩ := HV.out.at k hk
      rw [← Below.cellB hbel (by omega)] at hc
      have hsn := Lib.hid (deadTo_succ hk)
      have hdl := deadTo_len E k
      obtain ⟨row, hrow⟩ : ∃ row, E[k] = row := ⟨_, rfl⟩
      rw [hrow] at hu hsn
      obtain ⟨l, hll⟩ : ∃ l, deadTo E k = l := ⟨_, rfl⟩
      rw [hll] at hO hsn hdl
      obtain ⟨au, cu, rfl⟩ := hu.val
      obtain ⟨a3, c3, rfl⟩ := hO.shape
      clear hrow hll
      have hul := hu.len
      by_cases h0 : row.length = 0
      · rw [if_pos h0] at hsn
        have hx3 := (Below.refl wr.heap.size wr).alloc (Nat.le_refl _) (.cells #[.int .i64 (k : Int)] 3)
        have hT4 := hO.kept hx3 (Nat.le_refl _)
        have HX := Lib.hid (hbel.trans (hx3.mono hbel.size))
        have hws := hbel.size
        rw [h0] at hc
        clear hx3 h0
        go_wp2_with (at_builtin; refine wpList_append_own_at _ rfl _ _ 26 rfl w.heap.size 3 i0 (.int .i64 0) 1 8 Tryd.underlying26 hti hz0 hz1 hz2 rfl (by decide) _ _ _ rfl hT4 ⟨wr.heap.size, 0, none⟩ 1 1 [.int .i64 (k : Int)] rfl rfl (cell_one_new _ _ _) (by intro u hu; simp at hu; subst hu; rfl) (by unfold maxLen; omega) (by omega) (by simp; omega) ?_; intro v6 w6 hown6 hg6 _ hat6)
        go_roundg (gk - 1)
        case measure => omega
        case rel => exact ⟨k + 1, by omega, by go_num, by rw [hsn.out]; unfold OwnI; simpa using hown6, HX.out.grown hg6 HX.out.size (fun k hk => (World.ownsRow.lt hT4 k hk).1)⟩
      · rw [if_neg h0] at hsn
        have h0' : 0 < row.length := by omega
        have hd0 : ((row.length : Int) == 0) = false := by rw [beq_eq_false_iff_ne]; omega
        clear h0
        go_wp2_with fail
        go_roundg (gk - 1)
        case measure => omega
        case rel => exact ⟨k + 1, by omega, by go_num, by rw [hsn.out]; exact hO, hbel⟩
    · have hk' : ¬ ((k : Int) < (E.length : Int)) := by omega
      obtain rfl : k = E.length := by omega
      go_wp2_with fail
      go_ret
      exact ⟨_, rfl, hO, hbel⟩

end Go.Proofs.YtapnkkoplnhleaaDoor
