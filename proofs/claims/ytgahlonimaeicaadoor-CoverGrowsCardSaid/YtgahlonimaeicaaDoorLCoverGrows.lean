/- The walk of the law CoverGrows. -/
import Derived.Test.YtgahlonimaeicaaDoorCoverGrowsP
import Derived.Test.YtgahlonimaeicaaDoorCoverLong
import Derived.Test.YtgahlonimaeicaaDoorOpenNet
import Derived.Laws.NewBlocks
import Derived.IntWalk
set_option maxRecDepth 100000
namespace Go.Proofs.YtgahlonimaeicaaDoor
open Go.RowKit

theorem box_up {w w' : World} {N : Nat} {o : Obj} (h : w.heap[N]? = some o) (hb : Below w.heap.size w w') : w'.heap[N]? = some o := (hb.block N (lt_of_block h)).trans h
theorem growR_cases (n : Nt) (most : Int) : (∃ c, growR n most = .inl c ∧ (c = 1 ∨ c = 170)) ∨ (∃ l, growR n most = .inr l ∧ n.okB = true ∧ 1 ≤ most ∧ most ≤ 4096 ∧ growE n most.toNat = some l) := by
  unfold growR
  cases hok : n.okB with
  | false => exact Or.inl ⟨1, by simp, Or.inl rfl⟩
  | true =>
    by_cases h1 : most < 1
    · exact Or.inl ⟨1, by simp [h1], Or.inl rfl⟩
    · by_cases h2 : 4096 < most
      · exact Or.inl ⟨1, by simp [h1, h2], Or.inl rfl⟩
      · cases e : growE n most.toNat with
        | none => exact Or.inl ⟨170, by simp [h1, h2], Or.inr rfl⟩
        | some l => exact Or.inr ⟨l, by simp [h1, h2], rfl, by omega, by omega, rfl⟩
theorem refgrow_no (w : World) (B : Nat) (hB : B ≤ w.heap.size) (vp vt : Value) (n : Nt) (hn : NtR w B vp vt n) (most : Int) {c : Int} (h : growR n most = .inl c) :
    Calls Tryd.prog 24 #[.agg #[vp, vt, .int .i64 n.init, .int .i64 n.final], .int .i64 most] w fun e w' => e = .returned (.tuple #[.slice none 0 0, .int .i64 c]) ∧ Below w.heap.size w w' :=
  (refgrow_any w B hB vp vt n hn most).mono fun e w' hp => by
    obtain ⟨hb, ⟨c', h1, h2⟩ | ⟨l', A, v, h1, _⟩⟩ := hp
    · rw [h] at h1; cases h1; exact ⟨h2, hb⟩
    · rw [h] at h1; cases h1
theorem refgrow_ok (w : World) (B : Nat) (hB : B ≤ w.heap.size) (vp vt : Value) (n : Nt) (hn : NtR w B vp vt n) (most : Int) {l : List Nd} (h : growR n most = .inr l) :
    Calls Tryd.prog 24 #[.agg #[vp, vt, .int .i64 n.init, .int .i64 n.final], .int .i64 most] w fun e w' => ∃ a cap, e = .returned (.tuple #[.slice a l.length cap, .int .i64 0]) ∧ NdsC w' w'.heap.size a l ∧ Below w.heap.size w w' :=
  (refgrow_any w B hB vp vt n hn most).mono fun e w' hp => by
    obtain ⟨hb, ⟨c', h1, h2⟩ | ⟨l', A, v, h1, h2, h3, h4, h5, h6⟩⟩ := hp
    · rw [h] at h1; cases h1
    · rw [h] at h1; cases h1
      have hok : n.okB = true := by
        rcases growR_cases n most with ⟨c, e, _⟩ | ⟨l2, _, e, _⟩
        · rw [h] at e; cases e
        · exact e
      have hl : l.length = A.length := by rw [← h3]; simp
      obtain ⟨a, cap, rfl⟩ := h4.1.shape
      refine ⟨a, cap, by rw [h2, hl], ?_, hb⟩
      rw [← h3]
      exact h4.read (Nat.le_refl _) (fun x hx => by
        have := h5.len x.1 (by rw [← h3]; exact List.mem_map_of_mem hx)
        have h7 := (Nt.ok_of hok).many
        omega)

theorem quiet_left' {P : Program} {f : FuncId} {args : Array Value} {w : World} {n : Nat} {v : Value}
    (h : Calls P f args (w.drewN n) fun e w' => e = .returned v ∧ ∃ m, w' = (w.drewN n).drewN m) :
    Calls P f args (w.drewN n) fun e w'' => e = .returned v ∧ ∃ m, w'' = w.drewN m :=
  h.mono fun _ _ ⟨he, m, hm⟩ => ⟨he, n + m, by rw [hm, World.drewN_drewN]⟩

set_option maxHeartbeats 8000000 in
theorem coverGrows_walk (W : World) (htab : Pow10 W.heap.size W) (vp vt : Value) (n : Nt) (hn : NtR W W.heap.size vp vt n) (_gn : NtI n) (a : Int) (_ga : (Lit.int .i64 a).wf = true) (vm : Value) (m : List Int) (hm : Ints W W.heap.size vm m) (_gm : I64s m) (p : Int) (_gp : (Lit.int .i64 p).wf = true) :
    Calls Tryd.prog 5 #[.agg #[vp, vt, .int .i64 n.init, .int .i64 n.final], .int .i64 a, vm, .int .i64 p] W fun e w' => e = .returned (.bool true) ∧ Below W.heap.size W w' := by
  have hbA := (Below.refl W.heap.size W).alloc (Nat.le_refl _) (.cells #[vp, vt, .int .i64 n.init, .int .i64 n.final] 25)
  have hboxA := heap_alloc_new W (.cells #[vp, vt, .int .i64 n.init, .int .i64 n.final] 25)
  obtain ⟨W1, hW1⟩ : ∃ W1, W.alloc (.cells #[vp, vt, .int .i64 n.init, .int .i64 n.final] 25) = W1 := ⟨_, rfl⟩
  have hs1 : W1.heap.size = W.heap.size + 1 := by rw [← hW1]; exact World.size_alloc _ _
  rw [hW1] at hbA hboxA
  have hn1 := hn.mono hbA (show W.heap.size ≤ W1.heap.size by omega)
  obtain ⟨ap, cp, rfl⟩ := hn.1.val
  obtain ⟨at_, ct, rfl⟩ := hn.2.val
  obtain ⟨am, cm, rfl⟩ := hm.val
  have hml := hm.len
  have hs1a : W.heap.size + 1 ≤ W1.heap.size := by omega
  clear hs1
  obtain ⟨c0, c1, c2, c3⟩ := box4' hboxA
  cases hl : longB n with
  | true =>
    go_enter Tryd.func5, Tryd.ntmps5
    go_wp2_with (first | (go_at_call 11; refine (long_is _ _ _ n _ hn1 hl).mono ?_; rintro e w3 ⟨rfl, hb3⟩; refine Hid.out ?_))
    refine Lib.hid ?_
    go_wp2_with fail
    go_ret
    exact ⟨rfl, hbA.trans (hb3.mono (by omega))⟩
  | false =>
    by_cases hbg : 200 < a ∧ a ≤ 4096
    · have hd1 : decide (200 < a) = true := decide_eq_true hbg.1
      have hd2 : decide (a ≤ 4096) = true := decide_eq_true hbg.2
      clear hbg
      go_enter Tryd.func5, Tryd.ntmps5
      go_wp2_with (first | (go_at_call 11; refine (long_is _ _ _ n _ hn1 hl).mono ?_; rintro e w3 ⟨rfl, hb3⟩; refine Hid.out ?_))
      refine Lib.hid ?_
      go_wp2_with fail
      go_ret
      exact ⟨rfl, hbA.trans (hb3.mono (by omega))⟩
    · have HL := Lib.hid (long_is _ _ _ n _ hn1 hl)
      clear hl
      have Hbg := Lib.hid hbg
      clear hbg
      go_enter Tryd.func5, Tryd.ntmps5
      go_upto_region 1 with fail
      go_cut [37] (fun s37 wx => ∃ w3, w3 = wx ∧ s37 = .bool false ∧ Below W1.heap.size W1 w3)
      case first =>
        by_cases hb1 : 200 < a
        · have hd1 : decide (200 < a) = true := decide_eq_true hb1
          have hd2 : decide (a ≤ 4096) = false := decide_eq_false (fun e => Hbg.out ⟨hb1, e⟩)
          go_wp2_with (first | (go_at_call 11; refine HL.out.mono ?_; rintro e w3 ⟨rfl, hb3⟩; refine Hid.out ?_))
          refine Lib.hid ?_
          go_wp2_with fail
          go_meet
          exact ⟨_, rfl, rfl, hb3⟩
        · have hd1 : decide (200 < a) = false := decide_eq_false hb1
          go_wp2_with (first | (go_at_call 11; refine HL.out.mono ?_; rintro e w3 ⟨rfl, hb3⟩; refine Hid.out ?_))
          refine Lib.hid ?_
          go_wp2_with fail
          go_meet
          exact ⟨_, rfl, rfl, hb3⟩
      case rest =>
        obtain ⟨w3, rfl, rfl, hb3⟩ := hcut
        clear HL
        have hx3 := box_up hboxA hb3
        have B3 := hbA.trans (hb3.mono (by omega))
        have hz3 := B3.size
        have hn3 := hn.mono B3 hz3
        have hz3' := hb3.size
        clear c0 c1 c2 c3
        obtain ⟨c0, c1, c2, c3⟩ := box4' hx3
        go_wp2_with (first | (go_at_call 23; refine (twin_any _ _ (Nat.le_refl _) _ _ n hn3).mono ?_; rintro e w4 ⟨vq, vu, rfl, hq4, hb4⟩; refine Hid.out ?_))
        refine Lib.hid ?_
        have hz4 := hb4.size
        obtain ⟨aq, cq, rfl⟩ := hq4.1.val
        obtain ⟨au, cu, rfl⟩ := hq4.2.val
        obtain ⟨W4, hW4⟩ : ∃ W4, w4.alloc (.cells #[.slice aq n.places.length cq, .slice au n.trans.length cu, .int .i64 n.init, .int .i64 n.final] 25) = W4 := ⟨_, rfl⟩
        have hb5 : Below w4.heap.size w4 W4 := by rw [← hW4]; exact (Below.refl _ _).alloc (Nat.le_refl _) _
        have hx5 : W4.heap[w4.heap.size]? = some (.cells #[.slice aq n.places.length cq, .slice au n.trans.length cu, .int .i64 n.init, .int .i64 n.final] 25) := by rw [← hW4]; exact heap_alloc_new _ _
        have hz5 := hb5.size
        have hb35 := hb4.trans (hb5.mono hz4)
        have B5 := B3.trans (hb35.mono hz3)
        have hq5 := hq4.mono hb5 hz5
        have hxn5 := box_up hx3 hb35
        have hn5 := hn.mono B5 (show W.heap.size ≤ W4.heap.size by omega)
        clear c0 c1 c2 c3 hn3 hn1
        obtain ⟨c0, c1, c2, c3⟩ := box4' hxn5
        obtain ⟨d0, d1, d2, d3⟩ := box4' hx5
        have t5 := tab_up (htab.on B5) (show W.heap.size ≤ W4.heap.size by omega)
        rcases growR_cases n a with ⟨ec, hec, hc2⟩ | ⟨l, hec, hok, hm1, hm2, hg⟩
        · as_aux_lemma =>
            have hc0 : (ec != 0) = true := by rcases hc2 with rfl | rfl <;> rfl
            have hcc : (ec != ec) = false := bne_self_eq_false _
            have G1 := Lib.hid (grow_no _ _ (Nat.le_refl _) _ _ n hq5 a t5 hec)
            have HEC := Lib.hid hec
            clear hec hc2
            go_wp2_with (first | (go_at_call 12; refine G1.out.mono ?_; rintro e w6 ⟨rfl, hb6⟩; refine Hid.out ?_))
            refine Lib.hid ?_
            clear hW4 G1 c0 c1 c2 c3 d0 d1 d2 d3
            have hz6 := hb6.size
            have hx6 := box_up hx5 hb6
            have hy6 := box_up hxn5 hb6
            obtain ⟨c0, c1, c2, c3⟩ := box4' hy6
            obtain ⟨d0, d1, d2, d3⟩ := box4' hx6
            have hn6 := hn5.mono hb6 (Nat.le_refl _)
            have hq6 := hq5.mono hb6 (Nat.le_refl _)
            have R1 := Lib.hid (refgrow_no w6 _ hz6 _ _ n hn6 a HEC.out)
            go_wp2_with (first | (go_at_call 24; refine R1.out.mono ?_; rintro e w7 ⟨rfl, hb7⟩; refine Hid.out ?_))
            refine Lib.hid ?_
            clear R1 c0 c1 c2 c3 d0 d1 d2 d3
            have hz7 := hb7.size
            have hb67 := hb6.trans (hb7.mono hz6)
            have hx7 := box_up hx5 hb67
            have hy7 := box_up hxn5 hb67
            obtain ⟨c0, c1, c2, c3⟩ := box4' hy7
            obtain ⟨d0, d1, d2, d3⟩ := box4' hx7
            have hn7 := hn5.mono hb67 (Nat.le_refl _)
            have hq7 := hq5.mono hb67 (Nat.le_refl _)
            have t7 := t5.on hb67
            have D1 := Lib.hid (boundedNet_no w7 _ (by omega) _ _ n hq7 a t7 HEC.out)
            go_wp2_with (first | (go_at_call 18; refine D1.out.mono ?_; rintro e w8 ⟨rfl, hb8⟩; refine Hid.out ?_))
            refine Lib.hid ?_
            clear D1 c0 c1 c2 c3 d0 d1 d2 d3
            have hz8 := hb8.size
            have hb68 := hb67.trans (hb8.mono (by omega))
            have hx8 := box_up hx5 hb68
            have hy8 := box_up hxn5 hb68
            obtain ⟨c0, c1, c2, c3⟩ := box4' hy8
            obtain ⟨d0, d1, d2, d3⟩ := box4' hx8
            have hn8 := hn5.mono hb68 (Nat.le_refl _)
            have hq8 := hq5.mono hb68 (Nat.le_refl _)
            have S1 := Lib.hid (refsame_any w8 _ (by omega) _ _ _ _ n hq8 hn8)
            go_wp2_with (first | (go_at_call 25; refine S1.out.mono ?_; rintro e w9 ⟨rfl, hb9⟩; refine Hid.out ?_))
            refine Lib.hid ?_
            go_wp2_with fail
            go_ret
            exact ⟨rfl, B5.trans ((hb68.trans (hb9.mono (by omega))).mono (by omega))⟩
        · have G1 := Lib.hid (grow_ok _ _ (Nat.le_refl _) _ _ n hq5 a t5 hec)
          have HEC := Lib.hid hec
          have hla : l.length ≤ 4096 := by
            have h1 : (a.toNat : Int) = a := by omega
            have := growF_most _ _ _ _ hg (by simp [rootE]; omega)
            omega
          have hpos := (growE_inv hg (by omega)).1.pos
          clear hec hg
          go_wp2_with (first | (go_at_call 12; refine G1.out.mono ?_; rintro e w6 ⟨p6, rfl, hT6, hG6, hb6⟩; refine Hid.out ?_))
          refine Lib.hid ?_
          clear hW4 G1 c0 c1 c2 c3 d0 d1 d2 d3
          have HG := Lib.hid hG6
          have OK := Lib.hid (Nt.ok_of hok)
          have hz6 := hb6.size
          have hx6 := box_up hx5 hb6
          have hy6 := box_up hxn5 hb6
          obtain ⟨c0, c1, c2, c3⟩ := box4' hy6
          obtain ⟨d0, d1, d2, d3⟩ := box4' hx6
          have hn6 := hn5.mono hb6 (Nat.le_refl _)
          have R1 := Lib.hid (refgrow_ok w6 _ hz6 _ _ n hn6 a HEC.out)
          clear hG6 hok
          go_wp2_with (first | (go_at_call 24; refine R1.out.mono ?_; rintro e w7 ⟨ar, cr, rfl, hN7, hb7⟩; refine Hid.out ?_))
          refine Lib.hid ?_
          clear R1 c0 c1 c2 c3 d0 d1 d2 d3
          have hz7 := hb7.size
          have hb67 := hb6.trans (hb7.mono hz6)
          have hx7 := box_up hx5 hb67
          have hy7 := box_up hxn5 hb67
          obtain ⟨c0, c1, c2, c3⟩ := box4' hy7
          obtain ⟨d0, d1, d2, d3⟩ := box4' hx7
          have hq7 := hq5.mono hb67 (Nat.le_refl _)
          have t7 := t5.on hb67
          have hT7 := hT6.mono hb7 hz7
          have D1 := Lib.hid (boundedNet_ok w7 _ (by omega) _ _ n hq7 a t7 HEC.out)
          go_wp2_with (first | (go_at_call 18; refine D1.out.mono ?_; rintro e w8 ⟨rfl, hb8⟩; refine Hid.out ?_))
          refine Lib.hid ?_
          clear D1 c0 c1 c2 c3 d0 d1 d2 d3
          have hz8 := hb8.size
          have hb68 := hb67.trans (hb8.mono (by omega))
          have hx8 := box_up hx5 hb68
          have hy8 := box_up hxn5 hb68
          obtain ⟨c0, c1, c2, c3⟩ := box4' hy8
          obtain ⟨d0, d1, d2, d3⟩ := box4' hx8
          have hn8 := hn5.mono hb68 (Nat.le_refl _)
          have hq8 := hq5.mono hb68 (Nat.le_refl _)
          have S1 := Lib.hid (refsame_any w8 _ (by omega) _ _ _ _ n hq8 hn8)
          go_wp2_with (first | (go_at_call 25; refine S1.out.mono ?_; rintro e w9 ⟨rfl, hb9⟩; refine Hid.out ?_))
          refine Lib.hid ?_
          clear S1 c0 c1 c2 c3 d0 d1 d2 d3
          have hz9 := hb9.size
          have hb79 := hb8.trans (hb9.mono hz8)
          have hT9 := hT7.mono hb79 (show w7.heap.size ≤ w9.heap.size by omega)
          have hN9 := hN7.mono hb79 (show w7.heap.size ≤ w9.heap.size by omega)
          have hb69 := hb67.trans (hb79.mono (by omega))
          have hy9 := box_up hxn5 hb69
          have B9 := B5.trans (hb69.mono (by omega))
          have hm9 := hm.mono B9 (show W.heap.size ≤ w9.heap.size by omega)
          obtain ⟨c0, c1, c2, c3⟩ := box4' hy9
          have hbb : (boundedB l != boundedB l) = false := bne_self_eq_false _
          have hll : ((l.length : Int) != (l.length : Int)) = false := bne_self_eq_false _
          clear hb6 hb7 hb8 hb9 hb79 hb67 hb68 hb69 hx5 hx6 hx7 hx8 hy6 hy7 hy8 hn6 hn8 hq7 hq8 t7 hT6 hT7 hN7 hb3 hb4 hb5 hb35 hxn5 hn5 hq5 t5 hq4 hx3 B3 B5
          go_wp2_with (first
            | (go_at_call 13; refine (len_any _ _ _ l hT9).mono ?_; rintro e w10 ⟨rfl, rfl⟩)
            | (go_at_call 26; refine (refbounded_any _ _ _ _ l hN9 hla).mono ?_; rintro e w10 ⟨rfl, rfl⟩)
            | (go_at_call 22; refine (bounded_any _ _ p6 l hT9 (Nat.le_refl _)).mono ?_; rintro e w10 ⟨rfl, hb10⟩; refine Hid.out ?_))
          refine Lib.hid ?_
          have hb9 := hb10
          have hz10 := hb10.size
          have hT10 := hT9.mono hb10 (Nat.le_refl _)
          have hN10 : Hid (NdsC w10 w9.heap.size ar l) := hN9.mono hb10 (Nat.le_refl _)
          have hy10 := box_up hy9 hb10
          have B10 := B9.trans (hb10.mono (by have := B9.size; omega))
          have hm10 := hm9.mono hb10 (show w9.heap.size ≤ w10.heap.size by omega)
          have hWb : W.heap.size < w9.heap.size := by have := lt_of_block hy9; omega
          have hlenp : Hid (∀ d ∈ l, d.mark.length = n.places.length) := HG.out.len
          have hge : Hid (∀ d ∈ l, ∀ q : Nat, q < n.places.length → -1 ≤ getI d.mark (q : Int)) := fun d hd q hq => by
            obtain ⟨j, hj, rfl⟩ := List.getElem_of_mem hd
            have hl2 := HG.out.len _ (List.getElem_mem hj)
            rw [getI_eq (by omega)]
            exact (HG.out.wide j hj _ (List.getElem_mem _)).1
          have hml2 := OK.out.many
          clear hb10 hT9 hN9 hm9 hbb hll
          go_wp2_with fail
          go_loopg [16, 17, 18] l.length (fun gh s16 s17 s18 wx => ∃ (q f g : Int), gh = (q + 1).toNat ∧ -1 ≤ q ∧ q < (l.length : Int) ∧ s18 = .int .i64 q ∧ s16 = .int .i64 f ∧ s17 = .int .i64 g ∧ Hid (idxN (fun d => wcoversB d.mark m) (l.drop (q + 1).toNat) ((q + 1).toNat : Int) = f) ∧
            Hid (g = if 0 ≤ p ∧ p < (n.places.length : Int) then backF p.toNat (l.drop (q + 1).toNat) else 0) ∧ Below w10.heap.size w10 wx)
          case atStart =>
            refine ⟨(l.length : Int) - 1, -1, 0, by omega, by omega, by omega, rfl, rfl, rfl, ?_, ?_, Below.refl _ _⟩
            · rw [show ((l.length : Int) - 1 + 1).toNat = l.length by omega, List.drop_eq_nil_of_le (Nat.le_refl _)]; exact rfl
            · rw [show ((l.length : Int) - 1 + 1).toNat = l.length by omega, List.drop_eq_nil_of_le (Nat.le_refl _)]; split <;> exact rfl
          case round =>
            obtain ⟨q, f, g, rfl, hq0, hq1, rfl, rfl, rfl, hF, hGg, hbr⟩ := hrel
            have hzr := hbr.size
            by_cases hq : 0 ≤ q
            · obtain ⟨kq, rfl⟩ := Int.eq_ofNat_of_zero_le hq
              have hkq : kq < l.length := by omega
              obtain ⟨bn, on, v, rfl, hbn, -, -, n2, -, hmk⟩ := (hN10.out.mono (hbr.mono hz10) (Nat.le_refl _)) kq hkq
              have hst1 : Hid (idxN (fun d => wcoversB d.mark m) (l.drop kq) (kq : Int) = if wcoversB l[kq].mark m = true then (kq : Int) else idxN (fun d => wcoversB d.mark m) (l.drop (kq + 1)) ((kq + 1 : Nat) : Int)) := idx_back hkq
              have hst2 := Lib.hid (fun p => backF_drop (p := p) hkq)
              have hld := Lib.hid (hlenp.out _ (List.getElem_mem hkq))
              have hg2 := Lib.hid (hge.out _ (List.getElem_mem hkq))
              rw [show ((kq : Int) + 1).toNat = kq + 1 by omega] at hF hGg
              obtain ⟨d2, hd2⟩ : ∃ d2, l[kq] = d2 := ⟨_, rfl⟩
              rw [hd2] at hmk hst1 hst2 hld hg2
              clear hd2 hq
              obtain ⟨av, cv, rfl⟩ := hmk.val
              have hmr := hm10.mono hbr (Nat.le_refl _)
              have hyr := box_up hy10 hbr
              clear c0 c1 c2 c3
              have HC := Lib.hid (refwcovers_any wr wr.heap.size _ _ d2.mark m (hmk.mono (Below.refl _ _) (by omega)) (hmr.mono (Below.refl _ _) (by omega)))
              obtain ⟨t, ht⟩ : ∃ t, wcoversB d2.mark m = t := ⟨_, rfl⟩
              rw [ht] at HC hst1
              clear ht
              have hb1r : Below wr.heap.size wr (wr.drew) := (Below.refl _ _).drew
              cases t with
              | true =>
                as_aux_lemma =>
                  have hF2 : Hid (idxN (fun d => wcoversB d.mark m) (l.drop kq) (kq : Int) = (kq : Int)) := by rw [hst1.out, if_pos rfl]; exact rfl
                  clear hst1 hF
                  go_wp2_with (first | (go_at_call 27; refine HC.out.mono ?_; rintro e w11 ⟨rfl, n11, rfl⟩; refine Hid.out ?_))
                  refine Lib.hid ?_
                  obtain ⟨w11, hw11⟩ : ∃ w11, wr.drewN n11 = w11 := ⟨_, rfl⟩
                  have hb11 : Below wr.heap.size wr w11 := by rw [← hw11]; exact below_drewN' n11
                  rw [hw11]
                  clear hw11 HC
                  have hz11 := hb11.size
                  have hy11 := box_up hyr hb11
                  have hbr11 := hbr.trans (hb11.mono hzr)
                  have hf1 : W.heap.size < w11.heap.size := by omega
                  have hf2 : bn < w11.heap.size := by omega
                  rw [← Below.cellB hb11 (by omega)] at n2
                  obtain ⟨c0, c1, c2, c3⟩ := box4' hy11
                  by_cases hp0 : 0 ≤ p
                  · obtain ⟨pN, rfl⟩ := Int.eq_ofNat_of_zero_le hp0
                    by_cases hp1 : pN < n.places.length
                    · have hpd : pN < d2.mark.length := by have := hld.out; omega
                      have hd2 : decide ((pN : Int) < (n.places.length : Int)) = true := decide_eq_true (by omega)
                      have hd3 : decide (pN < n.places.length) = true := decide_eq_true hp1
                      have hmk11 := hmk.mono (hb11.mono (by omega)) (show w9.heap.size ≤ w11.heap.size by omega)
                      obtain ⟨bv, ov, rfl, hbv, hcx⟩ := hmk11.col pN hpd
                      have hcvl := hmk.cap
                      have hgx := Lib.hid (getI_eq hpd)
                      have hgl := Lib.hid (hg2.out pN hp1)
                      obtain ⟨x, hx⟩ : ∃ x, d2.mark[pN] = x := ⟨_, rfl⟩
                      rw [hx] at hcx hgx
                      clear hx hp0
                      have hG2 : Hid (g = backF pN (l.drop (kq + 1))) := by rw [hGg.out, if_pos ⟨by omega, by omega⟩]; exact rfl
                      have hi1 : (0 : Int) ≤ (pN : Int) := by omega
                      have hi2 : (pN : Int) ≤ (pN : Int) + 1 := by omega
                      have hi3 : (pN : Int) + 1 ≤ (cv : Int) := by omega
                      have hi4 : ¬ cv = pN := by omega
                      have hi5 : IntKind.i64.wrap ((pN : Int) + 1) = (pN : Int) + 1 := by apply IntWalk.i64_in <;> omega
                      have hi6 : ((pN : Int) + 1).toNat = pN + 1 := by omega
                      have hi7 : pN + 1 - pN = 1 := by omega
                      have hIg : Ints (w11.alloc (.cells #[.int .i64 g] 3)) (w11.heap.size + 1) (.slice (some ⟨w11.heap.size, 0, none⟩) 1 1) [g] := ints_lit (l := [g]) (heap_alloc_new _ _) (by simp) (by omega)
                      have hIx : Ints (w11.alloc (.cells #[.int .i64 g] 3)) (w11.heap.size + 1) (.slice (some ⟨bv, ov + pN, none⟩) 1 (cv - pN)) [x] := by
                        refine ⟨_, _, rfl, by simp, by simp; omega, fun j hj => ⟨bv, ov + pN, rfl, by omega, ?_⟩⟩
                        obtain rfl : j = 0 := by simpa using hj
                        rw [World.cell?_alloc_lt _ _ _ (show (⟨bv, ov + pN + 0, none⟩ : Addr).block < w11.heap.size from hbv)]
                        exact hcx
                      have HC2 := Lib.hid (refwcovers_any _ _ _ _ [g] [x] hIg hIx)
                      rw [wcov_one] at HC2
                      have hst2p := Lib.hid (hst2.out pN)
                      cases hmr : moreB x g with
                      | true =>
                        have hG3 : Hid (x = if 0 ≤ (pN : Int) ∧ (pN : Int) < (n.places.length : Int) then backF ((pN : Int)).toNat (l.drop kq) else 0) := by
                          rw [if_pos ⟨by omega, by omega⟩, show ((pN : Int)).toNat = pN by omega, hst2p.out, hgx.out, ← hG2.out]
                          show x = (if moreB x g then x else g)
                          rw [hmr]; rfl
                        rw [hmr] at HC2
                        clear hmr hG2 hGg hst2 hst2p
                        go_wp2_with (first | (go_at_call 27; refine HC2.out.mono ?_; rintro e w12 ⟨rfl, n12, rfl⟩))
                        go_roundg kq
                        case measure => omega
                        case rel => exact ⟨(kq : Int) - 1, (kq : Int), x, by omega, by omega, by omega, rfl, rfl, rfl, by rw [show (((kq : Int) - 1) + 1).toNat = kq by omega]; exact hF2, by rw [show (((kq : Int) - 1) + 1).toNat = kq by omega]; exact hG3, below_drewN (hbr11.alloc (by omega) _) n12⟩
                      | false =>
                        have hG3 : Hid (g = if 0 ≤ (pN : Int) ∧ (pN : Int) < (n.places.length : Int) then backF ((pN : Int)).toNat (l.drop kq) else 0) := by
                          rw [if_pos ⟨by omega, by omega⟩, show ((pN : Int)).toNat = pN by omega, hst2p.out, hgx.out, ← hG2.out]
                          show g = (if moreB x g then x else g)
                          rw [hmr]; rfl
                        rw [hmr] at HC2
                        clear hmr hG2 hGg hst2 hst2p
                        go_wp2_with (first | (go_at_call 27; refine HC2.out.mono ?_; rintro e w12 ⟨rfl, n12, rfl⟩))
                        go_roundg kq
                        case measure => omega
                        case rel => exact ⟨(kq : Int) - 1, (kq : Int), g, by omega, by omega, by omega, rfl, rfl, rfl, by rw [show (((kq : Int) - 1) + 1).toNat = kq by omega]; exact hF2, by rw [show (((kq : Int) - 1) + 1).toNat = kq by omega]; exact hG3, below_drewN (hbr11.alloc (by omega) _) n12⟩
                    · have hd2 : decide ((pN : Int) < (n.places.length : Int)) = false := decide_eq_false (by omega)
                      have hd3 : decide (pN < n.places.length) = false := decide_eq_false hp1
                      have hG3 : Hid (g = if 0 ≤ (pN : Int) ∧ (pN : Int) < (n.places.length : Int) then backF ((pN : Int)).toNat (l.drop kq) else 0) := by
                        rw [hGg.out, if_neg (by omega), if_neg (by omega)]; exact rfl
                      clear hp0 hp1 hGg hst2
                      go_wp2_with fail
                      go_roundg kq
                      case measure => omega
                      case rel => exact ⟨(kq : Int) - 1, (kq : Int), g, by omega, by omega, by omega, rfl, rfl, rfl, by rw [show (((kq : Int) - 1) + 1).toNat = kq by omega]; exact hF2, by rw [show (((kq : Int) - 1) + 1).toNat = kq by omega]; exact hG3, hbr11⟩
                  · have hd2 : decide (0 ≤ p) = false := decide_eq_false hp0
                    have hG3 : Hid (g = if 0 ≤ p ∧ p < (n.places.length : Int) then backF p.toNat (l.drop kq) else 0) := by
                      rw [hGg.out, if_neg (by omega), if_neg (by omega)]; exact rfl
                    clear hp0 hGg hst2
                    go_wp2_with fail
                    go_roundg kq
                    case measure => omega
                    case rel => exact ⟨(kq : Int) - 1, (kq : Int), g, by omega, by omega, by omega, rfl, rfl, rfl, by rw [show (((kq : Int) - 1) + 1).toNat = kq by omega]; exact hF2, by rw [show (((kq : Int) - 1) + 1).toNat = kq by omega]; exact hG3, hbr11⟩
              | false =>
                as_aux_lemma =>
                  have hF2 : Hid (idxN (fun d => wcoversB d.mark m) (l.drop kq) (kq : Int) = f) := by rw [hst1.out, if_neg (by simp), ← hF.out]; exact rfl
                  clear hst1 hF
                  go_wp2_with (first | (go_at_call 27; refine HC.out.mono ?_; rintro e w11 ⟨rfl, n11, rfl⟩; refine Hid.out ?_))
                  refine Lib.hid ?_
                  obtain ⟨w11, hw11⟩ : ∃ w11, wr.drewN n11 = w11 := ⟨_, rfl⟩
                  have hb11 : Below wr.heap.size wr w11 := by rw [← hw11]; exact below_drewN' n11
                  rw [hw11]
                  clear hw11 HC
                  have hz11 := hb11.size
                  have hy11 := box_up hyr hb11
                  have hbr11 := hbr.trans (hb11.mono hzr)
                  have hf1 : W.heap.size < w11.heap.size := by omega
                  have hf2 : bn < w11.heap.size := by omega
                  rw [← Below.cellB hb11 (by omega)] at n2
                  obtain ⟨c0, c1, c2, c3⟩ := box4' hy11
                  by_cases hp0 : 0 ≤ p
                  · obtain ⟨pN, rfl⟩ := Int.eq_ofNat_of_zero_le hp0
                    by_cases hp1 : pN < n.places.length
                    · have hpd : pN < d2.mark.length := by have := hld.out; omega
                      have hd2 : decide ((pN : Int) < (n.places.length : Int)) = true := decide_eq_true (by omega)
                      have hd3 : decide (pN < n.places.length) = true := decide_eq_true hp1
                      have hmk11 := hmk.mono (hb11.mono (by omega)) (show w9.heap.size ≤ w11.heap.size by omega)
                      obtain ⟨bv, ov, rfl, hbv, hcx⟩ := hmk11.col pN hpd
                      have hcvl := hmk.cap
                      have hgx := Lib.hid (getI_eq hpd)
                      have hgl := Lib.hid (hg2.out pN hp1)
                      obtain ⟨x, hx⟩ : ∃ x, d2.mark[pN] = x := ⟨_, rfl⟩
                      rw [hx] at hcx hgx
                      clear hx hp0
                      have hG2 : Hid (g = backF pN (l.drop (kq + 1))) := by rw [hGg.out, if_pos ⟨by omega, by omega⟩]; exact rfl
                      have hi1 : (0 : Int) ≤ (pN : Int) := by omega
                      have hi2 : (pN : Int) ≤ (pN : Int) + 1 := by omega
                      have hi3 : (pN : Int) + 1 ≤ (cv : Int) := by omega
                      have hi4 : ¬ cv = pN := by omega
                      have hi5 : IntKind.i64.wrap ((pN : Int) + 1) = (pN : Int) + 1 := by apply IntWalk.i64_in <;> omega
                      have hi6 : ((pN : Int) + 1).toNat = pN + 1 := by omega
                      have hi7 : pN + 1 - pN = 1 := by omega
                      have hIg : Ints (w11.alloc (.cells #[.int .i64 g] 3)) (w11.heap.size + 1) (.slice (some ⟨w11.heap.size, 0, none⟩) 1 1) [g] := ints_lit (l := [g]) (heap_alloc_new _ _) (by simp) (by omega)
                      have hIx : Ints (w11.alloc (.cells #[.int .i64 g] 3)) (w11.heap.size + 1) (.slice (some ⟨bv, ov + pN, none⟩) 1 (cv - pN)) [x] := by
                        refine ⟨_, _, rfl, by simp, by simp; omega, fun j hj => ⟨bv, ov + pN, rfl, by omega, ?_⟩⟩
                        obtain rfl : j = 0 := by simpa using hj
                        rw [World.cell?_alloc_lt _ _ _ (show (⟨bv, ov + pN + 0, none⟩ : Addr).block < w11.heap.size from hbv)]
                        exact hcx
                      have HC2 := Lib.hid (refwcovers_any _ _ _ _ [g] [x] hIg hIx)
                      rw [wcov_one] at HC2
                      have hst2p := Lib.hid (hst2.out pN)
                      cases hmr : moreB x g with
                      | true =>
                        have hG3 : Hid (x = if 0 ≤ (pN : Int) ∧ (pN : Int) < (n.places.length : Int) then backF ((pN : Int)).toNat (l.drop kq) else 0) := by
                          rw [if_pos ⟨by omega, by omega⟩, show ((pN : Int)).toNat = pN by omega, hst2p.out, hgx.out, ← hG2.out]
                          show x = (if moreB x g then x else g)
                          rw [hmr]; rfl
                        rw [hmr] at HC2
                        clear hmr hG2 hGg hst2 hst2p
                        go_wp2_with (first | (go_at_call 27; refine HC2.out.mono ?_; rintro e w12 ⟨rfl, n12, rfl⟩))
                        go_roundg kq
                        case measure => omega
                        case rel => exact ⟨(kq : Int) - 1, f, x, by omega, by omega, by omega, rfl, rfl, rfl, by rw [show (((kq : Int) - 1) + 1).toNat = kq by omega]; exact hF2, by rw [show (((kq : Int) - 1) + 1).toNat = kq by omega]; exact hG3, below_drewN (hbr11.alloc (by omega) _) n12⟩
                      | false =>
                        have hG3 : Hid (g = if 0 ≤ (pN : Int) ∧ (pN : Int) < (n.places.length : Int) then backF ((pN : Int)).toNat (l.drop kq) else 0) := by
                          rw [if_pos ⟨by omega, by omega⟩, show ((pN : Int)).toNat = pN by omega, hst2p.out, hgx.out, ← hG2.out]
                          show g = (if moreB x g then x else g)
                          rw [hmr]; rfl
                        rw [hmr] at HC2
                        clear hmr hG2 hGg hst2 hst2p
                        go_wp2_with (first | (go_at_call 27; refine HC2.out.mono ?_; rintro e w12 ⟨rfl, n12, rfl⟩))
                        go_roundg kq
                        case measure => omega
                        case rel => exact ⟨(kq : Int) - 1, f, g, by omega, by omega, by omega, rfl, rfl, rfl, by rw [show (((kq : Int) - 1) + 1).toNat = kq by omega]; exact hF2, by rw [show (((kq : Int) - 1) + 1).toNat = kq by omega]; exact hG3, below_drewN (hbr11.alloc (by omega) _) n12⟩
                    · have hd2 : decide ((pN : Int) < (n.places.length : Int)) = false := decide_eq_false (by omega)
                      have hd3 : decide (pN < n.places.length) = false := decide_eq_false hp1
                      have hG3 : Hid (g = if 0 ≤ (pN : Int) ∧ (pN : Int) < (n.places.length : Int) then backF ((pN : Int)).toNat (l.drop kq) else 0) := by
                        rw [hGg.out, if_neg (by omega), if_neg (by omega)]; exact rfl
                      clear hp0 hp1 hGg hst2
                      go_wp2_with fail
                      go_roundg kq
                      case measure => omega
                      case rel => exact ⟨(kq : Int) - 1, f, g, by omega, by omega, by omega, rfl, rfl, rfl, by rw [show (((kq : Int) - 1) + 1).toNat = kq by omega]; exact hF2, by rw [show (((kq : Int) - 1) + 1).toNat = kq by omega]; exact hG3, hbr11⟩
                  · have hd2 : decide (0 ≤ p) = false := decide_eq_false hp0
                    have hG3 : Hid (g = if 0 ≤ p ∧ p < (n.places.length : Int) then backF p.toNat (l.drop kq) else 0) := by
                      rw [hGg.out, if_neg (by omega), if_neg (by omega)]; exact rfl
                    clear hp0 hGg hst2
                    go_wp2_with fail
                    go_roundg kq
                    case measure => omega
                    case rel => exact ⟨(kq : Int) - 1, f, g, by omega, by omega, by omega, rfl, rfl, rfl, by rw [show (((kq : Int) - 1) + 1).toNat = kq by omega]; exact hF2, by rw [show (((kq : Int) - 1) + 1).toNat = kq by omega]; exact hG3, hbr11⟩
            · have hqm : q = -1 := by omega
              subst hqm
              have hF2 : Hid (idxN (fun d => wcoversB d.mark m) l 0 = f) := hF
              have hG2 : Hid (g = if 0 ≤ p ∧ p < (n.places.length : Int) then backF p.toNat l else 0) := hGg
              clear hF hGg
              obtain ⟨w11, rfl⟩ : ∃ w11, w11 = wr := ⟨_, rfl⟩
              have hT11 := hT10.mono (hbr.mono hz10) (show w9.heap.size ≤ w11.heap.size by omega)
              have hm11 := hm10.mono hbr (show w10.heap.size ≤ w11.heap.size by omega)
              have hN11 : Hid (NdsC w11 w9.heap.size ar l) := hN10.out.mono (hbr.mono hz10) (Nat.le_refl _)
              have hK := Lib.hid (covered_idx w11 w11.heap.size p6 l hT11 (Nat.le_refl _) _ m hm11 f hF2.out)
              have hfr : Hid (f = -1 ∨ ∃ j : Nat, f = (j : Int)) := by
                rcases idxN_range (fun d => wcoversB d.mark m) l 0 with e | ⟨j, e, _⟩
                · exact Or.inl (hF2.out.symm.trans e)
                · exact Or.inr ⟨j, by rw [← hF2.out, show (0 : Int) = ((0 : Nat) : Int) from rfl, e]; simp⟩
              obtain ⟨fm, hfm⟩ : ∃ fm, max f 0 = fm := ⟨_, rfl⟩
              obtain ⟨fb, hfb⟩ : ∃ fb, decide (0 ≤ f) = fb := ⟨_, rfl⟩
              rw [hfm, hfb] at hK
              have HFM := Lib.hid hfm
              have HFB := Lib.hid hfb
              clear hfm hfb
              have hyr := box_up hy10 hbr
              clear c0 c1 c2 c3
              go_wp2_with (first | (go_at_call 20; refine hK.out.mono ?_; rintro e w12 ⟨rfl, hb12⟩; refine Hid.out ?_))
              refine Lib.hid ?_
              have hz12 := hb12.size
              have hT12 := hT11.mono hb12 (Nat.le_refl _)
              obtain ⟨hc, hhc⟩ : ∃ hc : Int, hc = (if 0 ≤ p ∧ p < (n.places.length : Int) then 0 else 1) := ⟨_, rfl⟩
              have hM : Hid (Calls Tryd.prog 19 #[.pointer (some ⟨p6, 0, none⟩), .int .i64 p] w12 fun e w' => e = .returned (.tuple #[.int .i64 g, .int .i64 hc]) ∧ Below w12.heap.size w12 w') := by
                by_cases hp : 0 ≤ p ∧ p < (n.places.length : Int)
                · obtain ⟨pN, rfl⟩ := Int.eq_ofNat_of_zero_le hp.1
                  have hpn : pN < n.places.length := by omega
                  rw [hhc, hG2.out, if_pos hp, if_pos hp, show ((pN : Int)).toNat = pN by omega, mostF_all (fun d hd => hge.out d hd pN hpn)]
                  exact most_any w12 w11.heap.size p6 l hT12 hz12 hpos pN (fun d hd => by rw [hlenp.out d hd]; exact hpn)
                · rw [hhc, hG2.out, if_neg hp, if_neg hp]
                  refine (most_bad w12 w11.heap.size p6 l hT12 hz12 hpos p ?_).mono fun e w' ⟨h1, h2⟩ => ⟨h1, by rw [← h2]; exact Below.refl _ _⟩
                  rw [ndAt_eq hpos, hlenp.out _ (List.getElem_mem hpos)]
                  exact hp
              have HHC := Lib.hid hhc
              clear hhc
              go_wp2_with (first | (go_at_call 19; refine hM.out.mono ?_; rintro e w13 ⟨rfl, hb13⟩; refine Hid.out ?_))
              refine Lib.hid ?_
              have hz13 := hb13.size
              have hb11_13 := hb12.trans (hb13.mono hz12)
              have hy13 := box_up hyr hb11_13
              have hT13 := hT12.mono (hb13.mono hz12) (show w11.heap.size ≤ w13.heap.size by omega)
              have hN13 : Hid (NdsC w13 w9.heap.size ar l) := hN11.out.mono (hb11_13.mono (by omega)) (Nat.le_refl _)
              have B13 := B10.trans ((hbr.trans (hb11_13.mono hzr)).mono (by omega))
              obtain ⟨c0, c1, c2, c3⟩ := box4' hy13
              clear hM hK hT11 hT12 hm11 hyr hb12 hb13 hN11
              go_upto_region 24 with fail
              go_cut [195] (fun s195 wx => s195 = .bool false ∧ w13 = wx)
              case first =>
                as_aux_lemma =>
                  have hgg : (g != g) = false := bne_self_eq_false _
                  rcases hfr.out with rfl | ⟨j, rfl⟩
                  · obtain rfl : fm = 0 := HFM.out.symm
                    obtain rfl : fb = false := HFB.out.symm
                    have hmx : max (-1 : Int) 0 = 0 := rfl
                    have hdm : decide ((0 : Int) ≤ -1) = false := rfl
                    by_cases hp0 : 0 ≤ p
                    · obtain ⟨pN, rfl⟩ := Int.eq_ofNat_of_zero_le hp0
                      by_cases hp1 : pN < n.places.length
                      · have hd2 : decide ((pN : Int) < (n.places.length : Int)) = true := decide_eq_true (by omega)
                        have hd3 : decide (pN < n.places.length) = true := decide_eq_true hp1
                        obtain rfl : hc = 0 := by rw [HHC.out, if_pos ⟨by omega, by omega⟩]
                        go_wp2_with fail
                        go_meet
                        exact ⟨rfl, rfl⟩
                      · have hd2 : decide ((pN : Int) < (n.places.length : Int)) = false := decide_eq_false (by omega)
                        have hd3 : decide (pN < n.places.length) = false := decide_eq_false hp1
                        obtain rfl : hc = 1 := by rw [HHC.out, if_neg (by omega)]
                        go_wp2_with fail
                        go_meet
                        exact ⟨rfl, rfl⟩
                    · have hd2 : decide (0 ≤ p) = false := decide_eq_false hp0
                      obtain rfl : hc = 1 := by rw [HHC.out, if_neg (by omega)]
                      go_wp2_with fail
                      go_meet
                      exact ⟨rfl, rfl⟩
                  · obtain rfl : fm = (j : Int) := by rw [← HFM.out]; omega
                    obtain rfl : fb = true := by rw [← HFB.out]; exact decide_eq_true (by omega)
                    have hjj : ((j : Int) != (j : Int)) = false := bne_self_eq_false _
                    have hj0 : decide ((0 : Int) ≤ (j : Int)) = true := decide_eq_true (by omega)
                    by_cases hp0 : 0 ≤ p
                    · obtain ⟨pN, rfl⟩ := Int.eq_ofNat_of_zero_le hp0
                      by_cases hp1 : pN < n.places.length
                      · have hd2 : decide ((pN : Int) < (n.places.length : Int)) = true := decide_eq_true (by omega)
                        have hd3 : decide (pN < n.places.length) = true := decide_eq_true hp1
                        obtain rfl : hc = 0 := by rw [HHC.out, if_pos ⟨by omega, by omega⟩]
                        go_wp2_with fail
                        go_meet
                        exact ⟨rfl, rfl⟩
                      · have hd2 : decide ((pN : Int) < (n.places.length : Int)) = false := decide_eq_false (by omega)
                        have hd3 : decide (pN < n.places.length) = false := decide_eq_false hp1
                        obtain rfl : hc = 1 := by rw [HHC.out, if_neg (by omega)]
                        go_wp2_with fail
                        go_meet
                        exact ⟨rfl, rfl⟩
                    · have hd2 : decide (0 ≤ p) = false := decide_eq_false hp0
                      obtain rfl : hc = 1 := by rw [HHC.out, if_neg (by omega)]
                      go_wp2_with fail
                      go_meet
                      exact ⟨rfl, rfl⟩
              case rest =>
                obtain ⟨rfl, rfl⟩ := hcut
                clear c0 c1 c2 c3 HFM HFB HHC hF2 hG2 hfr
                go_wp2_with fail
                go_loopg [23] 2 (fun gh s23 wx => ∃ r : Nat, r + gh = 2 ∧ s23 = .int .i64 (r : Int) ∧ Below w13.heap.size w13 wx)
                case atStart => exact ⟨0, by omega, rfl, Below.refl _ _⟩
                case round =>
                  obtain ⟨r, hrg, rfl, hbr⟩ := hrel
                  by_cases hr : r < 2
                  · have hrd : decide ((r : Int) < 2) = true := decide_eq_true (by omega)
                    go_wp2_with fail
                    go_loopg [24] l.length (fun gh s24 wx => ∃ k : Nat, k + gh = l.length ∧ s24 = .int .i64 (k : Int) ∧ Below w13.heap.size w13 wx)
                    case atStart => exact ⟨0, by omega, rfl, hbr⟩
                    case round =>
                      clear hbr
                      obtain ⟨k, hkg, rfl, hbr⟩ := hrel
                      have hzr := hbr.size
                      by_cases hk : k < l.length
                      · have HN := Lib.hid (node_any wr w13.heap.size p6 l (hT13.mono (hbr.mono (by omega)) (by omega)) hzr k hk)
                        obtain ⟨bn, on, v, rfl, hbn, n0, n1, n2, n3, hmk⟩ := (hN13.out.mono (hbr.mono (by omega)) (Nat.le_refl _)) k hk
                        have hld := Lib.hid (hlenp.out _ (List.getElem_mem hk))
                        obtain ⟨d2, hd2⟩ : ∃ d2, l[k] = d2 := ⟨_, rfl⟩
                        rw [hd2] at n0 n1 n3 hmk hld HN
                        clear hd2
                        obtain ⟨av, cv, rfl⟩ := hmk.val
                        go_wp2_with (first | (go_at_call 14; refine HN.out.mono ?_; rintro e w14 ⟨v8, rfl, how8, hb8⟩; refine Hid.out ?_))
                        refine Lib.hid ?_
                        have htwo := OK.out.two
                        rcases how8.val with ⟨-, h0⟩ | ⟨g8, c8, rfl, hg80, hg81⟩
                        · exact absurd (congrArg List.length h0) (by rw [hld.out, List.length_nil]; omega)
                        have hz8 := hb8.size
                        obtain ⟨W8, hW8⟩ : ∃ W8, w14.alloc (.cells #[.int .i64 d2.par, .int .i64 d2.tr, .slice (some ⟨g8, 0, none⟩) d2.mark.length c8, .int .i64 d2.again] 36) = W8 := ⟨_, rfl⟩
                        have hbW8 : Below w14.heap.size w14 W8 := by rw [← hW8]; exact (Below.refl _ _).alloc (Nat.le_refl _) _
                        have hxW8 : W8.heap[w14.heap.size]? = some (.cells #[.int .i64 d2.par, .int .i64 d2.tr, .slice (some ⟨g8, 0, none⟩) d2.mark.length c8, .int .i64 d2.again] 36) := by rw [← hW8]; exact heap_alloc_new _ _
                        have hzW8 := hbW8.size
                        have hb8W := hb8.trans (hbW8.mono hz8)
                        have how8W := how8.kept hbW8 (Nat.le_refl _)
                        have hlm : d2.mark.length ≤ 4096 := by have := hld.out; omega
                        have hI8 : Ints W8 W8.heap.size (.slice (some ⟨g8, 0, none⟩) d2.mark.length c8) d2.mark := how8W.col (by omega) (Nat.le_refl _)
                        have hmk8 := hmk.mono (hb8W.mono (by omega)) (show w9.heap.size ≤ W8.heap.size by omega)
                        rw [← Below.cellB hb8W (by omega)] at n0 n1 n2 n3
                        obtain ⟨q0, q1, q2, q3⟩ := box4 hxW8
                        have e1 : (d2.par != d2.par) = false := bne_self_eq_false _
                        have e2 : (d2.tr != d2.tr) = false := bne_self_eq_false _
                        have e3 : (d2.again != d2.again) = false := bne_self_eq_false _
                        go_wp2_with fail
                        clear hW8
                        go_quiet ((go_at_call 28; exact quiet_left' (refcmp_at _ _ _ _ _ _ (hI8.drewN _) (hmk8.drewN _) (cmpL_self _))))
                        have hne8 : w14.heap.size ≠ g8 := by have := hg81; omega
                        have hbr8 := hbr.trans (hb8W.mono hzr)
                        clear n0 n1 n2 n3 q0 q1 q3 hI8 hmk8 e1 e2 e3 hmk hT13 HN how8
                        go_wp2_with fail
                        go_loopg [27] d2.mark.length (fun gh s27 wx => ∃ (kk : Nat) (cur : List Int), kk + gh = d2.mark.length ∧ s27 = .int .i64 (kk : Int) ∧ Hid (cur.length = d2.mark.length) ∧ OwnI wx wr.heap.size (.slice (some ⟨g8, 0, none⟩) d2.mark.length c8) cur ∧ W8.grownBy wx (some g8))
                        case atStart => exact ⟨0, d2.mark, by omega, rfl, rfl, how8W.drewN _, below_grownBy (below_drewN' _) _⟩
                        case round =>
                          obtain ⟨kk, cur, hkk, rfl, hcl, howx, hgx⟩ := hrel
                          have q2x := hgx.cell q2 (by simpa using hne8)
                          by_cases hkl : kk < d2.mark.length
                          · obtain ⟨hx0, hxf⟩ := howx.at (i := kk) (by have := hcl.out; omega)
                            obtain ⟨x0, hx00⟩ : ∃ x0, cur[kk]'(by have := hcl.out; omega) = x0 := ⟨_, rfl⟩
                            rw [hx00] at hx0
                            clear hx00
                            go_wp2_with fail
                            go_roundg (gk - 1)
                            case measure => omega
                            case rel => exact ⟨kk + 1, cur.set kk 9, by omega, by go_num, Lib.hid (by rw [List.length_set]; exact hcl.out), howx.set kk 9, hgx.trans (grownBy_setCell _ _ _ _)⟩
                          · have hkf : decide ((kk : Int) < (d2.mark.length : Int)) = false := decide_eq_false (by omega)
                            have hkf2 : decide (kk < d2.mark.length) = false := decide_eq_false hkl
                            go_wp2_with fail
                            go_roundg (l.length - (k + 1))
                            case measure => omega
                            case rel => exact ⟨k + 1, by omega, by go_num, hbr8.grown hgx (by omega) (fun j hj => by cases hj; omega)⟩
                      · have hkf : decide ((k : Int) < (l.length : Int)) = false := decide_eq_false (by omega)
                        go_wp2_with fail
                        go_roundg (2 - (r + 1))
                        case measure => omega
                        case rel => exact ⟨r + 1, by omega, by go_num, hbr⟩
                  · have hrd : decide ((r : Int) < 2) = false := decide_eq_false (by omega)
                    go_wp2_with fail
                    go_ret
                    exact ⟨rfl, B13.trans (hbr.mono (by have := B13.size; omega))⟩

end Go.Proofs.YtgahlonimaeicaaDoor
