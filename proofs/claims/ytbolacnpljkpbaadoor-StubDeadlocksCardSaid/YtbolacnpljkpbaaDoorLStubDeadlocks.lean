/- The walk of the law StubDeadlocks. -/
import Derived.Test.YtbolacnpljkpbaaDoorStubRB
import Derived.Test.YtbolacnpljkpbaaDoorReachExp
import Derived.Test.YtbolacnpljkpbaaDoorOpenNet
set_option maxRecDepth 100000
namespace Go.Proofs.YtbolacnpljkpbaaDoor
open Go.RowKit
open Classical

theorem nodupI_le : ∀ {a b : List Int}, a.Nodup → (∀ x ∈ a, x ∈ b) → a.length ≤ b.length
  | [], _, _, _ => Nat.zero_le _
  | x :: a, b, hn, hs => by
    have hx := hs x List.mem_cons_self
    obtain ⟨h1, h2⟩ := List.nodup_cons.1 hn
    have := nodupI_le (b := b.erase x) h2 (fun y hy => by
      refine (List.mem_erase_of_ne ?_).2 (hs y (List.mem_cons_of_mem _ hy))
      rintro rfl; exact h1 hy)
    have h3 := List.length_erase_of_mem hx
    have h4 : 0 < b.length := List.length_pos_of_mem hx
    simp only [List.length_cons]
    omega
theorem firesL_le (n : Nt) (m : List Int) : (firesL n m).length ≤ (n.enE m).length :=
  nodupI_le (((setL_sorted n m).imp (by intro a b h; omega)).filter _) fun _ hx => firesL_enE hx

/-- How many edges lead on, of the whole graph and of what is kept. -/
theorem XFull.elen' {n : Nt} {most : Nat} {g : Gr} (x : XFull n most g) {i : Nat} (hi : i < g.marks.length) (he : i < g.edges.length) : g.edges[i].length = (n.enE g.marks[i]).length := by
  have ee : edAt g i = g.edges[i] := by simp [edAt, he]
  rw [← ee, (x.edges i hi).1, List.length_map, mkAt_eq hi]
theorem SFull.elen' {n : Nt} {most : Nat} {g : Gr} (x : SFull n most g) {i : Nat} (hi : i < g.marks.length) (he : i < g.edges.length) : g.edges[i].length = (firesL n g.marks[i]).length := by
  have ee : edAt g i = g.edges[i] := by simp [edAt, he]
  rw [← ee, (x.edges i hi).1, List.length_map, mkAt_eq hi]
theorem dead_mem {E : List (List (Int × Int))} {x : Int} : x ∈ deadE E ↔ ∃ k : Nat, ∃ h : k < E.length, x = (k : Int) ∧ E[k].length = 0 := by
  unfold deadE deadTo
  simp only [List.mem_map, List.mem_filter, List.mem_range]
  constructor
  · rintro ⟨k, ⟨hk, h⟩, rfl⟩
    refine ⟨k, hk, rfl, ?_⟩
    simp only [List.getD_eq_getElem?_getD, List.getElem?_eq_getElem hk, Option.getD_some, List.isEmpty_iff] at h
    rw [h]; rfl
  · rintro ⟨k, hk, rfl, h⟩
    refine ⟨k, ⟨hk, ?_⟩, rfl⟩
    simp only [List.getD_eq_getElem?_getD, List.getElem?_eq_getElem hk, Option.getD_some]
    rw [List.eq_nil_of_length_eq_zero h]; rfl
theorem count_range {α : Type} (p : α → Bool) (d : α) (l : List α) : ((List.range l.length).filter (fun i => p (l.getD i d))).length = (l.filter p).length := by
  have : l = (List.range l.length).map (fun i => l.getD i d) := by
    refine List.ext_getElem (by simp) fun i h1 h2 => ?_
    simp [h1]
  have h2 : (l.filter p).length = (((List.range l.length).map (fun i => l.getD i d)).filter p).length := by rw [← this]
  rw [h2, List.filter_map, List.length_map]
  rfl
theorem dead_len {n : Nt} {E : List (List (Int × Int))} {ms : List (List Int)} (hl : E.length = ms.length) (h : ∀ i (h1 : i < E.length) (h2 : i < ms.length), E[i].length = 0 ↔ n.enE ms[i] = []) :
    (deadE E).length = (ms.filter (fun d => (n.enE d).isEmpty)).length := by
  rw [← count_range (fun d => (n.enE d).isEmpty) [] ms]
  unfold deadE deadTo
  rw [List.length_map, hl]
  congr 1
  refine List.filter_congr fun i hi => ?_
  have hi2 : i < ms.length := List.mem_range.1 hi
  have hi1 : i < E.length := by omega
  have := h i hi1 hi2
  simp only [List.getD_eq_getElem?_getD, List.getElem?_eq_getElem hi1, List.getElem?_eq_getElem hi2, Option.getD_some]
  rw [Bool.eq_iff_iff, List.isEmpty_iff, List.isEmpty_iff, ← this]
  exact ⟨fun h => by rw [h]; rfl, List.eq_nil_of_length_eq_zero⟩

/-- What of the whole graph and of what is kept the law asks. -/
structure DL (n : Nt) (most : Nat) (g h : Gr) : Prop where
  hm : most ≤ 1024
  x : XFull n most g
  y : SFull n most h
  sub : ∀ z ∈ h.marks, z ∈ g.marks
def keptL (g h : Gr) (i : Nat) : List Int := (h.marks.take i).map (findM g.marks)
theorem keptL_snoc {g h : Gr} {i : Nat} (hi : i < h.marks.length) : keptL g h (i + 1) = keptL g h i ++ [findM g.marks h.marks[i]] := by
  unfold keptL
  rw [List.take_succ_eq_append_getElem hi, List.map_append]
  rfl
theorem DL.le {n : Nt} {most : Nat} {g h : Gr} (d : DL n most g h) : h.marks.length ≤ g.marks.length := nodupM_le d.y.ok.nodup d.sub
theorem DL.fnd {n : Nt} {most : Nat} {g h : Gr} (d : DL n most g h) {i : Nat} (hi : i < h.marks.length) : ∃ j : Nat, ∃ hj : j < g.marks.length, findM g.marks h.marks[i] = (j : Int) ∧ g.marks[j] = h.marks[i] ∧ (keptL g h i).contains (j : Int) = false := by
  obtain ⟨j, hj, e1, e2, _⟩ := findM_at (findM_mem (d.sub _ (List.getElem_mem hi)))
  refine ⟨j, hj, e1, e2, ?_⟩
  cases hc : (keptL g h i).contains (j : Int) with
  | false => rfl
  | true =>
    exfalso
    rw [List.contains_iff_mem] at hc
    obtain ⟨z, hz, e3⟩ := List.mem_map.1 hc
    obtain ⟨q, hq, rfl⟩ := List.getElem_of_mem hz
    rw [List.getElem_take] at e3
    rw [List.length_take] at hq
    obtain ⟨j2, hj2, e4, e5, _⟩ := findM_at (l := g.marks) (m := h.marks[q]) (by rw [e3]; omega)
    have : j2 = j := by omega
    subst this
    rw [e2] at e5
    exact List.pairwise_iff_getElem.1 d.y.ok.nodup q i (by omega) hi (by omega) e5.symm
theorem DL.dead {n : Nt} {most : Nat} {g h : Gr} (d : DL n most g h) {x : Int} (hx : x ∈ deadE g.edges) : (keptL g h h.marks.length).contains x = true := by
  obtain ⟨k, hk, rfl, h0⟩ := dead_mem.1 hx
  have hkm : k < g.marks.length := by rw [← d.x.ok.elen]; exact hk
  rw [d.x.elen' hkm hk] at h0
  have hin := stub_dead d.hm d.x d.y d.sub (List.getElem_mem hkm) (List.eq_nil_of_length_eq_zero h0)
  rw [List.contains_iff_mem]
  unfold keptL
  rw [List.take_length]
  refine List.mem_map.2 ⟨_, hin, ?_⟩
  exact findM_self d.x.ok.nodup hkm
theorem DL.cnt {n : Nt} {most : Nat} {g h : Gr} (d : DL n most g h) : (deadE h.edges).length = (deadE g.edges).length := by
  rw [dead_len (n := n) d.x.ok.elen fun i h1 h2 => ?_, dead_len (n := n) d.y.ok.elen fun i h1 h2 => ?_]
  · exact stub_dead_len d.hm d.x d.y d.sub
  · rw [d.y.elen' h2 h1, ← firesL_nil]
    exact ⟨List.eq_nil_of_length_eq_zero, fun h => by rw [h]; rfl⟩
  · rw [d.x.elen' h2 h1]
    exact ⟨List.eq_nil_of_length_eq_zero, fun h => by rw [h]; rfl⟩
theorem DL.of {n : Nt} {M : Nat} (hok : n.okB = true) (h1 : 1 ≤ M) (h2 : M ≤ 1024) {g : Gr} (he : exploreE n M = some g) : ∃ h, stubE n M = some h ∧ DL n M g h := by
  have x := explore_all hok h1 h2 he
  obtain ⟨h, e, hs⟩ := stub_in hok h1 h2 x
  exact ⟨h, e, h2, x, stub_all hok h1 h2 e, hs⟩
theorem sexpR_is {n : Nt} {M : Nat} (hok : n.okB = true) (h1 : 1 ≤ M) (h2 : M ≤ 1024) : sexpR n (M : Int) = match stubE n M with | none => .inl 170 | some g => .inr g := by
  unfold sexpR; rw [hok, if_pos rfl, if_neg (by omega), if_neg (by omega)]; rfl
theorem expR_is {n : Nt} {M : Nat} (hok : n.okB = true) (h1 : 1 ≤ M) (h2 : M ≤ 1024) : expR n (M : Int) = match exploreE n M with | none => .inl 170 | some g => .inr g := by
  unfold expR; rw [hok, if_pos rfl, if_neg (by omega), if_neg (by omega)]; rfl

set_option maxHeartbeats 4000000 in
theorem stubDeadlocks_walk (W : World) (htab : Pow10 W.heap.size W) (vp vt : Value) (n : Nt) (hn : NtR W W.heap.size vp vt n) (_gn : NtI n) (most : Int) (_ga : (Lit.int .i64 most).wf = true) :
    Calls Tryd.prog 6 #[.agg #[vp, vt, .int .i64 n.init, .int .i64 n.final], .int .i64 most] W fun e w' => e = .returned (.bool true) ∧ Below W.heap.size W w' := by
  have hbA := (Below.refl W.heap.size W).alloc (Nat.le_refl _) (.cells #[vp, vt, .int .i64 n.init, .int .i64 n.final] 25)
  have hbx := heap_alloc_new W (.cells #[vp, vt, .int .i64 n.init, .int .i64 n.final] 25)
  obtain ⟨W1, hW1⟩ : ∃ W1, W.alloc (.cells #[vp, vt, .int .i64 n.init, .int .i64 n.final] 25) = W1 := ⟨_, rfl⟩
  rw [hW1] at hbA hbx
  have hlt1 := lt_of_block hbx
  have hz1 := hbA.size
  have HN := Lib.hid hn
  have HBX := Lib.hid hbx
  have hn1 := hn.mono hbA (show W.heap.size ≤ W1.heap.size by omega)
  have HT1 := Lib.hid (tab_up (htab.on hbA) (show W.heap.size ≤ W1.heap.size by omega))
  obtain ⟨ap, cp, rfl⟩ := hn.1.val
  obtain ⟨at_, ct, rfl⟩ := hn.2.val
  obtain ⟨c0, c1, c2, c3⟩ := box4' hbx
  cases hlg : largeB n with
  | true =>
    have HLg := Lib.hid (large_is W1 _ _ n W1.heap.size (Nat.le_refl _) hn1 hlg)
    clear hlg hn hn1 hbx
    go_enter Tryd.func6, Tryd.ntmps6
    go_wp2_with (first | (go_at_call 7; refine HLg.out.mono ?_; rintro e w2 ⟨rfl, hb2⟩; refine Hid.out ?_))
    refine Lib.hid ?_
    have HA2 := Lib.hid (awake_any w2 w2.heap.size (Nat.le_refl _) (tab_up (HT1.out.on hb2) hb2.size))
    go_wp2_with (first | (go_at_call 8; refine HA2.out.mono ?_; rintro e w3 ⟨rfl, hb3⟩))
    go_ret
    exact ⟨rfl, hbA.trans ((hb2.trans (hb3.mono hb2.size)).mono hz1)⟩
  | false =>
    have HLg := Lib.hid (large_is W1 _ _ n W1.heap.size (Nat.le_refl _) hn1 hlg)
    clear hlg hn hn1 hbx
    by_cases hm1 : most < 1
    · have e1 : decide (most < 1) = true := decide_eq_true hm1
      go_enter Tryd.func6, Tryd.ntmps6
      go_wp2_with (first | (go_at_call 7; refine HLg.out.mono ?_; rintro e w2 ⟨rfl, hb2⟩; refine Hid.out ?_))
      refine Lib.hid ?_
      have HA2 := Lib.hid (awake_any w2 w2.heap.size (Nat.le_refl _) (tab_up (HT1.out.on hb2) hb2.size))
      go_wp2_with (first | (go_at_call 8; refine HA2.out.mono ?_; rintro e w3 ⟨rfl, hb3⟩))
      go_ret
      exact ⟨rfl, hbA.trans ((hb2.trans (hb3.mono hb2.size)).mono hz1)⟩
    · have e1 : decide (most < 1) = false := decide_eq_false hm1
      obtain ⟨M, hM1, hM2, hMe⟩ : ∃ M : Nat, 1 ≤ M ∧ M ≤ 150 ∧ min most 150 = (M : Int) := by
        refine ⟨(min most 150).toNat, ?_, ?_, ?_⟩ <;> omega
      have HMe := Lib.hid hMe
      clear hMe
      go_enter Tryd.func6, Tryd.ntmps6
      go_wp2_with (first | (go_at_call 7; refine HLg.out.mono ?_; rintro e w2 ⟨rfl, hb2⟩; refine Hid.out ?_))
      refine Lib.hid ?_
      have HA2 := Lib.hid (awake_any w2 w2.heap.size (Nat.le_refl _) (tab_up (HT1.out.on hb2) hb2.size))
      go_wp2_with (first | (go_at_call 8; refine HA2.out.mono ?_; rintro e w3 ⟨rfl, hb3⟩; refine Hid.out ?_))
      refine Lib.hid ?_
      have hB3 := hb2.trans (hb3.mono hb2.size)
      have hz3 := hB3.size
      have hb03 := hbA.trans (hB3.mono hz1)
      obtain ⟨d0, d1, d2, d3⟩ := box4' (box_up HBX.out hB3)
      clear hW1 c0 c1 c2 c3
      have HT3W := Lib.hid (htab.on hb03)
      have HN3 := Lib.hid (HN.out.mono hb03 (Nat.le_refl _))
      go_upto_region 4 with fail
      rw [HMe.out]
      clear e1 hm1
      cases hok : n.okB with
      | false =>
        have HX := Lib.hid (exp_no w3 W.heap.size hb03.size _ _ n HN3.out (M : Int) HT3W.out (c := 1) (by unfold expR; rw [hok]; rfl))
        have hsx : Hid (sexpR n (M : Int) = .inl 1) := by unfold sexpR; rw [hok]; exact rfl
        clear hok
        go_wp2_with (first | (go_at_call 19; refine HX.out.mono ?_; rintro e w4 ⟨rfl, hb4⟩; refine Hid.out ?_))
        refine Lib.hid ?_
        have hb04 := hb03.trans (hb4.mono hb03.size)
        clear d0 d1 d2 d3
        obtain ⟨d0, d1, d2, d3⟩ := box4' (box_up (box_up HBX.out hB3) hb4)
        have HY := Lib.hid (sexp_no w4 W.heap.size hb04.size _ _ n (HN.out.mono hb04 (Nat.le_refl _)) (M : Int) (htab.on hb04) hsx.out)
        go_wp2_with (first | (go_at_call 20; refine HY.out.mono ?_; rintro e w5 ⟨rfl, hb5⟩))
        go_ret
        exact ⟨rfl, hb04.trans (hb5.mono hb04.size)⟩
      | true =>
        have hnt := (Nt.ok_of hok).trans
        have hmany := (Nt.ok_of hok).many
        cases he : exploreE n M with
        | none =>
          have HX := Lib.hid (exp_no w3 W.heap.size hb03.size _ _ n HN3.out (M : Int) HT3W.out (c := 170) (by rw [expR_is hok hM1 (by omega), he]))
          clear he hok
          go_wp2_with (first | (go_at_call 19; refine HX.out.mono ?_; rintro e w4 ⟨rfl, hb4⟩; refine Hid.out ?_))
          refine Lib.hid ?_
          have hb04 := hb03.trans (hb4.mono hb03.size)
          clear d0 d1 d2 d3
          obtain ⟨d0, d1, d2, d3⟩ := box4' (box_up (box_up HBX.out hB3) hb4)
          cases hs : sexpR n (M : Int) with
          | inl c =>
            have HY := Lib.hid (sexp_no w4 W.heap.size hb04.size _ _ n (HN.out.mono hb04 (Nat.le_refl _)) (M : Int) (htab.on hb04) hs)
            clear hs
            go_wp2_with (first | (go_at_call 20; refine HY.out.mono ?_; rintro e w5 ⟨rfl, hb5⟩))
            go_ret
            exact ⟨rfl, hb04.trans (hb5.mono hb04.size)⟩
          | inr g =>
            have HY := Lib.hid (sexp_ok w4 W.heap.size hb04.size _ _ n (HN.out.mono hb04 (Nat.le_refl _)) (M : Int) (htab.on hb04) hs)
            clear hs
            go_wp2_with (first | (go_at_call 20; refine HY.out.mono ?_; rintro e w5 ⟨p5, rfl, -, hb5⟩))
            go_ret
            exact ⟨rfl, hb04.trans (hb5.mono hb04.size)⟩
        | some g =>
          obtain ⟨h, hse, hD⟩ := DL.of hok hM1 (by omega) he
          have HX := Lib.hid (exp_ok w3 W.heap.size hb03.size _ _ n HN3.out (M : Int) HT3W.out (g := g) (by rw [expR_is hok hM1 (by omega), he]))
          have hsx : Hid (sexpR n (M : Int) = .inr h) := by rw [sexpR_is hok hM1 (by omega), hse]; exact rfl
          have HD := Lib.hid hD
          have HEO := Lib.hid (hD.x.eok hD.hm hnt)
          have HSE := Lib.hid (stub_eok hD.y hnt)
          have hgl : g.marks.length ≤ 1024 := by have := hD.x.ok.le; omega
          have hhl : h.marks.length ≤ g.marks.length := hD.le
          have HGM : Hid (∀ m ∈ g.marks, m.length ≤ 4096 ∧ ∀ x ∈ m, In64 x) := by
            refine Lib.hid fun m hm => ?_
            obtain ⟨j, hj, rfl⟩ := List.getElem_of_mem hm
            have := (hD.x.ok.mark j hj).1
            exact ⟨by rw [this.len]; exact hmany, mark_in64 this⟩
          clear he hok hse hD
          go_wp2_with (first | (go_at_call 19; refine HX.out.mono ?_; rintro e w4 ⟨p4, rfl, hg4, hb4⟩; refine Hid.out ?_))
          refine Lib.hid ?_
          have hb04 := hb03.trans (hb4.mono hb03.size)
          clear d0 d1 d2 d3
          obtain ⟨d0, d1, d2, d3⟩ := box4' (box_up (box_up HBX.out hB3) hb4)
          have HY := Lib.hid (sexp_ok w4 W.heap.size hb04.size _ _ n (HN.out.mono hb04 (Nat.le_refl _)) (M : Int) (htab.on hb04) hsx.out)
          go_wp2_with (first | (go_at_call 20; refine HY.out.mono ?_; rintro e w5 ⟨p5, rfl, hh5, hb5⟩; refine Hid.out ?_))
          refine Lib.hid ?_
          have hb05 := hb04.trans (hb5.mono hb04.size)
          have HG5 := Lib.hid (hg4.mono hb5 hb5.size)
          have HH5 := Lib.hid hh5
          have HT5 := Lib.hid (tab_up (htab.on hb05) hb05.size)
          have HL5 := Lib.hid (glen_any w5 w5.heap.size p4 _ g _ HG5.out)
          have HS5 := Lib.hid (slen_any w5 w5.heap.size p5 h HH5.out)
          have e1 : decide (g.marks.length < h.marks.length) = false := decide_eq_false (by omega)
          have e1' : decide ((g.marks.length : Int) < (h.marks.length : Int)) = false := decide_eq_false (by omega)
          have hmk1 := run_make_row' (P := Tryd.prog) 36 4 (.bool false) 1 Tryd.underlying36 info_bool rfl .i64 .i64 g.marks.length (by omega) (by omega)
          have hRB := RB.made (w := w5) (N := g.marks.length) (by unfold maxLen; omega) (Nat.le_refl _)
          have hbR := (Below.refl w5.heap.size w5).alloc (Nat.le_refl _) (.cells (madeCells #[Value.bool false] g.marks.length) 4)
          obtain ⟨W6, hW6⟩ : ∃ W6, w5.alloc (.cells (madeCells #[Value.bool false] g.marks.length) 4) = W6 := ⟨_, rfl⟩
          rw [hW6] at hRB hbR
          have HRB : Hid (RB W6 w5.heap.size w5.heap.size g.marks.length (keptL g h 0)) := hRB
          have HBR := Lib.hid hbR
          clear hRB hbR hg4 hh5 d0 d1 d2 d3
          go_wp2_with (first | (go_at_call 21; refine HS5.out.mono ?_; rintro e wa ⟨rfl, rfl⟩) | (go_at_call 23; refine HL5.out.mono ?_; rintro e wb ⟨rfl, rfl⟩))
          clear hW6
          go_loopg [10] h.marks.length (fun gh s10 wr => ∃ i : Nat, i + gh = h.marks.length ∧ s10 = .int .i64 (i : Int) ∧ Hid (RB wr w5.heap.size w5.heap.size g.marks.length (keptL g h i)) ∧ Below w5.heap.size w5 wr)
          case atStart => exact ⟨0, by omega, rfl, HRB, HBR.out⟩
          case round =>
            clear HRB HBR e1 e1'
            obtain ⟨i, hig, rfl, hRB, hbel⟩ := hrel
            have hwr := hbel.size
            have HGr := Lib.hid (HG5.out.mono hbel hwr)
            have HHr := Lib.hid (HH5.out.mono hbel hwr)
            have HSr := Lib.hid (slen_any wr wr.heap.size p5 h HHr.out)
            by_cases hi : i < h.marks.length
            · obtain ⟨j, hj, ej, em, ek⟩ := HD.out.fnd hi
              have him := HD.out.y.ok.elen
              have hgm := HD.out.x.ok.elen
              have hie : i < h.edges.length := by omega
              have hje : j < g.edges.length := by omega
              have hMr := HGM.out _ (List.getElem_mem hj)
              rw [em] at hMr
              have HMk := Lib.hid (smark_any wr wr.heap.size p5 h HHr.out (Nat.le_refl _) i hi)
              have hfe : Hid (foundE g.marks h.marks[i] = (j : Int) ∧ decide (0 ≤ findM g.marks h.marks[i]) = true) := by
                refine ⟨?_, decide_eq_true (by rw [ej]; omega)⟩
                unfold foundE
                rw [if_pos (by rw [ej]; omega), ej]
              have hlk : Hid (h.edges[i].length = (firesL n h.marks[i]).length ∧ g.edges[j].length = (n.enE h.marks[i]).length) := ⟨HD.out.y.elen' hi hie, by rw [HD.out.x.elen' hj hje, em]⟩
              have hks := Lib.hid (keptL_snoc (g := g) hi)
              rw [ej] at hks
              have HEi := Lib.hid (HSE.out _ (List.getElem_mem hie))
              obtain ⟨mk, hmk⟩ : ∃ mk, h.marks[i] = mk := ⟨_, rfl⟩
              rw [hmk] at HMk hfe hlk hMr
              have hkc := hRB.out.at hj
              rw [ek] at hkc
              have hkf := hRB.out.free j
              have HRB2 := Lib.hid (hRB.out.set hj)
              have hgl := hRB.out.lt
              clear ej em ek hmk him hgm
              go_wp2_with (first | (go_at_call 21; refine HSr.out.mono ?_; rintro e wa ⟨rfl, rfl⟩) | (go_at_call 16; refine HMk.out.mono ?_; rintro e w7 ⟨vm7, rfl, ho7, hb7⟩; refine Hid.out ?_))
              refine Lib.hid ?_
              have hz7 := hb7.size
              have hB7 := hbel.trans (hb7.mono hwr)
              obtain ⟨a7, k7, rfl⟩ := ho7.shape
              have HFd := Lib.hid (gfind_any w7 w7.heap.size p4 _ g _ (HG5.out.mono hB7 hB7.size) (Nat.le_refl _) (tab_up (HT5.out.on hB7) hB7.size) _ mk (ho7.col (by omega) (Nat.le_refl _)) hMr.2 hMr.1)
              rw [hfe.out.1, hfe.out.2] at HFd
              clear ho7
              go_wp2_with (first | (go_at_call 24; refine HFd.out.mono ?_; rintro e w8 ⟨rfl, hb8⟩; refine Hid.out ?_))
              refine Lib.hid ?_
              have hz8 := hb8.size
              have hB8 := hB7.trans (hb8.mono hB7.size)
              have hb78 := hb7.trans (hb8.mono hz7)
              have hRB8 := hRB.out.kept hb78
              have hkc8 := hRB8.at hj
              rw [show (keptL g h i).contains (j : Int) = false from by have := hRB.out.at hj; rw [hkc] at this; injection this with this; injection this with this; exact this.symm] at hkc8
              have hkf8 := hRB8.free j
              have HRB9 := Lib.hid (hRB8.set hj)
              have hB9 : Below w5.heap.size w5 (w8.setCell ⟨w5.heap.size, j, none⟩ (.bool true)) := hB8.setCell (Nat.le_refl _) _
              obtain ⟨w9, hw9⟩ : ∃ w9, w8.setCell ⟨w5.heap.size, j, none⟩ (.bool true) = w9 := ⟨_, rfl⟩
              rw [hw9] at HRB9 hB9
              have hz9 := hB9.size
              have HEd := Lib.hid (sedges_any w9 w9.heap.size p5 h (HH5.out.mono hB9 hz9) (Nat.le_refl _) HSE.out HD.out.y.ok.elen i hie)
              clear hkc hkf HRB2 hRB8
              go_wp2_with (first | (go_at_call 17; refine HEd.out.mono ?_; rintro e w10 ⟨v10, rfl, ho10, hb10⟩; refine Hid.out ?_))
              refine Lib.hid ?_
              clear hw9 hkc8 hkf8
              have hB10 := hB9.trans (hb10.mono hz9)
              have hz10 := hB10.size
              have HEg := Lib.hid (gedges_any w10 w10.heap.size p4 _ g _ (HG5.out.mono hB10 hz10) (Nat.le_refl _) HEO.out HD.out.x.ok.elen j hje)
              obtain ⟨a10, k10, rfl⟩ := OwnF.shape ho10
              go_wp2_with (first | (go_at_call 25; refine HEg.out.mono ?_; rintro e w11 ⟨v11, rfl, ho11, hb11⟩; refine Hid.out ?_))
              refine Lib.hid ?_
              have hB11 := hB10.trans (hb11.mono hz10)
              obtain ⟨a11, k11, rfl⟩ := OwnF.shape ho11
              have HRB11 := Lib.hid ((HRB9.out.kept hb10).kept hb11)
              have hfl := firesL_le n mk
              have hfn : (firesL n mk).length = 0 ↔ (n.enE mk).length = 0 := by rw [List.length_eq_zero_iff, List.length_eq_zero_iff]; exact firesL_nil
              rw [← hlk.out.1, ← hlk.out.2] at hfl hfn
              have HB11 := Lib.hid hB11
              obtain ⟨x, hx⟩ : ∃ x, h.edges[i].length = x := ⟨_, rfl⟩
              obtain ⟨y, hy⟩ : ∃ y, g.edges[j].length = y := ⟨_, rfl⟩
              rw [hx, hy] at hfl hfn
              rw [hx, hy]
              have d1 : decide (y < x) = false := decide_eq_false (by omega)
              have d1' : decide ((y : Int) < (x : Int)) = false := decide_eq_false (by omega)
              clear hx hy ho10 ho11 hb10 hb11 hB11 hB10 hB9 hB8 hb8 hb7 hB7 hb78 hlk hRB
              by_cases h0 : x = 0
              · obtain rfl := h0
                obtain rfl : y = 0 := hfn.1 rfl
                clear hfn
                go_wp2_with fail
                go_roundg (gk - 1)
                case measure => omega
                case rel => exact ⟨i + 1, by omega, by go_num, by rw [hks.out]; exact HRB11, HB11.out⟩
              · have hy0 : y ≠ 0 := fun h => h0 (hfn.2 h)
                have d2 : decide (x = 0) = false := decide_eq_false h0
                have d3 : decide (y = 0) = false := decide_eq_false hy0
                have d2' : ((x : Int) == 0) = false := by simp; exact h0
                have d3' : ((y : Int) == 0) = false := by simp; exact hy0
                clear hfn h0 hy0
                go_wp2_with fail
                go_roundg (gk - 1)
                case measure => omega
                case rel => exact ⟨i + 1, by omega, by go_num, by rw [hks.out]; exact HRB11, HB11.out⟩
            · have hi' : ¬ ((i : Int) < (h.marks.length : Int)) := by omega
              have HKe : Hid (RB wr w5.heap.size w5.heap.size g.marks.length (keptL g h h.marks.length)) := by have := hRB.out; rw [show i = h.marks.length by omega] at this; exact this
              have HDe := Lib.hid (gdeadl_any wr wr.heap.size p4 _ g _ HGr.out (Nat.le_refl _) HEO.out)
              have hcnt := HD.out.cnt
              have hdm : Hid (∀ x ∈ deadE g.edges, (keptL g h h.marks.length).contains x = true ∧ ∃ k : Nat, x = (k : Int) ∧ k < g.marks.length) := by
                refine Lib.hid fun x hx => ⟨HD.out.dead hx, ?_⟩
                obtain ⟨k, hk, e, _⟩ := dead_mem.1 hx
                exact ⟨k, e, by rw [← HD.out.x.ok.elen]; exact hk⟩
              have hdl : (deadE g.edges).length ≤ 1024 := by have := deadTo_len g.edges g.edges.length; have := HD.out.x.ok.elen; unfold deadE; omega
              obtain ⟨dl, hdle⟩ : ∃ dl, deadE g.edges = dl := ⟨_, rfl⟩
              rw [hdle] at HDe hcnt hdm hdl
              have HCn := Lib.hid hcnt
              clear hRB hcnt hdle
              go_wp2_with (first | (go_at_call 21; refine HSr.out.mono ?_; rintro e wa ⟨rfl, rfl⟩) | (go_at_call 26; refine HDe.out.mono ?_; rintro e w7 ⟨v7, rfl, ho7, hb7⟩; refine Hid.out ?_))
              refine Lib.hid ?_
              have hB7 := hbel.trans (hb7.mono hwr)
              have hz7 := hB7.size
              obtain ⟨a7, k7, rfl⟩ := ho7.shape
              have HK7 := Lib.hid (HKe.out.kept hb7)
              have HO7 := Lib.hid (ho7.col (B := w7.heap.size) (by omega) (Nat.le_refl _))
              have HB7 := Lib.hid hB7
              clear ho7 hb7 hB7
              go_wp2_with fail
              go_loopg [19] dl.length (fun gh s19 wx => ∃ k : Nat, k + gh = dl.length ∧ s19 = .int .i64 (k : Int) ∧ w7 = wx)
              case atStart => exact ⟨0, by omega, rfl, rfl⟩
              case round =>
                obtain ⟨k, hkg, rfl, rfl⟩ := hrel
                by_cases hk : k < dl.length
                · obtain ⟨bd, od, rfl, hbd, hcd⟩ := HO7.out.col k hk
                  obtain ⟨hc, q, hq, hqn⟩ := hdm.out _ (List.getElem_mem hk)
                  rw [hq] at hcd hc
                  have hcc := HK7.out.at hqn
                  rw [hc] at hcc
                  clear hq hc
                  go_wp2_with fail
                  go_roundg (gk - 1)
                  case measure => omega
                  case rel => exact ⟨k + 1, by omega, by go_num, rfl⟩
                · have hk' : ¬ ((k : Int) < (dl.length : Int)) := by omega
                  have HSd := Lib.hid (sdeadl_any w7 w7.heap.size p5 h (HH5.out.mono HB7.out hz7) (Nat.le_refl _) (by have := HD.out.y.ok.elen; omega))
                  obtain ⟨sl, hsl⟩ : ∃ sl, deadE h.edges = sl := ⟨_, rfl⟩
                  rw [hsl] at HSd HCn
                  clear hsl
                  go_wp2_with (first | (go_at_call 22; refine HSd.out.mono ?_; rintro e w8 ⟨v8, rfl, ho8, hb8⟩; refine Hid.out ?_))
                  refine Lib.hid ?_
                  obtain ⟨a8, k8, rfl⟩ := ho8.shape
                  rw [HCn.out]
                  go_wp2_with fail
                  go_ret
                  exact ⟨ret_bool (by simp), hb05.trans ((HB7.out.trans (hb8.mono hz7)).mono hb05.size)⟩
end Go.Proofs.YtbolacnpljkpbaaDoor
