/- job.some: the places of the tokens of which something is so, by their numbers. -/
import Derived.Test.YtggnheekkbideaaJobTok
import Derived.Test.YtggnheekkbideaaJobCmp
import Derived.Shelf.AbstractIn
import Derived.RangeFuncBox
import Derived.Maps.AppendAt
namespace Go.Proofs.Ytggnheekkbideaa
open Go.RowKit Go.Shelf
attribute [local go_sem] Oper.semAt_some

theorem info_place : (Try.prog.info? 72).map (fun i => (i.zero, i.size, i.bytes)) = some (some (.agg #[.int .i64 0, .int .i64 0]), 2, 16) := by kernel_rfl
abbrev placeA (p : PT) : Array Value := #[.int .i64 (p.i : Int), .int .i64 (p.k : Int)]
abbrev tokA (t : Tok) : Array Value := #[.int .i64 t.id, .string t.here, .string t.on, .int .i64 t.born, .int .i64 t.tries, .string t.worker, .int .i64 t.til, .int .u8 t.inc, .int .i64 t.err]
theorem keeps_below {W W' : World} (hb : Below W.heap.size W W') : KeepsOthers W W' := ⟨hb.size, fun k _o h _ => (hb.block k (lt_of_block h)).trans h⟩
theorem boxed_below {W W' : World} {b : Nat} {t : TypeId} {v : Value} (h : Boxed W b t v) (hb : Below W.heap.size W W') : Boxed W' b t v := (hb.block _ h.lt).trans h
theorem prow_own {W W' : World} {row : Option Nat} {base : Nat} {v : Value} {d : List PT} (h : PRow W base v d) (hg : W.grownBy W' row) (hr : ∀ r, row = some r → ∃ o : Obj, W.heap[r]? = some o ∧ o.isCells = false) : PRow W' base v d :=
  OwnF.turned h hg (fun g n cap e e2 => by
    obtain ⟨o, ho, hc⟩ := hr g e2.symm
    subst e
    obtain ⟨cur, hcur, _⟩ := OwnF.block h
    rw [hcur] at ho
    cases ho
    cases hc)
theorem prow_push {w : World} {base : Nat} {v : Value} {d : List PT} {x : PT} (h : w.ownsRow base 72 2 v (d.length + 1) (cellsF cellP d ++ cellP x)) : PRow w base v (d ++ [x]) := by
  unfold PRow OwnF
  rw [List.length_append, List.length_singleton, cellsF_app]
  exact h

/-- A question handed over: what it answers of a token, in every world in which what was there stands. -/
def AskC (gf : Nat) (lb : Array Value) (q : Tok → Bool) (w : World) : Prop :=
  ∀ (W : World) (t : Tok), Below w.heap.size w W → Calls Try.prog gf (#[valT t] ++ lb) W fun e W' => e = .returned (.bool (q t)) ∧ Below W.heap.size W W'

def someL (q : Tok → Bool) (l : List PT) : List PT := l.filter (fun p => q p.t)
def SomeI (w : World) (v fv : Value) (q : Tok → Bool) (pre : List PT) (W : World) : Prop :=
  Boxed W w.heap.size 22 v ∧ Boxed W (w.heap.size + 1) 58 fv ∧ ∃ vo, Boxed W (w.heap.size + 1 + 1) 68 vo ∧ PRow W (w.heap.size + 2) vo (someL q pre)

theorem own_ne_obj {w : World} {base b : Nat} {v : Value} {d : List PT} {o : Obj} (h : PRow w base v d) (hb : w.heap[b]? = some o) (hn : ∀ cs t fr, o ≠ .cells cs t fr) : v.ownBlock ≠ some b := by
  rcases h.2 with ⟨rfl, _⟩ | ⟨g, cap, cur, rfl, _, hg, _⟩
  · simp [Value.ownBlock]
  · intro e
    simp only [Value.ownBlock, Option.some.injEq] at e
    subst e
    rw [hg] at hb
    cases hb
    exact hn _ _ _ rfl
theorem own_ne_box {w : World} {base b : Nat} {v u : Value} {d : List PT} {t : TypeId} (h : PRow w base v d) (hb : Boxed w b t u) (ht : t ≠ 72) : v.ownBlock ≠ some b := by
  rcases h.2 with ⟨rfl, _⟩ | ⟨g, cap, cur, rfl, _, hg, _⟩
  · simp [Value.ownBlock]
  · have := type_ne hg hb (Ne.symm ht)
    simpa [Value.ownBlock] using this
theorem own_geP {w : World} {base : Nat} {v : Value} {d : List PT} (h : PRow w base v d) : ∀ k, v.ownBlock = some k → base ≤ k := by
  intro k hk
  rcases OwnF.val h with ⟨e, _⟩ | ⟨g, c, e, hb, _⟩
  · rw [e] at hk; cases hk
  · rw [e] at hk; simp only [Value.ownBlock, Option.some.injEq] at hk; omega

set_option maxRecDepth 100000 in
set_option maxHeartbeats 8000000 in
theorem some_any (w : World) (v : Value) (l : List Ins) (gf : Nat) (lb : Array Value) (q : Tok → Bool) (eg : ∀ args w, (callFunc gf args).run Try.prog w = .ok (.enter gf args) w) (hq : AskC gf lb q w) (hI : InsR w w.heap.size v l) (hl : (allT l).length ≤ 1048576) :
    Calls Try.prog 35 #[v, .func (.func gf) #[] lb] w fun e w' => ∃ vo, e = .returned vo ∧ PRow w' w.heap.size vo (stableE ltP (someL q (allT l))) ∧ Below w.heap.size w w' := by
  obtain ⟨a, c, rfl⟩ := hI.val
  obtain ⟨i0, hti, hz0, hz1, hz2⟩ := info_parts info_place
  have HQ := Lib.hid hq
  clear hq
  refine (callsIn_wide (n := 6)).1 ?_
  refine callsIn_of_wp_marks Try.func35 rfl trivial ?_ rfl
  simp only [Try.ntmps35, List.size_toArray, List.length_cons, List.length_nil, Nat.reduceAdd, Nat.reduceSub, Array.replicate_succ, Array.replicate_zero, List.push_toArray, List.append_toArray, List.nil_append, List.cons_append]
  gi_wp2_with (refine ⟨trivial, ?_⟩; gi_at_call 38; refine (tokens_in Fence.wide _ trivial rfl _ _ _ _).mono ?_; rintro e w' ⟨rfl, rfl⟩)
  have bL := (((Boxed.new w 22 (.slice a l.length c)).alloc (.cells #[.func (.func gf) #[] lb] 58)).alloc (.cells #[.slice none 0 0] 68)).alloc (.cells #[.slice a l.length c] 22)
  have bF := ((Boxed.new (w.alloc (.cells #[.slice a l.length c] 22)) 58 (.func (.func gf) #[] lb)).alloc (.cells #[.slice none 0 0] 68)).alloc (.cells #[.slice a l.length c] 22)
  have bO := (Boxed.new ((w.alloc (.cells #[.slice a l.length c] 22)).alloc (.cells #[.func (.func gf) #[] lb] 58)) 68 (.slice none 0 0)).alloc (.cells #[.slice a l.length c] 22)
  have bM := Boxed.new (((w.alloc (.cells #[.slice a l.length c] 22)).alloc (.cells #[.func (.func gf) #[] lb] 58)).alloc (.cells #[.slice none 0 0] 68)) 22 (.slice a l.length c)
  simp only [World.size_alloc] at bF bO bM
  have hB0 : Below w.heap.size w ((((w.alloc (.cells #[.slice a l.length c] 22)).alloc (.cells #[.func (.func gf) #[] lb] 58)).alloc (.cells #[.slice none 0 0] 68)).alloc (.cells #[.slice a l.length c] 22)) :=
    ((((Below.refl _ w).alloc (Nat.le_refl _) _).alloc (by simp) _).alloc (by simp; omega) _).alloc (by simp; omega) _
  have hsz : ((((w.alloc (.cells #[.slice a l.length c] 22)).alloc (.cells #[.func (.func gf) #[] lb] 58)).alloc (.cells #[.slice none 0 0] 68)).alloc (.cells #[.slice a l.length c] 22)).heap.size = w.heap.size + 4 := by simp
  obtain ⟨W0, hW0⟩ : ∃ W0, (((w.alloc (.cells #[.slice a l.length c] 22)).alloc (.cells #[.func (.func gf) #[] lb] 58)).alloc (.cells #[.slice none 0 0] 68)).alloc (.cells #[.slice a l.length c] 22) = W0 := ⟨_, rfl⟩
  rw [hW0] at bL bF bO bM hB0 hsz ⊢
  clear hW0
  refine wpIn_rangeFunc_ownH rfl (by omega) (gf := 54) (lb := #[.pointer (some ⟨w.heap.size + 1 + 1 + 1, 0, none⟩)]) rfl trivial (enters_of Try.func54 (by kernel_rfl) rfl)
    (tokens_stops Fence.wide (6 - 1) trivial rfl (by omega) (w.heap.size + 1 + 1 + 1) w.heap.size _ l W0 (by omega) (by omega) bM.cell (hI.mono hB0 (Nat.le_refl _))) belowK_t (belowK_b (by omega)) (Below.refl _ _) (fun _ => rfl)
    (fun pre W => SomeI w (.slice a l.length c) (.func (.func gf) #[] lb) q pre W ∧ Below w.heap.size w W)
    (fun _ _ _ => False)
    (OwnFrom.and (Own.from (fun s A B row hs hg hr => ⟨blk_own hs.1 hg hr, blk_own hs.2.1 hg hr, by obtain ⟨vo, h1, h2⟩ := hs.2.2; exact ⟨vo, blk_own h1 hg hr, prow_own h2 hg hr⟩⟩) _) (ownFrom_below (Nat.le_refl _) (by omega)))
    (fun _ _ _ _ _ hs _ _ => hs)
    ⟨⟨bL, bF, _, bO, OwnF.nil _ _⟩, hB0⟩
    (fun x a' W => ∃ Bx, w.heap.size + 1 + 1 < Bx ∧ W.heap[Bx]? = some (.cells (placeA x) 72) ∧ W.heap[Bx + 1]? = some (.cells (tokA x.t) 41) ∧
      a' = { tmps := #[.slice a l.length c, .func (.func gf) #[] lb, .pointer (some ⟨w.heap.size, 0, none⟩), .pointer (some ⟨w.heap.size + 1, 0, none⟩), .slice none 0 0, .pointer (some ⟨w.heap.size + 1 + 1, 0, none⟩), .pointer (some ⟨Bx, 0, none⟩), .pointer (some ⟨Bx + 1, 0, none⟩), .slice a l.length c, .func (.func 54) #[] #[.pointer (some ⟨w.heap.size + 1 + 1 + 1, 0, none⟩)], .agg #[.int .i64 (x.i : Int), .int .i64 (x.k : Int)], valT x.t, undef, undef, undef, undef, undef, undef, undef, undef, undef, undef, undef], defers := [] })
    (fun x a' _ X Y row hs hg hr => by obtain ⟨Bx, h1, h2, h3, h4⟩ := hs; exact ⟨Bx, h1, blk_own h2 hg (fun r e => (hr r e).2), blk_own h3 hg (fun r e => (hr r e).2), h4⟩)
    ?assign ?body ?done ?stop
  case assign =>
    rintro lr pre x W K ⟨⟨bL, bF, vo, bO, hO⟩, hB⟩ hK
    unfold encP
    gi_wp2
    have hlt := bO.lt
    have hz := hB.size
    exact hK _ _ (((KeepsOthers.alloc _ _).trans (KeepsOthers.alloc _ _)).from _) (((Below.refl _ W).alloc hz _).alloc (by simp; omega) _)
      ⟨⟨(bL.alloc _).alloc _, (bF.alloc _).alloc _, vo, (bO.alloc _).alloc _, (OwnF.kept (OwnF.kept hO ((Below.refl _ _).alloc (Nat.le_refl _) _)) ((Below.refl _ _).alloc (Nat.le_refl _) _))⟩, (hB.alloc hz _).alloc (by simp; omega) _⟩
      ⟨W.heap.size, hlt, (Below.heap_alloc _ _ _ (by simp)).trans (heap_alloc_new W _), by have := heap_alloc_new (W.alloc (.cells (placeA x) 72)) (.cells (tokA x.t) 41); rwa [World.size_alloc] at this, rfl⟩
  case body =>
    rintro lr pre x a' W hlr ⟨r, hr⟩ ⟨⟨bL, bF, vo, bO, hO⟩, hB⟩ ⟨Bx, hBx, hP, hT, rfl⟩ hlt
    have cF := bF.cell
    have t0 : W.cell? ⟨Bx + 1, 0, none⟩ = some (.int .i64 x.t.id) := by rw [cell_of_block hT]; rfl
    have t1 : W.cell? ⟨Bx + 1, 1, none⟩ = some (.string x.t.here) := by rw [cell_of_block hT]; rfl
    have t2 : W.cell? ⟨Bx + 1, 2, none⟩ = some (.string x.t.on) := by rw [cell_of_block hT]; rfl
    have t3 : W.cell? ⟨Bx + 1, 3, none⟩ = some (.int .i64 x.t.born) := by rw [cell_of_block hT]; rfl
    have t4 : W.cell? ⟨Bx + 1, 4, none⟩ = some (.int .i64 x.t.tries) := by rw [cell_of_block hT]; rfl
    have t5 : W.cell? ⟨Bx + 1, 5, none⟩ = some (.string x.t.worker) := by rw [cell_of_block hT]; rfl
    have t6 : W.cell? ⟨Bx + 1, 6, none⟩ = some (.int .i64 x.t.til) := by rw [cell_of_block hT]; rfl
    have t7 : W.cell? ⟨Bx + 1, 7, none⟩ = some (.int .u8 x.t.inc) := by rw [cell_of_block hT]; rfl
    have t8 : W.cell? ⟨Bx + 1, 8, none⟩ = some (.int .i64 x.t.err) := by rw [cell_of_block hT]; rfl
    have Q1 := Lib.hid (HQ.out W x.t hB)
    have hz := hB.size
    have HO := Lib.hid hO
    clear hO
    have hlen : (someL q pre).length ≤ 1048576 := Nat.le_trans (List.length_filter_le _ _) (by omega)
    gi_wp2_with (refine ⟨trivial, ?_⟩; gi_at_fn gf; refine (CallsIn.inRound lr (callsIn_wide.2 Q1.out)).mono ?_; rintro e W1 ⟨rfl, hb1⟩; refine Hid.out ?_)
    refine Lib.hid ?_
    have bL1 := boxed_below bL hb1
    have bF1 := boxed_below bF hb1
    have bO1 := boxed_below bO hb1
    have hO1 := OwnF.kept HO.out hb1
    have hP1 := (hb1.block _ (lt_of_block hP)).trans hP
    have p0 : W1.cell? ⟨Bx, 0, none⟩ = some (.int .i64 (x.i : Int)) := by rw [cell_of_block hP1]; rfl
    have p1 : W1.cell? ⟨Bx, 1, none⟩ = some (.int .i64 (x.k : Int)) := by rw [cell_of_block hP1]; rfl
    have cO := bO1.cell
    have hz1' : w.heap.size + 2 ≤ W1.heap.size := by have := bO1.lt; omega
    have HB1 := Lib.hid (hB.trans (hb1.mono hz))
    have HKB := Lib.hid (keeps_below hb1)
    have HBW := Lib.hid (hb1.mono hz)
    obtain ⟨S, hS⟩ : ∃ S, someL q pre = S := ⟨_, rfl⟩
    have HS := Lib.hid hS
    rw [hS] at hO1 hlen
    clear hS cF t0 t1 t2 t3 t4 t5 t6 t7 t8 Q1 hP1 HO hb1
    cases hq : q x.t with
    | true =>
      have HSq : Hid (someL q (pre ++ [x]) = S ++ [x]) := Lib.hid (by rw [← HS.out]; unfold someL; rw [List.filter_append]; simp [hq])
      clear hq
      gi_wp2_with (gi_at_builtin; refine wpListIn_append_own _ rfl _ _ 68 rfl (w.heap.size + 2) 72 i0 _ 2 16 Try.underlying68 hti hz0 hz1 hz2 rfl (by decide) _ _ _ rfl (OwnF.kept hO1 ((Below.refl _ _).alloc (Nat.le_refl _) _)) ⟨W1.heap.size, 0, none⟩ 1 1 (cellP x) rfl rfl (cells_new W1 _ _) (cellP_one x) (by unfold maxLen; omega) (by omega) (by simp; omega) ?_; intro v' w1 hown' hgrow _; obtain ⟨g', cap', rfl⟩ := ownsRow_succ hown'; obtain ⟨hv1, hv2, hr2, hk2, hb2⟩ := bO1.appended (by decide) hO1 hz1' (by omega) hown' hgrow; have hc1 := hv1.cell; have hf1 := hv1.frozen)
      have hb3 := hb2.mono (show w.heap.size ≤ w.heap.size + 2 by omega)
      exact ⟨(HKB.out.trans hk2).from _, HBW.out.trans hb3, ⟨(hb2.block _ (by omega)).trans bL1, (hb2.block _ (by omega)).trans bF1, _, hv2, by rw [HSq.out]; exact prow_push hr2⟩, HB1.out.trans hb3⟩
    | false =>
      have HSq : Hid (someL q (pre ++ [x]) = S) := Lib.hid (by rw [← HS.out]; unfold someL; rw [List.filter_append]; simp [hq])
      clear hq
      gi_wp2
      exact ⟨HKB.out.from _, HBW.out, ⟨bL1, bF1, vo, bO1, by rw [HSq.out]; exact hO1⟩, HB1.out⟩
  case done =>
    rintro D ys W hD rfl ⟨⟨bL, bF, vo, bO, hO⟩, hB⟩ hK
    have cO := bO.cell
    have cL := bL.cell
    have hzW : w.heap.size + 2 ≤ W.heap.size := by have := bO.lt; omega
    have hIW := hI.mono hB (Nat.le_refl _)
    have hIW2 : InsR W (w.heap.size + 2) (.slice a l.length c) l := hIW.mono (Below.refl _ _) (by omega)
    have hlen : (someL q (allT l)).length ≤ 1048576 := Nat.le_trans (List.length_filter_le _ _) hl
    have hC : CmpC 52 #[.pointer (some ⟨w.heap.size, 0, none⟩)] (· ∈ allT l) (w.heap.size + 2) W := fun W' x y hb hx hy =>
      some1_any W' (w.heap.size + 2) w.heap.size _ l ((Below.cellB hb (by omega)).trans cL) (by omega) (Nat.le_trans hzW hb.size) (hIW2.mono hb (Nat.le_refl _)) x y hx hy
    have S1 := Lib.hid (sortS_any W (w.heap.size + 2) (w.heap.size + 2) vo (someL q (allT l)) (· ∈ allT l) 52 #[.pointer (some ⟨w.heap.size, 0, none⟩)] (enters_of Try.func52 (by kernel_rfl) rfl) hC (Nat.le_refl _) hzW hO hlen (fun x hx => (List.mem_filter.1 hx).1))
    have HO := Lib.hid hO
    have HB := Lib.hid hB
    obtain ⟨ao, co, rfl⟩ := OwnF.shape hO
    clear hIW hIW2 hC hO hB
    gi_wp2_with (refine ⟨trivial, ?_⟩; gi_at_call 51; refine (callsIn_wide.2 S1.out).mono ?_; rintro e W2 ⟨rfl, hO2, hF2⟩; refine Hid.out ?_)
    refine Lib.hid ?_
    have hbo := own_ne_box HO.out bO (by decide)
    have bO2 : Boxed W2 (w.heap.size + 1 + 1) 68 _ := hF2.block bO (fun r hr => by rw [List.mem_singleton.1 hr]; exact hbo)
    have cO2 := bO2.cell
    have hDK : W2.heap[D]? = some (.deferred (some [])) := hF2.block hK (fun r hr => by
      rw [List.mem_singleton.1 hr]
      exact own_ne_obj HO.out hK (by intro cs t fr e; cases e))
    have hB2 : Below w.heap.size w W2 := HB.out.trans (hF2.toBelow (by omega) (fun r hr k e => by
      rw [List.mem_singleton.1 hr] at e
      have := own_geP HO.out k e
      omega))
    have HO2 := Lib.hid hO2
    clear hO2 bO2 cO
    gi_wp2
    refine ⟨by simp, .inl ⟨_, _, rfl, run_takeDeferred hDK, ?_⟩⟩
    exact ⟨_, results_tmp rfl _ _ _, _, rfl, prow_own (OwnF.lower HO2.out (by omega)) (grownBy_putObj' _ D (.deferred none)) (fun r e => by cases e; exact ⟨_, hDK, rfl⟩), hB2.trans (belowK_b (w := w) (Nat.le_refl _) W2 D _ _ (by omega) hDK rfl rfl)⟩
  case stop =>
    rintro D c pre W _ _ h _
    exact h.elim

end Go.Proofs.Ytggnheekkbideaa
