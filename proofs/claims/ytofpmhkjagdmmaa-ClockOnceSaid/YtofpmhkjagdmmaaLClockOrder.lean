/- The walk of the law ClockOrder. -/
import Derived.Test.YtofpmhkjagdmmaaClockTwo
import Derived.Test.YtofpmhkjagdmmaaClockOrderP
import Derived.Test.YtofpmhkjagdmmaaOpenAl
set_option maxRecDepth 100000
namespace Go.Proofs.Ytofpmhkjagdmmaa
open Go.RowKit

theorem u64_nn (x : Int) : ∃ u : Nat, IntKind.u64.wrap x = (u : Int) := by
  have h : 0 ≤ IntKind.u64.wrap x := by
    simp only [IntKind.wrap, IntKind.bits, IntKind.signed]
    simp
    exact Int.emod_nonneg _ (by decide)
  exact Int.eq_ofNat_of_zero_le h
theorem zero_bool (w : World) : (zeroValue 4).run Try.prog w = .ok (.bool false) w := by kernel_rfl
theorem same_tok (a : Al) (e : Ent) (h : sameTV a e = true) : e.al.token = a.token := by
  simp [sameTV] at h
  exact h.1
theorem equal_al (w : World) (x : Al) : (Op.equalIn 10000 33 (valA x) (valA x)).run Try.prog w = .ok true w := by
  obtain ⟨xd, xt, xv, xi⟩ := x
  rw [show (10000 : Nat) = 9999 + 1 from rfl, run_equalIn_struct w 9999 33 _ _ (by kernel_rfl) (by kernel_rfl)]
  simp [go_sem, Op.eqFields]
theorem neq_al (w : World) (x : Al) : (binOp .neq 33 (valA x) (valA x)).run Try.prog w = .ok (.bool false) w := by
  rw [run_neq_struct, equal_al]; rfl

/-- What stands at the head of a round of the first loop. -/
structure Ord1 (w : World) (B p1 p2 m : Nat) (vS vC : Value) (S : List Al) (C : List Ent) : Prop where
  als : Als w B vS S
  c : CkS w B p1 0 vC C (S.length : Int)
  d : CkS w B p2 0 (.slice none 0 0) [] 0
  seen : SeenM w m (S.map Al.token)
  perm : (C.map Ent.al).Perm S
  nodup : (S.map Al.token).Nodup
  ok : ∀ a ∈ S, okA 0 a = true
theorem Ord1.below {w w' : World} {B p1 p2 m : Nat} {vS vC : Value} {S : List Al} {C : List Ent} (h : Ord1 w B p1 p2 m vS vC S C) (hb : Below w.heap.size w w') : Ord1 w' B p1 p2 m vS vC S C :=
  ⟨h.als.kept hb, h.c.below hb, h.d.below hb, h.seen.kept (below_grownBy hb none) (by simp), h.perm, h.nodup, h.ok⟩
/-- An alarm more. -/
theorem Ord1.push {w w6 w7 w8 w9 : World} {B p1 p2 m : Nat} {vS vC v6 v9 : Value} {S : List Al} {C : List Ent} {x : Al} (h : Ord1 w B p1 p2 m vS vC S C) (hp : p1 ≠ p2)
    (hk : Kept w w6 B p1 0 vC v6 (pushE ltEnt C ⟨x, (S.length : Int) + 1⟩) ((S.length : Int) + 1)) (hm : SeenM w7 m (S.map Al.token ++ [x.token])) (hg7 : w6.grownBy w7 (some m)) (hb8 : Below w7.heap.size w7 w8) (hg9 : w8.grownBy w9 vS.ownBlock)
    (hA : Als w9 B v9 (S ++ [x])) (hx : x.token ∉ S.map Al.token) (ho : okA 0 x = true) : Ord1 w9 B p1 p2 m v9 v6 (S ++ [x]) (pushE ltEnt C ⟨x, (S.length : Int) + 1⟩) := by
  have e : ((S ++ [x]).length : Int) = (S.length : Int) + 1 := by simp
  have hc6 : CkS w6 B p1 0 v6 (pushE ltEnt C ⟨x, (S.length : Int) + 1⟩) ((S.length : Int) + 1) := ⟨hk.clk, hk.row, push_heap ltEnt_ord h.c.heap _⟩
  have hd6 : CkS w6 B p2 0 (.slice none 0 0) [] 0 := h.d.other h.c hp.symm (Or.inl rfl) hk.frm
  have hs6 := seen_other h.seen h.c hk.frm
  have ha6 := als_other h.als h.c hk.frm
  have f7 : Frm [some m] w6 w7 := (Frm.refl _ _).grown hg7 (by simp)
  have hc7 := hc6.map hs6 f7
  have hd7 := hd6.map hs6 f7
  have ha7 := als_map ha6 hs6 f7
  have f9 : Frm [vS.ownBlock] w7 w9 := (Frm.ofBelow hb8).grown hg9 (by simp)
  refine ⟨hA, ?_, hd7.als ha7 f9, ?_, push_al h.perm x _, ?_, ?_⟩
  · rw [e]; exact hc7.als ha7 f9
  · rw [List.map_append]; exact seen_als hm ha7 f9
  · rw [List.map_append, List.nodup_append]
    refine ⟨h.nodup, by simp, fun a ha b hb e => hx ?_⟩
    obtain rfl : b = x.token := by simpa using hb
    rw [← e]; exact ha
  · intro a ha
    rcases List.mem_append.1 ha with ha | ha
    · exact h.ok a ha
    · rw [List.mem_singleton.1 ha]; exact ho

set_option maxHeartbeats 16000000 in
theorem clockOrder_walk (W : World) (v0 : Value) (l : List Al) (hl : AlR W W.heap.size v0 l) (gl : AlI l) (n : Int) (_gn : (Lit.int .i64 n).wf = true) :
    Calls Try.prog 3 #[v0, .int .i64 n] W fun e w' => e = .returned (.bool true) ∧ Below W.heap.size W w' := by
  obtain ⟨i0, hti, hz0, hz1, hz2⟩ := info_parts info_al
  obtain ⟨a0, c0, rfl⟩ := hl.val
  obtain ⟨u, hu⟩ := u64_nn n
  obtain ⟨c, hc, hc4⟩ : ∃ c : Nat, (u : Int) % 1048576 = (c : Int) ∧ c < 1048576 := ⟨u % 1048576, by omega, by omega⟩
  have hmm := @run_makeMap Try.prog
  by_cases hbig : 100 < l.length
  · have d1 : decide ((l.length : Int) > 100) = true := decide_eq_true (by omega)
    go_enter Try.func3, Try.ntmps3
    go_wp2_with (go_at_call 7; refine (awake_any _).mono ?_; rintro e w1 ⟨rfl, hb1⟩)
    go_ret
    exact ⟨rfl, hb1⟩
  have d1 : decide ((l.length : Int) > 100) = false := decide_eq_false (by omega)
  have hl100 : l.length ≤ 100 := by omega
  have HU := Lib.hid hu
  have HCC := Lib.hid hc
  clear hu hc
  go_enter Try.func3, Try.ntmps3
  go_wp2_with (go_at_call 7; refine (awake_any _).mono ?_; rintro e w1 ⟨rfl, hb1⟩; refine Hid.out ?_)
  refine Lib.hid ?_
  have z1 := hb1.size
  go_wp2_with (go_at_call 8; refine (new_ok _ 0 (by omega) (by omega)).mono ?_; rintro e w2 ⟨p1, rfl, hp1, hc1, hb2⟩; refine Hid.out ?_)
  refine Lib.hid ?_
  have hp1l := lt_of_block hc1
  have B2 := hb1.trans (hb2.mono z1)
  have z2 := B2.size
  go_wp2_with (go_at_call 8; refine (new_ok _ 0 (by omega) (by omega)).mono ?_; rintro e w3 ⟨p2, rfl, hp2, hc2, hb3⟩; refine Hid.out ?_)
  refine Lib.hid ?_
  have B3 := B2.trans (hb3.mono z2)
  have z3 := B3.size
  have hpp : p1 ≠ p2 := by omega
  have hb4 := (Below.refl w3.heap.size w3).alloc (Nat.le_refl _) (.map #[] 0)
  have hm4 := SeenM.made w3
  obtain ⟨w4, hw4⟩ : ∃ w4, w3.alloc (.map #[] 0) = w4 := ⟨_, rfl⟩
  rw [hw4] at hb4 hm4
  have B4 := B3.trans (hb4.mono z3)
  have hO4 : Ord1 w4 W.heap.size p1 p2 w3.heap.size (.slice none 0 0) (.slice none 0 0) [] [] := ⟨OwnF.nil _ _,
    ⟨(hc1.below hb3 (Nat.le_refl _)).below hb4 (Nat.le_refl _), row_nil _ _, heap_nil⟩, ⟨hc2.below hb4 (Nat.le_refl _), row_nil _ _, heap_nil⟩, hm4, List.Perm.refl _, List.nodup_nil, by simp⟩
  have hmb : W.heap.size ≤ w3.heap.size := z3
  have hm3 : w3.heap.size < w4.heap.size := hm4.lt
  obtain ⟨m, hm⟩ : ∃ m, w3.heap.size = m := ⟨_, rfl⟩
  rw [hm] at hO4 hmb hm3
  clear hm4 hc1 hc2 hb1 hb2 hb3 hb4 B2 B3
  have HO4 := Lib.hid hO4
  have HB4 := Lib.hid B4
  clear hO4 B4
  go_wp2_with fail
  clear hm hw4 hmm
  go_loopg [10, 11] l.length (fun gh s10 s11 wx => ∃ (i : Nat) (S : List Al) (C : List Ent) (vC : Value), i + gh = l.length ∧ s11 = .int .i64 (i : Int) ∧ Hid (Ord1 wx W.heap.size p1 p2 m s10 vC S C) ∧ Hid (Below W.heap.size W wx) ∧ S.length ≤ i)
  case atStart => exact ⟨0, [], [], _, by omega, rfl, HO4, HB4, Nat.le_refl _⟩
  case round =>
    obtain ⟨i, S, C, vC, hig, rfl, hO, hB, hSi⟩ := hrel
    have hzr := hB.out.size
    by_cases hi : i < l.length
    · have hlr := hl.mono hB.out hzr
      obtain ⟨b, o, hab, hbl, hcell⟩ := hlr.col i hi
      subst hab
      obtain ⟨x, hx⟩ : ∃ x, l[i] = x := ⟨_, rfl⟩
      have gx := gl _ (List.getElem_mem hi)
      rw [hx] at hcell gx
      obtain ⟨gx1, gx2, gx3⟩ := gx
      have x0 : wr.cell? ⟨b, o + i * 4, none⟩ = some (.int .i64 x.due) := hcell 0 (by omega)
      have x1 : wr.cell? ⟨b, o + i * 4 + 1, none⟩ = some (.int .i64 x.token) := hcell 1 (by omega)
      have x2 : wr.cell? ⟨b, o + i * 4 + 2, none⟩ = some (.string x.via) := hcell 2 (by omega)
      have x3 : wr.cell? ⟨b, o + i * 4 + 3, none⟩ = some (.int .i64 x.inst) := hcell 3 (by omega)
      have hlook := hO.out.seen.look x.token gx2 (zero_bool wr)
      have HX := Lib.hid hx
      clear hlr hcell hx
      cases hcon : (S.map Al.token).contains x.token with
      | true =>
        rw [hcon] at hlook
        clear hcon
        go_wp2_with fail
        go_roundg (gk - 1)
        case measure => omega
        case rel => exact ⟨i + 1, S, C, vC, by omega, by go_num, hO, hB, by omega⟩
      | false =>
        rw [hcon] at hlook
        have HNI : Hid (x.token ∉ S.map Al.token) := Lib.hid (by
          intro h
          rw [List.contains_iff_mem.2 h] at hcon
          cases hcon)
        clear hcon
        go_wp2_with (go_at_call 10; refine (given_any _ x).mono ?_; rintro e w5 ⟨rfl, hb5⟩; refine Hid.out ?_)
        refine Lib.hid ?_
        have hO5 := Lib.hid (hO.out.below hb5)
        have hB5 := Lib.hid (hB.out.trans (hb5.mono hzr))
        have hz5 := hB5.out.size
        clear x0 x1 x2 x3 hlook
        cases hok : okA 0 x with
        | false =>
          have S1 := Lib.hid (set_bad w5 p1 0 _ vC x hO5.out.c.clk hok)
          clear hok
          go_wp2_with (go_at_call 9; refine S1.out.mono ?_; rintro e w6 ⟨rfl, hb6⟩)
          go_roundg (gk - 1)
          case measure => omega
          case rel => exact ⟨i + 1, S, C, vC, by omega, by go_num, Lib.hid (hO5.out.below hb6), Lib.hid (hB5.out.trans (hb6.mono hz5)), by omega⟩
        | true =>
          have hlenC : C.length = S.length := by have := hO.out.perm.length_eq; simpa using this
          have S1 := Lib.hid (set_new w5 W.heap.size p1 0 _ vC C x hO5.out.c.clk hO5.out.c.row hz5 (by omega) (by omega) (by omega) hok (hasA_no hO.out.perm HNI.out same_tok))
          have HOK := Lib.hid hok
          clear hok hlenC
          go_wp2_with (go_at_call 9; refine S1.out.mono ?_; rintro e w6 ⟨rfl, v6, hk6⟩; refine Hid.out ?_)
          refine Lib.hid ?_
          have hB6 := Lib.hid (hB5.out.trans ((hk6.toBelow hO5.out.c.row (show W.heap.size ≤ p1 by omega) (Nat.le_refl _) hz5)))
          have hz6 := hB6.out.size
          have hs6 := seen_other hO5.out.seen hO5.out.c hk6.frm
          obtain ⟨w7, hput, hm7, hg7⟩ := hs6.put x.token gx2 (by unfold maxLen; simp; omega)
          have hB7 := Lib.hid (hB6.out.grown hg7 hz6 (fun k hk => by injection hk with hk; omega))
          have hz7 := hB7.out.size
          have ha6 := als_other hO5.out.als hO5.out.c hk6.frm
          have ha7 := als_map ha6 hs6 ((Frm.refl [some m] w6).grown hg7 (by simp))
          have hl6 := (hl.mono hB6.out hz6).col i hi
          have hl7 := (hl.mono hB7.out hz7).col i hi
          obtain ⟨b', o', hab', _, hc6⟩ := hl6
          cases hab'
          obtain ⟨b', o', hab', _, hc7⟩ := hl7
          cases hab'
          rw [HX.out] at hc6 hc7
          have y1 : w6.cell? ⟨b, o + i * 4 + 1, none⟩ = some (.int .i64 x.token) := hc6 1 (by omega)
          have x0 : w7.cell? ⟨b, o + i * 4, none⟩ = some (.int .i64 x.due) := hc7 0 (by omega)
          have x1 : w7.cell? ⟨b, o + i * 4 + 1, none⟩ = some (.int .i64 x.token) := hc7 1 (by omega)
          have x2 : w7.cell? ⟨b, o + i * 4 + 2, none⟩ = some (.string x.via) := hc7 2 (by omega)
          have x3 : w7.cell? ⟨b, o + i * 4 + 3, none⟩ = some (.int .i64 x.inst) := hc7 3 (by omega)
          clear hc6 hc7 S1
          go_wp2_with (go_at_call 10; refine (given_any _ x).mono ?_; rintro e w8 ⟨rfl, hb8⟩; refine Hid.out ?_)
          refine Lib.hid ?_
          have ha8 : Als w8 W.heap.size u10 S := ha7.kept hb8
          have hB8 := Lib.hid (hB7.out.trans (hb8.mono hz7))
          have hz8 := hB8.out.size
          clear x0 x1 x2 x3 y1 hput
          go_wp2_with (at_builtin; refine wpList_append_own _ rfl _ _ 29 rfl W.heap.size 33 i0 _ 4 40 Try.underlying29 hti hz0 hz1 hz2 rfl (by decide) u10 S.length (cellsF cellA S) rfl (ha8.alloc _) _ 1 1 (cellA x) rfl rfl (cells_new w8 _ _) (cellA_one _) (by unfold maxLen; omega) (by omega) (by simp; omega) ?_; intro v9 w9 hown9 hg9 _)
          have hBo := (Below.refl w8.heap.size w8).alloc (Nat.le_refl _) (.cells #[.int .i64 x.due, .int .i64 x.token, .string x.via, .int .i64 x.inst] 33)
          have hB9 := (hB8.out.trans (hBo.mono hz8)).grown hg9 (by simp; omega) (fun k hk => by
            rcases ha8.val with ⟨e, _⟩ | ⟨g, c, e, hbg, _⟩
            · rw [e] at hk; cases hk
            · rw [e] at hk; simp only [Value.ownBlock, Option.some.injEq] at hk; omega)
          have hO9 := hO5.out.push hpp hk6 hm7 hg7 ((hb8.trans (hBo.mono hb8.size))) hg9 (als_push hown9) HNI.out HOK.out
          have HO9 := Lib.hid hO9
          have HB9 := Lib.hid hB9
          clear hO9 hB9 hBo hown9 hg9 ha8 ha7 ha6 hm7 hg7
          go_roundg (gk - 1)
          case measure => omega
          case rel => exact ⟨i + 1, S ++ [x], _, v6, by omega, by go_num, HO9, HB9, by simp; omega⟩
    · have hi' : ¬ ((i : Int) < (l.length : Int)) := by omega
      have hi2 : decide (i < l.length) = false := decide_eq_false hi
      have hA := hO.out.als
      obtain ⟨qa, ca, rfl⟩ := hA.shape
      have hlenC : C.length = S.length := by have := hO.out.perm.length_eq; simpa using this
      have hS100 : S.length ≤ 100 := by omega
      have hk0 : 0 ≤ S.length := by omega
      obtain ⟨hA0, hC0, hD0, -, hperm, hnod, hoks⟩ := hO.out
      have HPN := Lib.hid (And.intro hperm (And.intro hnod hoks))
      have HHC := Lib.hid hC0
      have HHD := Lib.hid hD0
      have HHA := Lib.hid hA0
      clear hA hperm hnod hoks hC0 hD0 hA0 hO hig hSi
      obtain ⟨Wq, hWq⟩ : ∃ Wq, wr = Wq := ⟨_, rfl⟩
      subst hWq
      go_wp2_with fail
      go_loopg [12] S.length (fun gh s12 wx => ∃ (D : List Ent) (vD : Value), s12 = .int .i64 ((gh : Int) - 1) ∧ gh ≤ S.length ∧ Hid (CkS wx W.heap.size p2 0 vD D ((S.length - gh : Nat) : Int)) ∧ Hid (CkS wx W.heap.size p1 0 vC C (S.length : Int)) ∧ Hid (Als wx W.heap.size (.slice qa S.length ca) S) ∧ Hid (Apart vC vD) ∧ Hid (Below W.heap.size W wx) ∧ Hid ((D.map Ent.al).Perm (S.drop gh)))
      case atStart => exact ⟨[], _, rfl, Nat.le_refl _, by rw [Nat.sub_self]; exact HHD, HHC, HHA, Or.inr (Or.inl rfl), hB, Lib.hid (by rw [List.drop_length]; exact List.Perm.refl _)⟩
      case round =>
        clear HHC HHD HHA hB hzr
        obtain ⟨D, vD, rfl, hgS, hD, hC, hA, hap, hB, hPD⟩ := hrel
        have hzr := hB.out.size
        rcases Nat.eq_zero_or_pos gk with h0 | h0
        · subst h0
          have hu := HU.out
          have hc := HCC.out
          have hlenD : D.length = S.length := by have := hPD.out.length_eq; simpa using this
          have hPD0 : (D.map Ent.al).Perm S := hPD.out
          have T1' := tick_any wr W.heap.size p1 0 _ (c : Int) vC C hC.out.clk hC.out.row hzr (by omega) (by omega) (by unfold badT; omega)
          rw [Int.zero_add] at T1'
          have T1 := Lib.hid T1'
          have hEQ := Lib.hid (order_tick (n := (c : Int)) HPN.out.1 hPD0 hC.out.heap hD.out.heap HPN.out.2.1)
          have hAS := Lib.hid (And.intro (tick_sorted (now := (c : Int)) hC.out.heap) (tick_nodup (n := (c : Int)) HPN.out.1 hC.out.heap HPN.out.2.1))
          have hAL : ((tickE C (c : Int)).1.map Ent.al).length ≤ 100 := by
            have h1 := (tick_perm (n := (c : Int)) HPN.out.1 hC.out.heap).length_eq
            have h2 := List.length_filter_le (fun a : Al => decide (a.due ≤ (c : Int))) S
            omega
          clear T1' hPD0
          have tok1 : True := trivial
          go_wp2_with (go_at_call 11; have _t := tok1; refine T1.out.mono ?_; rintro e w6 ⟨xa, v6, rfl, ha6, hk6⟩; refine Hid.out ?_)
          refine Lib.hid ?_
          have hB6 := Lib.hid (hB.out.trans ((hk6.toBelow hC.out.row (show W.heap.size ≤ p1 by omega) (Nat.le_refl _) hzr)))
          have hz6 := hB6.out.size
          have hD6 := hD.out.other hC.out hpp.symm hap.out.symm hk6.frm
          have T2' := tick_any w6 W.heap.size p2 0 _ (c : Int) vD D hD6.clk hD6.row hz6 (by omega) (by omega) (by unfold badT; omega)
          rw [Int.zero_add] at T2'
          have T2 := Lib.hid T2'
          have HD6 := Lib.hid hD6
          clear T1 T2' tok1 hD6 hu hc
          have tok2 : True := trivial
          go_wp2_with (go_at_call 11; have _t := tok2; refine T2.out.mono ?_; rintro e w7 ⟨xb, v7, rfl, hb7, hk7⟩; refine Hid.out ?_)
          refine Lib.hid ?_
          have hB7 := Lib.hid (hB6.out.trans ((hk7.toBelow HD6.out.row (show W.heap.size ≤ p2 by omega) (Nat.le_refl _) hz6)))
          have hz7 := hB7.out.size
          have ha7 := als_other ha6 HD6.out hk7.frm
          rw [← hEQ.out] at hb7
          obtain ⟨A, hA'⟩ : ∃ A, (tickE C (c : Int)).1.map Ent.al = A := ⟨_, rfl⟩
          rw [hA'] at ha7 hb7 hAL
          have HAS : Hid (A.Pairwise leAl ∧ (A.map Al.token).Nodup) := by rw [← hA']; exact hAS
          clear tok2 T2 hA' hAS hEQ ha6 hA hC hD hPD hap hB6
          obtain ⟨qx, cx, rfl⟩ := ha7.shape
          obtain ⟨qy, cy, rfl⟩ := hb7.shape
          have HX7 := Lib.hid ha7
          have HY7 := Lib.hid hb7
          clear ha7 hb7
          go_wp2_with fail
          go_loopg [15] A.length (fun gh s15 wx => ∃ (i : Nat), i + gh = A.length ∧ s15 = .int .i64 (i : Int) ∧ Hid (Below w7.heap.size w7 wx))
          case atStart => exact ⟨0, by omega, rfl, Lib.hid (Below.refl _ _)⟩
          case round =>
            obtain ⟨i, hig, rfl, hbr⟩ := hrel
            by_cases hi : i < A.length
            · obtain ⟨gx, rfl, -, -, -⟩ := HX7.out.some (by omega)
              obtain ⟨gy, rfl, -, -, -⟩ := HY7.out.some (by omega)
              have hxr := HX7.out.kept hbr.out
              have hyr := HY7.out.kept hbr.out
              obtain ⟨x, hx⟩ : ∃ x, A[i] = x := ⟨_, rfl⟩
              have x0 : wr.cell? ⟨gx, i * 4, none⟩ = some (.int .i64 A[i].due) := hxr.at cellA_len (i := i) (j := 0) hi (by omega)
              have x1 : wr.cell? ⟨gx, i * 4 + 1, none⟩ = some (.int .i64 A[i].token) := hxr.at cellA_len (i := i) (j := 1) hi (by omega)
              have x2 : wr.cell? ⟨gx, i * 4 + 2, none⟩ = some (.string A[i].via) := hxr.at cellA_len (i := i) (j := 2) hi (by omega)
              have x3 : wr.cell? ⟨gx, i * 4 + 3, none⟩ = some (.int .i64 A[i].inst) := hxr.at cellA_len (i := i) (j := 3) hi (by omega)
              have y0 : wr.cell? ⟨gy, i * 4, none⟩ = some (.int .i64 A[i].due) := hyr.at cellA_len (i := i) (j := 0) hi (by omega)
              have y1 : wr.cell? ⟨gy, i * 4 + 1, none⟩ = some (.int .i64 A[i].token) := hyr.at cellA_len (i := i) (j := 1) hi (by omega)
              have y2 : wr.cell? ⟨gy, i * 4 + 2, none⟩ = some (.string A[i].via) := hyr.at cellA_len (i := i) (j := 2) hi (by omega)
              have y3 : wr.cell? ⟨gy, i * 4 + 3, none⟩ = some (.int .i64 A[i].inst) := hyr.at cellA_len (i := i) (j := 3) hi (by omega)
              rw [hx] at x0 x1 x2 x3 y0 y1 y2 y3
              have hne := fun W => neq_al W x
              have hi2 : (i : Int) < (A.length : Int) := by omega
              have hi0 : (0 : Int) ≤ (i : Int) := by omega
              have HXI := Lib.hid hx
              clear hx hyr
              rcases Nat.eq_zero_or_pos i with h0 | h0
              · subst h0
                rw [Nat.zero_mul] at x0 x1 x2 x3 y0 y1 y2 y3
                rw [Nat.zero_add] at x1 x2 x3 y1 y2 y3
                clear hxr
                go_wp2_with fail
                go_quiet (fail)
                go_wp2_with fail
                go_roundg (gk - 1)
                case measure => omega
                case rel => exact ⟨1, by omega, by go_num, Lib.hid (below_drewN hbr.out _)⟩
              · obtain ⟨q, rfl⟩ : ∃ q, i = q + 1 := ⟨i - 1, by omega⟩
                obtain ⟨y, hy⟩ : ∃ y, A[q] = y := ⟨_, rfl⟩
                have z0 : wr.cell? ⟨gx, q * 4, none⟩ = some (.int .i64 A[q].due) := hxr.at cellA_len (i := q) (j := 0) (by omega) (by omega)
                have z1 : wr.cell? ⟨gx, q * 4 + 1, none⟩ = some (.int .i64 A[q].token) := hxr.at cellA_len (i := q) (j := 1) (by omega) (by omega)
                have hord := order_next HAS.out.1 HAS.out.2 (i := q) hi
                rw [hy] at z0 z1 hord
                rw [HXI.out] at hord
                have hq1 : IntKind.i64.wrap (q : Int) = (q : Int) := by rw [IntKind.wrap_i64]; omega
                have hq2 : (q : Int) < (A.length : Int) := by omega
                have hq3 : decide ((q : Int) + 1 > 0) = true := decide_eq_true (by omega)
                have dd : decide (x.due < y.due) = false := decide_eq_false (by omega)
                clear hxr hy
                rcases hord with ho | ⟨ho1, ho2⟩
                · have de : (x.due == y.due) = false := by rw [beq_eq_false_iff_ne]; omega
                  go_wp2_with fail
                  go_quiet (fail)
                  go_wp2_with fail
                  go_roundg (gk - 1)
                  case measure => omega
                  case rel => exact ⟨q + 1 + 1, by omega, by go_num, Lib.hid (below_drewN hbr.out _)⟩
                · have de : (x.due == y.due) = true := by rw [beq_iff_eq]; omega
                  have dt : decide (x.token ≤ y.token) = false := decide_eq_false (by omega)
                  clear ho1
                  go_wp2_with fail
                  go_quiet (fail)
                  go_wp2_with fail
                  go_roundg (gk - 1)
                  case measure => omega
                  case rel => exact ⟨q + 1 + 1, by omega, by go_num, Lib.hid (below_drewN hbr.out _)⟩
            · have hi' : ¬ ((i : Int) < (A.length : Int)) := by omega
              have hi2 : decide (i < A.length) = false := decide_eq_false hi
              go_wp2_with fail
              go_ret
              exact ⟨rfl, hB7.out.trans (hbr.out.mono hz7)⟩
        · obtain ⟨q, rfl⟩ : ∃ q, gk = q + 1 := ⟨gk - 1, by omega⟩
          have e1 : ((q + 1 : Nat) : Int) - 1 = (q : Int) := by omega
          rw [e1]
          have hqS : q < S.length := by omega
          obtain ⟨g, rfl, -, hbg, hg⟩ := hA.out.some (by omega)
          obtain ⟨x, hx⟩ : ∃ x, S[q] = x := ⟨_, rfl⟩
          have x0 : wr.cell? ⟨g, q * 4, none⟩ = some (.int .i64 S[q].due) := hA.out.at cellA_len (i := q) (j := 0) hqS (by omega)
          have x1 : wr.cell? ⟨g, q * 4 + 1, none⟩ = some (.int .i64 S[q].token) := hA.out.at cellA_len (i := q) (j := 1) hqS (by omega)
          have x2 : wr.cell? ⟨g, q * 4 + 2, none⟩ = some (.string S[q].via) := hA.out.at cellA_len (i := q) (j := 2) hqS (by omega)
          have x3 : wr.cell? ⟨g, q * 4 + 3, none⟩ = some (.int .i64 S[q].inst) := hA.out.at cellA_len (i := q) (j := 3) hqS (by omega)
          rw [hx] at x0 x1 x2 x3
          have hok : okA 0 x = true := by rw [← hx]; exact HPN.out.2.2 _ (List.getElem_mem hqS)
          have hni : x.token ∉ (S.drop (q + 1)).map Al.token := by
            have := HPN.out.2.1
            rw [← List.take_append_drop (q + 1) S, List.map_append, List.nodup_append] at this
            intro h
            refine this.2.2 _ ?_ _ h rfl
            rw [List.mem_map]
            refine ⟨S[q], ?_, by rw [hx]⟩
            rw [List.mem_take_iff_getElem]
            exact ⟨q, by omega, rfl⟩
          have hlenD : D.length = S.length - (q + 1) := by have := hPD.out.length_eq; simpa using this
          have S1 := Lib.hid (set_new wr W.heap.size p2 0 _ vD D x hD.out.clk hD.out.row hzr (by omega) (by omega) (by omega) hok (hasA_no hPD.out hni same_tok))
          have HX := Lib.hid hx
          clear hok hni hx
          go_wp2_with (go_at_call 9; refine S1.out.mono ?_; rintro e w6 ⟨rfl, v6, hk6⟩)
          have hB6 := Lib.hid (hB.out.trans ((hk6.toBelow hD.out.row (show W.heap.size ≤ p2 by omega) (Nat.le_refl _) hzr)))
          have hD6 : CkS w6 W.heap.size p2 0 v6 (pushE ltEnt D ⟨x, ((S.length - (q + 1) : Nat) : Int) + 1⟩) (((S.length - (q + 1) : Nat) : Int) + 1) := ⟨hk6.clk, hk6.row, push_heap ltEnt_ord hD.out.heap _⟩
          have em : ((S.length - (q + 1) : Nat) : Int) + 1 = ((S.length - q : Nat) : Int) := by omega
          rw [em] at hD6
          have hC6 := hC.out.other hD.out hpp hap.out hk6.frm
          have hA6 := als_other hA.out hD.out hk6.frm
          have hP6 : Hid ((List.map Ent.al (pushE ltEnt D ⟨x, ((S.length - q : Nat) : Int)⟩)).Perm (S.drop q)) := Lib.hid (by
            rw [List.drop_eq_getElem_cons hqS, HX.out]
            exact push_al' hPD.out x _)
          go_roundg q
          case measure => omega
          case rel => exact ⟨_, v6, rfl, by omega, Lib.hid hD6, Lib.hid hC6, Lib.hid hA6, Lib.hid (hap.out.fresh hC.out.row hk6.fresh), hB6, hP6⟩

end Go.Proofs.Ytofpmhkjagdmmaa
