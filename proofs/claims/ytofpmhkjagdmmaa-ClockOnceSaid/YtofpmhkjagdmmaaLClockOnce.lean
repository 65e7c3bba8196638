/- The walk of the law ClockOnce. -/
import Derived.Test.YtofpmhkjagdmmaaClockFive
import Derived.Test.YtofpmhkjagdmmaaOpenAl
import Derived.Test.YtofpmhkjagdmmaaLClockOrder
set_option maxRecDepth 100000
namespace Go.Proofs.Ytofpmhkjagdmmaa
open Go.RowKit Go.Deep Go.ChangeShapes Go.WideShapes

section
variable {H : Type} {enc : TypeId × Value → H} {W : World} {spare : Nat → Bool} {held : Bool}
theorem open_u8s {v : Value} {d : DataW H} {ps : List MemPlace} {r : Reach} {b0 : Nat} (hv : Value.okWide Try.prog W r b0 39 v) (h : DataW.Trod enc Try.prog W 0 spare held 39 v d ps) (hfit : Fits Try.prog 39 d) :
    ∃ l, ColV (Value.int .u8) 140737488351232 W W.heap.size v l ∧ ∀ x ∈ l, (Lit.int .u8 x).wf = true := by
  obtain ⟨fuel, h⟩ := h
  obtain ⟨a, len, cap, rfl⟩ := okWide_slice Try.underlying39 hv
  obtain ⟨v, l, hvl, hc, hw⟩ := open_ints_col (L := 140737488351232) Try.underlying39 Try.underlying5 (by kernel_rfl) (by rw [show Try.prog.bytesOf 5 = 1 by kernel_rfl]; decide) (by rw [show Try.prog.bytesOf 5 = 1 by kernel_rfl]; decide) h hfit
  simp [Value.cells] at hvl
  subst hvl
  exact ⟨l, hc, hw⟩
end

theorem AlR.cells {w : World} {B b o n cap : Nat} {l : List Al} (h : AlR w B (.slice (some ⟨b, o, none⟩) n cap) l) {i : Nat} (hi : i < l.length) {x : Al} (hx : l[i] = x) :
    w.cell? ⟨b, o + i * 4, none⟩ = some (.int .i64 x.due) ∧ w.cell? ⟨b, o + i * 4 + 1, none⟩ = some (.int .i64 x.token) ∧ w.cell? ⟨b, o + i * 4 + 2, none⟩ = some (.string x.via) ∧ w.cell? ⟨b, o + i * 4 + 3, none⟩ = some (.int .i64 x.inst) := by
  obtain ⟨b', o', hab, _, hc⟩ := h.col i hi
  cases hab
  rw [hx] at hc
  exact ⟨hc 0 (by omega), hc 1 (by omega), hc 2 (by omega), hc 3 (by omega)⟩
theorem Als.cells {w : World} {B g n cap : Nat} {l : List Al} (h : Als w B (.slice (some ⟨g, 0, none⟩) n cap) l) {i : Nat} (hi : i < l.length) {x : Al} (hx : l[i] = x) :
    w.cell? ⟨g, i * 4, none⟩ = some (.int .i64 x.due) ∧ w.cell? ⟨g, i * 4 + 1, none⟩ = some (.int .i64 x.token) ∧ w.cell? ⟨g, i * 4 + 2, none⟩ = some (.string x.via) ∧ w.cell? ⟨g, i * 4 + 3, none⟩ = some (.int .i64 x.inst) := by
  subst hx
  exact ⟨h.at cellA_len (i := i) (j := 0) hi (by omega), h.at cellA_len (i := i) (j := 1) hi (by omega), h.at cellA_len (i := i) (j := 2) hi (by omega), h.at cellA_len (i := i) (j := 3) hi (by omega)⟩
theorem u8_range {x : Int} (h : (Lit.int .u8 x).wf = true) : 0 ≤ x ∧ x < 256 := by
  simp [Lit.wf, IntKind.min, IntKind.max, IntKind.signed, IntKind.bits] at h
  omega
theorem Als.lower' {w : World} {b b' : Nat} {v : Value} {A : List Al} (h : Als w b v A) (hb : b' ≤ b) : Als w b' v A := OwnF.lower h hb
theorem cellsA_one (A : List Al) : ∀ u ∈ cellsF cellA A, u.oneCell' = true := by
  intro u hu
  unfold cellsF at hu
  obtain ⟨a, _, ha⟩ := List.mem_flatMap.1 hu
  exact cellA_one a u ha
theorem als_app {w : World} {base : Nat} {v : Value} {A A' : List Al} (h : w.ownsRow base 33 4 v (A.length + A'.length) (cellsF cellA A ++ cellsF cellA A')) : Als w base v (A ++ A') := by
  unfold Als OwnF
  rw [List.length_append, cellsF_app2]
  exact h
theorem own_ge {w : World} {base : Nat} {v : Value} {A : List Al} (h : Als w base v A) : ∀ k, v.ownBlock = some k → base ≤ k := by
  intro k hk
  rcases h.val with ⟨e, _⟩ | ⟨g, c, e, hb, _⟩
  · rw [e] at hk; cases hk
  · rw [e] at hk; simp only [Value.ownBlock, Option.some.injEq] at hk; omega
theorem same_pair (a : Al) (e : Ent) : sameTV a e = pairB a e.al := rfl

set_option maxHeartbeats 32000000 in
theorem clockOnce_walk (W : World) (v0 : Value) (l : List Al) (hl : AlR W W.heap.size v0 l) (_gl : AlI l) (v1 : Value) (tk : List Int) (htk : ColV (Value.int .u8) 140737488351232 W W.heap.size v1 tk) (gtk : ∀ x ∈ tk, (Lit.int .u8 x).wf = true) (dr : Int) (_gd : (Lit.int .i64 dr).wf = true) :
    Calls Try.prog 4 #[v0, v1, .int .i64 dr] W fun e w' => e = .returned (.bool true) ∧ Below W.heap.size W w' := by
  obtain ⟨i0, hti, hz0, hz1, hz2⟩ := info_parts info_al
  obtain ⟨a0, c0, rfl⟩ := hl.val
  obtain ⟨a1, c1, rfl⟩ := htk.val
  have htl := htk.len
  by_cases hbig : 100 < l.length
  · have d1 : decide ((l.length : Int) > 100) = true := decide_eq_true (by omega)
    go_enter Try.func4, Try.ntmps4
    go_wp2_with (go_at_call 7; refine (awake_any _).mono ?_; rintro e w1 ⟨rfl, hb1⟩)
    go_ret
    exact ⟨rfl, hb1⟩
  have d1 : decide ((l.length : Int) > 100) = false := decide_eq_false (by omega)
  have hl100 : l.length ≤ 100 := by omega
  by_cases hbig2 : 60 < tk.length
  · have d2 : decide ((tk.length : Int) > 60) = true := decide_eq_true (by omega)
    go_enter Try.func4, Try.ntmps4
    go_wp2_with (go_at_call 7; refine (awake_any _).mono ?_; rintro e w1 ⟨rfl, hb1⟩)
    go_ret
    exact ⟨rfl, hb1⟩
  have d2 : decide ((tk.length : Int) > 60) = false := decide_eq_false (by omega)
  have htk60 : tk.length ≤ 60 := by omega
  go_enter Try.func4, Try.ntmps4
  go_wp2_with (go_at_call 7; refine (awake_any _).mono ?_; rintro e w1 ⟨rfl, hb1⟩; refine Hid.out ?_)
  refine Lib.hid ?_
  have z1 := hb1.size
  go_wp2_with (go_at_call 8; refine (new_ok _ 0 (by omega) (by omega)).mono ?_; rintro e w2 ⟨p1, rfl, hp1, hc1, hb2⟩; refine Hid.out ?_)
  refine Lib.hid ?_
  have hp1l := lt_of_block hc1
  have B2 := hb1.trans (hb2.mono z1)
  have z2 := B2.size
  go_wp2_with (go_at_call 8; refine (new_ok _ 0 (by omega) (by omega)).mono ?_; rintro e w3 ⟨p2, rfl, hp2, hc2, hb3⟩; refine Hid.out ?_)
  refine Lib.hid ?_
  have B3 := B2.trans (hb3.mono z2)
  have z3 := B3.size
  have hpp : p1 ≠ p2 := by omega
  have HO3 : Hid (Onc w3 W.heap.size p1 p2 (.slice none 0 0) (.slice none 0 0) (.slice none 0 0) (.slice none 0 0) (.slice none 0 0) 0 0 [] [] [] [] [] 0) := Lib.hid
    ⟨⟨hc1.below hb3 (Nat.le_refl _), row_nil _ _, heap_nil⟩, ⟨hc2, row_nil _ _, heap_nil⟩, OwnF.nil _ _, OwnF.nil _ _, OwnF.nil _ _, Or.inl rfl, Or.inl rfl, Or.inl rfl, Or.inl rfl⟩
  have HB3 := Lib.hid B3
  have q1 : W.heap.size ≤ p1 := by omega
  have q2 : W.heap.size ≤ p2 := by omega
  clear hc1 hc2 hb1 hb2 hb3 B2 B3 hp1 hp2 hp1l
  go_wp2_with fail
  go_loopg [11, 12] l.length (fun gh s11 s12 wx => ∃ (i : Nat) (S : List Al) (C : List Ent) (vC vD : Value), i + gh = l.length ∧ s12 = .int .i64 (i : Int) ∧ Hid (Onc wx W.heap.size p1 p2 vC vD s11 (.slice none 0 0) (.slice none 0 0) 0 0 C C S [] [] (S.length : Int)) ∧ Hid (Below W.heap.size W wx) ∧ S.length ≤ i ∧ Hid ((C.map Ent.al).Perm S ∧ S.Pairwise pairNe ∧ ∀ a ∈ S, okA 0 a = true))
  case atStart => exact ⟨0, [], [], _, _, by omega, rfl, HO3, HB3, Nat.le_refl _, Lib.hid ⟨List.Perm.refl _, List.Pairwise.nil, by simp⟩⟩
  case round =>
    obtain ⟨i, S, C, vC, vD, hig, rfl, hO, hB, hSi, hP⟩ := hrel
    have hzr := hB.out.size
    by_cases hi : i < l.length
    · obtain ⟨b, o, hab, hbl, -⟩ := hl.col i hi
      subst hab
      obtain ⟨x, hx⟩ : ∃ x, l[i] = x := ⟨_, rfl⟩
      obtain ⟨x0, x1, x2, x3⟩ := (hl.mono hB.out hzr).cells hi hx
      have HX := Lib.hid hx
      have hlenC : C.length = S.length := by have := hP.out.1.length_eq; simpa using this
      clear hx
      go_wp2_with (go_at_call 10; refine (given_any _ x).mono ?_; rintro e w5 ⟨rfl, hb5⟩; refine Hid.out ?_)
      refine Lib.hid ?_
      have hO5 := Lib.hid (hO.out.below hb5)
      have hB5 := Lib.hid (hB.out.trans (hb5.mono hzr))
      have hz5 := hB5.out.size
      clear x0 x1 x2 x3
      cases hok : okA 0 x with
      | false =>
        have S1 := Lib.hid (set_bad w5 p1 0 _ vC x hO5.out.c.clk hok)
        have HOK := Lib.hid hok
        clear hok
        go_wp2_with (go_at_call 9; refine S1.out.mono ?_; rintro e w6 ⟨rfl, hb6⟩; refine Hid.out ?_)
        refine Lib.hid ?_
        have hO6 := Lib.hid (hO5.out.below hb6)
        have hB6 := Lib.hid (hB5.out.trans (hb6.mono hz5))
        have hz6 := hB6.out.size
        obtain ⟨x0, x1, x2, x3⟩ := (hl.mono hB6.out hz6).cells hi HX.out
        clear S1
        go_wp2_with (go_at_call 10; refine (given_any _ x).mono ?_; rintro e w7 ⟨rfl, hb7⟩; refine Hid.out ?_)
        refine Lib.hid ?_
        have hO7 := Lib.hid (hO6.out.below hb7)
        have hB7 := Lib.hid (hB6.out.trans (hb7.mono hz6))
        have hz7 := hB7.out.size
        have S2 := Lib.hid (set_bad w7 p2 0 _ vD x hO7.out.d.clk HOK.out)
        clear x0 x1 x2 x3
        go_wp2_with (go_at_call 9; refine S2.out.mono ?_; rintro e w8 ⟨rfl, hb8⟩)
        go_roundg (gk - 1)
        case measure => omega
        case rel => exact ⟨i + 1, S, C, vC, vD, by omega, by go_num, Lib.hid (hO7.out.below hb8), Lib.hid (hB7.out.trans (hb8.mono hz7)), by omega, hP⟩
      | true =>
        cases hhas : hasA C x with
        | true =>
          have S1 := Lib.hid (set_twice w5 W.heap.size p1 0 _ vC C x hO5.out.c.clk hO5.out.c.row hz5 (by omega) (by omega) (by omega) hok hhas)
          have HOK := Lib.hid (And.intro hok hhas)
          clear hok hhas
          go_wp2_with (go_at_call 9; refine S1.out.mono ?_; rintro e w6 ⟨rfl, hb6⟩; refine Hid.out ?_)
          refine Lib.hid ?_
          have hO6 := Lib.hid (hO5.out.below hb6)
          have hB6 := Lib.hid (hB5.out.trans (hb6.mono hz5))
          have hz6 := hB6.out.size
          obtain ⟨x0, x1, x2, x3⟩ := (hl.mono hB6.out hz6).cells hi HX.out
          clear S1
          go_wp2_with (go_at_call 10; refine (given_any _ x).mono ?_; rintro e w7 ⟨rfl, hb7⟩; refine Hid.out ?_)
          refine Lib.hid ?_
          have hO7 := Lib.hid (hO6.out.below hb7)
          have hB7 := Lib.hid (hB6.out.trans (hb7.mono hz6))
          have hz7 := hB7.out.size
          have S2 := Lib.hid (set_twice w7 W.heap.size p2 0 _ vD C x hO7.out.d.clk hO7.out.d.row hz7 (by omega) (by omega) (by omega) HOK.out.1 HOK.out.2)
          clear x0 x1 x2 x3
          go_wp2_with (go_at_call 9; refine S2.out.mono ?_; rintro e w8 ⟨rfl, hb8⟩)
          go_roundg (gk - 1)
          case measure => omega
          case rel => exact ⟨i + 1, S, C, vC, vD, by omega, by go_num, Lib.hid (hO7.out.below hb8), Lib.hid (hB7.out.trans (hb8.mono hz7)), by omega, hP⟩
        | false =>
          have S1 := Lib.hid (set_new w5 W.heap.size p1 0 _ vC C x hO5.out.c.clk hO5.out.c.row hz5 (by omega) (by omega) (by omega) hok hhas)
          have HOK := Lib.hid (And.intro hok hhas)
          clear hok hhas
          go_wp2_with (go_at_call 9; refine S1.out.mono ?_; rintro e w6 ⟨rfl, v6, hk6⟩; refine Hid.out ?_)
          refine Lib.hid ?_
          have hB6 := Lib.hid (hB5.out.trans (hk6.toBelow hO5.out.c.row q1 (Nat.le_refl _) hz5))
          have hz6 := hB6.out.size
          have hd6 := hO5.out.d.other hO5.out.c hpp.symm hO5.out.cd.symm hk6.frm
          obtain ⟨x0, x1, x2, x3⟩ := (hl.mono hB6.out hz6).cells hi HX.out
          clear S1
          go_wp2_with (go_at_call 10; refine (given_any _ x).mono ?_; rintro e w7 ⟨rfl, hb7⟩; refine Hid.out ?_)
          refine Lib.hid ?_
          have hd7 := hd6.below hb7
          have hB7 := Lib.hid (hB6.out.trans (hb7.mono hz6))
          have hz7 := hB7.out.size
          have S2 := Lib.hid (set_new w7 W.heap.size p2 0 _ vD C x hd7.clk hd7.row hz7 (by omega) (by omega) (by omega) HOK.out.1 HOK.out.2)
          clear x0 x1 x2 x3
          go_wp2_with (go_at_call 9; refine S2.out.mono ?_; rintro e w8 ⟨rfl, v8, hk8⟩; refine Hid.out ?_)
          refine Lib.hid ?_
          have hB8 := Lib.hid (hB7.out.trans (hk8.toBelow hd7.row q2 (Nat.le_refl _) hz7))
          have hz8 := hB8.out.size
          have c6 : CkS w6 W.heap.size p1 0 v6 (pushE ltEnt C ⟨x, (S.length : Int) + 1⟩) ((S.length : Int) + 1) := ⟨hk6.clk, hk6.row, push_heap ltEnt_ord hO5.out.c.heap _⟩
          have s8 : Als w8 W.heap.size u11 S := als_other ((als_other hO5.out.s hO5.out.c hk6.frm).kept hb7) hd7 hk8.frm
          obtain ⟨x0, x1, x2, x3⟩ := (hl.mono hB8.out hz8).cells hi HX.out
          clear S2
          go_wp2_with (go_at_call 10; refine (given_any _ x).mono ?_; rintro e w9 ⟨rfl, hb9⟩; refine Hid.out ?_)
          refine Lib.hid ?_
          have s9 : Als w9 W.heap.size u11 S := s8.kept hb9
          have hB9 := Lib.hid (hB8.out.trans (hb9.mono hz8))
          have hz9 := hB9.out.size
          clear x0 x1 x2 x3
          go_wp2_with (at_builtin; refine wpList_append_own _ rfl _ _ 29 rfl W.heap.size 33 i0 _ 4 40 Try.underlying29 hti hz0 hz1 hz2 rfl (by decide) u11 S.length (cellsF cellA S) rfl (s9.alloc _) _ 1 1 (cellA x) rfl rfl (cells_new w9 _ _) (cellA_one _) (by unfold maxLen; omega) (by omega) (by simp; omega) ?_; intro v10 w10 hown10 hg10 _)
          have hBo := (Below.refl w9.heap.size w9).alloc (Nat.le_refl _) (.cells #[.int .i64 x.due, .int .i64 x.token, .string x.via, .int .i64 x.inst] 33)
          have HB10 := Lib.hid ((hB9.out.trans (hBo.mono hz9)).grown hg10 (by simp; omega) (fun k hk => by
            rcases s9.val with ⟨e, _⟩ | ⟨g, c, e, hbg, _⟩
            · rw [e] at hk; cases hk
            · rw [e] at hk; simp only [Value.ownBlock, Option.some.injEq] at hk; omega))
          have hO10 := hO5.out.push hpp hk6 hb7 w8 hk8 c6.heap (hb9.trans (hBo.mono hb9.size)) hg10 (als_push hown10)
          have em : ((S ++ [x]).length : Int) = (S.length : Int) + 1 := by simp
          rw [← em] at hO10
          have HO10 := Lib.hid hO10
          have HP10 : Hid (((pushE ltEnt C ⟨x, ((S ++ [x]).length : Int)⟩).map Ent.al).Perm (S ++ [x]) ∧ (S ++ [x]).Pairwise pairNe ∧ ∀ a ∈ S ++ [x], okA 0 a = true) := Lib.hid ⟨push_al hP.out.1 x _, by
              rw [List.pairwise_append]
              refine ⟨hP.out.2.1, List.pairwise_singleton _ _, fun a ha b hb => ?_⟩
              rw [List.mem_singleton.1 hb]
              exact has_pair hP.out.1 same_pair HOK.out.2 a ha, fun a ha => by
              rcases List.mem_append.1 ha with ha | ha
              · exact hP.out.2.2 a ha
              · rw [List.mem_singleton.1 ha]; exact HOK.out.1⟩
          clear hO10 hBo hown10 hg10 s8 s9 c6 hd6 hd7 em
          go_roundg (gk - 1)
          case measure => omega
          case rel => exact ⟨i + 1, S ++ [x], _, v6, v8, by omega, by go_num, HO10, HB10, by simp; omega, HP10⟩
    · have hi' : ¬ ((i : Int) < (l.length : Int)) := by omega
      have hi2 : decide (i < l.length) = false := decide_eq_false hi
      have hlenC : C.length = S.length := by have := hP.out.1.length_eq; simpa using this
      have hS100 : S.length ≤ 100 := by omega
      obtain ⟨kk, hkk⟩ : ∃ kk : Int, (S.length : Int) = kk := ⟨_, rfl⟩
      rw [hkk] at hO
      obtain ⟨Wq, hWq⟩ : ∃ Wq, wr = Wq := ⟨_, rfl⟩
      subst hWq
      have D1 := Lib.hid (drop_any wr W.heap.size p1 0 kk vC C dr hO.out.c.clk hO.out.c.row (by omega))
      have hpc := Lib.hid (init_heap ltEnt_ord (C.filter (keepB dr)))
      obtain ⟨C1, hC1⟩ : ∃ C1, initE ltEnt (C.filter (keepB dr)) = C1 := ⟨_, rfl⟩
      rw [hC1] at hpc
      have HC1 := Lib.hid hC1
      have hlen1 : C1.length ≤ 100 := by
        have h1 := hpc.out.2.length_eq
        have h2 := List.length_filter_le (keepB dr) C
        omega
      have hdue1 : Hid (∀ e ∈ C1, 0 < e.al.due) := Lib.hid (fun e he => by
        have h1 := (List.mem_filter.1 (hpc.out.2.subset he)).1
        have h2 : e.al ∈ S := hP.out.1.subset (List.mem_map.2 ⟨e, h1, rfl⟩)
        have h3 := hP.out.2.2 _ h2
        simp [okA] at h3
        omega)
      clear hkk hC1
      have tok1 : True := trivial
      go_wp2_with (go_at_call 12; have _t := tok1; refine D1.out.mono ?_; rintro e w5 ⟨rfl, v5, hk5⟩; refine Hid.out ?_)
      refine Lib.hid ?_
      have hB5 := Lib.hid (hB.out.trans (hk5.toBelow hO.out.c.row q1 (Nat.le_refl _) hzr))
      have hz5 := hB5.out.size
      have hd5 := hO.out.d.other hO.out.c hpp.symm hO.out.cd.symm hk5.frm
      have D2 := Lib.hid (drop_any w5 W.heap.size p2 0 kk vD C dr hd5.clk hd5.row (by omega))
      clear tok1 D1
      have tok2 : True := trivial
      go_wp2_with (go_at_call 12; have _t := tok2; refine D2.out.mono ?_; rintro e w6 ⟨rfl, v6, hk6⟩; refine Hid.out ?_)
      refine Lib.hid ?_
      have hB6 := Lib.hid (hB5.out.trans (hk6.toBelow hd5.row q2 (Nat.le_refl _) hz5))
      have hz6 := hB6.out.size
      have hO6 := hO.out.drop hpp hk5 hk6 (by rw [HC1.out]; exact hpc.out.1)
      rw [HC1.out] at hO6
      have e0 : tickE C1 0 = ([], C1) := none_before hdue1.out
      have HO6 : Hid (Onc w6 W.heap.size p1 p2 v5 v6 u11 (.slice none 0 0) (.slice none 0 0) 0 0 (tickE C1 0).2 (tickE C1 0).2 S ((tickE C1 0).1.map Ent.al) ((tickE C1 0).1.map Ent.al) kk) := by rw [e0]; exact hO6
      clear tok2 D2 hO6 e0 hd5 hO hB hB5
      go_wp2_with fail
      go_loopg [14, 15, 16] tk.length (fun gh s14 s15 s16 wx => ∃ (i T : Nat) (vC vD : Value), i + gh = tk.length ∧ s16 = .int .i64 (i : Int) ∧ T ≤ 16 * i ∧ Hid (Onc wx W.heap.size p1 p2 vC vD u11 s14 s15 (T : Int) (T : Int) (tickE C1 (T : Int)).2 (tickE C1 (T : Int)).2 S ((tickE C1 (T : Int)).1.map Ent.al) ((tickE C1 (T : Int)).1.map Ent.al) kk) ∧ Hid (Below W.heap.size W wx))
      case atStart => exact ⟨0, 0, _, _, by omega, rfl, by omega, HO6, hB6⟩
      case round =>
        clear HO6 hB6 hk5 hk6
        obtain ⟨i, T, vC, vD, hig, rfl, hTi, hO, hB⟩ := hrel
        have hzr := hB.out.size
        have htl1 := tick_len (n := (T : Int)) hpc.out.1
        by_cases hi : i < tk.length
        · obtain ⟨b, o, hab, hbl, hcell⟩ := (htk.mono hB.out hzr).col i hi
          subst hab
          have gx := gtk _ (List.getElem_mem hi)
          obtain ⟨x, hx⟩ : ∃ x, tk[i] = x := ⟨_, rfl⟩
          rw [hx] at hcell gx
          have hx2 := u8_range gx
          obtain ⟨tn, rfl⟩ := Int.eq_ofNat_of_zero_le hx2.1
          obtain ⟨nn, hnn, hn16⟩ : ∃ nn : Nat, (tn : Int) % 16 = (nn : Int) ∧ nn < 16 := ⟨tn % 16, by omega, by omega⟩
          have htn : (tn : Int) < 256 := hx2.2
          obtain ⟨t2, ht2⟩ : ∃ t2 : Nat, T + nn = t2 := ⟨_, rfl⟩
          have T1' := tick_any wr W.heap.size p1 (T : Int) kk (nn : Int) vC _ hO.out.c.clk hO.out.c.row hzr (by omega) (by omega) (by unfold badT; omega)
          have hTT := tick_on (C := C1) (show (T : Int) ≤ (t2 : Int) by omega)
          rw [show (T : Int) + (nn : Int) = (t2 : Int) by omega] at T1'
          have T1 := Lib.hid T1'
          have HTT := Lib.hid hTT
          have hcell' := Lib.hid hcell
          have xc : wr.cell? ⟨b, o + i, none⟩ = some (.int .u8 (tn : Int)) := hcell
          have htl2 := tick_len (n := (t2 : Int)) hpc.out.1
          have hO' := Lib.hid hnn
          clear T1' hTT hcell hx hx2 gx hcell'
          have tok3 : True := trivial
          go_wp2_with (go_at_call 11; have _t := tok3; refine T1.out.mono ?_; rintro e w7 ⟨va, v7, rfl, ha7, hk7⟩; refine Hid.out ?_)
          refine Lib.hid ?_
          rw [← HTT.out.2] at hk7
          have hh2 := (tick_ok (t2 : Int) _ C1 rfl hpc.out.1).2.1
          have hO7 := hO.out.tickC hpp hk7 hh2
          have hB7 := Lib.hid (hB.out.trans (hk7.toBelow hO.out.c.row q1 (Nat.le_refl _) hzr))
          have hz7 := hB7.out.size
          have ha7l := ha7.lower' hzr
          have hlA : ((tickE (tickE C1 (T : Int)).2 (t2 : Int)).1.map Ent.al).length + ((tickE C1 (T : Int)).1.map Ent.al).length = ((tickE C1 (t2 : Int)).1.map Ent.al).length := by rw [HTT.out.1, List.length_append]; omega
          clear tok3 T1 xc
          go_wp2_with (at_builtin; refine wpList_append_src _ rfl _ _ 29 rfl W.heap.size W.heap.size 33 i0 _ 4 40 Try.underlying29 hti hz0 hz1 hz2 rfl (by decide) u14 _ _ rfl hO7.o va _ _ rfl ha7l (cellsA_one _) (by unfold maxLen; omega) (by omega) hz7 ?_; intro v8 w8 hown8 hg8 hf8; refine Hid.out ?_)
          refine Lib.hid ?_
          have hA8 : Als w8 W.heap.size v8 ((tickE C1 (t2 : Int)).1.map Ent.al) := by rw [HTT.out.1]; exact als_app hown8
          have hO8 := hO7.growO hA8 hg8 hf8
          have hB8 := Lib.hid (hB7.out.grown hg8 hz7 (own_ge hO7.o))
          have hz8 := hB8.out.size
          have HO8 := Lib.hid hO8
          have HOK7 := Lib.hid hh2
          obtain ⟨Wb, hWb⟩ : ∃ Wb, w8 = Wb := ⟨_, rfl⟩
          subst hWb
          clear hO8 hA8 hO7 ha7 ha7l hk7 hown8 hg8 hf8 hh2 hB hO hB7 hz7 hzr
          go_wp2_with fail
          go_loopg [15, 20] nn (fun gh s15 s20 wx => ∃ (q : Nat) (vE : Value), q + gh = nn ∧ s20 = .int .i64 (q : Int) ∧ Hid (Onc wx W.heap.size p1 p2 v7 vE u11 v8 s15 (t2 : Int) ((T + q : Nat) : Int) (tickE C1 (t2 : Int)).2 (tickE C1 ((T + q : Nat) : Int)).2 S ((tickE C1 (t2 : Int)).1.map Ent.al) ((tickE C1 ((T + q : Nat) : Int)).1.map Ent.al) kk) ∧ Hid (Below W.heap.size W wx))
          case atStart => exact ⟨0, vD, by omega, rfl, HO8, hB8⟩
          case round =>
            clear HO8 hB8 hz8
            obtain ⟨q, vE, hqg, rfl, hO, hB⟩ := hrel
            have hzr := hB.out.size
            by_cases hq : q < nn
            · obtain ⟨tq, htq⟩ : ∃ tq : Nat, T + q = tq := ⟨_, rfl⟩
              have htq2 : T + (q + 1) = tq + 1 := by omega
              rw [htq] at hO
              have htq3 := tick_len (n := (tq : Int)) hpc.out.1
              have T1' := tick_any wr W.heap.size p2 (tq : Int) kk 1 vE _ hO.out.d.clk hO.out.d.row hzr (by omega) (by omega) (by unfold badT; omega)
              have hTT := tick_on (C := C1) (show (tq : Int) ≤ ((tq + 1 : Nat) : Int) by omega)
              rw [show (tq : Int) + 1 = ((tq + 1 : Nat) : Int) by omega] at T1'
              have T1 := Lib.hid T1'
              have HTU := Lib.hid hTT
              have htl3 := tick_len (n := ((tq + 1 : Nat) : Int)) hpc.out.1
              clear T1' hTT
              have tok4 : True := trivial
              go_wp2_with (go_at_call 11; have _t := tok4; refine T1.out.mono ?_; rintro e w9 ⟨vb, v9, rfl, ha9, hk9⟩; refine Hid.out ?_)
              refine Lib.hid ?_
              rw [← HTU.out.2] at hk9
              have hh3 := (tick_ok ((tq + 1 : Nat) : Int) _ C1 rfl hpc.out.1).2.1
              have hO9 := hO.out.tickD hpp hk9 hh3
              have hB9 := Lib.hid (hB.out.trans (hk9.toBelow hO.out.d.row q2 (Nat.le_refl _) hzr))
              have hz9 := hB9.out.size
              have ha9l := ha9.lower' hzr
              have hlA2 : ((tickE (tickE C1 (tq : Int)).2 ((tq + 1 : Nat) : Int)).1.map Ent.al).length + ((tickE C1 (tq : Int)).1.map Ent.al).length = ((tickE C1 ((tq + 1 : Nat) : Int)).1.map Ent.al).length := by rw [HTU.out.1, List.length_append]; omega
              clear tok4 T1
              go_wp2_with (at_builtin; refine wpList_append_src _ rfl _ _ 29 rfl W.heap.size W.heap.size 33 i0 _ 4 40 Try.underlying29 hti hz0 hz1 hz2 rfl (by decide) u15 _ _ rfl hO9.p vb _ _ rfl ha9l (cellsA_one _) (by unfold maxLen; omega) (by omega) hz9 ?_; intro v10 w10 hown10 hg10 hf10)
              have hA10 : Als w10 W.heap.size v10 ((tickE C1 ((tq + 1 : Nat) : Int)).1.map Ent.al) := by rw [HTU.out.1]; exact als_app hown10
              have hO10 := hO9.growP hA10 hg10 hf10
              rw [← htq2] at hO10
              go_roundg (nn - (q + 1))
              case measure => omega
              case rel => exact ⟨q + 1, v9, by omega, by go_num, Lib.hid hO10, Lib.hid (hB9.out.grown hg10 hz9 (own_ge hO9.p))⟩
            · obtain rfl : q = nn := by omega
              have hq' : ¬ ((q : Int) < (q : Int)) := by omega
              have hq2 : decide (q < q) = false := decide_eq_false (by omega)
              rw [ht2] at hO
              obtain ⟨A2, hA2⟩ : ∃ A2, (tickE C1 (t2 : Int)).1.map Ent.al = A2 := ⟨_, rfl⟩
              obtain ⟨L2, hL2⟩ : ∃ L2, (tickE C1 (t2 : Int)).2 = L2 := ⟨_, rfl⟩
              rw [hA2, hL2] at hO
              obtain ⟨ox, oc, rfl⟩ := hO.out.o.shape
              obtain ⟨px, pc, rfl⟩ := hO.out.p.shape
              obtain ⟨cx, cc, rfl⟩ := hO.out.c.row.shape
              obtain ⟨dx, dc, rfl⟩ := hO.out.d.row.shape
              have hc1 := hO.out.c.clk
              have hc2 := hO.out.d.clk
              have HA2 := Lib.hid (And.intro hA2 hL2)
              clear hA2 hL2
              go_wp2_with (first | (go_at_call 13; refine (now_any _ _ _ _ _ (by assumption)).mono ?_; rintro e w9 ⟨rfl, rfl⟩) | (go_at_call 14; refine (clen_any _ _ _ _ _ _ _ (by assumption)).mono ?_; rintro e w9 ⟨rfl, rfl⟩))
              have hO2 : Hid (Onc wr W.heap.size p1 p2 (.slice cx L2.length cc) (.slice dx L2.length dc) u11 (.slice ox A2.length oc) (.slice px A2.length pc) (t2 : Int) (t2 : Int) (tickE C1 (t2 : Int)).2 (tickE C1 (t2 : Int)).2 S ((tickE C1 (t2 : Int)).1.map Ent.al) ((tickE C1 (t2 : Int)).1.map Ent.al) kk) := by rw [HA2.out.1, HA2.out.2]; exact hO
              go_roundg (tk.length - (i + 1))
              case measure => omega
              case rel => exact ⟨i + 1, t2, _, _, by omega, by go_num, by omega, hO2, hB⟩
        · have hi' : ¬ ((i : Int) < (tk.length : Int)) := by omega
          have hi2 : decide (i < tk.length) = false := decide_eq_false hi
          have hAS := Lib.hid (tick_due (n := (T : Int)) hpc.out.1)
          have hCN := Lib.hid (fun (x : Al) (hx : x ∈ S) => once_count (n := (T : Int)) hP.out.1 hP.out.2.1 (kp := keepB dr) (fun e => rfl) hpc.out.2 hpc.out.1 hx)
          obtain ⟨A, hA⟩ : ∃ A, (tickE C1 (T : Int)).1.map Ent.al = A := ⟨_, rfl⟩
          obtain ⟨L, hL⟩ : ∃ L, (tickE C1 (T : Int)).2 = L := ⟨_, rfl⟩
          have hAlen : A.length ≤ 100 := by rw [← hA]; omega
          rw [hA, hL] at hO
          rw [hA] at hAS hCN
          obtain ⟨ox, oc, rfl⟩ := hO.out.o.shape
          obtain ⟨px, pc, rfl⟩ := hO.out.p.shape
          obtain ⟨sx, sc, rfl⟩ := hO.out.s.shape
          have HCk := Lib.hid hO.out.c.clk
          have HXo := Lib.hid hO.out.o
          have HXp := Lib.hid hO.out.p
          have HXs := Lib.hid hO.out.s
          clear hA hL htl1 hO
          obtain ⟨Wd, rfl⟩ : ∃ Wd : World, Wd = wr := ⟨_, rfl⟩
          go_wp2_with fail
          go_loopg [23] A.length (fun gh s23 wx => ∃ (i : Nat), i + gh = A.length ∧ s23 = .int .i64 (i : Int) ∧ Hid (Below Wd.heap.size Wd wx))
          case atStart => exact ⟨0, by omega, rfl, Lib.hid (Below.refl _ _)⟩
          case round =>
            obtain ⟨i, hig4, rfl, hbr⟩ := hrel
            by_cases hi : i < A.length
            · obtain ⟨gx, rfl, -, -, -⟩ := HXo.out.some (by omega)
              obtain ⟨gy, rfl, -, -, -⟩ := HXp.out.some (by omega)
              obtain ⟨x, hx⟩ : ∃ x, A[i] = x := ⟨_, rfl⟩
              obtain ⟨x0, x1, x2, x3⟩ := Als.cells (HXo.out.kept hbr.out) hi hx
              obtain ⟨y0, y1, y2, y3⟩ := Als.cells (HXp.out.kept hbr.out) hi hx
              have hne := fun W => neq_al W x
              have hi2 : (i : Int) < (A.length : Int) := by omega
              have hi0 : (0 : Int) ≤ (i : Int) := by omega
              have hdx : x.due ≤ (T : Int) := hAS.out x (by rw [← hx]; exact List.getElem_mem hi)
              have dd : decide (x.due > (T : Int)) = false := decide_eq_false (by omega)
              have hclk := HCk.out.below hbr.out (Nat.le_refl _)
              have HQ : Hid (∀ a, Clk (wr.drewN a) p1 (T : Int) vC kk) := Lib.hid (fun a => hclk)
              clear hx hclk hdx
              go_wp2_with fail
              go_quiet ((go_at_call 13; (first | exact quiet_left (now_any _ _ _ _ _ (HQ.out _)) | exact quiet_add_left (now_any _ _ _ _ _ (HQ.out _)))))
              go_wp2_with fail
              go_roundg (A.length - (i + 1))
              case measure => omega
              case rel => exact ⟨i + 1, by omega, by go_num, Lib.hid (below_drewN hbr.out _)⟩
            · have hi' : ¬ ((i : Int) < (A.length : Int)) := by omega
              have hi2 : decide (i < A.length) = false := decide_eq_false hi
              obtain ⟨We, rfl⟩ : ∃ We : World, We = wr := ⟨_, rfl⟩
              go_wp2_with fail
              go_loopg [24] S.length (fun gh s24 wx => ∃ (i : Nat), i + gh = S.length ∧ s24 = .int .i64 (i : Int) ∧ Hid (Below Wd.heap.size Wd wx))
              case atStart => exact ⟨0, by omega, rfl, hbr⟩
              case round =>
                clear hbr
                obtain ⟨i, hig5, rfl, hbr⟩ := hrel
                by_cases hi : i < S.length
                · obtain ⟨gs, rfl, -, -, -⟩ := HXs.out.some (by omega)
                  obtain ⟨x, hx⟩ : ∃ x, S[i] = x := ⟨_, rfl⟩
                  have hcnt := Lib.hid (hCN.out x (by rw [← hx]; exact List.getElem_mem hi))
                  have HX := Lib.hid hx
                  have hi2 : (i : Int) < (S.length : Int) := by omega
                  have hi0 : (0 : Int) ≤ (i : Int) := by omega
                  clear hx
                  obtain ⟨Wf, rfl⟩ : ∃ Wf : World, Wf = wr := ⟨_, rfl⟩
                  go_wp2_with fail
                  go_loopg [25, 26] A.length (fun gh s25 s26 wx => ∃ (q cnt : Nat), q + gh = A.length ∧ s26 = .int .i64 (q : Int) ∧ s25 = .int .i64 (cnt : Int) ∧ cnt ≤ q ∧ Hid (cnt = (A.take q).countP (pairB x)) ∧ Hid (Below Wd.heap.size Wd wx))
                  case atStart => exact ⟨0, 0, by omega, rfl, rfl, by omega, rfl, hbr⟩
                  case round =>
                    clear hbr
                    obtain ⟨q, cnt, hqg, rfl, rfl, hcq, hct, hbr⟩ := hrel
                    by_cases hq : q < A.length
                    · obtain ⟨gx, rfl, -, -, -⟩ := HXo.out.some (by omega)
                      obtain ⟨y, hy⟩ : ∃ y, A[q] = y := ⟨_, rfl⟩
                      obtain ⟨x0, x1, x2, x3⟩ := Als.cells (HXs.out.kept hbr.out) hi HX.out
                      obtain ⟨y0, y1, y2, y3⟩ := Als.cells (HXo.out.kept hbr.out) hq hy
                      have hq2 : (q : Int) < (A.length : Int) := by omega
                      have hq0 : (0 : Int) ≤ (q : Int) := by omega
                      have hstep : Hid ((A.take (q + 1)).countP (pairB x) = cnt + if pairB x y = true then 1 else 0) := Lib.hid (by
                        rw [List.take_succ_eq_append_getElem hq, List.countP_append, ← hct.out, hy, List.countP_singleton])
                      clear hy
                      cases htk2 : (y.token == x.token) with
                      | false =>
                        have HT : Hid (cnt = (A.take (q + 1)).countP (pairB x)) := Lib.hid (by
                          rw [hstep.out, if_neg (by simp only [pairB, htk2]; simp)]; rfl)
                        go_wp2_with fail
                        go_quiet (fail)
                        go_wp2_with fail
                        go_roundg (A.length - (q + 1))
                        case measure => omega
                        case rel => exact ⟨q + 1, cnt, by omega, by go_num, by first | rfl | go_num, by omega, HT, Lib.hid (below_drewN hbr.out _)⟩
                      | true =>
                        cases hvi : (y.via.toList == x.via.toList) with
                        | false =>
                          have HT : Hid (cnt = (A.take (q + 1)).countP (pairB x)) := Lib.hid (by
                            rw [hstep.out, if_neg (by simp only [pairB, hvi]; simp)]; rfl)
                          go_wp2_with fail
                          go_quiet (fail)
                          go_wp2_with fail
                          go_roundg (A.length - (q + 1))
                          case measure => omega
                          case rel => exact ⟨q + 1, cnt, by omega, by go_num, by first | rfl | go_num, by omega, HT, Lib.hid (below_drewN hbr.out _)⟩
                        | true =>
                          have HT : Hid (cnt + 1 = (A.take (q + 1)).countP (pairB x)) := Lib.hid (by
                            rw [hstep.out, if_pos (by simp only [pairB, htk2, hvi]; rfl)])
                          go_wp2_with fail
                          go_quiet (fail)
                          go_wp2_with fail
                          go_roundg (A.length - (q + 1))
                          case measure => omega
                          case rel => exact ⟨q + 1, cnt + 1, by omega, by go_num, by first | rfl | go_num, by omega, HT, Lib.hid (below_drewN hbr.out _)⟩
                    · obtain rfl : q = A.length := by omega
                      have hq' : ¬ ((A.length : Int) < (A.length : Int)) := by omega
                      have hq2 : decide (A.length < A.length) = false := decide_eq_false (by omega)
                      have hce : cnt = if x.token ≠ dr ∧ x.due ≤ (T : Int) then 1 else 0 := by
                        rw [hct.out, List.take_length]; exact hcnt.out
                      obtain ⟨x0, x1, x2, x3⟩ := Als.cells (HXs.out.kept hbr.out) hi HX.out
                      have hclk := HCk.out.below hbr.out (Nat.le_refl _)
                      have HQ : Hid (∀ a, Clk (wr.drewN a) p1 (T : Int) vC kk) := Lib.hid (fun a => hclk)
                      clear hct hclk
                      cases hdt : (x.token == dr) with
                      | true =>
                        have hne1 : (x.token != dr) = false := by rw [bne, hdt]; rfl
                        obtain rfl : cnt = 0 := by rw [hce, if_neg (fun h => h.1 (by simpa using hdt))]
                        clear hce hdt
                        go_wp2_with fail
                        go_quiet ((go_at_call 13; (first | exact quiet_left (now_any _ _ _ _ _ (HQ.out _)) | exact quiet_add_left (now_any _ _ _ _ _ (HQ.out _)))))
                        go_wp2_with fail
                        go_roundg (S.length - (i + 1))
                        case measure => omega
                        case rel => exact ⟨i + 1, by omega, by go_num, Lib.hid (below_drewN hbr.out _)⟩
                      | false =>
                        have hne1 : (x.token != dr) = true := by rw [bne, hdt]; rfl
                        have hne2 : x.token ≠ dr := by intro h; rw [h] at hdt; simp at hdt
                        by_cases hdu : x.due ≤ (T : Int)
                        · have dd : decide (x.due ≤ (T : Int)) = true := decide_eq_true hdu
                          obtain rfl : cnt = 1 := by rw [hce, if_pos ⟨hne2, hdu⟩]
                          clear hce hdt hne2
                          go_wp2_with fail
                          go_quiet ((go_at_call 13; (first | exact quiet_left (now_any _ _ _ _ _ (HQ.out _)) | exact quiet_add_left (now_any _ _ _ _ _ (HQ.out _)))))
                          go_wp2_with fail
                          go_roundg (S.length - (i + 1))
                          case measure => omega
                          case rel => exact ⟨i + 1, by omega, by go_num, Lib.hid (below_drewN hbr.out _)⟩
                        · have dd : decide (x.due ≤ (T : Int)) = false := decide_eq_false hdu
                          obtain rfl : cnt = 0 := by rw [hce, if_neg (fun h => hdu h.2)]
                          clear hce hdt hne2
                          go_wp2_with fail
                          go_quiet ((go_at_call 13; (first | exact quiet_left (now_any _ _ _ _ _ (HQ.out _)) | exact quiet_add_left (now_any _ _ _ _ _ (HQ.out _)))))
                          go_wp2_with fail
                          go_roundg (S.length - (i + 1))
                          case measure => omega
                          case rel => exact ⟨i + 1, by omega, by go_num, Lib.hid (below_drewN hbr.out _)⟩
                · have hi' : ¬ ((i : Int) < (S.length : Int)) := by omega
                  have hi2 : decide (i < S.length) = false := decide_eq_false hi
                  go_wp2_with fail
                  go_ret
                  exact ⟨rfl, hB.out.trans (hbr.out.mono hzr)⟩

end Go.Proofs.Ytofpmhkjagdmmaa
