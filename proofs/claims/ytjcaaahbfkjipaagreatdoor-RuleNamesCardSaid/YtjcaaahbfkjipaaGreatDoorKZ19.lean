/- Texts fused by fuse.py: KRuleAround. -/
import Derived.Test.YtjcaaahbfkjipaaGreatDoorKZ18
/- Of RuleAround: what FRuleNames uses (shake.py). -/
set_option maxRecDepth 100000
/- The index's around: the Subs in which an element stands. -/
namespace Go.Proofs.YtjcaaahbfkjipaaGreatDoor
open Go.RowKit
def cB (s : ByteArray) : List Value := [.string s]
theorem cB_len : ∀ x, (cB x).length = 1 := fun _ => rfl
theorem info_strR : (Tryz.prog.info? 9).map (fun i => (i.zero, i.size, i.bytes)) = some (some (.string ⟨#[]⟩), 1, 16) := by kernel_rfl
/-- Rows of texts of the call's own. -/
abbrev OwnT (w : World) (base : Nat) (v : Value) (L : List ByteArray) : Prop := OwnF cB 9 1 w base v L
theorem ownT_push {w : World} {base : Nat} {v : Value} {L : List ByteArray} {x : ByteArray} (h : w.ownsRow base 9 1 v (L.length + 1) (cellsF cB L ++ [.string x])) : OwnT w base v (L ++ [x]) := by
  unfold OwnT OwnF
  rw [List.length_append, List.length_singleton, cellsF_app]
  exact h
/-- Its block is no block of another type. -/
theorem ownT_apart {w : World} {base : Nat} {v : Value} {L : List ByteArray} (h : OwnT w base v L) {p : Nat} {c : Array Value} {t : TypeId} {fr : Nat × Nat} (hp : w.heap[p]? = some (.cells c t fr)) (ht : t ≠ 9) : some p ≠ v.ownBlock := by
  rcases h.val with ⟨rfl, _⟩ | ⟨g, cap, rfl, _, _⟩
  · intro e; cases e
  · intro e
    obtain ⟨cur, hg, _⟩ := OwnF.block h
    injection e with e
    rw [e, hg] at hp
    injection hp with hp
    injection hp with _ h2
    exact ht h2.symm
theorem ownT_base {w : World} {base : Nat} {v : Value} {L : List ByteArray} (h : OwnT w base v L) : ∀ k, v.ownBlock = some k → base ≤ k := by
  intro k hk
  rcases h.val with ⟨rfl, _⟩ | ⟨g, cap, rfl, hg, _⟩
  · cases hk
  · have hk : some g = some k := hk
    injection hk with hk
    omega
/-- All cells of an element's block turned. -/
abbrev set11 (W : World) (p : Nat) (E : El) : World := ((((((((((W.setCell ⟨p, 0, none⟩ (.string E.id)).setCell ⟨p, 1, none⟩ (.string E.name)).setCell ⟨p, 2, none⟩ (.int .u8 E.kind)).setCell ⟨p, 3, none⟩ (.string E.inn)).setCell ⟨p, 4, none⟩ (.string E.dflt)).setCell ⟨p, 5, none⟩ (.string E.att)).setCell ⟨p, 6, none⟩ (.int .u8 E.event)).setCell ⟨p, 7, none⟩ (.string E.ref)).setCell ⟨p, 8, none⟩ (.string E.key)).setCell ⟨p, 9, none⟩ (.int .i64 E.ticks)).setCell ⟨p, 10, none⟩ (.int .i64 E.tries)
theorem set11_is {W : World} {p : Nat} {A : El} {t : TypeId} (h : W.heap[p]? = some (.cells (cellEl A).toArray t (0, 0))) (E : El) : (set11 W p E).heap[p]? = some (.cells (cellEl E).toArray t (0, 0)) := by
  have := heap_setCell_self (i := 10) (.int .i64 E.tries) (heap_setCell_self (i := 9) (.int .i64 E.ticks) (heap_setCell_self (i := 8) (.string E.key) (heap_setCell_self (i := 7) (.string E.ref) (heap_setCell_self (i := 6) (.int .u8 E.event) (heap_setCell_self (i := 5) (.string E.att) (heap_setCell_self (i := 4) (.string E.dflt) (heap_setCell_self (i := 3) (.string E.inn) (heap_setCell_self (i := 2) (.int .u8 E.kind) (heap_setCell_self (i := 1) (.string E.name) (heap_setCell_self (i := 0) (.string E.id) h))))))))))
  simpa [cellEl] using this
theorem set11_grown (W : World) (p : Nat) (E : El) : W.grownBy (set11 W p E) (some p) :=
  ((((((((((grownBy_setCell W p 0 _).trans (grownBy_setCell _ p 1 _)).trans (grownBy_setCell _ p 2 _)).trans (grownBy_setCell _ p 3 _)).trans (grownBy_setCell _ p 4 _)).trans (grownBy_setCell _ p 5 _)).trans (grownBy_setCell _ p 6 _)).trans (grownBy_setCell _ p 7 _)).trans (grownBy_setCell _ p 8 _)).trans (grownBy_setCell _ p 9 _)).trans (grownBy_setCell _ p 10 _)
theorem around_end {l : List El} {n : Nat} {e : El} (h : noS e.inn = true) : aroundF l n e = [] := by
  cases n with
  | zero => rfl
  | succ n => unfold aroundF; rw [if_pos h]
theorem around_stop {l : List El} {n : Nat} {e : El} (h2 : ((findE l e.inn).isSome && ((elemE l e.inn).kind == 10)) = false) : aroundF l n e = [] := by
  cases n with
  | zero => rfl
  | succ n =>
    unfold aroundF
    split
    · rfl
    · unfold elemE at h2
      cases hf : findE l e.inn with
      | none => rfl
      | some s =>
        rw [hf] at h2
        have : ¬ s.kind = 10 := by simpa using h2
        simp only
        rw [if_neg this]
theorem around_go {l : List El} {n : Nat} {e : El} (h : noS e.inn = false) (h2 : (findE l e.inn).isSome = true) (h3 : (elemE l e.inn).kind = 10) : aroundF l (n + 1) e = (elemE l e.inn).id :: aroundF l n (elemE l e.inn) := by
  conv => lhs; unfold aroundF
  rw [if_neg (by rw [h]; exact Bool.false_ne_true)]
  unfold elemE at h3 ⊢
  cases hf : findE l e.inn with
  | none => rw [hf] at h2; cases h2
  | some s =>
    rw [hf] at h3
    have h3 : s.kind = 10 := h3
    simp only [Option.getD_some]
    rw [if_pos h3]
section
variable {w : World} {x : IX} {m : Md}
/-- What the loop keeps. -/
structure ArR (w : World) (m : Md) (r : List ByteArray) (L : List ByteArray) (E : El) (v : Value) (p : Nat) (wr : World) : Prop where
  own : OwnT wr w.heap.size v L
  box : wr.heap[p]? = some (oEl E)
  le : w.heap.size ≤ p
  eq : L ++ aroundF m.els (64 - L.length) E = r
  bel : Below w.heap.size w wr
set_option maxHeartbeats 8000000 in
theorem around_any (h : IdxR w w.heap.size x m) (id : ByteArray) : Calls Tryz.prog 56 #[.pointer (some ⟨x.p, 0, none⟩), .string id] w fun e w' => ∃ v, e = .returned v ∧ OwnT w' w.heap.size v (aroundF m.els 64 (elemE m.els id)) ∧ Below w.heap.size w w' := by
  obtain ⟨i0, hti, hz0, hz1, hz2⟩ := info_parts info_strR
  obtain ⟨E0, hE0⟩ : ∃ E, elemE m.els id = E := ⟨_, rfl⟩
  obtain ⟨r, hr⟩ : ∃ r, aroundF m.els 64 E0 = r := ⟨_, rfl⟩
  rw [hE0, hr]
  have HH := Lib.hid h
  obtain ⟨-, -, -, -, -, x5, -, -⟩ := h.cells
  have lk := (h.look id).1
  rw [hE0] at lk
  obtain ⟨w1, p0, hp0, hw1, l1, n1, b1⟩ := box_new w (oEl E0)
  have HS := Lib.hid (show ArR w m r [] E0 (.slice none 0 0) p0 w1 from ⟨OwnF.nil _ _, n1, by omega, hr, b1⟩)
  clear h n1 b1 hE0 hr
  go_enter Tryz.func56, Tryz.ntmps56
  go_wp2_with fail
  go_loopg [5, 6] 65 (fun g s5 s6 wr => ∃ (L : List ByteArray) (E : El) (v : Value) (p : Nat), L.length + g = 65 ∧ L.length ≤ 64 ∧ s5 = v ∧ s6 = .pointer (some ⟨p, 0, none⟩) ∧ Hid (ArR w m r L E v p wr))
  case atStart => exact ⟨[], E0, _, p0, by simp, by simp, rfl, rfl, HS⟩
  case round =>
    obtain ⟨L, E, v, p, hg, hL, rfl, rfl, hR⟩ := hrel
    obtain ⟨c0, c1, c2, c3, c4, c5, c6, c7, c8, c9, c10⟩ := boxEl hR.out.box
    obtain ⟨a, cap, hv⟩ := hR.out.own.shape
    subst hv
    obtain ⟨n, hn⟩ : ∃ n, L.length = n := ⟨_, rfl⟩
    have HN := Lib.hid hn
    rw [hn] at hg hL ⊢
    have hx := HH.out.mono hR.out.bel (Nat.le_refl _)
    obtain ⟨-, -, -, -, -, y5, -, -⟩ := hx.cells
    have hlt : x.p < wr.heap.size := Nat.lt_of_lt_of_le hx.lp hR.out.bel.size
    have d1 : decide ((n : Int) < 64) = decide (n < 64) := by rw [decide_eq_decide]; omega
    clear hx
    have HO := Lib.hid hR.out.own
    rw [hn] at HO
    have HEQ := Lib.hid hR.out.eq
    rw [hn] at HEQ
    have HBX := Lib.hid (And.intro hR.out.box hR.out.le)
    have HBL := Lib.hid hR.out.bel
    have lp : p < wr.heap.size := lt_of_block hR.out.box
    clear hn hR
    cases hs : E.inn.toList.isEmpty with
    | true =>
      have HE : Hid (L = r) := Lib.hid (by rw [← HEQ.out, around_end hs, List.append_nil])
      rw [HE.out] at HO
      clear d1
      go_wp2_with fail
      go_ret
      exact ⟨_, rfl, HO.out, HBL.out⟩
    | false =>
      by_cases h64 : n < 64
      · have d2 : decide ((n : Int) < 64) = true := decide_eq_true (by omega)
        have d3 : decide (n < 64) = true := decide_eq_true h64
        have hx := HH.out.mono HBL.out (Nat.le_refl _)
        have k1 := ((HH.out.mono (HBL.out.trans ((Below.refl _ wr).drew.mono HBL.out.size)) (Nat.le_refl _)).look E.inn).2
        have k2 := ((HH.out.mono (HBL.out.trans (((Below.refl _ wr).alloc (Nat.le_refl _) oElZ).drew.mono HBL.out.size)) (Nat.le_refl _)).look E.inn).2
        obtain ⟨is, his⟩ : ∃ b, (findE m.els E.inn).isSome = b := ⟨_, rfl⟩
        obtain ⟨S, hS⟩ : ∃ E', elemE m.els E.inn = E' := ⟨_, rfl⟩
        rw [his, hS] at k1 k2
        have HIS := Lib.hid (And.intro his hS)
        obtain ⟨w2, p1, hp1, hw2, l2, n2, b2⟩ := box_new wr (oEl S)
        obtain ⟨w3, hw3⟩ : ∃ W, w2.drew = W := ⟨_, rfl⟩
        have b3 : Below wr.heap.size wr w3 := hw3 ▸ b2.drew
        have n3 : w3.heap[p1]? = some (oEl S) := hw3 ▸ n2
        have g3 : w3.heap[p]? = some (oEl E) := (b3.block p lp).trans HBX.out.1
        have HB3 := Lib.hid (HBL.out.trans (b3.mono HBL.out.size))
        have HO3 := Lib.hid (OwnF.kept HO.out b3)
        obtain ⟨-, -, -, -, -, z5, -, -⟩ := (HH.out.mono HB3.out (Nat.le_refl _)).cells
        obtain ⟨f0, f1, f2, f3, f4, f5, f6, f7, f8, f9, f10⟩ := boxEl n3
        obtain ⟨-, -, -, q3, -⟩ := boxEl g3
        have HN3 := Lib.hid (And.intro n3 g3)
        have e1 : (S.kind != 10) = !(S.kind == 10) := rfl
        have l1' : p1 < w3.heap.size := lt_of_block n3
        clear his hS d1 hx n2 b2 b3 n3 g3
        cases is with
        | false =>
          have HE : Hid (L = r) := Lib.hid (by rw [← HEQ.out, around_stop (by rw [HIS.out.1]; rfl), List.append_nil])
          rw [HE.out] at HO3
          clear e1
          go_wp2_with fail
          go_region_held3 (fun w' => w'.cell? ⟨p, 3, none⟩ = some (.string E.inn) ∧ w'.cell? ⟨x.p, 5, none⟩ = some (.map (some x.eb))) (go_keep) (fail)
          all_goals
            go_wp2_with fail
            go_ret
            exact ⟨_, rfl, HO3.out, HB3.out⟩
        | true =>
          by_cases hk : S.kind = 10
          · have e2 : (S.kind == 10) = true := beq_iff_eq.2 hk
            rw [e2] at e1
            simp only [Bool.not_true] at e1
            have HE : Hid ((L ++ [S.id]) ++ aroundF m.els (64 - (n + 1)) S = r) := Lib.hid (by
              have h1 := HEQ.out
              rw [show 64 - n = (64 - (n + 1)) + 1 by omega, around_go hs HIS.out.1 (by rw [HIS.out.2]; exact hk), HIS.out.2] at h1
              rw [← h1, List.append_assoc]; rfl)
            clear hk e2
            go_wp2_with fail
            go_region_held3 (fun w' => w'.cell? ⟨p, 3, none⟩ = some (.string E.inn) ∧ w'.cell? ⟨x.p, 5, none⟩ = some (.map (some x.eb))) (go_keep) (fail)
            all_goals
              have hO3 : w3.ownsRow w.heap.size 9 1 (.slice a n cap) n (cellsF cB L) := by
                have := HO3.out
                unfold OwnT OwnF at this
                rw [HN.out] at this
                exact this
              have hz3 := HB3.out.size
              go_wp2_with (at_builtin; go_must (refine wpList_append_own_at _ rfl _ _ 47 rfl w.heap.size 9 i0 _ 1 16 Tryz.underlying47 hti hz0 hz1 hz2 rfl (by decide) (.slice a n cap) n (cellsF cB L) rfl (hO3.alloc _) _ 1 1 [.string S.id] rfl rfl (cells_new w3 _ _) (by simp [Value.oneCell']) (by unfold maxLen; omega) (by omega) (by simp; omega) ?_); intro v6 w6 hown6 hg6 _ hat6; refine Hid.out ?_)
              refine Lib.hid ?_
              have hap : ∀ (q : Nat) (A : El), w3.heap[q]? = some (oEl A) → w6.heap[q]? = some (oEl A) := fun q A hq =>
                (hg6.block q (Nat.lt_of_lt_of_le (lt_of_block hq) ((Below.refl w3.heap.size w3).alloc (Nat.le_refl _) _).size) (fun e => ownT_apart HO3.out hq (by decide) e)).trans (((Below.refl w3.heap.size w3).alloc (Nat.le_refl _) _ |>.block q (lt_of_block hq)).trans hq)
              have m1 := hap p1 S HN3.out.1
              have m2 := hap p E HN3.out.2
              have o6 : OwnT w6 w.heap.size v6 (L ++ [S.id]) := ownT_push (by rw [HN.out]; exact hown6)
              have b6 : Below w.heap.size w w6 := (HB3.out.alloc hz3 _).grown hg6 (Nat.le_trans hz3 ((Below.refl w3.heap.size w3).alloc (Nat.le_refl _) _).size) (fun r hr => ownT_base HO3.out r hr)
              obtain ⟨w7, hw7⟩ : ∃ W, set11 w6 p S = W := ⟨_, rfl⟩
              have n7 : w7.heap[p]? = some (oEl S) := hw7 ▸ set11_is (A := E) m2 S
              have g7 : w6.grownBy w7 (some p) := hw7 ▸ set11_grown w6 p S
              have o7 : OwnT w7 w.heap.size v6 (L ++ [S.id]) := OwnF.turned o6 g7 (fun g q c hv e => ownT_apart o6 m2 (by decide) (by rw [hv]; exact e.symm))
              have b7 : Below w.heap.size w w7 := b6.grown g7 b6.size (fun r hr => by injection hr with hr; rw [← hr]; exact HBX.out.2)
              obtain ⟨w8, p8, hp8, hw8, l8, n8, b8⟩ := box_new w7 (oEl S)
              have HA : Hid (ArR w m r (L ++ [S.id]) S v6 p8 w8) := Lib.hid ⟨OwnF.kept o7 b8, n8, by have := b7.size; omega, by rw [List.length_append, HN.out]; exact HE.out, b7.trans (b8.mono b7.size)⟩
              obtain ⟨r0, r1, r2, r3, r4, r5, r6, r7, r8, r9, r10⟩ := boxEl m1
              have hfz := free_of_block m2
              obtain ⟨j0, j1, j2, j3, j4, j5, j6, j7, j8, j9, j10⟩ := boxEl m2
              obtain ⟨t0, t1, t2, t3, t4, t5, t6, t7, t8, t9, t10⟩ := boxEl n7
              unfold set11 at hw7
              clear hap m1 m2 o6 b6 n7 g7 o7 b7 n8 b8 hown6 hg6 hat6
              go_wp2_with fail
              go_roundg (gk - 1)
              case measure => omega
              case rel => exact ⟨L ++ [S.id], S, v6, p8, by rw [List.length_append, HN.out, List.length_singleton]; omega, by rw [List.length_append, HN.out, List.length_singleton]; omega, rfl, rfl, HA⟩
          · have e2 : (S.kind == 10) = false := beq_eq_false_iff_ne.2 hk
            have HE : Hid (L = r) := Lib.hid (by rw [← HEQ.out, around_stop (by rw [HIS.out.2, e2, Bool.and_false]), List.append_nil])
            rw [HE.out] at HO3
            rw [e2] at e1
            simp only [Bool.not_false] at e1
            clear hk
            go_wp2_with fail
            go_region_held3 (fun w' => w'.cell? ⟨p, 3, none⟩ = some (.string E.inn) ∧ w'.cell? ⟨x.p, 5, none⟩ = some (.map (some x.eb))) (go_keep) (fail)
            all_goals
              go_wp2_with fail
              go_ret
              exact ⟨_, rfl, HO3.out, HB3.out⟩
      · obtain rfl : n = 64 := by omega
        have d2 : decide (((64 : Nat) : Int) < 64) = false := by decide
        have HE : Hid (L = r) := Lib.hid (by rw [← HEQ.out]; exact (List.append_nil _).symm)
        rw [HE.out] at HO
        clear d1
        go_wp2_with fail
        go_ret
        exact ⟨_, rfl, HO.out, HBL.out⟩
end
end Go.Proofs.YtjcaaahbfkjipaaGreatDoor
