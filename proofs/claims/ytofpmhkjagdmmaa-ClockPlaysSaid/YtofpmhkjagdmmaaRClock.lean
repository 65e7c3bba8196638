/- The document's clock (a list that is looked through): New, Set. -/
import Derived.Test.YtofpmhkjagdmmaaClockAwake
import Derived.Test.YtofpmhkjagdmmaaClockOnceP
set_option maxRecDepth 100000
namespace Go.Proofs.Ytofpmhkjagdmmaa
open Go.RowKit

abbrev RAls (w : World) (base : Nat) (v : Value) (A : List Al) : Prop := OwnF cellA 31 4 w base v A
theorem info_ral : (Try.prog.info? 31).map (fun i => (i.zero, i.size, i.bytes)) = some (some (.agg #[.int .i64 0, .int .i64 0, .string default, .int .i64 0]), 4, 40) := by kernel_rfl
theorem rals_push {w : World} {base : Nat} {v : Value} {A : List Al} {x : Al} (h : w.ownsRow base 31 4 v (A.length + 1) (cellsF cellA A ++ cellA x)) : RAls w base v (A ++ [x]) := by
  unfold RAls OwnF
  rw [List.length_append, List.length_singleton, cellsF_app]
  exact h
theorem rals_shape1 {w : World} {base : Nat} {v : Value} {A : List Al} {x : Al} (h : RAls w base v (A ++ [x])) : ∃ a cap, v = .slice a (A.length + 1) cap := by
  obtain ⟨a, cap, e⟩ := OwnF.shape h
  exact ⟨a, cap, by rw [e]; simp⟩
/-- The document's clock. -/
def RClk (w : World) (p : Nat) (now : Int) (v : Value) : Prop := w.heap[p]? = some (.cells #[.int .i64 now, v] 57)
theorem box2 {w : World} {b : Nat} {v0 v1 : Value} {t : TypeId} {fr : Nat × Nat} (h : w.heap[b]? = some (.cells #[v0, v1] t fr)) :
    w.cell? ⟨b, 0, none⟩ = some v0 ∧ w.cell? ⟨b, 1, none⟩ = some v1 :=
  ⟨by rw [cell_of_block h]; rfl, by rw [cell_of_block h]; rfl⟩
theorem box4 {w : World} {b : Nat} {v0 v1 v2 v3 : Value} {t : TypeId} {fr : Nat × Nat} (h : w.heap[b]? = some (.cells #[v0, v1, v2, v3] t fr)) :
    w.cell? ⟨b, 0, none⟩ = some v0 ∧ w.cell? ⟨b, 1, none⟩ = some v1 ∧ w.cell? ⟨b, 2, none⟩ = some v2 ∧ w.cell? ⟨b, 3, none⟩ = some v3 :=
  ⟨by rw [cell_of_block h]; rfl, by rw [cell_of_block h]; rfl, by rw [cell_of_block h]; rfl, by rw [cell_of_block h]; rfl⟩
theorem RClk.below {w w' : World} {p : Nat} {now : Int} {v : Value} {B : Nat} (h : RClk w p now v) (hb : Below B w w') (hB : w.heap.size ≤ B) : RClk w' p now v :=
  (hb.block p (Nat.lt_of_lt_of_le (lt_of_block h) hB)).trans h

def RNewOk (w : World) (now : Int) (r : Ending) (w' : World) : Prop :=
  (now < 0 ∨ 1099511627776 < now) ∧ r = .returned (.tuple #[.pointer none, .int .i64 1]) ∧ w = w' ∨
  (0 ≤ now ∧ now ≤ 1099511627776) ∧ ∃ p, r = .returned (.tuple #[.pointer (some ⟨p, 0, none⟩), .int .i64 0]) ∧ w.heap.size ≤ p ∧ RClk w' p now (.slice none 0 0) ∧ Below w.heap.size w w'

set_option maxHeartbeats 1000000 in
theorem rnew_any (w : World) (now : Int) : Calls Try.prog 15 #[.int .i64 now] w (RNewOk w now) := by
  have f1 : ∀ w', w = w' → (now < 0 ∨ 1099511627776 < now) → RNewOk w now (.returned (.tuple #[.pointer none, .int .i64 1])) w' := fun w' h h2 => Or.inl ⟨h2, rfl, h⟩
  have f2 : ∀ w' p, (0 ≤ now ∧ now ≤ 1099511627776) → w.heap.size ≤ p → RClk w' p now (.slice none 0 0) → Below w.heap.size w w' → RNewOk w now (.returned (.tuple #[.pointer (some ⟨p, 0, none⟩), .int .i64 0])) w' := fun w' p h h1 h2 h3 => Or.inr ⟨h, p, rfl, h1, h2, h3⟩
  have F1 := Lib.hid f1
  have F2 := Lib.hid f2
  have HB := Lib.hid (show ∀ o, Below w.heap.size w (w.alloc o) from fun o => (Below.refl _ _).alloc (Nat.le_refl _) o)
  have HN := Lib.hid (show ∀ o, (w.alloc o).heap[w.heap.size]? = some o from fun o => heap_alloc_new w o)
  clear f1 f2
  by_cases h1 : now < 0
  · have d1 : decide (now < 0) = true := decide_eq_true h1
    go_enter Try.func15, Try.ntmps15
    go_wp2_with fail
    go_ret2
    exact F1.out _ rfl (Or.inl h1)
  · have d1 : decide (now < 0) = false := decide_eq_false h1
    by_cases h2 : 1099511627776 < now
    · have d2 : decide (now > 1099511627776) = true := decide_eq_true h2
      go_enter Try.func15, Try.ntmps15
      go_wp2_with fail
      go_ret2
      exact F1.out _ rfl (Or.inr h2)
    · have d2 : decide (now > 1099511627776) = false := decide_eq_false h2
      go_enter Try.func15, Try.ntmps15
      go_wp2_with fail
      go_ret2
      exact F2.out _ _ ⟨by omega, by omega⟩ (Nat.le_refl _) (HN.out _) (HB.out _)

set_option maxHeartbeats 4000000 in
theorem rset_bad (w : World) (p : Nat) (now : Int) (v : Value) (a : Al) (hc : RClk w p now v) (_h0 : 0 ≤ now) (ho : okA now a = false) :
    Calls Try.prog 16 #[.pointer (some ⟨p, 0, none⟩), valA a] w fun r w' => r = .returned (.int .i64 1) ∧ Below w.heap.size w w' := by
  obtain ⟨k0, k1⟩ := box2 hc
  have hp := lt_of_block hc
  obtain ⟨ad, at_, av, ai⟩ := a
  have hn := heap_alloc_new w (.cells #[.int .i64 ad, .int .i64 at_, .string av, .int .i64 ai] 31)
  have hb := (Below.refl w.heap.size w).alloc (Nat.le_refl _) (.cells #[.int .i64 ad, .int .i64 at_, .string av, .int .i64 ai] 31)
  have l0 := (hb.cell (p := ⟨p, 0, none⟩) hp).trans k0
  obtain ⟨w1, hw1⟩ : ∃ w1, w.alloc (.cells #[.int .i64 ad, .int .i64 at_, .string av, .int .i64 ai] 31) = w1 := ⟨_, rfl⟩
  rw [hw1] at hn hb l0
  have n0 : w1.cell? ⟨w.heap.size, 0, none⟩ = some (.int .i64 ad) := by rw [cell_of_block hn]; rfl
  have n1 : w1.cell? ⟨w.heap.size, 1, none⟩ = some (.int .i64 at_) := by rw [cell_of_block hn]; rfl
  have h3 : ad < 1 ∨ (1 ≤ ad ∧ 1099512676352 < ad) ∨ (1 ≤ ad ∧ ad ≤ 1099512676352 ∧ at_ < 1) ∨ (1 ≤ ad ∧ ad ≤ 1099512676352 ∧ 1 ≤ at_ ∧ ad ≤ now) := by
    simp [okA] at ho
    omega
  have HB := Lib.hid hb
  clear hn hb hc k0 k1 ho
  rcases h3 with h1 | ⟨h1, h2⟩ | ⟨h1, h2, h3⟩ | ⟨h1, h2, h3, h4⟩
  · have d1 : decide (ad < 1) = true := decide_eq_true h1
    go_enter Try.func16, Try.ntmps16
    go_wp2_with fail
    go_quiet (fail)
    go_wp2_with fail
    go_ret
    exact ⟨rfl, below_drewN HB.out _⟩
  · have d1 : decide (ad < 1) = false := decide_eq_false (by omega)
    have d2 : decide (ad > 1099512676352) = true := decide_eq_true h2
    go_enter Try.func16, Try.ntmps16
    go_wp2_with fail
    go_quiet (fail)
    go_wp2_with fail
    go_ret
    exact ⟨rfl, below_drewN HB.out _⟩
  · have d1 : decide (ad < 1) = false := decide_eq_false (by omega)
    have d2 : decide (ad > 1099512676352) = false := decide_eq_false (by omega)
    have d3 : decide (at_ < 1) = true := decide_eq_true h3
    go_enter Try.func16, Try.ntmps16
    go_wp2_with fail
    go_quiet (fail)
    go_wp2_with fail
    go_ret
    exact ⟨rfl, below_drewN HB.out _⟩
  · have d1 : decide (ad < 1) = false := decide_eq_false (by omega)
    have d2 : decide (ad > 1099512676352) = false := decide_eq_false (by omega)
    have d3 : decide (at_ < 1) = false := decide_eq_false (by omega)
    have d4 : decide (ad ≤ now) = true := decide_eq_true h4
    go_enter Try.func16, Try.ntmps16
    go_wp2_with fail
    go_quiet (fail)
    go_wp2_with fail
    go_ret
    exact ⟨rfl, below_drewN HB.out _⟩

theorem pair_take {L : List Al} {a : Al} {i : Nat} (hi : i < L.length) (h : (L.take i).any (pairB a) = false) (hx : pairB a L[i] = false) : (L.take (i + 1)).any (pairB a) = false := by
  rw [List.take_add_one, List.getElem?_eq_getElem hi]
  simp only [Option.toList_some, List.any_append, h, Bool.false_or]
  simp [hx]
theorem pair_hit {L : List Al} {a : Al} {i : Nat} (hi : i < L.length) (hx : pairB a L[i] = true) : L.any (pairB a) = true := List.any_eq_true.2 ⟨_, List.getElem_mem hi, hx⟩

/-- What the document's Set leaves of an alarm that may be set. -/
def RSetOk (w : World) (base p : Nat) (now : Int) (v : Value) (L : List Al) (a : Al) (r : Ending) (w' : World) : Prop :=
  (L.any (pairB a) = true ∧ r = .returned (.int .i64 6) ∧ Below w.heap.size w w') ∨
  (L.any (pairB a) = false ∧ r = .returned (.int .i64 0) ∧ ∃ v', RClk w' p now v' ∧ RAls w' base v' (L ++ [a]) ∧ Frm [some p, v.ownBlock] w w' ∧ Fresh w v v')

set_option maxHeartbeats 4000000 in
theorem rset_ok (w : World) (base p : Nat) (now : Int) (v : Value) (L : List Al) (a : Al) (hc : RClk w p now v) (hr : RAls w base v L) (hbase : base ≤ w.heap.size) (hl : L.length ≤ 1048576) (h0 : 0 ≤ now) (ho : okA now a = true) :
    Calls Try.prog 16 #[.pointer (some ⟨p, 0, none⟩), valA a] w (RSetOk w base p now v L a) := by
  obtain ⟨i1, hti, hz0, hz1, hz2⟩ := info_parts info_ral
  have hp := lt_of_block hc
  obtain ⟨q, cap, rfl⟩ := hr.shape
  have h3 : 1 ≤ a.due ∧ a.due ≤ 1099512676352 ∧ 1 ≤ a.token ∧ now < a.due := by
    simp [okA] at ho
    omega
  have FIN := Lib.hid (show ∀ r w', ((L.any (pairB a) = true ∧ r = .returned (.int .i64 6) ∧ Below w.heap.size w w') ∨ (L.any (pairB a) = false ∧ r = .returned (.int .i64 0) ∧ ∃ v', RClk w' p now v' ∧ RAls w' base v' (L ++ [a]) ∧ Frm [some p, (Value.slice q L.length cap).ownBlock] w w' ∧ Fresh w (.slice q L.length cap) v')) → RSetOk w base p now (.slice q L.length cap) L a r w' from fun _ _ h => h)
  obtain ⟨ad, at_, av, ai⟩ := a
  have h3 : 1 ≤ ad ∧ ad ≤ 1099512676352 ∧ 1 ≤ at_ ∧ now < ad := h3
  have hn := heap_alloc_new w (.cells #[.int .i64 ad, .int .i64 at_, .string av, .int .i64 ai] 31)
  have hb := (Below.refl w.heap.size w).alloc (Nat.le_refl _) (.cells #[.int .i64 ad, .int .i64 at_, .string av, .int .i64 ai] 31)
  obtain ⟨w1, hw1⟩ : ∃ w1, w.alloc (.cells #[.int .i64 ad, .int .i64 at_, .string av, .int .i64 ai] 31) = w1 := ⟨_, rfl⟩
  have hs1 : w.heap.size < w1.heap.size := by rw [← hw1, World.size_alloc]; omega
  rw [hw1] at hn hb
  have hc1 := hc.below hb (Nat.le_refl _)
  obtain ⟨l0, l1⟩ := box2 hc1
  obtain ⟨n0, n1, n2, n3⟩ := box4 hn
  have d1 : decide (ad < 1) = false := decide_eq_false (by omega)
  have d2 : decide (ad > 1099512676352) = false := decide_eq_false (by omega)
  have d3 : decide (at_ < 1) = false := decide_eq_false (by omega)
  have d4 : decide (ad ≤ now) = false := decide_eq_false (by omega)
  have HN := Lib.hid hn
  have HC := Lib.hid hc
  have HB := Lib.hid hb
  have HR := Lib.hid hr
  clear hn hb hc ho h3 hr hc1
  go_enter Try.func16, Try.ntmps16
  go_wp2_with fail
  clear hw1
  go_quiet (fail)
  have hB1 := Lib.hid (below_drewN HB.out nq)
  have hN1 := Lib.hid (show (w1.drewN nq).heap[w.heap.size]? = _ from HN.out)
  have hs1' : w.heap.size < (w1.drewN nq).heap.size := hs1
  obtain ⟨w2, hw2⟩ : ∃ w2, w1.drewN nq = w2 := ⟨_, rfl⟩
  rw [hw2] at hB1 hN1 hs1' ⊢
  clear hw2 l0 l1 n0 n1 n2 n3 d1 d2 d3 d4
  go_wp2_with fail
  go_loopg [5] L.length (fun gh s5 wx => ∃ i : Nat, i + gh = L.length ∧ s5 = .int .i64 (i : Int) ∧ Hid ((L.take i).any (pairB ⟨ad, at_, av, ai⟩) = false) ∧ Below w2.heap.size w2 wx)
  case atStart => exact ⟨0, by omega, rfl, Lib.hid (by simp), Below.refl _ _⟩
  case round =>
    obtain ⟨i, hig, rfl, hno, hbr⟩ := hrel
    have hzr := hbr.size
    have hBr := Lib.hid (hB1.out.trans (hbr.mono (Nat.le_of_lt hs1')))
    have hNr := Lib.hid ((hbr.block _ hs1').trans hN1.out)
    have hCr := Lib.hid (HC.out.below hBr.out (Nat.le_refl _))
    obtain ⟨l0, l1⟩ := box2 hCr.out
    obtain ⟨n0, n1, n2, n3⟩ := box4 hNr.out
    by_cases hi : i < L.length
    · have hRr := HR.out.kept hBr.out
      obtain ⟨g, rfl, -, -, hg⟩ := hRr.some (show 0 < L.length by omega)
      have r1 : wr.cell? ⟨g, i * 4 + 1, none⟩ = some (.int .i64 L[i].token) := hRr.at cellA_len hi (by omega)
      have r2 : wr.cell? ⟨g, i * 4 + 2, none⟩ = some (.string L[i].via) := hRr.at cellA_len hi (by omega)
      obtain ⟨x, hx⟩ : ∃ x, L[i] = x := ⟨_, rfl⟩
      have HH := Lib.hid (pair_hit (a := ⟨ad, at_, av, ai⟩) hi)
      have HT := Lib.hid (pair_take hi hno.out)
      rw [hx] at r1 r2 HH HT
      clear hx
      obtain ⟨xd, xt, xv, xi⟩ := x
      have r1 : wr.cell? ⟨g, i * 4 + 1, none⟩ = some (.int .i64 xt) := r1
      have r2 : wr.cell? ⟨g, i * 4 + 2, none⟩ = some (.string xv) := r2
      have e1 : pairB ⟨ad, at_, av, ai⟩ ⟨xd, xt, xv, xi⟩ = ((xt == at_) && (xv.toList == av.toList)) := rfl
      rw [e1] at HH HT
      clear e1 hRr
      obtain ⟨b2, hb2⟩ : ∃ b2, (xv.toList == av.toList) = b2 := ⟨_, rfl⟩
      rw [hb2] at HH HT
      by_cases ht : xt = at_
      · subst ht
        cases b2 with
        | true =>
          have hany := HH.out (by simp)
          have HA := Lib.hid hany
          clear hany
          go_wp2_with fail
          go_quiet (fail)
          go_wp2_with fail
          go_ret
          exact FIN.out _ _ (Or.inl ⟨HA.out, rfl, below_drewN hBr.out _⟩)
        | false =>
          have hno2 := Lib.hid (HT.out (by simp))
          go_wp2_with fail
          go_quiet (fail)
          go_wp2_with fail
          go_roundg (L.length - (i + 1))
          case measure => omega
          case rel => exact ⟨i + 1, by omega, by go_num, hno2, below_drewN hbr _⟩
      · have t1 : (xt == at_) = false := by rw [beq_eq_false_iff_ne]; exact ht
        have hno2 := Lib.hid (HT.out (by rw [t1]; rfl))
        go_wp2_with fail
        go_quiet (fail)
        go_wp2_with fail
        go_roundg (L.length - (i + 1))
        case measure => omega
        case rel => exact ⟨i + 1, by omega, by go_num, hno2, below_drewN hbr _⟩
    · have hk : ¬ ((i : Int) < (L.length : Int)) := by omega
      have hnone : Hid (L.any (pairB ⟨ad, at_, av, ai⟩) = false) := by
        have := hno.out
        rw [List.take_of_length_le (by omega)] at this
        exact this
      have hpr := lt_of_block hCr.out
      have hW := ((Below.refl wr.heap.size wr).alloc (Nat.le_refl _) (.cells #[.int .i64 ad, .int .i64 at_, .string av, .int .i64 ai] 31)).drew
      have hcW := (hW.block _ hpr).trans hCr.out
      have hRr := HR.out.kept hBr.out
      have hrW := hRr.kept hW
      have hne := own_blk hRr hCr.out (by decide)
      have hbw : base ≤ wr.heap.size := Nat.le_trans hbase hBr.out.size
      have HW := Lib.hid hW
      clear hW
      go_wp2_with fail
      go_region_law (first
        | (refine step_append_own _ (by rfl) (.tmp 65) (.tmp 67) 22 (by rfl) base 31 i1 _ 4 40 Try.underlying22 hti hz0 hz1 hz2 rfl (by decide) (.slice q L.length cap) L.length (cellsF cellA L) (by rfl) hrW _ 1 1 (cellA ⟨ad, at_, av, ai⟩) (by rfl) rfl (cells_new _ _ _) (cellA_one _) (by unfold maxLen; omega) (by omega) (by simp; omega) ?_; intro v6 w6 hown6 hg6 hat6
           have hr6 := rals_push hown6; obtain ⟨a6, cap6, rfl⟩ := rals_shape1 hr6
           have hc6 := (hg6.block p (by simp; omega) (fun h => hne h.symm)).trans hcW; obtain ⟨-, d1⟩ := box2 hc6; have df := free_of_block hc6 1))
      all_goals go_wp2_with fail
      all_goals go_ret
      all_goals refine FIN.out _ _ (Or.inr ⟨hnone.out, rfl, _, heap_setCell_self _ hc6, own_frm hr6 ((Frm.refl [some p] _).grown (grownBy_setCell _ _ _ _) (by simp)) (fun r hr => ?_), (((Frm.ofBelow hBr.out).below HW.out).grown hg6 (by simp)).grown (grownBy_setCell _ _ _ _) (by simp), hat6.imp id (fun h => ⟨_, h, ?_⟩)⟩)
      all_goals first | (obtain rfl : r = some p := (by simpa using hr); exact Or.inr (Ne.symm (own_blk hr6 hc6 (by decide)))) | (have h1 := hBr.out.size; have h2 := HW.out.size; omega)

end Go.Proofs.Ytofpmhkjagdmmaa
