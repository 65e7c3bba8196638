/- slices.IndexFunc, ContainsFunc on a clock's entries; clock.Set. -/
import Derived.Test.YtofpmhkjagdmmaaClockHeap
set_option maxRecDepth 100000
namespace Go.Proofs.Ytofpmhkjagdmmaa
open Go.RowKit

/-- A predicate handed over as a function value: what it answers in every world in which nothing that was there is turned. -/
def PredE (g : Nat) (lb : Array Value) (q : Ent → Bool) (w : World) : Prop :=
  ∀ (W : World) (x : Ent), Below w.heap.size w W → Calls Try.prog g (#[valE x] ++ lb) W fun e w' => e = .returned (.bool (q x)) ∧ Below W.heap.size W w'

/-- The first index at which q holds; -1: there is none. -/
def IdxIs (q : Ent → Bool) (l : List Ent) (r : Ending) (w w' : World) : Prop :=
  ((r = .returned (.int .i64 (-1)) ∧ ∀ x ∈ l, q x = false) ∨ ∃ k : Nat, k < l.length ∧ r = .returned (.int .i64 (k : Int)) ∧ q (atL l k) = true ∧ ∀ j, j < k → q (atL l j) = false) ∧ Below w.heap.size w w'

set_option maxHeartbeats 1000000 in
theorem index_any (w : World) (base : Nat) (v : Value) (l : List Ent) (hr : Row w base v l) (hl : l.length ≤ 1048576) (g : Nat) (lb : Array Value) (q : Ent → Bool) (eg : ∀ args w, (callFunc g args).run Try.prog w = .ok (.enter g args) w) (hq : PredE g lb q w) :
    Calls Try.prog 34 #[v, .func (.func g) #[] lb] w fun r w' => IdxIs q l r w w' := by
  obtain ⟨a, cap, rfl⟩ := hr.shape
  have fin1 : ∀ w', Below w.heap.size w w' → (∀ j, j < l.length → q (atL l j) = false) → IdxIs q l (.returned (.int .i64 (-1))) w w' := fun w' hb h => ⟨Or.inl ⟨rfl, fun x hx => by
    obtain ⟨i, hi, rfl⟩ := List.getElem_of_mem hx
    rw [← atL_eq hi]; exact h i hi⟩, hb⟩
  have fin2 : ∀ w' k, Below w.heap.size w w' → k < l.length → q (atL l k) = true → (∀ j, j < k → q (atL l j) = false) → IdxIs q l (.returned (.int .i64 (k : Int))) w w' := fun w' k hb h1 h2 h3 => ⟨Or.inr ⟨k, h1, rfl, h2, h3⟩, hb⟩
  have F1 := Lib.hid fin1
  have F2 := Lib.hid fin2
  have HQ := Lib.hid hq
  clear fin1 fin2 hq
  go_enter Try.func34, Try.ntmps34
  go_wp2_with fail
  go_loopg [8] l.length (fun gh s8 wx => ∃ k : Nat, k + gh = l.length ∧ s8 = .int .i64 (k : Int) ∧ Below w.heap.size w wx ∧ Hid (∀ j, j < k → q (atL l j) = false))
  case atStart => exact ⟨0, by omega, rfl, Below.refl _ _, Lib.hid (fun j h => by omega)⟩
  case round =>
    obtain ⟨k, hkg, rfl, hb, hz⟩ := hrel
    by_cases hk : k < l.length
    · rcases hr.own with ⟨_, h0⟩ | ⟨b, cap', hv, hbg, hg⟩
      · rw [h0] at hk; simp at hk
      cases hv
      have hrr := hr.kept hb (Nat.le_refl _)
      obtain ⟨a0, a1, a2, a3, a4⟩ := hrr.at hk
      obtain ⟨x, hx⟩ : ∃ x, atL l k = x := ⟨_, rfl⟩
      rw [hx] at a0 a1 a2 a3 a4
      have C1 := Lib.hid (HQ.out wr x hb)
      have HX := Lib.hid hx
      clear hrr hx
      cases hqx : q x with
      | true =>
        rw [hqx] at C1
        have HQX := Lib.hid hqx
        clear hqx
        go_wp2_with (go_at_fn g; refine C1.out.mono ?_; rintro e w7 ⟨rfl, hb7⟩)
        go_ret
        exact F2.out _ k (hb.trans (hb7.mono hb.size)) hk (by rw [HX.out]; exact HQX.out) hz.out
      | false =>
        rw [hqx] at C1
        have HQX := Lib.hid hqx
        clear hqx
        go_wp2_with (go_at_fn g; refine C1.out.mono ?_; rintro e w7 ⟨rfl, hb7⟩)
        go_roundg (gk - 1)
        case measure => omega
        case rel => exact ⟨k + 1, by omega, by go_num, hb.trans (hb7.mono hb.size), Lib.hid (fun j hj => by
          by_cases e : j = k
          · rw [e, HX.out]; exact HQX.out
          · exact hz.out j (by omega))⟩
    · have hk' : ¬ ((k : Int) < (l.length : Int)) := by omega
      have hk2 : decide (k < l.length) = false := decide_eq_false hk
      go_wp2_with fail
      go_ret
      exact F1.out _ hb (fun j hj => hz.out j (by omega))

/-- Is q of one? -/
theorem contains_any (w : World) (base : Nat) (v : Value) (l : List Ent) (hr : Row w base v l) (hl : l.length ≤ 1048576) (g : Nat) (lb : Array Value) (q : Ent → Bool) (eg : ∀ args w, (callFunc g args).run Try.prog w = .ok (.enter g args) w) (hq : PredE g lb q w) :
    Calls Try.prog 24 #[v, .func (.func g) #[] lb] w fun r w' => r = .returned (.bool (l.any q)) ∧ Below w.heap.size w w' := by
  obtain ⟨a, cap, rfl⟩ := hr.shape
  have C1 := Lib.hid (index_any w base _ l hr hl g lb q eg hq)
  have fin1 : (∀ x ∈ l, q x = false) → Ending.returned (.bool false) = .returned (.bool (l.any q)) := fun h => by
    rw [show l.any q = false from List.any_eq_false.2 (fun x hx => by rw [h x hx]; simp)]
  have fin2 : ∀ k, k < l.length → q (atL l k) = true → Ending.returned (.bool true) = .returned (.bool (l.any q)) := fun k h1 h2 => by
    rw [show l.any q = true from List.any_eq_true.2 ⟨l[k], List.getElem_mem h1, by rw [← atL_eq h1]; exact h2⟩]
  have F1 := Lib.hid fin1
  have F2 := Lib.hid fin2
  clear fin1 fin2 hq hr
  go_enter Try.func24, Try.ntmps24
  go_wp2_with (go_at_call 34; refine C1.out.mono ?_; rintro e w7 ⟨⟨rfl, h1⟩ | ⟨k, h1, rfl, h2, -⟩, hb7⟩)
  · go_ret
    exact ⟨F1.out h1, hb7⟩
  · have d1 : decide ((0 : Int) ≤ (k : Int)) = true := decide_eq_true (by omega)
    have HH2 := Lib.hid h2
    clear h2
    go_wp2_with fail
    go_ret
    exact ⟨F2.out k h1 HH2.out, hb7⟩

def sameTV (a : Al) (e : Ent) : Bool := (e.al.token == a.token) && (e.al.via.toList == a.via.toList)

set_option maxHeartbeats 1000000 in
theorem set1_any (w : World) (b : Nat) (a : Al) (hb : w.heap[b]? = some (.cells #[.int .i64 a.due, .int .i64 a.token, .string a.via, .int .i64 a.inst] 33)) (e : Ent) :
    Calls Try.prog 25 #[valE e, .pointer (some ⟨b, 0, none⟩)] w fun r w' => r = .returned (.bool (sameTV a e)) ∧ Below w.heap.size w w' := by
  obtain ⟨⟨ed, et, ev, ei⟩, en⟩ := e
  obtain ⟨ad, at_, av, ai⟩ := a
  have c1 : w.cell? ⟨b, 1, none⟩ = some (.int .i64 at_) := by rw [cell_of_block hb]; rfl
  have c2 : w.cell? ⟨b, 2, none⟩ = some (.string av) := by rw [cell_of_block hb]; rfl
  have hlt := lt_of_block hb
  have hbl := (Below.refl w.heap.size w).alloc (Nat.le_refl _) (.cells #[.int .i64 ed, .int .i64 et, .string ev, .int .i64 ei, .int .i64 en] 67)
  have fin : ∀ c, c = ((et == at_) && (ev.toList == av.toList)) → Ending.returned (.bool c) = .returned (.bool (sameTV ⟨ad, at_, av, ai⟩ ⟨⟨ed, et, ev, ei⟩, en⟩)) := fun c h => by rw [h]; rfl
  have F := Lib.hid fin
  have HB := Lib.hid hbl
  clear fin hb hbl
  by_cases ht : et = at_
  · subst ht
    go_enter Try.func25, Try.ntmps25
    go_wp2_with fail
    go_ret
    exact ⟨F.out _ (by simp), HB.out⟩
  · have d1 : (et == at_) = false := by rw [beq_eq_false_iff_ne]; exact ht
    go_enter Try.func25, Try.ntmps25
    go_wp2_with fail
    go_ret
    exact ⟨F.out _ (by rw [d1]; rfl), HB.out⟩

theorem drop1_any (w : World) (b : Nat) (t : Int) (hb : w.heap[b]? = some (.cells #[.int .i64 t] 3)) (e : Ent) :
    Calls Try.prog 29 #[valE e, .pointer (some ⟨b, 0, none⟩)] w fun r w' => r = .returned (.bool (e.al.token == t)) ∧ Below w.heap.size w w' := by
  obtain ⟨⟨ed, et, ev, ei⟩, en⟩ := e
  have c1 : w.cell? ⟨b, 0, none⟩ = some (.int .i64 t) := by rw [cell_of_block hb]; rfl
  have hlt := lt_of_block hb
  have HB := Lib.hid ((Below.refl w.heap.size w).alloc (Nat.le_refl _) (.cells #[.int .i64 ed, .int .i64 et, .string ev, .int .i64 ei, .int .i64 en] 67))
  go_enter Try.func29, Try.ntmps29
  go_wp2_with fail
  go_ret
  exact ⟨rfl, HB.out⟩

/-- May an alarm be set? -/
def okA (now : Int) (a : Al) : Bool := !(decide (a.due ≤ now) || decide (1099512676352 < a.due) || decide (a.token < 1))
def hasA (l : List Ent) (a : Al) : Bool := l.any (sameTV a)

set_option maxHeartbeats 4000000 in
/-- clock.Set at an alarm that may not be. -/
theorem set_bad (w : World) (p : Nat) (now many : Int) (v : Value) (a : Al) (hc : Clk w p now v many) (ho : okA now a = false) :
    Calls Try.prog 9 #[.pointer (some ⟨p, 0, none⟩), valA a] w fun r w' => r = .returned (.int .i64 1) ∧ Below w.heap.size w w' := by
  obtain ⟨k0, k1, k2⟩ := box3 hc
  have hp := lt_of_block hc
  obtain ⟨ad, at_, av, ai⟩ := a
  have hn := heap_alloc_new w (.cells #[.int .i64 ad, .int .i64 at_, .string av, .int .i64 ai] 33)
  have hb := (Below.refl w.heap.size w).alloc (Nat.le_refl _) (.cells #[.int .i64 ad, .int .i64 at_, .string av, .int .i64 ai] 33)
  have l0 := (hb.cell (p := ⟨p, 0, none⟩) hp).trans k0
  obtain ⟨w1, hw1⟩ : ∃ w1, w.alloc (.cells #[.int .i64 ad, .int .i64 at_, .string av, .int .i64 ai] 33) = w1 := ⟨_, rfl⟩
  rw [hw1] at hn hb l0
  have n0 : w1.cell? ⟨w.heap.size, 0, none⟩ = some (.int .i64 ad) := by rw [cell_of_block hn]; rfl
  have n1 : w1.cell? ⟨w.heap.size, 1, none⟩ = some (.int .i64 at_) := by rw [cell_of_block hn]; rfl
  have h3 : ad ≤ now ∨ (now < ad ∧ 1099512676352 < ad) ∨ (now < ad ∧ ad ≤ 1099512676352 ∧ at_ < 1) := by
    simp [okA] at ho
    omega
  have HB := Lib.hid hb
  clear hn hb hc k0 k1 k2 ho
  rcases h3 with h1 | ⟨h1, h2⟩ | ⟨h1, h2, h3⟩
  · have d1 : decide (ad ≤ now) = true := decide_eq_true h1
    go_enter Try.func9, Try.ntmps9
    go_wp2_with fail
    go_quiet (fail)
    go_wp2_with fail
    go_ret
    exact ⟨rfl, below_drewN HB.out _⟩
  · have d1 : decide (ad ≤ now) = false := decide_eq_false (by omega)
    have d2 : decide (ad > 1099512676352) = true := decide_eq_true h2
    go_enter Try.func9, Try.ntmps9
    go_wp2_with fail
    go_quiet (fail)
    go_wp2_with fail
    go_ret
    exact ⟨rfl, below_drewN HB.out _⟩
  · have d1 : decide (ad ≤ now) = false := decide_eq_false (by omega)
    have d2 : decide (ad > 1099512676352) = false := decide_eq_false (by omega)
    have d3 : decide (at_ < 1) = true := decide_eq_true h3
    go_enter Try.func9, Try.ntmps9
    go_wp2_with fail
    go_quiet (fail)
    go_wp2_with fail
    go_ret
    exact ⟨rfl, below_drewN HB.out _⟩

theorem Clk.below {w w' : World} {p : Nat} {now many : Int} {v : Value} {B : Nat} (h : Clk w p now v many) (hb : Below B w w') (hB : w.heap.size ≤ B) : Clk w' p now v many :=
  (hb.block p (Nat.lt_of_lt_of_le (lt_of_block h) hB)).trans h

theorem eg25 : ∀ args (w : World), (callFunc 25 args).run Try.prog w = .ok (.enter 25 args) w := enters_of Try.func25 (by kernel_rfl) rfl

/-- What clock.Set leaves of an alarm that may be set. -/
def SetOk (w : World) (base p : Nat) (now many : Int) (v : Value) (l : List Ent) (a : Al) (r : Ending) (w' : World) : Prop :=
  (hasA l a = true ∧ r = .returned (.int .i64 6) ∧ Below w.heap.size w w') ∨ (hasA l a = false ∧ r = .returned (.int .i64 0) ∧ ∃ v', Kept w w' base p now v v' (pushE ltEnt l ⟨a, many + 1⟩) (many + 1))

set_option maxHeartbeats 4000000 in
theorem set_ok (w : World) (base p : Nat) (now many : Int) (v : Value) (l : List Ent) (a : Al) (hc : Clk w p now v many) (hr : Row w base v l) (hbase : base ≤ w.heap.size) (hl : l.length ≤ 1048575) (hm0 : 0 ≤ many) (hm1 : many ≤ 1048576) (ho : okA now a = true) :
    Calls Try.prog 9 #[.pointer (some ⟨p, 0, none⟩), valA a] w (SetOk w base p now many v l a) := by
  obtain ⟨k0, k1, k2⟩ := box3 hc
  have hp := lt_of_block hc
  obtain ⟨q, cap, rfl⟩ := hr.shape
  have h3 : now < a.due ∧ a.due ≤ 1099512676352 ∧ 1 ≤ a.token := by
    simp [okA] at ho
    omega
  have hn := heap_alloc_new w (.cells #[.int .i64 a.due, .int .i64 a.token, .string a.via, .int .i64 a.inst] 33)
  have hb := (Below.refl w.heap.size w).alloc (Nat.le_refl _) (.cells #[.int .i64 a.due, .int .i64 a.token, .string a.via, .int .i64 a.inst] 33)
  have hfin : ∀ r w', (hasA l a = true ∧ r = .returned (.int .i64 6) ∧ Below w.heap.size w w') ∨ (hasA l a = false ∧ r = .returned (.int .i64 0) ∧ ∃ v', Kept w w' base p now (.slice q l.length cap) v' (pushE ltEnt l ⟨a, many + 1⟩) (many + 1)) → SetOk w base p now many (.slice q l.length cap) l a r w' := fun r w' h => h
  have FIN := Lib.hid hfin
  obtain ⟨ad, at_, av, ai⟩ := a
  have h3 : now < ad ∧ ad ≤ 1099512676352 ∧ 1 ≤ at_ := h3
  have l0 := (hb.cell (p := ⟨p, 0, none⟩) hp).trans k0
  have l1 := (hb.cell (p := ⟨p, 1, none⟩) hp).trans k1
  have l2 := (hb.cell (p := ⟨p, 2, none⟩) hp).trans k2
  have hsz : (w.alloc (.cells #[.int .i64 ad, .int .i64 at_, .string av, .int .i64 ai] 33)).heap.size = w.heap.size + 1 := World.size_alloc _ _
  obtain ⟨w1, hw1⟩ : ∃ w1, w.alloc (.cells #[.int .i64 ad, .int .i64 at_, .string av, .int .i64 ai] 33) = w1 := ⟨_, rfl⟩
  rw [hw1] at hn hb l0 l1 l2 hsz
  have n0 : w1.cell? ⟨w.heap.size, 0, none⟩ = some (.int .i64 ad) := by rw [cell_of_block hn]; rfl
  have n1 : w1.cell? ⟨w.heap.size, 1, none⟩ = some (.int .i64 at_) := by rw [cell_of_block hn]; rfl
  have d1 : decide (ad ≤ now) = false := decide_eq_false (by omega)
  have d2 : decide (ad > 1099512676352) = false := decide_eq_false (by omega)
  have d3 : decide (at_ < 1) = false := decide_eq_false (by omega)
  have hsz1 : w.heap.size < w1.heap.size := by omega
  have HW1 := Lib.hid hw1
  have HN := Lib.hid hn
  have HC := Lib.hid hc
  have HB := Lib.hid hb
  clear hsz hn hb hc ho h3 hfin
  go_enter Try.func9, Try.ntmps9
  go_wp2_with fail
  clear hw1
  go_quiet (fail)
  have l1q : (w1.drewN nq).cell? ⟨p, 1, none⟩ = some (.slice q l.length cap) := l1
  have hD := below_drewN' (w := w1) nq
  have B2 := HB.out.trans (hD.mono (by omega))
  have hn2 := (hD.block _ hsz1).trans HN.out
  have hPred : PredE 25 #[.pointer (some ⟨w.heap.size, 0, none⟩)] (sameTV ⟨ad, at_, av, ai⟩) (w1.drewN nq) := fun W x hb => set1_any W w.heap.size ⟨ad, at_, av, ai⟩ ((hb.block _ hsz1).trans hn2) x
  have C1 := Lib.hid (contains_any (w1.drewN nq) base _ l (hr.kept B2 (Nat.le_refl _)) (by omega) _ _ _ eg25 hPred)
  obtain ⟨w2, hw2⟩ : ∃ w2, w1.drewN nq = w2 := ⟨_, rfl⟩
  have hs2 : w1.heap.size ≤ w2.heap.size := by rw [← hw2]; exact Nat.le_refl _
  rw [hw2] at l1q C1 B2 hn2 ⊢
  clear hPred hD hw2 l0 l1 l2 n0 n1 k0 k1 k2 d1 d2 d3
  cases hh : hasA l ⟨ad, at_, av, ai⟩ with
  | true =>
    rw [show l.any (sameTV ⟨ad, at_, av, ai⟩) = true from hh] at C1
    have HH := Lib.hid hh
    clear hh
    go_wp2_with (go_at_call 24; refine C1.out.mono ?_; rintro e w3 ⟨rfl, hb3⟩)
    go_ret
    exact FIN.out _ _ (Or.inl ⟨HH.out, rfl, B2.trans (hb3.mono B2.size)⟩)
  | false =>
    rw [show l.any (sameTV ⟨ad, at_, av, ai⟩) = false from hh] at C1
    have HH := Lib.hid hh
    clear hh
    go_wp2_with (go_at_call 24; refine C1.out.mono ?_; rintro e w3 ⟨rfl, hb3⟩; refine Hid.out ?_)
    refine Lib.hid ?_
    have B3 := B2.trans (hb3.mono B2.size)
    have hc3 := HC.out.below B3 (Nat.le_refl _)
    have hr3 := hr.kept B3 (Nat.le_refl _)
    obtain ⟨k0, k1, k2⟩ := box3 hc3
    have f2 := free_of_block hc3 2
    have hn3 := (hb3.block _ (Nat.lt_of_lt_of_le hsz1 hs2)).trans hn2
    have hc4 : Clk (w3.setCell ⟨p, 2, none⟩ (.int .i64 (many + 1))) p now (.slice q l.length cap) (many + 1) := heap_setCell_self _ hc3
    have hpne : p ≠ w.heap.size := by omega
    have hn4 : (w3.setCell ⟨p, 2, none⟩ (.int .i64 (many + 1))).heap[w.heap.size]? = _ := (heap_setCell_other w3 ⟨p, 2, none⟩ w.heap.size _ (by simp; omega)).trans hn3
    have hf4 : Frm [some p] w3 (w3.setCell ⟨p, 2, none⟩ (.int .i64 (many + 1))) := (Frm.refl _ _).grown (grownBy_setCell _ _ _ _) (by simp)
    have hr4 := hr3.frm hf4 (fun r hr => Or.inr (by rw [List.mem_singleton.1 hr]; exact Ne.symm (hr3.ne hc3 (by decide))))
    have HC4 := Lib.hid hc4
    have HN4 := Lib.hid hn4
    have HF4 := Lib.hid hf4
    clear hc3 hr3 hn3 hc4 hn4 hf4 C1 hn2 l1q
    go_wp2_with fail
    obtain ⟨w4, hw4⟩ : ∃ w4, w3.setCell ⟨p, 2, none⟩ (.int .i64 (many + 1)) = w4 := ⟨_, rfl⟩
    have hs4 : w3.heap.size ≤ w4.heap.size := by rw [← hw4]; simp
    rw [hw4] at HC4 HN4 HF4 hr4 ⊢
    clear hw4
    have hD : Below w4.heap.size w4 w4.drew := (Below.refl _ _).drew
    have P1 := Lib.hid (hpush_any w4.drew base p now (many + 1) _ l ⟨⟨ad, at_, av, ai⟩, many + 1⟩ (HC4.out.below hD (Nat.le_refl _)) (hr4.kept hD (Nat.le_refl _)) (by have := B3.size; show base ≤ w4.heap.size; omega) hl)
    have HD := Lib.hid hD
    obtain ⟨i0, i1, i2⟩ := box3 HC4.out
    have e0 : w4.cell? ⟨w.heap.size, 0, none⟩ = some (.int .i64 ad) := by rw [cell_of_block HN4.out]; rfl
    have e1 : w4.cell? ⟨w.heap.size, 1, none⟩ = some (.int .i64 at_) := by rw [cell_of_block HN4.out]; rfl
    have e2 : w4.cell? ⟨w.heap.size, 2, none⟩ = some (.string av) := by rw [cell_of_block HN4.out]; rfl
    have e3 : w4.cell? ⟨w.heap.size, 3, none⟩ = some (.int .i64 ai) := by rw [cell_of_block HN4.out]; rfl
    have hvn : (Value.slice q l.length cap).ownBlock ≠ some w.heap.size := hr4.ne HN4.out (by decide)
    clear hD k0 k1 k2 f2 i0 i1
    go_region_held3 (fun w' => w'.cell? ⟨w.heap.size, 0, none⟩ = some (.int .i64 ad) ∧ w'.cell? ⟨w.heap.size, 1, none⟩ = some (.int .i64 at_) ∧ w'.cell? ⟨w.heap.size, 2, none⟩ = some (.string av) ∧ w'.cell? ⟨w.heap.size, 3, none⟩ = some (.int .i64 ai) ∧ w'.cell? ⟨p, 2, none⟩ = some (.int .i64 (many + 1)))
      (first | go_keep | (refine ⟨?_, ?_, ?_, ?_, ?_⟩ <;> (first | (rw [cell_of_block hn9]; rfl) | (rw [cell_of_block hk9.clk]; rfl))))
      (first | (go_at_call 26; refine P1.out.mono ?_; rintro e w9 ⟨rfl, v9, hk9⟩; have hn9 : w9.heap[w.heap.size]? = some (.cells #[.int .i64 ad, .int .i64 at_, .string av, .int .i64 ai] 33) := hk9.frm.block (show w4.drew.heap[w.heap.size]? = _ from HN4.out) (by simp only [List.mem_cons, List.mem_nil_iff, or_false, forall_eq_or_imp, forall_eq]; exact ⟨by simpa using hpne, hvn⟩)))
    go_wp2_with fail
    go_ret
    refine FIN.out _ _ (Or.inr ⟨HH.out, rfl, v9, hk9.clk, hk9.row, ?_, ?_⟩)
    · exact (((Frm.ofBelow B3).trans HF4.out (fun r hr => Or.inl (by rw [List.mem_singleton.1 hr]; simp))).below HD.out).trans hk9.frm (fun r hr => Or.inl hr)
    · rcases hk9.fresh with h | ⟨k, h, hk⟩
      · exact Or.inl h
      · exact Or.inr ⟨k, h, by have := B3.size; have h2 : w4.drew.heap.size = w4.heap.size := rfl; omega⟩

end Go.Proofs.Ytofpmhkjagdmmaa
