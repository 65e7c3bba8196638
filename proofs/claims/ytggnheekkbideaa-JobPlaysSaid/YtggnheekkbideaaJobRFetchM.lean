/- Texts merged by merge.py: JobPickP, JobRFetch, JobRFetch2. -/
import Derived.Test.YtggnheekkbideaaJobTellP
import Derived.Test.YtggnheekkbideaaJobDo
import Derived.Test.YtggnheekkbideaaJobRFail
set_option maxRecDepth 100000
/- The document hands out one job after the other: the free one with the least number. On lists. -/
namespace Go.Proofs.Ytggnheekkbideaa

def bestP (b : Option PT) (p : PT) : Option PT := match b with | none => some p | some q => if p.t.id < q.t.id then some p else some q
def bestL (L : List PT) : Option PT := L.foldl bestP none
theorem bestL_snoc (L : List PT) (p : PT) : bestL (L ++ [p]) = bestP (bestL L) p := by simp [bestL]
theorem bestL_none : ∀ (L : List PT), bestL L = none → L = [] := by
  intro L h
  rcases List.eq_nil_or_concat L with rfl | ⟨M, p, rfl⟩
  · rfl
  · rw [List.concat_eq_append, bestL_snoc] at h
    unfold bestP at h
    split at h
    · cases h
    · split at h <;> cases h
theorem bestL_spec (tag : PT → Nat) : ∀ (n : Nat) (L : List PT), L.length = n → L.Pairwise (fun a b => tag a < tag b) → ∀ b, bestL L = some b → b ∈ L ∧ ∀ q ∈ L, leR tag b q := by
  intro n
  induction n with
  | zero =>
    intro L hL _ b h
    obtain rfl := List.eq_nil_of_length_eq_zero hL
    cases h
  | succ n ih =>
    intro L hL hp b h
    obtain ⟨M, p, rfl⟩ : ∃ M p, L = M ++ [p] := ⟨L.dropLast, L.getLast (by intro e; rw [e] at hL; simp at hL), (List.dropLast_concat_getLast _).symm⟩
    obtain ⟨h1, _, h3⟩ := List.pairwise_append.1 hp
    rw [bestL_snoc] at h
    cases hb : bestL M with
    | none =>
      obtain rfl := bestL_none M hb
      rw [hb] at h
      cases h
      exact ⟨by simp, fun q hq => by
        have : q = b := by simpa using hq
        subst this
        exact Or.inr ⟨rfl, Nat.le_refl _⟩⟩
    | some c =>
      rw [hb] at h
      obtain ⟨hc, hall⟩ := ih M (by simp at hL; exact hL) h1 c hb
      unfold bestP at h
      simp only at h
      split at h
      · rename_i hlt
        cases h
        refine ⟨by simp, fun q hq => ?_⟩
        rcases List.mem_append.1 hq with hq | hq
        · have := hall q hq
          unfold leR at this ⊢
          omega
        · have : q = b := by simpa using hq
          subst this
          exact Or.inr ⟨rfl, Nat.le_refl _⟩
      · rename_i hlt
        cases h
        refine ⟨List.mem_append_left _ hc, fun q hq => ?_⟩
        rcases List.mem_append.1 hq with hq | hq
        · exact hall q hq
        · have : q = p := by simpa using hq
          subst this
          have := h3 b hc q (by simp)
          unfold leR
          omega

def sameP (p q : PT) : Bool := (p.i == q.i) && (p.k == q.k)
theorem sameP_eq {l : List Ins} {p q : PT} (hp : p ∈ allT l) (hq : q ∈ allT l) (h : sameP p q = true) : p = q := by
  unfold sameP at h
  simp only [Bool.and_eq_true, beq_iff_eq] at h
  obtain ⟨_, _, h3, _⟩ := allT_at hp
  obtain ⟨_, _, g3, _⟩ := allT_at hq
  cases p; cases q
  simp only at h h3 g3 ⊢
  obtain ⟨rfl, rfl⟩ := h
  rw [h3, g3]
/-- The free ones where some have been handed out. -/
theorem free_marks (f : Tok → Tok) (c : Int) (hf : ∀ t, freeB c (f t) = false) : ∀ (n : Nat) (Q : List PT) (l : List Ins), Q.length = n → (∀ q ∈ Q, q.i < l.length ∧ q.k < (atL l q.i).toks.length) →
    someL (freeB c) (allT (marks f l Q)) = (someL (freeB c) (allT l)).filter (fun p => !(Q.any (sameP p))) := by
  intro n
  induction n with
  | zero =>
    intro Q l hQ _
    obtain rfl := List.eq_nil_of_length_eq_zero hQ
    exact (List.filter_eq_self.2 (fun _ _ => rfl)).symm
  | succ n ih =>
    intro Q l hQ hin
    obtain ⟨M, q, rfl⟩ : ∃ M q, Q = M ++ [q] := ⟨Q.dropLast, Q.getLast (by intro e; rw [e] at hQ; simp at hQ), (List.dropLast_concat_getLast _).symm⟩
    have hM : ∀ x ∈ M, x.i < l.length ∧ x.k < (atL l x.i).toks.length := fun x hx => hin x (List.mem_append_left _ hx)
    obtain ⟨h1, h2⟩ := hin q (by simp)
    rw [marks_snoc, allT_mark f _ q.i q.k (by rw [marks_len]; exact h1) (by rw [marks_toks f M l (fun x hx => (hM x hx).1)]; exact h2)]
    have hI := ih M l (by simp at hQ; exact hQ) hM
    unfold someL at hI ⊢
    rw [List.filter_map]
    have e : ∀ L : List PT, (L.filter ((fun p => freeB c p.t) ∘ markP f q.i q.k)).map (markP f q.i q.k) = (L.filter (fun p => freeB c p.t)).filter (fun p => !(sameP p q)) := by
      intro L
      induction L with
      | nil => rfl
      | cons p L ihL =>
        by_cases hs : p.i = q.i ∧ p.k = q.k
        · have h3 : ((fun p => freeB c p.t) ∘ markP f q.i q.k) p = false := by
            simp only [Function.comp, markP, if_pos hs]
            exact hf _
          have h4 : sameP p q = true := by simp [sameP, hs.1, hs.2]
          rw [List.filter_cons_of_neg (by rw [h3]; exact Bool.false_ne_true), ihL]
          by_cases hp : freeB c p.t = true
          · rw [List.filter_cons_of_pos (by simpa using hp), List.filter_cons_of_neg (by simp [h4])]
          · rw [List.filter_cons_of_neg (by simpa using hp)]
        · have h3 : markP f q.i q.k p = p := by simp only [markP, if_neg hs]
          have h4 : sameP p q = false := by
            unfold sameP
            cases h5 : (p.i == q.i) with
            | false => rfl
            | true =>
              have h6 : p.i = q.i := by simpa using h5
              have h7 : ¬ p.k = q.k := fun h => hs ⟨h6, h⟩
              simpa using h7
          by_cases hp : freeB c p.t = true
          · rw [List.filter_cons_of_pos (by simp only [Function.comp, h3]; exact hp), List.map_cons, h3, ihL, List.filter_cons_of_pos (by simpa using hp), List.filter_cons_of_pos (by simp [h4])]
          · rw [List.filter_cons_of_neg (by simp only [Function.comp, h3]; exact hp), ihL, List.filter_cons_of_neg (by simpa using hp)]
    rw [e, hI, List.filter_filter]
    refine List.filter_congr fun p _ => ?_
    simp only [List.any_append, List.any_cons, List.any_nil, Bool.or_false]
    cases M.any (sameP p) <;> cases sameP p q <;> rfl

/-- The next one that is handed out. -/
theorem pick_at (f : Tok → Tok) (c : Int) (hf : ∀ t, freeB c (f t) = false) (l : List Ins) (j : Nat) :
    bestL (someL (freeB c) (allT (marks f l ((stableE ltP (someL (freeB c) (allT l))).take j)))) = (stableE ltP (someL (freeB c) (allT l)))[j]? := by
  have hn := someL_ne (freeB c) l
  obtain ⟨D, hD⟩ : ∃ D, someL (freeB c) (allT l) = D := ⟨_, rfl⟩
  have hn' : D.Pairwise (· ≠ ·) := by rw [← hD]; exact hn
  have hDm : ∀ p ∈ D, p ∈ allT l := fun p hp => by rw [← hD] at hp; exact (List.mem_filter.1 hp).1
  rw [hD, stable_is hn']
  obtain ⟨P, hP⟩ : ∃ P, D.foldl insP [] = P := ⟨_, rfl⟩
  obtain ⟨s1, s2⟩ := fold_ins (tagOf D) D.length D rfl (tag_lt hn' (List.Sublist.refl _))
  rw [hP] at s1 s2 ⊢
  have hPm : ∀ p ∈ P, p ∈ allT l := fun p hp => hDm p (s1.subset hp)
  have hPn : P.Nodup := s1.nodup_iff.2 hn'
  rw [free_marks f c hf (P.take j).length (P.take j) l rfl (fun q hq => by
    obtain ⟨a, b, _⟩ := allT_at (hPm q (List.mem_of_mem_take hq))
    exact ⟨a, b⟩), hD]
  obtain ⟨D', hD'⟩ : ∃ D', D.filter (fun p => !((P.take j).any (sameP p))) = D' := ⟨_, rfl⟩
  rw [hD']
  have hm : ∀ p, p ∈ D' ↔ p ∈ D ∧ p ∉ P.take j := by
    intro p
    rw [← hD', List.mem_filter]
    refine and_congr_right fun hp => ?_
    rw [Bool.not_eq_true', ← Bool.not_eq_true, List.any_eq_true]
    refine not_congr ⟨fun ⟨q, hq, h⟩ => ?_, fun h => ⟨p, h, by simp [sameP]⟩⟩
    rw [sameP_eq (hDm p hp) (hPm q (List.mem_of_mem_take hq)) h]
    exact hq
  have hsub : D'.Sublist D := by rw [← hD']; exact List.filter_sublist
  by_cases hj : j < P.length
  · rw [List.getElem?_eq_getElem hj]
    have hPj : P[j] ∈ D' := by
      rw [hm]
      refine ⟨s1.subset (List.getElem_mem _), fun h => ?_⟩
      obtain ⟨i, hi, e⟩ := List.getElem_of_mem h
      rw [List.length_take] at hi
      rw [List.getElem_take] at e
      exact List.pairwise_iff_getElem.1 hPn i j (by omega) hj (by omega) e
    cases hb : bestL D' with
    | none =>
      have := bestL_none D' hb
      rw [this] at hPj
      cases hPj
    | some b =>
      obtain ⟨hbm, hall⟩ := bestL_spec (tagOf D) D'.length D' rfl (tag_lt hn' hsub) b hb
      congr 1
      have h1 := hall _ hPj
      obtain ⟨hbD, hbQ⟩ := (hm b).1 hbm
      have hbP := s1.symm.subset hbD
      obtain ⟨i, hi, rfl⟩ := List.getElem_of_mem hbP
      by_cases e : i = j
      · subst e; rfl
      · have hij : j < i := by
          rcases Nat.lt_or_ge i j with h | h
          · exact absurd (List.mem_iff_getElem.2 ⟨i, by rw [List.length_take]; omega, by rw [List.getElem_take]⟩) hbQ
          · omega
        have h2 := List.pairwise_iff_getElem.1 s2 j i hj hi hij
        have e2 : tagOf D P[i] = tagOf D P[j] := by unfold leR at h1 h2; omega
        obtain ⟨x, hx, ex⟩ := List.getElem_of_mem hbD
        obtain ⟨y, hy, ey⟩ := List.getElem_of_mem (s1.subset (List.getElem_mem hj))
        have t1 := tagOf_at hn' hx
        have t2 := tagOf_at hn' hy
        rw [atL_eq hx, ex] at t1
        rw [atL_eq hy, ey] at t2
        have : x = y := by omega
        subst this
        rw [← ex, ← ey]
  · rw [List.getElem?_eq_none (by omega)]
    have : D' = [] := by
      rw [List.eq_nil_iff_forall_not_mem]
      intro p hp
      obtain ⟨h1, h2⟩ := (hm p).1 hp
      rw [List.take_of_length_le (by omega)] at h2
      exact h2 (s1.symm.subset h1)
    rw [this]
    rfl

end Go.Proofs.Ytggnheekkbideaa

/- The document's Fetch (tollgateref24). -/
namespace Go.Proofs.Ytggnheekkbideaa
open Go.RowKit

set_option maxHeartbeats 4000000 in
theorem rfetch_no (w : World) (a : Option Addr) (len cap : Nat) (clock : Int) (wk : ByteArray) (n ticks : Int) (h : ¬ fetchOk clock wk n ticks) :
    Calls Try.prog 26 #[.slice a len cap, .int .i64 clock, .string wk, .int .i64 n, .int .i64 ticks] w fun e w' => e = .returned (.tuple #[.slice none 0 0, .slice none 0 0, .int .i64 1]) ∧ Below w.heap.size w w' := by
  have S1 := Lib.hid (fun W => rname_any W wk)
  rcases fetchOk_not h with h1 | ⟨h1, h2⟩ | ⟨h1, h2, h3 | ⟨h3, h4 | ⟨h4, h5⟩ | ⟨h4, h5, h6⟩ | ⟨h4, h5, h6, h7⟩⟩⟩
  · have d1 : decide (clock < 0) = true := decide_eq_true h1
    clear h h1
    go_enter Try.func26, Try.ntmps26
    go_wp2_with fail
    go_ret3
    exact ⟨rfl, Below.refl _ _⟩
  · have d1 : decide (clock < 0) = false := decide_eq_false (by omega)
    have d2 : decide (1099511627776 < clock) = true := decide_eq_true h2
    clear h h1 h2
    go_enter Try.func26, Try.ntmps26
    go_wp2_with fail
    go_ret3
    exact ⟨rfl, Below.refl _ _⟩
  all_goals
    have d1 : decide (clock < 0) = false := decide_eq_false (by omega)
    have d2 : decide (1099511627776 < clock) = false := decide_eq_false (by omega)
    clear h h1 h2
  · rw [h3] at S1
    clear h3
    go_enter Try.func26, Try.ntmps26
    go_wp2_with (go_at_call 44; refine (S1.out _).mono ?_; rintro e w1 ⟨rfl, rfl⟩)
    go_ret3
    exact ⟨rfl, Below.refl _ _⟩
  · rw [h3] at S1
    have d3 : decide (n < 1) = true := decide_eq_true h4
    clear h3 h4
    go_enter Try.func26, Try.ntmps26
    go_wp2_with (go_at_call 44; refine (S1.out _).mono ?_; rintro e w1 ⟨rfl, rfl⟩)
    go_ret3
    exact ⟨rfl, Below.refl _ _⟩
  · rw [h3] at S1
    have d3 : decide (n < 1) = false := decide_eq_false (by omega)
    have d4 : decide (64 < n) = true := decide_eq_true h5
    clear h3 h4 h5
    go_enter Try.func26, Try.ntmps26
    go_wp2_with (go_at_call 44; refine (S1.out _).mono ?_; rintro e w1 ⟨rfl, rfl⟩)
    go_ret3
    exact ⟨rfl, Below.refl _ _⟩
  · rw [h3] at S1
    have d3 : decide (n < 1) = false := decide_eq_false (by omega)
    have d4 : decide (64 < n) = false := decide_eq_false (by omega)
    have d5 : decide (ticks < 1) = true := decide_eq_true h6
    clear h3 h4 h5 h6
    go_enter Try.func26, Try.ntmps26
    go_wp2_with (go_at_call 44; refine (S1.out _).mono ?_; rintro e w1 ⟨rfl, rfl⟩)
    go_ret3
    exact ⟨rfl, Below.refl _ _⟩
  · rw [h3] at S1
    have d3 : decide (n < 1) = false := decide_eq_false (by omega)
    have d4 : decide (64 < n) = false := decide_eq_false (by omega)
    have d5 : decide (ticks < 1) = false := decide_eq_false (by omega)
    have d6 : decide (1048576 < ticks) = true := decide_eq_true h7
    clear h3 h4 h5 h6 h7
    go_enter Try.func26, Try.ntmps26
    go_wp2_with (go_at_call 44; refine (S1.out _).mono ?_; rintro e w1 ⟨rfl, rfl⟩)
    go_ret3
    exact ⟨rfl, Below.refl _ _⟩


def atV : Option PT → Int | none => -1 | some p => (p.i : Int)
def inV : Option PT → Int | none => -1 | some p => (p.k : Int)
theorem someL_snoc_no {q : Tok → Bool} {L : List PT} {p : PT} (h : q p.t = false) : someL q (L ++ [p]) = someL q L := by unfold someL; rw [List.filter_append]; simp [h]
theorem someL_snoc_yes {q : Tok → Bool} {L : List PT} {p : PT} (h : q p.t = true) : someL q (L ++ [p]) = someL q L ++ [p] := by unfold someL; rw [List.filter_append]; simp [h]
theorem bestL_mem {L : List PT} {b : PT} (h : bestL L = some b) : b ∈ L := by
  have : ∀ (n : Nat) (L : List PT), L.length = n → ∀ b, bestL L = some b → b ∈ L := by
    intro n
    induction n with
    | zero => intro L hL b h; obtain rfl := List.eq_nil_of_length_eq_zero hL; cases h
    | succ n ih =>
      intro L hL b h
      obtain ⟨M, p, rfl⟩ : ∃ M p, L = M ++ [p] := ⟨L.dropLast, L.getLast (by intro e; rw [e] at hL; simp at hL), (List.dropLast_concat_getLast _).symm⟩
      rw [bestL_snoc] at h
      unfold bestP at h
      split at h
      · cases h; simp
      · rename_i c hc
        split at h
        · cases h; simp
        · cases h; exact List.mem_append_left _ (ih M (by simp at hL; exact hL) b hc)
  exact this L.length L rfl b h

/-- The search: the free one with the least number among some instances. -/
def BestAt (c : Int) (L : List PT) (s15 s16 : Value) : Prop := s15 = .int .i64 (atV (bestL (someL (freeB c) L))) ∧ s16 = .int .i64 (inV (bestL (someL (freeB c) L)))

end Go.Proofs.Ytggnheekkbideaa

/- The document's Fetch where it is let. -/
namespace Go.Proofs.Ytggnheekkbideaa
open Go.RowKit

/-- Two cells of a token turned, and a number put behind: what stands. -/
theorem rf_mid {w wo : World} {po gt k9 lo q3 : Nat} {x5 x6 : Value} {vt : Value} {L : List Int} {cs : Array Value} (hpo : wo.heap.size = po) (hcs : wo.heap[gt]? = some (.cells cs 41 (0, 0))) (hT : OwnI wo q3 vt L) (hB : Below lo w wo) (hlo : lo ≤ gt) (hlp : lo ≤ po) (id : Int) :
    ∃ (w7 w8 : World) (s8 : Nat), (wo.setCell ⟨gt, k9 + 5, none⟩ x5).setCell ⟨gt, k9 + 6, none⟩ x6 = w7 ∧ w7.heap.size = po ∧ w7.alloc (.cells #[.int .i64 id] 3) = w8 ∧ w8.heap.size = s8 ∧ po < s8 ∧ Hid (OwnI w8 q3 vt L) ∧ Hid (Below lo w w8) ∧
      Hid (∀ j u, ([.int .i64 id] : List Value)[j]? = some u → w8.cell? ((⟨po, 0, none⟩ : Addr).add j) = some u) := by
  have hw7s : ((wo.setCell ⟨gt, k9 + 5, none⟩ x5).setCell ⟨gt, k9 + 6, none⟩ x6).heap.size = po := by rw [World.size_setCell, World.size_setCell]; exact hpo
  obtain ⟨w7, hw7⟩ : ∃ w7, (wo.setCell ⟨gt, k9 + 5, none⟩ x5).setCell ⟨gt, k9 + 6, none⟩ x6 = w7 := ⟨_, rfl⟩
  rw [hw7] at hw7s
  obtain ⟨w8, s8, hw8, hs8, es8, hb8, -⟩ := alloc_named w7 (.cells #[.int .i64 id] 3) hw7s
  refine ⟨w7, w8, s8, hw7, hw7s, hw8, hs8, by omega, Lib.hid ?_, Lib.hid ?_, Lib.hid ?_⟩
  · exact ownsRow_keepB hT (fun g hg => by
      have h1 := (World.ownsRow.lt hT g hg).2
      have h2 := row_ne hT hcs (by decide) g hg
      rw [hb8.block g (by omega), ← hw7, setCell_far _ _ _ _ _ h2, setCell_far _ _ _ _ _ h2])
  · have h7 : Below lo w w7 := by
      rw [← hw7]
      exact (hB.setCell (p := ⟨gt, k9 + 5, none⟩) hlo x5).setCell (p := ⟨gt, k9 + 6, none⟩) hlo x6
    exact h7.trans (hb8.mono (by omega))
  · have := cells_new w7 #[.int .i64 id] 3
    rw [hw8, hw7s] at this
    exact this
theorem rf_end {w w7 w8 w9 : World} {lo q3 : Nat} {vo vt v9 : Value} {L : List Int} {id : Int} {R : List Ih} (hI : InsO w7 lo vo R) (h8 : w7.alloc (.cells #[.int .i64 id] 3) = w8)
    (hT : OwnI w8 q3 vt L) (hown : w9.ownsRow q3 3 1 v9 (L.length + 1) (L.map (Value.int .i64) ++ [.int .i64 id])) (hg : w8.grownBy w9 vt.ownBlock) (hB : Below lo w w8) (hlq : lo ≤ q3) (hl8 : lo ≤ w8.heap.size) :
    OwnI w9 q3 v9 (L ++ [id]) ∧ InsO w9 lo vo R ∧ Below lo w w9 := by
  have hI8 : InsO w8 lo vo R := hI.kept (by rw [← h8]; exact (Below.refl _ _).alloc (Nat.le_refl _) _)
  refine ⟨?_, ⟨OwnF.grownT hI8.row hT (by decide) hg, OwnH.grownT hI8.own hT (by decide) (by decide) hg⟩, hB.grown hg hl8 (fun k hk => Nat.le_trans hlq (World.ownsRow.lt hT k hk).1)⟩
  unfold OwnI
  rw [List.length_append, List.length_singleton, List.map_append]
  exact hown
theorem fetchF_free (clock : Int) (wk : ByteArray) (ticks : Int) (h : 1 ≤ ticks) : ∀ t, freeB clock (fetchF wk (clock + ticks) t) = false := fun t => by
  unfold freeB fetchF
  simp only
  rw [decide_eq_false (p := clock + ticks ≤ clock) (by omega), Bool.and_false]

set_option maxHeartbeats 16000000 in
theorem rfetch_yes (w : World) (v : Value) (l : List Ins) (clock : Int) (wk : ByteArray) (n ticks : Int) (hI : InsR w w.heap.size v l) (hS : SmL l) (h : fetchOk clock wk n ticks) :
    Calls Try.prog 26 #[v, .int .i64 clock, .string wk, .int .i64 n, .int .i64 ticks] w fun e w' => ∃ vo vt R, e = .returned (.tuple #[vo, vt, .int .i64 0]) ∧ InsO w' w.heap.size vo R ∧
      R.map (·.x) = marks (fetchF wk (clock + ticks)) l (fetchP l clock n) ∧ OwnI w' w.heap.size vt ((fetchP l clock n).map (·.t.id)) ∧ Below w.heap.size w w' := by
  obtain ⟨i0, hti, iz0, iz1, iz2⟩ := info_parts info_int
  obtain ⟨h1, h2, h3, h4, h5, h6, h7⟩ := h
  have S1 := Lib.hid (fun W => rname_any W wk)
  rw [h3] at S1
  have S2 := Lib.hid (rtwin_any w v l hI hS)
  have HS := Lib.hid hS
  have d1 : decide (clock < 0) = false := decide_eq_false (by omega)
  have d2 : decide (1099511627776 < clock) = false := decide_eq_false (by omega)
  have d3 : decide (n < 1) = false := decide_eq_false (by omega)
  have d4 : decide (64 < n) = false := decide_eq_false (by omega)
  have d5 : decide (ticks < 1) = false := decide_eq_false (by omega)
  have d6 : decide (1048576 < ticks) = false := decide_eq_false (by omega)
  obtain ⟨a, c, rfl⟩ := hI.val
  have hll : l.length ≤ 1048576 := hS.1
  clear hI hS h3
  go_enter Try.func26, Try.ntmps26
  go_wp2_with (go_at_call 44; refine (S1.out _).mono ?_; rintro e w1 ⟨rfl, rfl⟩)
  clear d1 d2 d3 d4 d5 d6
  go_wp2_with (go_at_call 11; refine S2.out.mono ?_; rintro e w2 ⟨vo, R0, rfl, hO, hR, hb2⟩; refine Hid.out ?_)
  refine Lib.hid ?_
  obtain ⟨ao, co, hvo⟩ := OwnF.shape hO.row
  rw [show R0.length = l.length by rw [← hR, List.length_map]] at hvo
  subst hvo
  obtain ⟨N, hN⟩ : ∃ N, n.toNat = N := ⟨_, rfl⟩
  have hNn : n = (N : Int) := by omega
  subst hNn
  have hN64 : N ≤ 64 := by omega
  obtain ⟨P, hP⟩ : ∃ P, stableE ltP (someL (freeB clock) (allT l)) = P := ⟨_, rfl⟩
  have hPin : ∀ p ∈ P, p.i < l.length ∧ p.k < (atL l p.i).toks.length ∧ p.t = atL (atL l p.i).toks p.k := fun p hp => by
    rw [← hP] at hp
    obtain ⟨a, b, d, _⟩ := allT_at ((stable_mem l (freeB clock)).1 p hp)
    exact ⟨a, b, d⟩
  have hpick := pick_at (fetchF wk (clock + ticks)) clock (fetchF_free clock wk ticks h6) l
  rw [hP] at hpick
  have HPick := Lib.hid hpick
  have HPin := Lib.hid hPin
  have HPe := Lib.hid hP
  have HO0 := Lib.hid hO
  have HR0 : Hid (R0.map (·.x) = marks (fetchF wk (clock + ticks)) l (P.take 0)) := Lib.hid (by rw [List.take_zero]; exact hR)
  have HB2 := Lib.hid hb2
  have hz2 := hb2.size
  obtain ⟨q3, hq3⟩ : ∃ q3, w2.heap.size = q3 := ⟨_, rfl⟩
  clear hO hR hb2 hpick hPin hP hN
  go_wp2_with fail
  go_loopg [14] N (fun gh s14 wx => ∃ (j : Nat) (R : List Ih), j + gh = N ∧ j ≤ P.length ∧ OwnI wx q3 s14 ((P.take j).map (·.t.id)) ∧ InsO wx w.heap.size (.slice ao l.length co) R ∧ Hid (R.map (·.x) = marks (fetchF wk (clock + ticks)) l (P.take j)) ∧ Below w.heap.size w wx ∧ q3 ≤ wx.heap.size)
  case atStart => exact ⟨0, R0, by omega, by omega, OwnI.nil _ _, HO0.out, HR0, HB2.out, by omega⟩
  case round =>
    obtain ⟨j, R, hjg, hjP, hT, hO, hR, hB, hq⟩ := hrel
    obtain ⟨wo, rfl⟩ : ∃ wo : World, wo = wr := ⟨_, rfl⟩
    obtain ⟨at14, c14, hv14⟩ := hT.shape
    rw [show ((P.take j).map (·.t.id)).length = j by rw [List.length_map, List.length_take]; omega] at hv14
    subst hv14
    have HT := Lib.hid hT
    have HO := Lib.hid hO
    have HB := Lib.hid hB
    by_cases hj : j < N
    · obtain ⟨X, hX⟩ : ∃ X, marks (fetchF wk (clock + ticks)) l (P.take j) = X := ⟨_, rfl⟩
      have hXl : X.length = l.length := by rw [← hX, marks_len]
      have hXs : SmL X := by rw [← hX]; exact marks_small _ _ _ (fun p hp => (HPin.out p (List.mem_of_mem_take hp)).1) HS.out
      have hIX : InsR wo wo.heap.size (.slice ao l.length co) X := hO.readL (by rw [hR.out, hX]) hXs
      have hbest : bestL (someL (freeB clock) (allT X)) = P[j]? := by rw [← hX]; exact HPick.out j
      have HIX := Lib.hid hIX
      have HBest := Lib.hid hbest
      have HX := Lib.hid hX
      have dj : decide ((j : Int) < (N : Int)) = true := decide_eq_true (by omega)
      clear hT hO hB hX hIX hbest
      rw [← hXl] at HIX
      clear dj
      have dj : decide (j < N) = true := decide_eq_true (by omega)
      go_wp2_with fail
      clear dj
      go_loopg [15, 16, 17] l.length (fun gh s15 s16 s17 wx => ∃ i : Nat, i + gh = l.length ∧ s17 = .int .i64 (i : Int) ∧ BestAt clock (allN X i) s15 s16 ∧ Below wo.heap.size wo wx)
      case atStart => exact ⟨0, by omega, rfl, ⟨rfl, rfl⟩, Below.refl _ _⟩
      case round =>
        obtain ⟨i, hig, rfl, hbe, hB⟩ := hrel
        have HBr := Lib.hid hB
        have hBr2 := hB
        have hzo := HB.out.size
        by_cases hi : i < X.length
        · have hIr := HIX.out.mono hB (Nat.le_refl _)
          obtain ⟨b, o, rfl, hb⟩ := hIr.addr (by omega)
          obtain ⟨x, hx⟩ : ∃ x, X[i] = x := ⟨_, rfl⟩
          have hxa : Hid (atL X i = x) := Lib.hid (by rw [atL_eq hi]; exact hx)
          obtain ⟨av, cv, at_, ct0, q0, q1, q2, q3, q4, -, qT⟩ := hIr.at hi hx
          have hTl := qT.len
          have HBE := Lib.hid hbe
          clear hx qT q0 q1 q2 q3 q4 hB hIr hbe hBr2 hzo
          obtain ⟨w1, rfl⟩ : ∃ w1, w1 = wr := ⟨_, rfl⟩
          have di : decide (i < l.length) = true := decide_eq_true (by omega)
          go_wp2_with fail
          clear di
          go_loopg [15, 16, 18] x.toks.length (fun gh s15 s16 s18 wx => ∃ k : Nat, k + gh = x.toks.length ∧ s18 = .int .i64 (k : Int) ∧ Hid (0 < k → x.state = 1) ∧ BestAt clock (allN X i ++ tokN i x k) s15 s16 ∧ Below wo.heap.size wo wx)
          case atStart => exact ⟨0, by omega, rfl, Lib.hid (by omega), by rw [show tokN i x 0 = [] from rfl, List.append_nil]; exact HBE.out, HBr.out⟩
          case round =>
            obtain ⟨k, hkg, rfl, hst, ⟨rfl, rfl⟩, hB1⟩ := hrel
            obtain ⟨wq, rfl⟩ : ∃ wq : World, wq = wr := ⟨_, rfl⟩
            have hIr := HIX.out.mono hB1 (Nat.le_refl _)
            obtain ⟨av', cv', at', ct, q0, -, q2, -, q4, -, qT⟩ := hIr.at hi (x := x) (by rw [← hxa.out, atL_eq hi])
            have HB1 := Lib.hid hB1
            have hzr := hB1.size
            have i1 : (0 : Int) ≤ (i : Int) := by omega
            have i2 : (i : Int) < (l.length : Int) := by omega
            by_cases hk : k < x.toks.length
            · have dk : decide (k < x.toks.length) = true := decide_eq_true (by omega)
              by_cases hs : x.state = 1
              · obtain ⟨bt, ot, rfl, hbt⟩ := qT.addr (by omega)
                obtain ⟨y, hy⟩ : ∃ y, x.toks[k] = y := ⟨_, rfl⟩
                obtain ⟨t0, t1, t2, t3, t4, t5, t6, t7, t8⟩ := tsR_at qT hk hy
                have d1 : (x.state == 1) = true := by simpa using hs
                have hp : Hid (tokN i x (k + 1) = tokN i x k ++ [⟨i, k, y⟩]) := Lib.hid (by rw [tokN_succ, atL_eq hk, hy])
                have hmp : Hid (allN X i ++ tokN i x k <+: allT X) := Lib.hid (mid_pre hi hxa.out hs (by omega))
                have hs' := Lib.hid hs
                have k1 : (0 : Int) ≤ (k : Int) := by omega
                have k2 : (k : Int) < (x.toks.length : Int) := by omega
                obtain ⟨f, hf⟩ : ∃ f, freeB clock y = f := ⟨_, rfl⟩
                have C1 := Lib.hid (fun Wc (hc : Below wq.heap.size wq Wc) => (rfree_any Wc y clock).mono (fun e w' ⟨h1, h2⟩ => (⟨h1.trans (by rw [hf]), hc.trans (h2.mono hc.size)⟩ : e = Ending.returned (.bool f) ∧ Below wq.heap.size wq w')))
                have hcur : Hid (Below wq.heap.size wq wq) := Lib.hid (Below.refl _ _)
                have hbq : b < wq.heap.size := by omega
                have hbtq : bt < wq.heap.size := by omega
                have hkeep : ∀ W', Below wq.heap.size wq W' → (fun w' => w'.cell? ⟨b, o + i * 5 + 4, none⟩ = some (.slice (some ⟨bt, ot, none⟩) x.toks.length ct) ∧ w'.cell? ⟨bt, ot + k * 9, none⟩ = some (.int .i64 y.id) ∧ w'.cell? ⟨bt, ot + k * 9 + 1, none⟩ = some (.string y.here) ∧ w'.cell? ⟨bt, ot + k * 9 + 2, none⟩ = some (.string y.on) ∧ w'.cell? ⟨bt, ot + k * 9 + 3, none⟩ = some (.int .i64 y.born) ∧ w'.cell? ⟨bt, ot + k * 9 + 4, none⟩ = some (.int .i64 y.tries) ∧ w'.cell? ⟨bt, ot + k * 9 + 5, none⟩ = some (.string y.worker) ∧ w'.cell? ⟨bt, ot + k * 9 + 6, none⟩ = some (.int .i64 y.til) ∧ w'.cell? ⟨bt, ot + k * 9 + 7, none⟩ = some (.int .u8 y.inc) ∧ w'.cell? ⟨bt, ot + k * 9 + 8, none⟩ = some (.int .i64 y.err)) W' := fun W' h => by
                  simp only [Below.cellB h hbq, Below.cellB h hbtq]
                  exact ⟨q4, t0, t1, t2, t3, t4, t5, t6, t7, t8⟩
                have HK := Lib.hid hkeep
                obtain ⟨B, hBs⟩ : ∃ B, bestL (someL (freeB clock) (allN X i ++ tokN i x k)) = B := ⟨_, rfl⟩
                have HBs := Lib.hid hBs
                have HF := Lib.hid hf
                have HY := Lib.hid hy
                rw [hBs]
                clear hkeep hBs hf hy qT hIr hB1
                have hnext : ∀ s15 s16 w', BestAt clock (allN X i ++ tokN i x (k + 1)) s15 s16 → Below wq.heap.size wq w' → ∃ k' : Nat, k' + (x.toks.length - (k + 1)) = x.toks.length ∧ Value.int .i64 ((k : Int) + 1) = .int .i64 (k' : Int) ∧ Hid (0 < k' → x.state = 1) ∧ BestAt clock (allN X i ++ tokN i x k') s15 s16 ∧ Below wo.heap.size wo w' :=
                  fun s15 s16 w' h1 h2 => ⟨k + 1, by omega, by go_num, Lib.hid (fun _ => hs'.out), h1, HB1.out.trans (h2.mono HB1.out.size)⟩
                have HNx := Lib.hid hnext
                clear hnext hs
                cases f with
                | false =>
                  have HR : Hid (BestAt clock (allN X i ++ tokN i x (k + 1)) (.int .i64 (atV B)) (.int .i64 (inV B))) := Lib.hid (by
                    unfold BestAt
                    rw [hp.out, ← List.append_assoc, someL_snoc_no (q := freeB clock) (p := ⟨i, k, y⟩) HF.out, HBs.out]
                    exact ⟨rfl, rfl⟩)
                  go_wp2_with fail
                  refine wp_region_held_drew (S := (fun w' => w'.cell? ⟨b, o + i * 5 + 4, none⟩ = some (.slice (some ⟨bt, ot, none⟩) x.toks.length ct) ∧ w'.cell? ⟨bt, ot + k * 9, none⟩ = some (.int .i64 y.id) ∧ w'.cell? ⟨bt, ot + k * 9 + 1, none⟩ = some (.string y.here) ∧ w'.cell? ⟨bt, ot + k * 9 + 2, none⟩ = some (.string y.on) ∧ w'.cell? ⟨bt, ot + k * 9 + 3, none⟩ = some (.int .i64 y.born) ∧ w'.cell? ⟨bt, ot + k * 9 + 4, none⟩ = some (.int .i64 y.tries) ∧ w'.cell? ⟨bt, ot + k * 9 + 5, none⟩ = some (.string y.worker) ∧ w'.cell? ⟨bt, ot + k * 9 + 6, none⟩ = some (.int .i64 y.til) ∧ w'.cell? ⟨bt, ot + k * 9 + 7, none⟩ = some (.int .u8 y.inc) ∧ w'.cell? ⟨bt, ot + k * 9 + 8, none⟩ = some (.int .i64 y.err))) (by kernel_rfl) ?hSA (fun hHeld => ?hRA)
                  case hSA => exact HK.out _ (Below.refl _ _).drew
                  case' hRA => skip
                  refine wpAnyH_take (i := 0) (v := ?vA0) rfl (by kernel_rfl) (by kernel_rfl) (by kernel_rfl) (fun _ _ _ h => h) (Or.inl ⟨by rfl, ?hyA0⟩) (by assumption) ?restA0
                  case hyA0 => ((intro w hSw; (try dsimp only at hSw); go_simp); try with_reducible rfl)
                  try simp only [Act.put, List.setIfInBounds_toArray, List.set_cons_zero, List.set_cons_succ, List.getElem_toArray, List.getElem_cons_zero]
                  refine wpAnyH_take (i := 1) (v := ?vA1) rfl (by kernel_rfl) (by kernel_rfl) (by kernel_rfl) (fun _ _ _ h => h) (Or.inl ⟨by rfl, ?hyA1⟩) (by assumption) ?restA1
                  case hyA1 => ((intro w hSw; (try dsimp only at hSw); go_simp); try with_reducible rfl)
                  try simp only [Act.put, List.setIfInBounds_toArray, List.set_cons_zero, List.set_cons_succ, List.getElem_toArray, List.getElem_cons_succ, List.getElem_cons_zero]
                  refine wpAnyH_take (i := 2) (v := ?vA2) rfl (by kernel_rfl) (by kernel_rfl) (by kernel_rfl) (fun _ _ _ h => h) (Or.inl ⟨by rfl, ?hyA2⟩) (by assumption) ?restA2
                  case hyA2 => ((intro w hSw; (try dsimp only at hSw); go_simp); try with_reducible rfl)
                  try simp only [Act.put, List.setIfInBounds_toArray, List.set_cons_zero, List.set_cons_succ, List.getElem_toArray, List.getElem_cons_succ, List.getElem_cons_zero]
                  refine wpAnyH_take (i := 3) (v := ?vA3) rfl (by kernel_rfl) (by kernel_rfl) (by kernel_rfl) (fun _ _ _ h => h) (Or.inl ⟨by rfl, ?hyA3⟩) (by assumption) ?restA3
                  case hyA3 => ((intro w hSw; (try dsimp only at hSw); go_simp); try with_reducible rfl)
                  try simp only [Act.put, List.setIfInBounds_toArray, List.set_cons_zero, List.set_cons_succ, List.getElem_toArray, List.getElem_cons_succ, List.getElem_cons_zero]
                  refine wpAnyH_take (i := 4) (v := ?vA4) rfl (by kernel_rfl) (by kernel_rfl) (by kernel_rfl) (fun _ _ _ h => h) (Or.inl ⟨by rfl, ?hyA4⟩) (by assumption) ?restA4
                  case hyA4 => ((intro w hSw; (try dsimp only at hSw); go_simp); try with_reducible rfl)
                  try simp only [Act.put, List.setIfInBounds_toArray, List.set_cons_zero, List.set_cons_succ, List.getElem_toArray, List.getElem_cons_succ, List.getElem_cons_zero]
                  refine wpAnyH_take (i := 5) (v := ?vA5) rfl (by kernel_rfl) (by kernel_rfl) (by kernel_rfl) (fun _ _ _ h => h) (Or.inl ⟨by rfl, ?hyA5⟩) (by assumption) ?restA5
                  case hyA5 => ((intro w hSw; (try dsimp only at hSw); go_simp); try with_reducible rfl)
                  try simp only [Act.put, List.setIfInBounds_toArray, List.set_cons_zero, List.set_cons_succ, List.getElem_toArray, List.getElem_cons_succ, List.getElem_cons_zero]
                  refine wpAnyH_take (i := 6) (v := ?vA6) rfl (by kernel_rfl) (by kernel_rfl) (by kernel_rfl) (fun _ _ _ h => h) (Or.inl ⟨by rfl, ?hyA6⟩) (by assumption) ?restA6
                  case hyA6 => ((intro w hSw; (try dsimp only at hSw); go_simp); try with_reducible rfl)
                  try simp only [Act.put, List.setIfInBounds_toArray, List.set_cons_zero, List.set_cons_succ, List.getElem_toArray, List.getElem_cons_succ, List.getElem_cons_zero]
                  refine wpAnyH_take (i := 7) (v := ?vA7) rfl (by kernel_rfl) (by kernel_rfl) (by kernel_rfl) (fun _ _ _ h => h) (Or.inl ⟨by rfl, ?hyA7⟩) (by assumption) ?restA7
                  case hyA7 => ((intro w hSw; (try dsimp only at hSw); go_simp); try with_reducible rfl)
                  try simp only [Act.put, List.setIfInBounds_toArray, List.set_cons_zero, List.set_cons_succ, List.getElem_toArray, List.getElem_cons_succ, List.getElem_cons_zero]
                  refine wpAnyH_take (i := 8) (v := ?vA8) rfl (by kernel_rfl) (by kernel_rfl) (by kernel_rfl) (fun _ _ _ h => h) (Or.inl ⟨by rfl, ?hyA8⟩) (by assumption) ?restA8
                  case hyA8 => ((intro w hSw; (try dsimp only at hSw); go_simp); try with_reducible rfl)
                  try simp only [Act.put, List.setIfInBounds_toArray, List.set_cons_zero, List.set_cons_succ, List.getElem_toArray, List.getElem_cons_succ, List.getElem_cons_zero]
                  refine wpAnyH_ready (rs := [9]) (by kernel_rfl) (by simp) ?_
                  refine AllReadyH.cons rfl (fun K hK => ?_) AllReadyH.nil
                  try simp only [List.getElem_toArray, List.getElem_cons_succ, List.getElem_cons_zero]
                  go_simp
                  (with_reducible refine (C1.out _ ?_).mono ?_)
                  (focus (first | exact hcur.out.drew | exact hcur.out))
                  rintro e wz ⟨rfl, hbz⟩
                  clear hcur; have hcur := Lib.hid hbz; clear hbz
                  refine hK.out _ _ ?hSA9 (fun hHeld => ?hRA9)
                  case hSA9 => (first | exact HK.out _ hcur.out | go_keep)
                  case' hRA9 => clear hK K
                  try simp only [Act.put, List.setIfInBounds_toArray, List.set_cons_zero, List.set_cons_succ, List.getElem_toArray, List.getElem_cons_succ, List.getElem_cons_zero]
                  refine wpAnyH_take (i := 10) (v := ?vA10) rfl (by kernel_rfl) (by kernel_rfl) (by kernel_rfl) (fun _ _ _ h => h) (Or.inl ⟨by rfl, ?hyA10⟩) (by assumption) ?restA10
                  case hyA10 => ((intro w hSw; (try dsimp only at hSw); go_simp); try with_reducible rfl)
                  try simp only [Act.put, List.setIfInBounds_toArray, List.set_cons_zero, List.set_cons_succ, List.getElem_toArray, List.getElem_cons_succ, List.getElem_cons_zero]
                  refine wpAnyH_take (i := 11) (v := undef) rfl (by kernel_rfl) (by kernel_rfl) (by kernel_rfl) (fun _ _ _ h => h) (Or.inr ⟨by rfl, rfl⟩) (by assumption) ?_
                  try simp only [Act.put, List.setIfInBounds_toArray, List.set_cons_zero, List.set_cons_succ, List.getElem_toArray, List.getElem_cons_succ, List.getElem_cons_zero]
                  refine wpAnyH_take (i := 12) (v := undef) rfl (by kernel_rfl) (by kernel_rfl) (by kernel_rfl) (fun _ _ _ h => h) (Or.inr ⟨by rfl, rfl⟩) (by assumption) ?_
                  try simp only [Act.put, List.setIfInBounds_toArray, List.set_cons_zero, List.set_cons_succ, List.getElem_toArray, List.getElem_cons_succ, List.getElem_cons_zero]
                  refine wpAnyH_take (i := 13) (v := undef) rfl (by kernel_rfl) (by kernel_rfl) (by kernel_rfl) (fun _ _ _ h => h) (Or.inr ⟨by rfl, rfl⟩) (by assumption) ?_
                  try simp only [Act.put, List.setIfInBounds_toArray, List.set_cons_zero, List.set_cons_succ, List.getElem_toArray, List.getElem_cons_succ, List.getElem_cons_zero]
                  refine wpAnyH_take (i := 14) (v := undef) rfl (by kernel_rfl) (by kernel_rfl) (by kernel_rfl) (fun _ _ _ h => h) (Or.inr ⟨by rfl, rfl⟩) (by assumption) ?_
                  try simp only [Act.put, List.setIfInBounds_toArray, List.set_cons_zero, List.set_cons_succ, List.getElem_toArray, List.getElem_cons_succ, List.getElem_cons_zero]
                  refine wpAnyH_take (i := 15) (v := undef) rfl (by kernel_rfl) (by kernel_rfl) (by kernel_rfl) (fun _ _ _ h => h) (Or.inr ⟨by rfl, rfl⟩) (by assumption) ?_
                  try simp only [Act.put, List.setIfInBounds_toArray, List.set_cons_zero, List.set_cons_succ, List.getElem_toArray, List.getElem_cons_succ, List.getElem_cons_zero]
                  refine wpAnyH_take (i := 16) (v := undef) rfl (by kernel_rfl) (by kernel_rfl) (by kernel_rfl) (fun _ _ _ h => h) (Or.inr ⟨by rfl, rfl⟩) (by assumption) ?_
                  try simp only [Act.put, List.setIfInBounds_toArray, List.set_cons_zero, List.set_cons_succ, List.getElem_toArray, List.getElem_cons_succ, List.getElem_cons_zero]
                  refine wpAnyH_take (i := 17) (v := undef) rfl (by kernel_rfl) (by kernel_rfl) (by kernel_rfl) (fun _ _ _ h => h) (Or.inr ⟨by rfl, rfl⟩) (by assumption) ?_
                  try simp only [Act.put, List.setIfInBounds_toArray, List.set_cons_zero, List.set_cons_succ, List.getElem_toArray, List.getElem_cons_succ, List.getElem_cons_zero]
                  refine wpAnyH_take (i := 18) (v := undef) rfl (by kernel_rfl) (by kernel_rfl) (by kernel_rfl) (fun _ _ _ h => h) (Or.inr ⟨by rfl, rfl⟩) (by assumption) ?_
                  try simp only [Act.put, List.setIfInBounds_toArray, List.set_cons_zero, List.set_cons_succ, List.getElem_toArray, List.getElem_cons_succ, List.getElem_cons_zero]
                  refine wpAnyH_take (i := 19) (v := undef) rfl (by kernel_rfl) (by kernel_rfl) (by kernel_rfl) (fun _ _ _ h => h) (Or.inr ⟨by rfl, rfl⟩) (by assumption) ?_
                  try simp only [Act.put, List.setIfInBounds_toArray, List.set_cons_zero, List.set_cons_succ, List.getElem_toArray, List.getElem_cons_succ, List.getElem_cons_zero]
                  refine wpAnyH_take (i := 20) (v := undef) rfl (by kernel_rfl) (by kernel_rfl) (by kernel_rfl) (fun _ _ _ h => h) (Or.inr ⟨by rfl, rfl⟩) (by assumption) ?_
                  try simp only [Act.put, List.setIfInBounds_toArray, List.set_cons_zero, List.set_cons_succ, List.getElem_toArray, List.getElem_cons_succ, List.getElem_cons_zero]
                  refine wpAnyH_take (i := 21) (v := undef) rfl (by kernel_rfl) (by kernel_rfl) (by kernel_rfl) (fun _ _ _ h => h) (Or.inr ⟨by rfl, rfl⟩) (by assumption) ?_
                  try simp only [Act.put, List.setIfInBounds_toArray, List.set_cons_zero, List.set_cons_succ, List.getElem_toArray, List.getElem_cons_succ, List.getElem_cons_zero]
                  refine wpAnyH_take (i := 22) (v := undef) rfl (by kernel_rfl) (by kernel_rfl) (by kernel_rfl) (fun _ _ _ h => h) (Or.inr ⟨by rfl, rfl⟩) (by assumption) ?_
                  try simp only [Act.put, List.setIfInBounds_toArray, List.set_cons_zero, List.set_cons_succ, List.getElem_toArray, List.getElem_cons_succ, List.getElem_cons_zero]
                  refine wpAnyH_take (i := 23) (v := undef) rfl (by kernel_rfl) (by kernel_rfl) (by kernel_rfl) (fun _ _ _ h => h) (Or.inr ⟨by rfl, rfl⟩) (by assumption) ?_
                  try simp only [Act.put, List.setIfInBounds_toArray, List.set_cons_zero, List.set_cons_succ, List.getElem_toArray, List.getElem_cons_succ, List.getElem_cons_zero]
                  refine wpAnyH_take (i := 24) (v := undef) rfl (by kernel_rfl) (by kernel_rfl) (by kernel_rfl) (fun _ _ _ h => h) (Or.inr ⟨by rfl, rfl⟩) (by assumption) ?_
                  try simp only [Act.put, List.setIfInBounds_toArray, List.set_cons_zero, List.set_cons_succ, List.getElem_toArray, List.getElem_cons_succ, List.getElem_cons_zero]
                  refine wpAnyH_take (i := 25) (v := undef) rfl (by kernel_rfl) (by kernel_rfl) (by kernel_rfl) (fun _ _ _ h => h) (Or.inr ⟨by rfl, rfl⟩) (by assumption) ?_
                  try simp only [Act.put, List.setIfInBounds_toArray, List.set_cons_zero, List.set_cons_succ, List.getElem_toArray, List.getElem_cons_succ, List.getElem_cons_zero]
                  refine wpAnyH_take (i := 26) (v := undef) rfl (by kernel_rfl) (by kernel_rfl) (by kernel_rfl) (fun _ _ _ h => h) (Or.inr ⟨by rfl, rfl⟩) (by assumption) ?_
                  try simp only [Act.put, List.setIfInBounds_toArray, List.set_cons_zero, List.set_cons_succ, List.getElem_toArray, List.getElem_cons_succ, List.getElem_cons_zero]
                  refine wpAnyH_take (i := 27) (v := undef) rfl (by kernel_rfl) (by kernel_rfl) (by kernel_rfl) (fun _ _ _ h => h) (Or.inr ⟨by rfl, rfl⟩) (by assumption) ?_
                  try simp only [Act.put, List.setIfInBounds_toArray, List.set_cons_zero, List.set_cons_succ, List.getElem_toArray, List.getElem_cons_succ, List.getElem_cons_zero]
                  refine wpAnyH_take (i := 28) (v := undef) rfl (by kernel_rfl) (by kernel_rfl) (by kernel_rfl) (fun _ _ _ h => h) (Or.inr ⟨by rfl, rfl⟩) (by assumption) ?_
                  try simp only [Act.put, List.setIfInBounds_toArray, List.set_cons_zero, List.set_cons_succ, List.getElem_toArray, List.getElem_cons_succ, List.getElem_cons_zero]
                  refine wpAnyH_take (i := 29) (v := undef) rfl (by kernel_rfl) (by kernel_rfl) (by kernel_rfl) (fun _ _ _ h => h) (Or.inr ⟨by rfl, rfl⟩) (by assumption) ?_
                  try simp only [Act.put, List.setIfInBounds_toArray, List.set_cons_zero, List.set_cons_succ, List.getElem_toArray, List.getElem_cons_succ, List.getElem_cons_zero]
                  refine wpAnyH_take (i := 30) (v := undef) rfl (by kernel_rfl) (by kernel_rfl) (by kernel_rfl) (fun _ _ _ h => h) (Or.inr ⟨by rfl, rfl⟩) (by assumption) ?_
                  try simp only [Act.put, List.setIfInBounds_toArray, List.set_cons_zero, List.set_cons_succ, List.getElem_toArray, List.getElem_cons_succ, List.getElem_cons_zero]
                  refine wpAnyH_take (i := 31) (v := undef) rfl (by kernel_rfl) (by kernel_rfl) (by kernel_rfl) (fun _ _ _ h => h) (Or.inr ⟨by rfl, rfl⟩) (by assumption) ?_
                  try simp only [Act.put, List.setIfInBounds_toArray, List.set_cons_zero, List.set_cons_succ, List.getElem_toArray, List.getElem_cons_succ, List.getElem_cons_zero]
                  refine wpAnyH_take (i := 32) (v := undef) rfl (by kernel_rfl) (by kernel_rfl) (by kernel_rfl) (fun _ _ _ h => h) (Or.inr ⟨by rfl, rfl⟩) (by assumption) ?_
                  try simp only [Act.put, List.setIfInBounds_toArray, List.set_cons_zero, List.set_cons_succ, List.getElem_toArray, List.getElem_cons_succ, List.getElem_cons_zero]
                  refine wpAnyH_take (i := 33) (v := undef) rfl (by kernel_rfl) (by kernel_rfl) (by kernel_rfl) (fun _ _ _ h => h) (Or.inr ⟨by rfl, rfl⟩) (by assumption) ?_
                  try simp only [Act.put, List.setIfInBounds_toArray, List.set_cons_zero, List.set_cons_succ, List.getElem_toArray, List.getElem_cons_succ, List.getElem_cons_zero]
                  refine wpAnyH_take (i := 34) (v := ?vA34) rfl (by kernel_rfl) (by kernel_rfl) (by kernel_rfl) (fun _ _ _ h => h) (Or.inl ⟨by rfl, ?hyA34⟩) (by assumption) ?restA34
                  case hyA34 => ((intro w hSw; (try dsimp only at hSw); go_simp); try with_reducible rfl)
                  try simp only [Act.put, List.setIfInBounds_toArray, List.set_cons_zero, List.set_cons_succ, List.getElem_toArray, List.getElem_cons_succ, List.getElem_cons_zero]
                  refine wpAnyH_done (by kernel_rfl) ?_ _
                  go_wp2_with fail
                  go_roundg (x.toks.length - (k + 1))
                  case measure => omega
                  case rel => exact HNx.out _ _ _ HR.out hcur.out
                | true =>
                  cases B with
                  | none =>
                    have HR : Hid (BestAt clock (allN X i ++ tokN i x (k + 1)) (.int .i64 (i : Int)) (.int .i64 (k : Int))) := Lib.hid (by
                      unfold BestAt
                      rw [hp.out, ← List.append_assoc, someL_snoc_yes (q := freeB clock) (p := ⟨i, k, y⟩) HF.out, bestL_snoc, HBs.out]
                      exact ⟨rfl, rfl⟩)
                    go_wp2_with fail
                    refine wp_region_held_drew (S := (fun w' => w'.cell? ⟨b, o + i * 5 + 4, none⟩ = some (.slice (some ⟨bt, ot, none⟩) x.toks.length ct) ∧ w'.cell? ⟨bt, ot + k * 9, none⟩ = some (.int .i64 y.id) ∧ w'.cell? ⟨bt, ot + k * 9 + 1, none⟩ = some (.string y.here) ∧ w'.cell? ⟨bt, ot + k * 9 + 2, none⟩ = some (.string y.on) ∧ w'.cell? ⟨bt, ot + k * 9 + 3, none⟩ = some (.int .i64 y.born) ∧ w'.cell? ⟨bt, ot + k * 9 + 4, none⟩ = some (.int .i64 y.tries) ∧ w'.cell? ⟨bt, ot + k * 9 + 5, none⟩ = some (.string y.worker) ∧ w'.cell? ⟨bt, ot + k * 9 + 6, none⟩ = some (.int .i64 y.til) ∧ w'.cell? ⟨bt, ot + k * 9 + 7, none⟩ = some (.int .u8 y.inc) ∧ w'.cell? ⟨bt, ot + k * 9 + 8, none⟩ = some (.int .i64 y.err))) (by kernel_rfl) ?hSB (fun hHeld => ?hRB)
                    case hSB => exact HK.out _ (Below.refl _ _).drew
                    case' hRB => skip
                    refine wpAnyH_take (i := 0) (v := ?vB0) rfl (by kernel_rfl) (by kernel_rfl) (by kernel_rfl) (fun _ _ _ h => h) (Or.inl ⟨by rfl, ?hyB0⟩) (by assumption) ?restB0
                    case hyB0 => ((intro w hSw; (try dsimp only at hSw); go_simp); try with_reducible rfl)
                    try simp only [Act.put, List.setIfInBounds_toArray, List.set_cons_zero, List.set_cons_succ, List.getElem_toArray, List.getElem_cons_zero]
                    refine wpAnyH_take (i := 1) (v := ?vB1) rfl (by kernel_rfl) (by kernel_rfl) (by kernel_rfl) (fun _ _ _ h => h) (Or.inl ⟨by rfl, ?hyB1⟩) (by assumption) ?restB1
                    case hyB1 => ((intro w hSw; (try dsimp only at hSw); go_simp); try with_reducible rfl)
                    try simp only [Act.put, List.setIfInBounds_toArray, List.set_cons_zero, List.set_cons_succ, List.getElem_toArray, List.getElem_cons_succ, List.getElem_cons_zero]
                    refine wpAnyH_take (i := 2) (v := ?vB2) rfl (by kernel_rfl) (by kernel_rfl) (by kernel_rfl) (fun _ _ _ h => h) (Or.inl ⟨by rfl, ?hyB2⟩) (by assumption) ?restB2
                    case hyB2 => ((intro w hSw; (try dsimp only at hSw); go_simp); try with_reducible rfl)
                    try simp only [Act.put, List.setIfInBounds_toArray, List.set_cons_zero, List.set_cons_succ, List.getElem_toArray, List.getElem_cons_succ, List.getElem_cons_zero]
                    refine wpAnyH_take (i := 3) (v := ?vB3) rfl (by kernel_rfl) (by kernel_rfl) (by kernel_rfl) (fun _ _ _ h => h) (Or.inl ⟨by rfl, ?hyB3⟩) (by assumption) ?restB3
                    case hyB3 => ((intro w hSw; (try dsimp only at hSw); go_simp); try with_reducible rfl)
                    try simp only [Act.put, List.setIfInBounds_toArray, List.set_cons_zero, List.set_cons_succ, List.getElem_toArray, List.getElem_cons_succ, List.getElem_cons_zero]
                    refine wpAnyH_take (i := 4) (v := ?vB4) rfl (by kernel_rfl) (by kernel_rfl) (by kernel_rfl) (fun _ _ _ h => h) (Or.inl ⟨by rfl, ?hyB4⟩) (by assumption) ?restB4
                    case hyB4 => ((intro w hSw; (try dsimp only at hSw); go_simp); try with_reducible rfl)
                    try simp only [Act.put, List.setIfInBounds_toArray, List.set_cons_zero, List.set_cons_succ, List.getElem_toArray, List.getElem_cons_succ, List.getElem_cons_zero]
                    refine wpAnyH_take (i := 5) (v := ?vB5) rfl (by kernel_rfl) (by kernel_rfl) (by kernel_rfl) (fun _ _ _ h => h) (Or.inl ⟨by rfl, ?hyB5⟩) (by assumption) ?restB5
                    case hyB5 => ((intro w hSw; (try dsimp only at hSw); go_simp); try with_reducible rfl)
                    try simp only [Act.put, List.setIfInBounds_toArray, List.set_cons_zero, List.set_cons_succ, List.getElem_toArray, List.getElem_cons_succ, List.getElem_cons_zero]
                    refine wpAnyH_take (i := 6) (v := ?vB6) rfl (by kernel_rfl) (by kernel_rfl) (by kernel_rfl) (fun _ _ _ h => h) (Or.inl ⟨by rfl, ?hyB6⟩) (by assumption) ?restB6
                    case hyB6 => ((intro w hSw; (try dsimp only at hSw); go_simp); try with_reducible rfl)
                    try simp only [Act.put, List.setIfInBounds_toArray, List.set_cons_zero, List.set_cons_succ, List.getElem_toArray, List.getElem_cons_succ, List.getElem_cons_zero]
                    refine wpAnyH_take (i := 7) (v := ?vB7) rfl (by kernel_rfl) (by kernel_rfl) (by kernel_rfl) (fun _ _ _ h => h) (Or.inl ⟨by rfl, ?hyB7⟩) (by assumption) ?restB7
                    case hyB7 => ((intro w hSw; (try dsimp only at hSw); go_simp); try with_reducible rfl)
                    try simp only [Act.put, List.setIfInBounds_toArray, List.set_cons_zero, List.set_cons_succ, List.getElem_toArray, List.getElem_cons_succ, List.getElem_cons_zero]
                    refine wpAnyH_take (i := 8) (v := ?vB8) rfl (by kernel_rfl) (by kernel_rfl) (by kernel_rfl) (fun _ _ _ h => h) (Or.inl ⟨by rfl, ?hyB8⟩) (by assumption) ?restB8
                    case hyB8 => ((intro w hSw; (try dsimp only at hSw); go_simp); try with_reducible rfl)
                    try simp only [Act.put, List.setIfInBounds_toArray, List.set_cons_zero, List.set_cons_succ, List.getElem_toArray, List.getElem_cons_succ, List.getElem_cons_zero]
                    refine wpAnyH_ready (rs := [9]) (by kernel_rfl) (by simp) ?_
                    refine AllReadyH.cons rfl (fun K hK => ?_) AllReadyH.nil
                    try simp only [List.getElem_toArray, List.getElem_cons_succ, List.getElem_cons_zero]
                    go_simp
                    (with_reducible refine (C1.out _ ?_).mono ?_)
                    (focus (first | exact hcur.out.drew | exact hcur.out))
                    rintro e wz ⟨rfl, hbz⟩
                    clear hcur; have hcur := Lib.hid hbz; clear hbz
                    refine hK.out _ _ ?hSB9 (fun hHeld => ?hRB9)
                    case hSB9 => (first | exact HK.out _ hcur.out | go_keep)
                    case' hRB9 => clear hK K
                    try simp only [Act.put, List.setIfInBounds_toArray, List.set_cons_zero, List.set_cons_succ, List.getElem_toArray, List.getElem_cons_succ, List.getElem_cons_zero]
                    refine wpAnyH_take (i := 10) (v := ?vB10) rfl (by kernel_rfl) (by kernel_rfl) (by kernel_rfl) (fun _ _ _ h => h) (Or.inl ⟨by rfl, ?hyB10⟩) (by assumption) ?restB10
                    case hyB10 => ((intro w hSw; (try dsimp only at hSw); go_simp); try with_reducible rfl)
                    try simp only [Act.put, List.setIfInBounds_toArray, List.set_cons_zero, List.set_cons_succ, List.getElem_toArray, List.getElem_cons_succ, List.getElem_cons_zero]
                    refine wpAnyH_take (i := 11) (v := ?vB11) rfl (by kernel_rfl) (by kernel_rfl) (by kernel_rfl) (fun _ _ _ h => h) (Or.inl ⟨by rfl, ?hyB11⟩) (by assumption) ?restB11
                    case hyB11 => ((intro w hSw; (try dsimp only at hSw); go_simp); try with_reducible rfl)
                    try simp only [Act.put, List.setIfInBounds_toArray, List.set_cons_zero, List.set_cons_succ, List.getElem_toArray, List.getElem_cons_succ, List.getElem_cons_zero]
                    refine wpAnyH_take (i := 12) (v := ?vB12) rfl (by kernel_rfl) (by kernel_rfl) (by kernel_rfl) (fun _ _ _ h => h) (Or.inl ⟨by rfl, ?hyB12⟩) (by assumption) ?restB12
                    case hyB12 => ((intro w hSw; (try dsimp only at hSw); go_simp); try with_reducible rfl)
                    try simp only [Act.put, List.setIfInBounds_toArray, List.set_cons_zero, List.set_cons_succ, List.getElem_toArray, List.getElem_cons_succ, List.getElem_cons_zero]
                    refine wpAnyH_take (i := 13) (v := ?vB13) rfl (by kernel_rfl) (by kernel_rfl) (by kernel_rfl) (fun _ _ _ h => h) (Or.inl ⟨by rfl, ?hyB13⟩) (by assumption) ?restB13
                    case hyB13 => ((intro w hSw; (try dsimp only at hSw); go_simp); try with_reducible rfl)
                    try simp only [Act.put, List.setIfInBounds_toArray, List.set_cons_zero, List.set_cons_succ, List.getElem_toArray, List.getElem_cons_succ, List.getElem_cons_zero]
                    refine wpAnyH_take (i := 14) (v := undef) rfl (by kernel_rfl) (by kernel_rfl) (by kernel_rfl) (fun _ _ _ h => h) (Or.inr ⟨by rfl, rfl⟩) (by assumption) ?_
                    try simp only [Act.put, List.setIfInBounds_toArray, List.set_cons_zero, List.set_cons_succ, List.getElem_toArray, List.getElem_cons_succ, List.getElem_cons_zero]
                    refine wpAnyH_take (i := 15) (v := undef) rfl (by kernel_rfl) (by kernel_rfl) (by kernel_rfl) (fun _ _ _ h => h) (Or.inr ⟨by rfl, rfl⟩) (by assumption) ?_
                    try simp only [Act.put, List.setIfInBounds_toArray, List.set_cons_zero, List.set_cons_succ, List.getElem_toArray, List.getElem_cons_succ, List.getElem_cons_zero]
                    refine wpAnyH_take (i := 16) (v := undef) rfl (by kernel_rfl) (by kernel_rfl) (by kernel_rfl) (fun _ _ _ h => h) (Or.inr ⟨by rfl, rfl⟩) (by assumption) ?_
                    try simp only [Act.put, List.setIfInBounds_toArray, List.set_cons_zero, List.set_cons_succ, List.getElem_toArray, List.getElem_cons_succ, List.getElem_cons_zero]
                    refine wpAnyH_take (i := 17) (v := undef) rfl (by kernel_rfl) (by kernel_rfl) (by kernel_rfl) (fun _ _ _ h => h) (Or.inr ⟨by rfl, rfl⟩) (by assumption) ?_
                    try simp only [Act.put, List.setIfInBounds_toArray, List.set_cons_zero, List.set_cons_succ, List.getElem_toArray, List.getElem_cons_succ, List.getElem_cons_zero]
                    refine wpAnyH_take (i := 18) (v := undef) rfl (by kernel_rfl) (by kernel_rfl) (by kernel_rfl) (fun _ _ _ h => h) (Or.inr ⟨by rfl, rfl⟩) (by assumption) ?_
                    try simp only [Act.put, List.setIfInBounds_toArray, List.set_cons_zero, List.set_cons_succ, List.getElem_toArray, List.getElem_cons_succ, List.getElem_cons_zero]
                    refine wpAnyH_take (i := 19) (v := undef) rfl (by kernel_rfl) (by kernel_rfl) (by kernel_rfl) (fun _ _ _ h => h) (Or.inr ⟨by rfl, rfl⟩) (by assumption) ?_
                    try simp only [Act.put, List.setIfInBounds_toArray, List.set_cons_zero, List.set_cons_succ, List.getElem_toArray, List.getElem_cons_succ, List.getElem_cons_zero]
                    refine wpAnyH_take (i := 20) (v := undef) rfl (by kernel_rfl) (by kernel_rfl) (by kernel_rfl) (fun _ _ _ h => h) (Or.inr ⟨by rfl, rfl⟩) (by assumption) ?_
                    try simp only [Act.put, List.setIfInBounds_toArray, List.set_cons_zero, List.set_cons_succ, List.getElem_toArray, List.getElem_cons_succ, List.getElem_cons_zero]
                    refine wpAnyH_take (i := 21) (v := undef) rfl (by kernel_rfl) (by kernel_rfl) (by kernel_rfl) (fun _ _ _ h => h) (Or.inr ⟨by rfl, rfl⟩) (by assumption) ?_
                    try simp only [Act.put, List.setIfInBounds_toArray, List.set_cons_zero, List.set_cons_succ, List.getElem_toArray, List.getElem_cons_succ, List.getElem_cons_zero]
                    refine wpAnyH_take (i := 22) (v := undef) rfl (by kernel_rfl) (by kernel_rfl) (by kernel_rfl) (fun _ _ _ h => h) (Or.inr ⟨by rfl, rfl⟩) (by assumption) ?_
                    try simp only [Act.put, List.setIfInBounds_toArray, List.set_cons_zero, List.set_cons_succ, List.getElem_toArray, List.getElem_cons_succ, List.getElem_cons_zero]
                    refine wpAnyH_take (i := 23) (v := undef) rfl (by kernel_rfl) (by kernel_rfl) (by kernel_rfl) (fun _ _ _ h => h) (Or.inr ⟨by rfl, rfl⟩) (by assumption) ?_
                    try simp only [Act.put, List.setIfInBounds_toArray, List.set_cons_zero, List.set_cons_succ, List.getElem_toArray, List.getElem_cons_succ, List.getElem_cons_zero]
                    refine wpAnyH_take (i := 24) (v := undef) rfl (by kernel_rfl) (by kernel_rfl) (by kernel_rfl) (fun _ _ _ h => h) (Or.inr ⟨by rfl, rfl⟩) (by assumption) ?_
                    try simp only [Act.put, List.setIfInBounds_toArray, List.set_cons_zero, List.set_cons_succ, List.getElem_toArray, List.getElem_cons_succ, List.getElem_cons_zero]
                    refine wpAnyH_take (i := 25) (v := undef) rfl (by kernel_rfl) (by kernel_rfl) (by kernel_rfl) (fun _ _ _ h => h) (Or.inr ⟨by rfl, rfl⟩) (by assumption) ?_
                    try simp only [Act.put, List.setIfInBounds_toArray, List.set_cons_zero, List.set_cons_succ, List.getElem_toArray, List.getElem_cons_succ, List.getElem_cons_zero]
                    refine wpAnyH_take (i := 26) (v := undef) rfl (by kernel_rfl) (by kernel_rfl) (by kernel_rfl) (fun _ _ _ h => h) (Or.inr ⟨by rfl, rfl⟩) (by assumption) ?_
                    try simp only [Act.put, List.setIfInBounds_toArray, List.set_cons_zero, List.set_cons_succ, List.getElem_toArray, List.getElem_cons_succ, List.getElem_cons_zero]
                    refine wpAnyH_take (i := 27) (v := undef) rfl (by kernel_rfl) (by kernel_rfl) (by kernel_rfl) (fun _ _ _ h => h) (Or.inr ⟨by rfl, rfl⟩) (by assumption) ?_
                    try simp only [Act.put, List.setIfInBounds_toArray, List.set_cons_zero, List.set_cons_succ, List.getElem_toArray, List.getElem_cons_succ, List.getElem_cons_zero]
                    refine wpAnyH_take (i := 28) (v := undef) rfl (by kernel_rfl) (by kernel_rfl) (by kernel_rfl) (fun _ _ _ h => h) (Or.inr ⟨by rfl, rfl⟩) (by assumption) ?_
                    try simp only [Act.put, List.setIfInBounds_toArray, List.set_cons_zero, List.set_cons_succ, List.getElem_toArray, List.getElem_cons_succ, List.getElem_cons_zero]
                    refine wpAnyH_take (i := 29) (v := undef) rfl (by kernel_rfl) (by kernel_rfl) (by kernel_rfl) (fun _ _ _ h => h) (Or.inr ⟨by rfl, rfl⟩) (by assumption) ?_
                    try simp only [Act.put, List.setIfInBounds_toArray, List.set_cons_zero, List.set_cons_succ, List.getElem_toArray, List.getElem_cons_succ, List.getElem_cons_zero]
                    refine wpAnyH_take (i := 30) (v := undef) rfl (by kernel_rfl) (by kernel_rfl) (by kernel_rfl) (fun _ _ _ h => h) (Or.inr ⟨by rfl, rfl⟩) (by assumption) ?_
                    try simp only [Act.put, List.setIfInBounds_toArray, List.set_cons_zero, List.set_cons_succ, List.getElem_toArray, List.getElem_cons_succ, List.getElem_cons_zero]
                    refine wpAnyH_take (i := 31) (v := undef) rfl (by kernel_rfl) (by kernel_rfl) (by kernel_rfl) (fun _ _ _ h => h) (Or.inr ⟨by rfl, rfl⟩) (by assumption) ?_
                    try simp only [Act.put, List.setIfInBounds_toArray, List.set_cons_zero, List.set_cons_succ, List.getElem_toArray, List.getElem_cons_succ, List.getElem_cons_zero]
                    refine wpAnyH_take (i := 32) (v := undef) rfl (by kernel_rfl) (by kernel_rfl) (by kernel_rfl) (fun _ _ _ h => h) (Or.inr ⟨by rfl, rfl⟩) (by assumption) ?_
                    try simp only [Act.put, List.setIfInBounds_toArray, List.set_cons_zero, List.set_cons_succ, List.getElem_toArray, List.getElem_cons_succ, List.getElem_cons_zero]
                    refine wpAnyH_take (i := 33) (v := ?vB33) rfl (by kernel_rfl) (by kernel_rfl) (by kernel_rfl) (fun _ _ _ h => h) (Or.inl ⟨by rfl, ?hyB33⟩) (by assumption) ?restB33
                    case hyB33 => ((intro w hSw; (try dsimp only at hSw); go_simp); try with_reducible rfl)
                    try simp only [Act.put, List.setIfInBounds_toArray, List.set_cons_zero, List.set_cons_succ, List.getElem_toArray, List.getElem_cons_succ, List.getElem_cons_zero]
                    refine wpAnyH_take (i := 34) (v := ?vB34) rfl (by kernel_rfl) (by kernel_rfl) (by kernel_rfl) (fun _ _ _ h => h) (Or.inl ⟨by rfl, ?hyB34⟩) (by assumption) ?restB34
                    case hyB34 => ((intro w hSw; (try dsimp only at hSw); go_simp); try with_reducible rfl)
                    try simp only [Act.put, List.setIfInBounds_toArray, List.set_cons_zero, List.set_cons_succ, List.getElem_toArray, List.getElem_cons_succ, List.getElem_cons_zero]
                    refine wpAnyH_done (by kernel_rfl) ?_ _
                    go_wp2_with fail
                    go_roundg (x.toks.length - (k + 1))
                    case measure => omega
                    case rel => exact HNx.out _ _ _ HR.out hcur.out
                  | some p =>
                    have hpm : p ∈ allT X := hmp.out.subset (List.mem_filter.1 (bestL_mem HBs.out)).1
                    obtain ⟨bp, op, np, cp, k3, k4, -, u4, u0, -, -, -, -, -, -, -, -, -, hbp⟩ := (HIX.out.mono HB1.out (Nat.le_refl _)).placeT hpm
                    have hbpq : bp < wq.heap.size := by omega
                    obtain ⟨j1, -, -, -⟩ := allT_at hpm
                    have i3 : (0 : Int) ≤ (p.i : Int) := by omega
                    have i4 : (p.i : Int) < (l.length : Int) := by omega
                    rw [show atV (some p) = (p.i : Int) from rfl, show inV (some p) = (p.k : Int) from rfl]
                    have k5 : (0 : Int) ≤ (p.k : Int) := by omega
                    have k6 : (p.k : Int) < (np : Int) := by omega
                    have hk2 : ∀ W', Below wq.heap.size wq W' → (fun w' => w'.cell? ⟨b, o + i * 5 + 4, none⟩ = some (.slice (some ⟨bt, ot, none⟩) x.toks.length ct) ∧ w'.cell? ⟨bt, ot + k * 9, none⟩ = some (.int .i64 y.id) ∧ w'.cell? ⟨bt, ot + k * 9 + 1, none⟩ = some (.string y.here) ∧ w'.cell? ⟨bt, ot + k * 9 + 2, none⟩ = some (.string y.on) ∧ w'.cell? ⟨bt, ot + k * 9 + 3, none⟩ = some (.int .i64 y.born) ∧ w'.cell? ⟨bt, ot + k * 9 + 4, none⟩ = some (.int .i64 y.tries) ∧ w'.cell? ⟨bt, ot + k * 9 + 5, none⟩ = some (.string y.worker) ∧ w'.cell? ⟨bt, ot + k * 9 + 6, none⟩ = some (.int .i64 y.til) ∧ w'.cell? ⟨bt, ot + k * 9 + 7, none⟩ = some (.int .u8 y.inc) ∧ w'.cell? ⟨bt, ot + k * 9 + 8, none⟩ = some (.int .i64 y.err) ∧ w'.cell? ⟨b, o + p.i * 5 + 4, none⟩ = some (.slice (some ⟨bp, op, none⟩) np cp) ∧ w'.cell? ⟨bp, op + p.k * 9, none⟩ = some (.int .i64 p.t.id)) W' := fun W' h => by
                      obtain ⟨h0, h1, h2, h3, h4, h5, h6, h7, h8, h9⟩ := HK.out W' h
                      have g1 := (Below.cellB h hbq).trans u4
                      have g2 := (Below.cellB h hbpq).trans u0
                      exact ⟨h0, h1, h2, h3, h4, h5, h6, h7, h8, h9, g1, g2⟩
                    have HK2 := Lib.hid hk2
                    have hz0 : decide ((p.i : Int) < 0) = false := decide_eq_false (by omega)
                    obtain ⟨d, hd⟩ : ∃ d, decide (y.id < p.t.id) = d := ⟨_, rfl⟩
                    have HR : Hid (BestAt clock (allN X i ++ tokN i x (k + 1)) (.int .i64 (if d then (i : Int) else (p.i : Int))) (.int .i64 (if d then (k : Int) else (p.k : Int)))) := Lib.hid (by
                      unfold BestAt
                      rw [hp.out, ← List.append_assoc, someL_snoc_yes (q := freeB clock) (p := ⟨i, k, y⟩) HF.out, bestL_snoc, HBs.out]
                      unfold bestP
                      simp only
                      by_cases h : y.id < p.t.id
                      · rw [if_pos h, ← hd, decide_eq_true h]; exact ⟨rfl, rfl⟩
                      · rw [if_neg h, ← hd, decide_eq_false h]; exact ⟨rfl, rfl⟩)
                    clear hk2 hpm
                    cases d with
                    | false =>
                      go_wp2_with fail
                      go_region_held3 (fun w' => w'.cell? ⟨b, o + i * 5 + 4, none⟩ = some (.slice (some ⟨bt, ot, none⟩) x.toks.length ct) ∧ w'.cell? ⟨bt, ot + k * 9, none⟩ = some (.int .i64 y.id) ∧ w'.cell? ⟨bt, ot + k * 9 + 1, none⟩ = some (.string y.here) ∧ w'.cell? ⟨bt, ot + k * 9 + 2, none⟩ = some (.string y.on) ∧ w'.cell? ⟨bt, ot + k * 9 + 3, none⟩ = some (.int .i64 y.born) ∧ w'.cell? ⟨bt, ot + k * 9 + 4, none⟩ = some (.int .i64 y.tries) ∧ w'.cell? ⟨bt, ot + k * 9 + 5, none⟩ = some (.string y.worker) ∧ w'.cell? ⟨bt, ot + k * 9 + 6, none⟩ = some (.int .i64 y.til) ∧ w'.cell? ⟨bt, ot + k * 9 + 7, none⟩ = some (.int .u8 y.inc) ∧ w'.cell? ⟨bt, ot + k * 9 + 8, none⟩ = some (.int .i64 y.err) ∧ w'.cell? ⟨b, o + p.i * 5 + 4, none⟩ = some (.slice (some ⟨bp, op, none⟩) np cp) ∧ w'.cell? ⟨bp, op + p.k * 9, none⟩ = some (.int .i64 p.t.id)) (first | exact HK2.out _ (Below.refl _ _).drew | exact HK2.out _ hcur.out | go_keep) ((go_at_call 45; refine (C1.out _ ?_).mono ?_; (focus (first | exact hcur.out.drew | exact hcur.out)); rintro e wz ⟨rfl, hbz⟩; clear hcur; have hcur := Lib.hid hbz; clear hbz))
                      all_goals
                        go_wp2_with fail
                        go_roundg (x.toks.length - (k + 1))
                        case measure => omega
                        case rel => exact HNx.out _ _ _ HR.out hcur.out
                    | true =>
                      go_wp2_with fail
                      go_region_held3 (fun w' => w'.cell? ⟨b, o + i * 5 + 4, none⟩ = some (.slice (some ⟨bt, ot, none⟩) x.toks.length ct) ∧ w'.cell? ⟨bt, ot + k * 9, none⟩ = some (.int .i64 y.id) ∧ w'.cell? ⟨bt, ot + k * 9 + 1, none⟩ = some (.string y.here) ∧ w'.cell? ⟨bt, ot + k * 9 + 2, none⟩ = some (.string y.on) ∧ w'.cell? ⟨bt, ot + k * 9 + 3, none⟩ = some (.int .i64 y.born) ∧ w'.cell? ⟨bt, ot + k * 9 + 4, none⟩ = some (.int .i64 y.tries) ∧ w'.cell? ⟨bt, ot + k * 9 + 5, none⟩ = some (.string y.worker) ∧ w'.cell? ⟨bt, ot + k * 9 + 6, none⟩ = some (.int .i64 y.til) ∧ w'.cell? ⟨bt, ot + k * 9 + 7, none⟩ = some (.int .u8 y.inc) ∧ w'.cell? ⟨bt, ot + k * 9 + 8, none⟩ = some (.int .i64 y.err) ∧ w'.cell? ⟨b, o + p.i * 5 + 4, none⟩ = some (.slice (some ⟨bp, op, none⟩) np cp) ∧ w'.cell? ⟨bp, op + p.k * 9, none⟩ = some (.int .i64 p.t.id)) (first | exact HK2.out _ (Below.refl _ _).drew | exact HK2.out _ hcur.out | go_keep) ((go_at_call 45; refine (C1.out _ ?_).mono ?_; (focus (first | exact hcur.out.drew | exact hcur.out)); rintro e wz ⟨rfl, hbz⟩; clear hcur; have hcur := Lib.hid hbz; clear hbz))
                      all_goals
                        go_wp2_with fail
                        go_roundg (x.toks.length - (k + 1))
                        case measure => omega
                        case rel => exact HNx.out _ _ _ HR.out hcur.out
              · have d1 : (x.state == 1) = false := by simpa using hs
                have HR : Hid (BestAt clock (allN X (i + 1)) (.int .i64 (atV (bestL (someL (freeB clock) (allN X i ++ tokN i x k))))) (.int .i64 (inV (bestL (someL (freeB clock) (allN X i ++ tokN i x k)))))) := Lib.hid (by
                  have : k = 0 := by
                    rcases Nat.eq_zero_or_pos k with h | h
                    · exact h
                    · exact absurd (hst.out h) hs
                  subst this
                  rw [allN_not hxa.out hs, show tokN i x 0 = [] from rfl, List.append_nil]
                  exact ⟨rfl, rfl⟩)
                clear hs qT hB1 hIr q0
                go_wp2_with fail
                go_roundg (l.length - (i + 1))
                case measure => omega
                case rel => exact ⟨i + 1, by omega, by go_num, HR.out, HB1.out⟩
            · have dk : decide (k < x.toks.length) = false := decide_eq_false (by omega)
              have HR : Hid (BestAt clock (allN X (i + 1)) (.int .i64 (atV (bestL (someL (freeB clock) (allN X i ++ tokN i x k))))) (.int .i64 (inV (bestL (someL (freeB clock) (allN X i ++ tokN i x k)))))) := Lib.hid (by
                have hke : k = x.toks.length := by omega
                by_cases hs : x.state = 1
                · rw [allN_run hxa.out hs, ← hke]; exact ⟨rfl, rfl⟩
                · have : k = 0 := by
                    rcases Nat.eq_zero_or_pos k with h | h
                    · exact h
                    · exact absurd (hst.out h) hs
                  subst this
                  rw [allN_not hxa.out hs, show tokN i x 0 = [] from rfl, List.append_nil]
                  exact ⟨rfl, rfl⟩)
              clear qT q2 hB1 hIr q0
              go_wp2_with fail
              go_roundg (l.length - (i + 1))
              case measure => omega
              case rel => exact ⟨i + 1, by omega, by go_num, HR.out, HB1.out⟩
        · have e : i = l.length := by omega
          have di : decide (i < l.length) = false := decide_eq_false (by omega)
          obtain ⟨rfl, rfl⟩ := hbe
          have HB5 := Lib.hid (HB.out.trans (hB.mono hzo))
          rw [show allN X i = allT X by unfold allT; rw [hXl, e], HBest.out]
          clear hB e
          by_cases hjP2 : j < P.length
          · rw [List.getElem?_eq_getElem hjP2]
            obtain ⟨p, hp⟩ : ∃ p, P[j] = p := ⟨_, rfl⟩
            rw [hp, show atV (some p) = (p.i : Int) from rfl, show inV (some p) = (p.k : Int) from rfl]
            have hpm : p ∈ P := by rw [← hp]; exact List.getElem_mem _
            obtain ⟨hpi, hpk, hpt⟩ := HPin.out p hpm
            have hRlen : R.length = l.length := by have := congrArg List.length hR.out; rw [List.length_map, marks_len] at this; exact this
            have hiR : p.i < R.length := by omega
            have hin : ∀ q ∈ P.take j, q.i < l.length ∧ q.k < (atL l q.i).toks.length := fun q hq => by
              obtain ⟨a, b, _⟩ := HPin.out q (List.mem_of_mem_take hq)
              exact ⟨a, b⟩
            have hx : (atL R p.i).x = atL (marks (fetchF wk (clock + ticks)) l (P.take j)) p.i := by rw [← hR.out, atL_map_x R _ hiR]
            have hkR : p.k < (atL R p.i).x.toks.length := by rw [hx, marks_toks _ _ _ (fun q hq => (hin q hq).1)]; exact hpk
            have hid : (atL (atL R p.i).x.toks p.k).id = p.t.id := by rw [hx, marks_id (fetchF wk (clock + ticks)) (fun _ => rfl) _ _ hin, hpt]
            obtain ⟨y, hy⟩ : ∃ y, atL (atL R p.i).x.toks p.k = y := ⟨_, rfl⟩
            rw [hy] at hid
            have hOb := HO.out.kept hBr2
            obtain ⟨g, rfl, -, hglo, hg⟩ := OwnF.some hOb.row (by omega)
            have r4 : wr.cell? ⟨g, p.i * 5 + 4, none⟩ = some (tvI (atL R p.i)) := by
              have := OwnF.at cellI_len hOb.row hiR (j := 4) (by omega)
              rw [this, ← atL_eq hiR]; rfl
            obtain ⟨gt, hta, hlo, hlt, ⟨cs, hcs⟩, hI1⟩ := hOb.setT hiR hkR (j := 5) (by omega) (.string wk) { y with worker := wk } (by rw [hy]; rfl)
            obtain ⟨nt, hnt⟩ : ∃ nt, (atL R p.i).x.toks.length = nt := ⟨_, rfl⟩
            obtain ⟨tc, htc⟩ : ∃ tc, (atL R p.i).tc = tc := ⟨_, rfl⟩
            rw [show tvI (atL R p.i) = .slice (some ⟨gt, 0, none⟩) nt tc by show Value.slice _ _ _ = _; rw [hta, hnt, htc]] at r4
            have hm : atL R p.i ∈ R := by rw [atL_eq hiR]; exact List.getElem_mem _
            have hRT := hOb.own.toks _ hm
            rw [show tvI (atL R p.i) = .slice (some ⟨gt, 0, none⟩) (atL R p.i).x.toks.length tc by show Value.slice _ _ _ = _; rw [hta, htc]] at hRT
            have hct : ∀ q, q < 9 → wr.cell? ⟨gt, p.k * 9 + q, none⟩ = (cellT y)[q]? := fun q hq => by
              rw [OwnF.at cellT_len hRT hkR hq, ← atL_eq hkR, hy]
            have t0 : wr.cell? ⟨gt, p.k * 9, none⟩ = some (.int .i64 y.id) := hct 0 (by omega)
            have t5 : wr.cell? ⟨gt, p.k * 9 + 5, none⟩ = some (.string y.worker) := hct 5 (by omega)
            have t6 : wr.cell? ⟨gt, p.k * 9 + 6, none⟩ = some (.int .i64 y.til) := hct 6 (by omega)
            have e5 := free_of_block hcs (p.k * 9 + 5)
            have e6 := free_of_block hcs (p.k * 9 + 6)
            have hI2 : InsO ((wr.setCell ⟨gt, p.k * 9 + 5, none⟩ (.string wk)).setCell ⟨gt, p.k * 9 + 6, none⟩ (.int .i64 (clock + ticks))) w.heap.size (.slice (some ⟨g, 0, none⟩) l.length co) (setT R p.i p.k (fetchF wk (clock + ticks) y)) := by
              obtain ⟨gt2, hta2, -, -, -, h2⟩ := hI1.setT (i := p.i) (k := p.k) (by rw [setT_len]; exact hiR) (by
                unfold setT
                rw [atL_set, if_pos ⟨rfl, hiR⟩]
                simp only [List.length_set]
                exact hkR) (j := 6) (by omega) (.int .i64 (clock + ticks)) (fetchF wk (clock + ticks) y) (by
                unfold setT
                rw [atL_set, if_pos ⟨rfl, hiR⟩]
                simp only
                rw [atL_set, if_pos ⟨rfl, hkR⟩]; rfl)
              rw [setT_twice _ _ _ _ _ hiR] at h2
              have e : gt2 = gt := by
                unfold setT at hta2
                rw [atL_set, if_pos ⟨rfl, hiR⟩] at hta2
                simp only at hta2
                rw [hta] at hta2
                injection hta2 with hta2
                injection hta2 with hta2
                exact hta2.symm
              subst e
              exact h2
            have hM2 : Hid ((setT R p.i p.k (fetchF wk (clock + ticks) y)).map (·.x) = marks (fetchF wk (clock + ticks)) l (P.take (j + 1))) := Lib.hid (by
              rw [setT_map R p.i p.k _ (fetchF wk (clock + ticks)) hiR (by rw [hy]), hR.out, List.take_succ_eq_append_getElem hjP2, hp, marks_snoc])
            have i1 : (0 : Int) ≤ (p.i : Int) := by omega
            have i2 : (p.i : Int) < (l.length : Int) := by omega
            have k1 : (0 : Int) ≤ (p.k : Int) := by omega
            have k2 : (p.k : Int) < (nt : Int) := by omega
            have d0 : decide ((p.i : Int) < 0) = false := decide_eq_false (by omega)
            obtain ⟨po, hpo⟩ : ∃ po, wr.heap.size = po := ⟨_, rfl⟩
            have hzp : w.heap.size ≤ po := by rw [← hpo]; exact HB5.out.size
            have hqp : q3 ≤ po := by rw [← hpo]; exact Nat.le_trans hq hBr2.size
            have HTr := Lib.hid (OwnI.kept HT.out hBr2 (Nat.le_refl _))
            have HI2 := Lib.hid hI2
            have HCS := Lib.hid hcs
            have HHID := Lib.hid hid
            have HPP := Lib.hid hp
            have HMid := Lib.hid (rf_mid (k9 := p.k * 9) (x5 := .string wk) (x6 := .int .i64 (clock + ticks)) hpo HCS.out HTr.out HB5.out hlo hzp y.id)
            have hne1 : ¬ g = gt := by
              obtain ⟨gcs, hgcs, -, -⟩ := OwnF.block hOb.row
              exact type_ne hgcs hcs (by decide)
            have hne2 : ¬ gt = g := fun e => hne1 e.symm
            clear hI1 hI2 hcs hct hRT hm hpt hpm hx hkR hiR hin hid hnt htc hta hy hp hOb hpi hpk
            obtain ⟨w7, w8, s8, hw7, hs7, hw8, hs8, ls8, HT8, HB8, HC8⟩ := HMid.out
            have v0 : w7.cell? ⟨gt, p.k * 9, none⟩ = some (.int .i64 y.id) := by
              rw [← hw7, World.cell?_setCell_other, World.cell?_setCell_other]
              · exact t0
              · simp
              · simp
            have r7 : w7.cell? ⟨g, p.i * 5 + 4, none⟩ = some (.slice (some ⟨gt, 0, none⟩) nt tc) := by
              rw [← hw7, World.cell?_setCell_other, World.cell?_setCell_other]
              · exact r4
              · simp
              · simp
            have HI7 : Hid (InsO w7 w.heap.size (.slice (some ⟨g, 0, none⟩) l.length co) (setT R p.i p.k (fetchF wk (clock + ticks) y))) := Lib.hid (by rw [← hw7]; exact HI2.out)
            clear HMid
            go_wp2_with (at_builtin; refine wpList_append_own_at _ rfl (.tmp 135) (.tmp 145) 33 rfl q3 3 i0 (.int .i64 0) 1 8 Try.underlying33 hti iz0 iz1 iz2 rfl (by decide) _ _ _ (by rfl) HT8.out ⟨po, 0, none⟩ 1 1 [.int .i64 y.id] (by rfl) rfl HC8.out (by simp [Value.oneCell']) (by unfold maxLen; rw [List.length_map, List.length_take]; omega) (by rw [List.length_map, List.length_take]; omega) (by omega) ?_; intro v9 w9 hown9 hg9 _ _)
            all_goals
              have HF := Lib.hid (rf_end HI7.out hw8 HT8.out hown9 hg9 HB8.out (show w.heap.size ≤ q3 by omega) (by omega))
              have hz9 : q3 ≤ w9.heap.size := Nat.le_trans (by omega) hg9.size
              clear hown9 hg9
              go_wp2_with fail
              go_roundg (N - (j + 1))
              case measure => omega
              case rel => exact ⟨j + 1, _, by omega, by omega, by rw [List.take_succ_eq_append_getElem hjP2, HPP.out, List.map_append, List.map_singleton, ← HHID.out]; exact HF.out.1, HF.out.2.1, hM2, HF.out.2.2, hz9⟩
          · rw [List.getElem?_eq_none (by omega)]
            have hE : Hid (P.take j = fetchP l clock (N : Int)) := Lib.hid (by
              unfold fetchP
              rw [HPe.out, List.take_of_length_le (by omega), List.take_of_length_le (by omega)])
            have HOr := Lib.hid (HO.out.kept hBr2)
            have HTr := Lib.hid (OwnI.kept HT.out hBr2 (Nat.le_refl _))
            go_wp2_with fail
            go_ret3
            exact ⟨_, _, R, rfl, HOr.out, by rw [← hE.out]; exact hR.out, by rw [← hE.out]; exact OwnI.lower HTr.out (by omega), HB5.out⟩
    · have e : j = N := by omega
      subst e
      have hE : Hid (P.take j = fetchP l clock (j : Int)) := Lib.hid (by
        unfold fetchP
        rw [HPe.out]; rfl)
      have dj : decide (j < j) = false := decide_eq_false (by omega)
      clear hT hO hB
      go_wp2_with fail
      go_ret3
      exact ⟨_, _, R, rfl, HO.out, by rw [← hE.out]; exact hR.out, by rw [← hE.out]; exact OwnI.lower HT.out (by omega), HB.out⟩

end Go.Proofs.Ytggnheekkbideaa
