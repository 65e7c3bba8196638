/- All that is led to is met in as many rounds as there are markings; deadlocks and homes; no program here. -/
import Derived.Test.YtapnkkoplnhleaaDoorReachHomeP
import Derived.Test.YtapnkkoplnhleaaDoorReachRead3
set_option maxRecDepth 100000
namespace Go.Proofs.YtapnkkoplnhleaaDoor

/-- Led to in so many steps at most. -/
def LdsN (E : List (List (Int × Int))) (fw : Bool) (i : Nat) : Nat → Nat → Prop
  | 0, j => i = j
  | r + 1, j => LdsN E fw i r j ∨ ∃ k, LdsN E fw i r k ∧ Nx E fw k j

theorem LdsN.lt {E : List (List (Int × Int))} (hE : EdgeOk E) {fw : Bool} {i : Nat} (hi : i < E.length) : ∀ {r j : Nat}, LdsN E fw i r j → j < E.length
  | 0, j, h => by have h : i = j := h; omega
  | r + 1, j, h => by
    rcases h with h | ⟨k, _, h2⟩
    · exact LdsN.lt hE hi h
    · cases fw with
      | true => exact (Edg.lt hE (i := k) (j := j) h2).2
      | false => exact (Edg.lt hE (i := j) (j := k) h2).1
theorem LdsN.lds {E : List (List (Int × Int))} {fw : Bool} {i : Nat} : ∀ {r j : Nat}, LdsN E fw i r j → Lds E fw i j
  | 0, j, h => by have h : i = j := h; subst h; exact Lds.refl _ _ _
  | r + 1, j, h => by
    rcases h with h | ⟨k, h1, h2⟩
    · exact LdsN.lds h
    · exact (LdsN.lds h1).step h2

open Classical in
noncomputable def metB (E : List (List (Int × Int))) (fw : Bool) (i r j : Nat) : Bool := decide (LdsN E fw i r j)
theorem metB_iff {E : List (List (Int × Int))} {fw : Bool} {i r j : Nat} : metB E fw i r j = true ↔ LdsN E fw i r j := by simp [metB]
noncomputable def metL (E : List (List (Int × Int))) (fw : Bool) (i r : Nat) : List Nat := (List.range E.length).filter (metB E fw i r)
theorem metL_mem {E : List (List (Int × Int))} {fw : Bool} {i r j : Nat} : j ∈ metL E fw i r ↔ j < E.length ∧ LdsN E fw i r j := by
  unfold metL; simp [metB_iff]
theorem filter_sub {p q : Nat → Bool} : ∀ (l : List Nat), (∀ x, p x = true → q x = true) → (l.filter p).length ≤ (l.filter q).length ∧ ((l.filter p).length = (l.filter q).length → ∀ x ∈ l, q x = true → p x = true)
  | [], _ => by simp
  | x :: l, h => by
    obtain ⟨h1, h2⟩ := filter_sub l h
    simp only [List.filter_cons]
    cases hp : p x with
    | true =>
      rw [h x hp]
      simp only [if_true, List.length_cons]
      refine ⟨by omega, fun e y hy hq => ?_⟩
      rcases List.mem_cons.1 hy with rfl | hy
      · exact hp
      · exact h2 (by omega) y hy hq
    | false =>
      cases hq : q x with
      | true =>
        simp only [Bool.false_eq_true, if_false, if_true, List.length_cons]
        exact ⟨by omega, fun e => by omega⟩
      | false =>
        simp only [Bool.false_eq_true, if_false]
        refine ⟨h1, fun e y hy hqy => ?_⟩
        rcases List.mem_cons.1 hy with rfl | hy
        · rw [hq] at hqy; cases hqy
        · exact h2 e y hy hqy
theorem metL_grows (E : List (List (Int × Int))) (fw : Bool) (i r : Nat) : (metL E fw i r).length ≤ (metL E fw i (r + 1)).length ∧ ((metL E fw i r).length = (metL E fw i (r + 1)).length → ∀ j, j < E.length → LdsN E fw i (r + 1) j → LdsN E fw i r j) := by
  unfold metL
  obtain ⟨h1, h2⟩ := filter_sub (p := metB E fw i r) (q := metB E fw i (r + 1)) (List.range E.length) (fun x hx => metB_iff.2 (Or.inl (metB_iff.1 hx)))
  exact ⟨h1, fun e j hj hq => metB_iff.1 (h2 e j (by simpa using hj) (metB_iff.2 hq))⟩

/-- Where nothing is added nothing will be. -/
theorem LdsN.stays {E : List (List (Int × Int))} (hE : EdgeOk E) {fw : Bool} {i : Nat} (hi : i < E.length) {r : Nat} (h : ∀ j, j < E.length → LdsN E fw i (r + 1) j → LdsN E fw i r j) : ∀ {j : Nat}, Lds E fw i j → LdsN E fw i r j := by
  have h0 : ∀ q, LdsN E fw i q i := by
    intro q
    induction q with
    | zero => exact rfl
    | succ q ih => exact Or.inl ih
  intro j hj
  refine Lds.ind (P := fun j => LdsN E fw i r j) (h0 r) (fun a b ha hb => ?_) hj
  have hn : LdsN E fw i (r + 1) b := Or.inr ⟨a, ha, hb⟩
  exact h b (hn.lt hE hi) hn
theorem LdsN.enough {E : List (List (Int × Int))} (hE : EdgeOk E) {fw : Bool} {i : Nat} (hi : i < E.length) {j : Nat} (hj : Lds E fw i j) : LdsN E fw i E.length j := by
  have up : ∀ {a b : Nat}, a ≤ b → ∀ {j}, LdsN E fw i a j → LdsN E fw i b j := by
    intro a b hab
    induction hab with
    | refl => exact fun h => h
    | step _ ih => exact fun h => Or.inl (ih h)
  by_cases hs : ∃ r, r < E.length ∧ (metL E fw i r).length = (metL E fw i (r + 1)).length
  · obtain ⟨r, hr, he⟩ := hs
    exact up (Nat.le_of_lt hr) (LdsN.stays hE hi ((metL_grows E fw i r).2 he) hj)
  · exfalso
    have key : ∀ r, r ≤ E.length → r + 1 ≤ (metL E fw i r).length := by
      intro r
      induction r with
      | zero =>
        intro _
        have : i ∈ metL E fw i 0 := metL_mem.2 ⟨hi, rfl⟩
        exact List.length_pos_of_mem this
      | succ r ih =>
        intro hr
        have h1 := ih (by omega)
        have h2 := (metL_grows E fw i r).1
        have h3 : (metL E fw i r).length ≠ (metL E fw i (r + 1)).length := fun e => hs ⟨r, by omega, e⟩
        omega
    have h1 := key E.length (Nat.le_refl _)
    have h2 : (metL E fw i E.length).length ≤ E.length := by
      have := List.length_filter_le (metB E fw i E.length) (List.range E.length)
      simpa [metL] using this
    omega

theorem dead_stays {E : List (List (Int × Int))} {d k : Nat} (hd : (E.getD d []).isEmpty = true) (h : Leads E d k) : d = k := by
  rcases h.back with e | ⟨j, ⟨e, he, _⟩, _⟩
  · exact e
  · rw [List.isEmpty_iff.1 hd] at he; cases he
theorem deadE_mem {E : List (List (Int × Int))} {x : Int} : x ∈ deadE E ↔ ∃ d : Nat, x = (d : Int) ∧ d < E.length ∧ (E.getD d []).isEmpty = true := by
  unfold deadE deadTo
  simp only [List.mem_map, List.mem_filter, List.mem_range]
  constructor
  · rintro ⟨d, ⟨h1, h2⟩, rfl⟩; exact ⟨d, rfl, h1, h2⟩
  · rintro ⟨d, rfl, h1, h2⟩; exact ⟨d, ⟨h1, h2⟩, rfl⟩
theorem homesE_mem {E : List (List (Int × Int))} {x : Int} : x ∈ homesE E ↔ ∃ d : Nat, x = (d : Int) ∧ d < E.length ∧ IsHome E d := by
  unfold homesE homesN
  simp only [List.mem_map, List.mem_filter, List.mem_range, homeB_iff]
  constructor
  · rintro ⟨d, ⟨h1, h2⟩, rfl⟩; exact ⟨d, rfl, h1, h2⟩
  · rintro ⟨d, rfl, h1, h2⟩; exact ⟨d, ⟨h1, h2⟩, rfl⟩
theorem nodup_cast {l : List Nat} (h : l.Nodup) : (l.map (fun k : Nat => (k : Int))).Nodup := by
  refine List.pairwise_map.2 (h.imp fun hab e => hab (by omega))
theorem homesE_nodup (E : List (List (Int × Int))) : (homesE E).Nodup := nodup_cast (List.nodup_range.filter _)
theorem deadE_nodup (E : List (List (Int × Int))) : (deadE E).Nodup := nodup_cast (List.nodup_range.filter _)
theorem one_of {l : List Int} (hn : l.Nodup) {x : Int} (hx : x ∈ l) (h : ∀ y ∈ l, y = x) : l.length = 1 := by
  match l, hn, hx, h with
  | [y], _, _, _ => rfl
  | y :: z :: l, hn, _, h =>
    have h1 := h y (by simp)
    have h2 := h z (by simp)
    rw [h1, h2] at hn
    simp at hn
/-- A deadlock that is a home is the only one, and the only home. -/
theorem dead_home {E : List (List (Int × Int))} {x : Int} (hd : x ∈ deadE E) (hh : x ∈ homesE E) : (deadE E).length = 1 ∧ (homesE E).length = 1 := by
  obtain ⟨d, rfl, h1, h2⟩ := deadE_mem.1 hd
  obtain ⟨k, e, h3, h4⟩ := homesE_mem.1 hh
  obtain rfl : d = k := by omega
  refine ⟨one_of (deadE_nodup E) hd (fun y hy => ?_), one_of (homesE_nodup E) hh (fun y hy => ?_)⟩
  · obtain ⟨q, rfl, q1, q2⟩ := deadE_mem.1 hy
    rw [dead_stays q2 (h4 q q1)]
  · obtain ⟨q, rfl, q1, q2⟩ := homesE_mem.1 hy
    rw [← dead_stays h2 (q2 d h1)]
theorem dead_many {E : List (List (Int × Int))} (h : 1 < (deadE E).length) : homesE E = [] := by
  match hl : deadE E, h with
  | x :: y :: l, _ =>
    have hx : x ∈ deadE E := by rw [hl]; simp
    have hy : y ∈ deadE E := by rw [hl]; simp
    have hn := deadE_nodup E
    rw [hl] at hn
    have hne : x ≠ y := by intro e; subst e; simp at hn
    obtain ⟨a, rfl, a1, a2⟩ := deadE_mem.1 hx
    obtain ⟨b, rfl, b1, b2⟩ := deadE_mem.1 hy
    cases hh : homesE E with
    | nil => rfl
    | cons z m =>
      exfalso
      have hz : z ∈ homesE E := by rw [hh]; simp
      obtain ⟨q, rfl, q1, q2⟩ := homesE_mem.1 hz
      have e1 := dead_stays a2 (q2 a a1)
      have e2 := dead_stays b2 (q2 b b1)
      exact hne (by omega)

/-- Going back: after so many rounds, and a part of the next one. -/
structure InR (E : List (List (Int × Int))) (h r i q : Nat) (T : List Bool) : Prop where
  len : T.length = E.length
  done : ∀ j, LdsN E false h r j → T.getD j false = true
  part : ∀ j, j < i → LdsN E false h (r + 1) j → T.getD j false = true
  cur : (∃ e ∈ (E.getD i []).take q, LdsN E false h r e.2.toNat) → T.getD i false = true

theorem getD_up {T : List Bool} {i j : Nat} {x : Bool} (h : i < T.length) (hx : T.getD i false = true → x = true) (hj : T.getD j false = true) : (T.set i x).getD j false = true := by
  rw [getD_set _ _ _ _ h]
  by_cases e : i = j
  · subst e; rw [if_pos rfl]; exact hx hj
  · rw [if_neg e]; exact hj
theorem InR.first {E : List (List (Int × Int))} {h : Nat} (hh : h < E.length) : InR E h 0 0 0 ((List.replicate E.length false).set h true) := by
  refine ⟨by simp, ?_, fun j hj => by omega, fun ⟨e, he, _⟩ => by simp at he⟩
  intro j hj
  have hj : h = j := hj
  subst hj
  rw [getD_set _ _ _ _ (by simpa using hh), if_pos rfl]
theorem InR.step {E : List (List (Int × Int))} {h r i q : Nat} {T : List Bool} (s : InR E h r i q T) (hi : i < E.length) (hq : q < (E.getD i []).length) {t : Nat} (ht : (E.getD i [])[q].2 = (t : Int)) {x y : Bool} (hx : T.getD i false = x) (hy : T.getD t false = y) : InR E h r i (q + 1) (T.set i (x || y)) := by
  have hl : i < T.length := by rw [s.len]; exact hi
  have up : ∀ j, T.getD j false = true → (T.set i (x || y)).getD j false = true := fun j hj => getD_up hl (fun e => by rw [hx] at e; rw [e]; rfl) hj
  refine ⟨by simp [s.len], fun j hj => up _ (s.done j hj), fun j hj h2 => up _ (s.part j hj h2), ?_⟩
  rintro ⟨e, he, h2⟩
  rw [List.take_succ_eq_append_getElem hq] at he
  rcases List.mem_append.1 he with he | he
  · exact up _ (s.cur ⟨e, he, h2⟩)
  · obtain rfl := List.mem_singleton.1 he
    rw [ht, Int.toNat_natCast] at h2
    have := s.done _ h2
    rw [hy] at this
    rw [getD_set _ _ _ _ hl, if_pos rfl, this, Bool.or_true]
theorem InR.next {E : List (List (Int × Int))} {h r i q : Nat} {T : List Bool} (s : InR E h r i q T) (hq : (E.getD i []).length ≤ q) : InR E h r (i + 1) 0 T := by
  refine ⟨s.len, s.done, ?_, fun ⟨e, he, _⟩ => by simp at he⟩
  intro j hj h2
  by_cases e : j = i
  · subst e
    rcases h2 with h2 | ⟨k, h3, ⟨e, he, h4⟩⟩
    · exact s.done _ h2
    · refine s.cur ⟨e, by rw [List.take_of_length_le hq]; exact he, ?_⟩
      rw [h4, Int.toNat_natCast]; exact h3
  · exact s.part j (by omega) h2
theorem InR.round {E : List (List (Int × Int))} (hE : EdgeOk E) {h r i : Nat} (hh : h < E.length) {T : List Bool} (s : InR E h r i 0 T) (hi : E.length ≤ i) : InR E h (r + 1) 0 0 T :=
  ⟨s.len, fun j hj => s.part j (by have := hj.lt hE hh; omega) hj, fun j hj => by omega, fun ⟨e, he, _⟩ => by simp at he⟩
theorem InR.all {E : List (List (Int × Int))} (hE : EdgeOk E) {h : Nat} (hh : h < E.length) (hm : IsHome E h) {T : List Bool} {r : Nat} (hr : r = E.length) (s : InR E h r 0 0 T) {j : Nat} (hj : j < E.length) : T.getD j false = true := by
  subst hr
  refine s.done j (LdsN.enough hE hh ?_)
  exact hm j hj

/-- Going on: the same. -/
structure OutR (E : List (List (Int × Int))) (h r i q : Nat) (T : List Bool) : Prop where
  len : T.length = E.length
  done : ∀ j, LdsN E true h r j → T.getD j false = true
  part : ∀ k, k < i → LdsN E true h r k → ∀ j, Edg E k j → T.getD j false = true
  cur : ∀ e ∈ (E.getD i []).take q, T.getD e.2.toNat false = true
  sound : ∀ j, T.getD j false = true → Lds E true h j
theorem OutR.first {E : List (List (Int × Int))} {h : Nat} (hh : h < E.length) : OutR E h 0 0 0 ((List.replicate E.length false).set h true) := by
  refine ⟨by simp, ?_, fun j hj => by omega, fun e he => by simp at he, ?_⟩
  · intro j hj
    have hj : h = j := hj
    subst hj
    rw [getD_set _ _ _ _ (by simpa using hh), if_pos rfl]
  · intro j hj
    rw [getD_set _ _ _ _ (by simpa using hh)] at hj
    by_cases e : h = j
    · subst e; exact Lds.refl _ _ _
    · rw [if_neg e] at hj
      simp [List.getD_eq_getElem?_getD, List.getElem?_replicate] at hj
      split at hj <;> simp at hj
theorem OutR.step {E : List (List (Int × Int))} {h r i q : Nat} {T : List Bool} (s : OutR E h r i q T) (hq : q < (E.getD i []).length) {t : Nat} (ht : (E.getD i [])[q].2 = (t : Int)) (htl : t < E.length) (hx : T.getD i false = true) : OutR E h r i (q + 1) (T.set t true) := by
  have hl : t < T.length := by rw [s.len]; exact htl
  have up : ∀ j, T.getD j false = true → (T.set t true).getD j false = true := fun j hj => getD_up hl (fun _ => rfl) hj
  refine ⟨by simp [s.len], fun j hj => up _ (s.done j hj), fun k hk h2 j hj => up _ (s.part k hk h2 j hj), ?_, ?_⟩
  · intro e he
    rw [List.take_succ_eq_append_getElem hq] at he
    rcases List.mem_append.1 he with he | he
    · exact up _ (s.cur e he)
    · obtain rfl := List.mem_singleton.1 he
      rw [ht, Int.toNat_natCast, getD_set _ _ _ _ hl, if_pos rfl]
  · intro j hj
    rw [getD_set _ _ _ _ hl] at hj
    by_cases e : t = j
    · subst e
      exact Lds.step (s.sound i hx) ⟨_, List.getElem_mem hq, ht⟩
    · rw [if_neg e] at hj; exact s.sound j hj
theorem OutR.next {E : List (List (Int × Int))} {h r i q : Nat} {T : List Bool} (s : OutR E h r i q T) (hq : (E.getD i []).length ≤ q ∨ T.getD i false = false) : OutR E h r (i + 1) 0 T := by
  refine ⟨s.len, s.done, ?_, fun e he => by simp at he, s.sound⟩
  intro k hk h2 j hj
  by_cases e : k = i
  · subst e
    rcases hq with hq | hq
    · obtain ⟨e, he, h4⟩ := hj
      have := s.cur e (by rw [List.take_of_length_le hq]; exact he)
      rw [h4, Int.toNat_natCast] at this
      exact this
    · have := s.done _ h2
      rw [hq] at this; cases this
  · exact s.part k (by omega) h2 j hj
theorem OutR.round {E : List (List (Int × Int))} (hE : EdgeOk E) {h r i : Nat} (hh : h < E.length) {T : List Bool} (s : OutR E h r i 0 T) (hi : E.length ≤ i) : OutR E h (r + 1) 0 0 T := by
  refine ⟨s.len, ?_, fun j hj => by omega, fun e he => by simp at he, s.sound⟩
  intro j hj
  rcases hj with hj | ⟨k, h1, h2⟩
  · exact s.done j hj
  · exact s.part k (by have := h1.lt hE hh; omega) h1 j h2
theorem OutR.all {E : List (List (Int × Int))} (hE : EdgeOk E) {h : Nat} (hh : h < E.length) (hm : IsHome E h) {T : List Bool} {r : Nat} (hr : r = E.length) (s : OutR E h r 0 0 T) : T = (List.range E.length).map (homeB E) := by
  subst hr
  refine List.ext_getElem (by simp [s.len]) ?_
  intro j h1 h2
  have hg : T.getD j false = T[j] := by simp [h1]
  have hjl : j < E.length := by rw [← s.len]; exact h1
  rw [List.getElem_map, List.getElem_range, ← hg, Bool.eq_iff_iff, homeB_iff]
  constructor
  · intro ht i hi
    exact (hm i hi).trans (s.sound j ht)
  · intro hj
    exact s.done j (LdsN.enough hE hh (hj h hh))

end Go.Proofs.YtapnkkoplnhleaaDoor
