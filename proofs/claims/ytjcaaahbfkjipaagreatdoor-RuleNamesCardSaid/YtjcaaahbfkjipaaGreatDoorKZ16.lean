/- Texts fused by fuse.py: KRuleNeedP, KRuleWalkP, KRuleDocP, KRuleTwo. -/
import Derived.Test.YtjcaaahbfkjipaaGreatDoorKZ09
import Derived.Test.YtjcaaahbfkjipaaGreatDoorKZ10
import Derived.Test.YtjcaaahbfkjipaaGreatDoorKZ15
/- Of RuleNeedP: what FRuleNames uses (shake.py). -/
set_option maxRecDepth 100000
/- What no model that keeps the rules can do without (plain; seat rule). -/
namespace Go.Proofs.YtjcaaahbfkjipaaGreatDoor
theorem any_sEq {l : List ByteArray} {s : ByteArray} : (l.any fun t => sEq t s) = true ↔ s ∈ l := by
  rw [List.any_eq_true]
  exact ⟨fun ⟨t, h1, h2⟩ => sEq_iff.1 h2 ▸ h1, fun h => ⟨s, h, sEq_refl s⟩⟩
theorem findE_some {l : List El} {s : ByteArray} {e : El} (h : findE l s = some e) : e ∈ l ∧ e.id = s := by
  unfold findE at h
  have h1 := List.find?_some h
  exact ⟨List.mem_of_find?_eq_some h, sEq_iff.1 h1⟩
theorem findE_none {l : List El} {s : ByteArray} : findE l s = none ↔ ∀ e ∈ l, e.id ≠ s := by
  unfold findE
  rw [List.find?_eq_none]
  exact ⟨fun h e he e2 => h e he (sEq_iff.2 e2), fun h e he e2 => h e he (sEq_iff.1 e2)⟩
theorem mem_outs {l : List Fl} {s : ByteArray} {f : Fl} : f ∈ outsF l s ↔ f ∈ l ∧ f.frm = s := by
  unfold outsF
  rw [List.mem_filter, sEq_iff]
end Go.Proofs.YtjcaaahbfkjipaaGreatDoor

/- Of RuleWalkP: what FRuleNames uses (shake.py). -/
set_option maxRecDepth 100000
/- Rule 9's walk: what it sees is what is reached (plain; seat rule). -/
namespace Go.Proofs.YtjcaaahbfkjipaaGreatDoor
/-- One flow on, to an element that is passed. -/
def StepS (m : Md) (s t : ByteArray) : Prop := ∃ f ∈ m.fls, f.frm = s ∧ f.into = t ∧ passedB m.els t = true
/-- What the walk does with one flow. -/
def ninF (m : Md) (k : Nat) (seen : List ByteArray) (f : Fl) : List ByteArray := if passedB m.els f.into && !(seen.any fun t => sEq t f.into) then walkN m k (f.into :: seen) f.into else seen
theorem walkN_succ (m : Md) (k : Nat) (seen : List ByteArray) (s : ByteArray) : walkN m (k + 1) seen s = (outsF m.fls s).foldl (ninF m k) seen := rfl
theorem ninF_no {m : Md} {k : Nat} {seen : List ByteArray} {f : Fl} (h : ¬ (passedB m.els f.into = true ∧ f.into ∉ seen)) : ninF m k seen f = seen := by
  unfold ninF
  refine if_neg (fun hc => h ?_)
  rw [Bool.and_eq_true, Bool.not_eq_true'] at hc
  exact ⟨hc.1, fun h2 => by rw [any_sEq.2 h2] at hc; cases hc.2⟩
theorem ninF_yes {m : Md} {k : Nat} {seen : List ByteArray} {f : Fl} (h1 : passedB m.els f.into = true) (h2 : f.into ∉ seen) : ninF m k seen f = walkN m k (f.into :: seen) f.into := by
  unfold ninF
  refine if_pos ?_
  rw [Bool.and_eq_true, Bool.not_eq_true']
  refine ⟨h1, ?_⟩
  cases hq : (seen.any fun t => sEq t f.into) with
  | false => rfl
  | true => exact absurd (any_sEq.1 hq) h2
/-- How many ends of flows are not seen yet. -/
def leftN (m : Md) (seen : List ByteArray) : Nat := (m.fls.filter fun f => !(seen.any fun t => sEq t f.into)).length
theorem filter_le {α : Type} {p q : α → Bool} (h : ∀ f, q f = true → p f = true) : ∀ l : List α, (l.filter q).length ≤ (l.filter p).length
  | [] => Nat.le_refl _
  | f :: r => by
    have ih := filter_le h r
    rw [List.filter_cons, List.filter_cons]
    by_cases hq : q f = true
    · rw [if_pos hq, if_pos (h f hq), List.length_cons, List.length_cons]; omega
    · rw [if_neg hq]
      split
      · rw [List.length_cons]; omega
      · exact ih
theorem filter_lt {α : Type} {p q : α → Bool} (h : ∀ f, q f = true → p f = true) : ∀ {l : List α} {x : α}, x ∈ l → p x = true → q x = false → (l.filter q).length < (l.filter p).length
  | f :: r, x, hx, hp, hq => by
    have hle := filter_le h r
    rw [List.filter_cons, List.filter_cons]
    rcases List.mem_cons.1 hx with rfl | hx
    · rw [if_neg (by rw [hq]; decide), if_pos hp, List.length_cons]; omega
    · have ih := filter_lt h hx hp hq
      by_cases hqf : q f = true
      · rw [if_pos hqf, if_pos (h f hqf), List.length_cons, List.length_cons]; omega
      · rw [if_neg hqf]
        split
        · rw [List.length_cons]; omega
        · exact ih
theorem unseen_iff {seen : List ByteArray} {s : ByteArray} : (!(seen.any fun t => sEq t s)) = true ↔ s ∉ seen := by
  rw [Bool.not_eq_true', ← any_sEq (l := seen) (s := s), Bool.not_eq_true]
theorem leftN_mono {m : Md} {a b : List ByteArray} (h : ∀ x ∈ a, x ∈ b) : leftN m b ≤ leftN m a :=
  filter_le (fun _ hf => unseen_iff.2 (fun h2 => unseen_iff.1 hf (h _ h2))) _
theorem leftN_lt {m : Md} {seen : List ByteArray} {f : Fl} (hf : f ∈ m.fls) (h : f.into ∉ seen) : leftN m (f.into :: seen) < leftN m seen := by
  refine filter_lt (fun g hg => unseen_iff.2 (fun h2 => unseen_iff.1 hg (List.mem_cons_of_mem _ h2))) hf (unseen_iff.2 h) ?_
  cases hq : (!((f.into :: seen).any fun t => sEq t f.into)) with
  | false => rfl
  | true => exact absurd List.mem_cons_self (unseen_iff.1 hq)
theorem leftN_le (m : Md) (seen : List ByteArray) : leftN m seen ≤ m.fls.length := List.length_filter_le _ _
/-- One or more flows on. -/
inductive Reach (m : Md) (s : ByteArray) : ByteArray → Prop
  | one {t : ByteArray} (h : StepS m s t) : Reach m s t
  | more {t u : ByteArray} (h : Reach m s t) (h2 : StepS m t u) : Reach m s u
theorem Reach.front {m : Md} {s t u : ByteArray} (h1 : StepS m s t) (h : Reach m t u) : Reach m s u := by
  induction h with
  | one h2 => exact .more (.one h1) h2
  | more _ h3 ih => exact .more ih h3
/-- What a walk from s leaves of what was seen. -/
structure WalkOk (m : Md) (seen : List ByteArray) (s : ByteArray) (r : List ByteArray) : Prop where
  old : ∀ x ∈ seen, x ∈ r
  new : ∀ t ∈ r, t ∈ seen ∨ Reach m s t
  next : ∀ t, StepS m s t → t ∈ r
  shut : ∀ x ∈ r, x ∉ seen → ∀ t, StepS m x t → t ∈ r
theorem nin_fold {m : Md} {k : Nat} (IH : ∀ seen s, leftN m seen < k → WalkOk m seen s (walkN m k seen s)) (s : ByteArray) : ∀ (L : List Fl), (∀ f ∈ L, f ∈ m.fls ∧ f.frm = s) → ∀ acc, leftN m acc < k + 1 →
    (∀ x ∈ acc, x ∈ L.foldl (ninF m k) acc) ∧ (∀ t ∈ L.foldl (ninF m k) acc, t ∈ acc ∨ Reach m s t) ∧ (∀ f ∈ L, passedB m.els f.into = true → f.into ∈ L.foldl (ninF m k) acc) ∧ (∀ x ∈ L.foldl (ninF m k) acc, x ∉ acc → ∀ t, StepS m x t → t ∈ L.foldl (ninF m k) acc)
  | [], _, acc, _ => ⟨fun _ h => h, fun _ h => .inl h, fun f hf => by simp at hf, fun x hx hn => absurd hx hn⟩
  | f :: L, hL, acc, hk => by
    obtain ⟨hf, hfs⟩ := hL f List.mem_cons_self
    rw [List.foldl_cons]
    by_cases hc : passedB m.els f.into = true ∧ f.into ∉ acc
    · rw [ninF_yes hc.1 hc.2]
      have hlt := leftN_lt hf hc.2
      have W := IH (f.into :: acc) f.into (by omega)
      have hstep : StepS m s f.into := ⟨f, hf, hfs, rfl, hc.1⟩
      obtain ⟨r1, hr1⟩ : ∃ r1, walkN m k (f.into :: acc) f.into = r1 := ⟨_, rfl⟩
      rw [hr1] at W ⊢
      have hmono := leftN_mono (m := m) (a := acc) (b := r1) (fun x hx => W.old x (List.mem_cons_of_mem _ hx))
      obtain ⟨a1, a2, a3, a4⟩ := nin_fold IH s L (fun g hg => hL g (List.mem_cons_of_mem _ hg)) r1 (by omega)
      refine ⟨fun x hx => a1 x (W.old x (List.mem_cons_of_mem _ hx)), fun t ht => ?_, fun g hg hp => ?_, fun x hx hn t hst => ?_⟩
      · rcases a2 t ht with h | h
        · rcases W.new t h with h2 | h2
          · rcases List.mem_cons.1 h2 with rfl | h2
            · exact .inr (.one hstep)
            · exact .inl h2
          · exact .inr (Reach.front hstep h2)
        · exact .inr h
      · rcases List.mem_cons.1 hg with rfl | hg
        · exact a1 _ (W.old _ List.mem_cons_self)
        · exact a3 g hg hp
      · by_cases h1 : x ∈ r1
        · by_cases h2 : x = f.into
          · subst h2
            exact a1 _ (W.next t hst)
          · exact a1 _ (W.shut x h1 (fun h3 => by rcases List.mem_cons.1 h3 with h3 | h3; exact h2 h3; exact hn h3) t hst)
        · exact a4 x hx h1 t hst
    · rw [ninF_no hc]
      obtain ⟨a1, a2, a3, a4⟩ := nin_fold IH s L (fun g hg => hL g (List.mem_cons_of_mem _ hg)) acc hk
      refine ⟨a1, a2, fun g hg hp => ?_, a4⟩
      rcases List.mem_cons.1 hg with rfl | hg
      · refine a1 _ ?_
        by_cases h : g.into ∈ acc
        · exact h
        · exact absurd ⟨hp, h⟩ hc
      · exact a3 g hg hp
theorem nin_ok (m : Md) : ∀ k seen s, leftN m seen < k → WalkOk m seen s (walkN m k seen s)
  | 0, _, _, h => absurd h (by omega)
  | k + 1, seen, s, h => by
    obtain ⟨a1, a2, a3, a4⟩ := nin_fold (nin_ok m k) s (outsF m.fls s) (fun f hf => mem_outs.1 hf) seen h
    rw [walkN_succ]
    exact ⟨a1, a2, fun t ⟨f, hf, h1, h2, h3⟩ => h2 ▸ a3 f (mem_outs.2 ⟨hf, h1⟩) (h2 ▸ h3), a4⟩
end Go.Proofs.YtjcaaahbfkjipaaGreatDoor

/- Of RuleDocP: what FRuleNames uses (shake.py). -/
set_option maxRecDepth 100000
/- The document's rules on plain data: what its loops come to is what the program's rules tell (plain). -/
namespace Go.Proofs.YtjcaaahbfkjipaaGreatDoor
/-! ### Rule 9: those that are reached from an element, one after the other -/
theorem nodup_leD {α : Type} [DecidableEq α] : ∀ {a b : List α}, a.Nodup → (∀ x ∈ a, x ∈ b) → a.length ≤ b.length
  | [], _, _, _ => Nat.zero_le _
  | x :: a, b, hn, hs => by
    have hx : x ∈ b := hs x List.mem_cons_self
    rw [List.nodup_cons] at hn
    have h1 : ∀ y ∈ a, y ∈ b.erase x := fun y hy => (List.mem_erase_of_ne (by rintro rfl; exact hn.1 hy)).2 (hs y (List.mem_cons_of_mem _ hy))
    have := nodup_leD hn.2 h1
    rw [List.length_erase_of_mem hx] at this
    have := List.length_pos_of_mem hx
    rw [List.length_cons]
    omega
/-- Behind so many rounds, and so many flows of the round. -/
structure Bfs (m : Md) (s : ByteArray) (seen : List ByteArray) (k j : Nat) : Prop where
  head : ∃ r, seen = s :: r
  nodup : seen.Nodup
  ids : ∀ t ∈ seen, t ∈ m.els.map El.id
  got : ∀ t ∈ seen, t = s ∨ Reach m s t
  done : ∀ i (h : i < seen.length), i < k → ∀ t, StepS m seen[i] t → t ≠ s ∧ t ∈ seen
  part : ∀ (h : k < seen.length), ∀ f ∈ m.fls.take j, f.frm = seen[k] → passedB m.els f.into = true → f.into ≠ s ∧ f.into ∈ seen
theorem Bfs.len {m : Md} {s : ByteArray} {seen : List ByteArray} {k j : Nat} (h : Bfs m s seen k j) : seen.length ≤ m.els.length := by
  have := nodup_leD h.nodup h.ids
  rwa [List.length_map] at this
theorem passed_found {l : List El} {s : ByteArray} (h : passedB l s = true) : ∃ e, findE l s = some e ∧ e.id = s ∧ s ∈ l.map El.id := by
  cases hf : findE l s with
  | none =>
    unfold passedB elemE at h
    rw [hf] at h
    cases h
  | some e =>
    obtain ⟨h1, h2⟩ := findE_some hf
    exact ⟨e, rfl, h2, List.mem_map.2 ⟨e, h1, h2⟩⟩
theorem take_snocF {α : Type} {l : List α} {j : Nat} (hj : j < l.length) {x : α} : x ∈ l.take (j + 1) ↔ x ∈ l.take j ∨ x = l[j] := by
  rw [List.take_succ_eq_append_getElem hj, List.mem_append, List.mem_singleton]
/-- A flow that leads nowhere new. -/
theorem Bfs.skip {m : Md} {s : ByteArray} {seen : List ByteArray} {k j : Nat} (H : Bfs m s seen k j) (hj : j < m.fls.length) (hk : k < seen.length)
    (h : ¬ (m.fls[j].frm = seen[k] ∧ passedB m.els m.fls[j].into = true)) : Bfs m s seen k (j + 1) :=
  ⟨H.head, H.nodup, H.ids, H.got, H.done, fun hk f hf h1 h2 => by
    rcases (take_snocF hj).1 hf with hf | rfl
    · exact H.part hk f hf h1 h2
    · exact absurd ⟨h1, h2⟩ h⟩
theorem Bfs.step {m : Md} {s : ByteArray} {seen : List ByteArray} {k j : Nat} (H : Bfs m s seen k j) (hj : j < m.fls.length) (hk : k < seen.length)
    (h1 : m.fls[j].frm = seen[k]) (h2 : passedB m.els m.fls[j].into = true) : Reach m s m.fls[j].into := by
  have hst : StepS m seen[k] m.fls[j].into := ⟨m.fls[j], List.getElem_mem hj, h1, rfl, h2⟩
  rcases H.got seen[k] (List.getElem_mem hk) with e | e
  · rw [e] at hst
    exact .one hst
  · exact .more e hst
theorem Bfs.old {m : Md} {s : ByteArray} {seen : List ByteArray} {k j : Nat} (H : Bfs m s seen k j) (hj : j < m.fls.length) (h3 : m.fls[j].into ≠ s) (h4 : m.fls[j].into ∈ seen) : Bfs m s seen k (j + 1) :=
  ⟨H.head, H.nodup, H.ids, H.got, H.done, fun hk f hf h1 h2 => by
    rcases (take_snocF hj).1 hf with hf | rfl
    · exact H.part hk f hf h1 h2
    · exact ⟨h3, h4⟩⟩
theorem Bfs.new {m : Md} {s : ByteArray} {seen : List ByteArray} {k j : Nat} (H : Bfs m s seen k j) (hj : j < m.fls.length) (hk : k < seen.length)
    (h1 : m.fls[j].frm = seen[k]) (h2 : passedB m.els m.fls[j].into = true) (h3 : m.fls[j].into ≠ s) (h4 : m.fls[j].into ∉ seen) : Bfs m s (seen ++ [m.fls[j].into]) k (j + 1) := by
  obtain ⟨r, hr⟩ := H.head
  have hR := H.step hj hk h1 h2
  refine ⟨⟨r ++ [m.fls[j].into], by rw [hr]; rfl⟩, ?_, fun t ht => ?_, fun t ht => ?_, fun i hi hik t ht => ?_, fun hk' f hf g1 g2 => ?_⟩
  · rw [List.nodup_append]
    exact ⟨H.nodup, by simp, fun a ha b hb => by rw [List.mem_singleton] at hb; rw [hb]; exact fun e => h4 (e ▸ ha)⟩
  · rcases List.mem_append.1 ht with ht | ht
    · exact H.ids t ht
    · rw [List.mem_singleton.1 ht]
      obtain ⟨_, _, _, h⟩ := passed_found h2
      exact h
  · rcases List.mem_append.1 ht with ht | ht
    · exact H.got t ht
    · rw [List.mem_singleton.1 ht]
      exact .inr hR
  · have hi' : i < seen.length := by omega
    rw [List.getElem_append_left hi'] at ht
    obtain ⟨a, b⟩ := H.done i hi' hik t ht
    exact ⟨a, List.mem_append_left _ b⟩
  · rw [List.getElem_append_left hk] at g1
    rcases (take_snocF hj).1 hf with hf | rfl
    · obtain ⟨a, b⟩ := H.part hk f hf g1 g2
      exact ⟨a, List.mem_append_left _ b⟩
    · exact ⟨h3, by simp⟩
/-- A round is over. -/
theorem Bfs.turn {m : Md} {s : ByteArray} {seen : List ByteArray} {k : Nat} (H : Bfs m s seen k m.fls.length) (hk : k < seen.length) : Bfs m s seen (k + 1) 0 := by
  refine ⟨H.head, H.nodup, H.ids, H.got, fun i hi hik t ht => ?_, (fun _ f hf => by simp at hf)⟩
  rcases Nat.lt_succ_iff_lt_or_eq.1 hik with h | rfl
  · exact H.done i hi h t ht
  · obtain ⟨f, hf, h1, h2, h3⟩ := ht
    rw [← h2] at h3 ⊢
    exact H.part hi f (by rw [List.take_length]; exact hf) h1 h3
/-- All rounds are over: it does not reach itself. -/
theorem Bfs.fin {m : Md} {s : ByteArray} {seen : List ByteArray} {k j : Nat} (H : Bfs m s seen k j) (hk : seen.length ≤ k) : ¬ Reach m s s := by
  have step : ∀ a t, a ∈ seen → StepS m a t → t ≠ s ∧ t ∈ seen := fun a t ha ht => by
    obtain ⟨i, hi, rfl⟩ := List.getElem_of_mem ha
    exact H.done i hi (by omega) t ht
  have all : ∀ t, Reach m s t → t ≠ s ∧ t ∈ seen := fun t ht => by
    induction ht with
    | one h =>
      obtain ⟨r, hr⟩ := H.head
      exact step s _ (by rw [hr]; exact List.mem_cons_self) h
    | more _ h2 ih => exact step _ _ ih.2 h2
  exact fun h => (all s h).1 rfl
/-- Rule 9 at one element. -/
def nineB (m : Md) (e : El) : Bool := !passedB m.els e.id || !((walkN m (m.fls.length + 1) [] e.id).any fun t => sEq t e.id)
theorem nineB_skip {m : Md} {e : El} (h : passedB m.els e.id = false) : nineB m e = true := by
  unfold nineB
  rw [h]; rfl
/-- Rule 2's walk outwards: what it has come to at a place, at a depth. -/
theorem chain_go {l : List El} {k : Nat} {s : ByteArray} (h : noS s = false) : chainR l (k + 1) s = (isS (elemE l s) && chainR l k (elemE l s).inn) := by
  show (noS s || _) = _
  rw [h]; rfl
theorem chain_end {l : List El} {k : Nat} {s : ByteArray} (h : noS s = true) : chainR l k s = true := by
  cases k with
  | zero => exact h
  | succ k => show (noS s || _) = true; rw [h]; rfl
theorem chain_deep {l : List El} {s : ByteArray} (h : noS s = false) : chainR l 0 s = false := h
end Go.Proofs.YtjcaaahbfkjipaaGreatDoor

/- Of RuleTwo: what FRuleNames uses (shake.py). -/
set_option maxRecDepth 100000
/- rule.two: the Subs around an element; what an element must have. -/
namespace Go.Proofs.YtjcaaahbfkjipaaGreatDoor
open Go.RowKit
section
variable {w : World} {B cx : Nat} {x : IX} {m : Md}
set_option maxHeartbeats 8000000 in
theorem two1_any (h : CapX w B cx x m) (el : El) : Calls Tryz.prog 70 #[valEl el, .pointer (some ⟨cx, 0, none⟩)] w fun e w' => e = .returned (.bool (chainR m.els 4 el.inn && hasB el)) ∧ Below w.heap.size w w' := by
  obtain ⟨w1, p0, hp0, hw1, l1, n1, b1⟩ := box_new w (oEl el)
  have HB := Lib.hid b1
  have HK := Lib.hid (show ∀ W, Below w1.heap.size w1 W → _ from fun W hW => And.intro (boxEl ((hW.block p0 l1).trans n1)) ((h.below b1).below hW))
  obtain ⟨c0, c1, c2, c3, c4, c5, c6, c7, c8, c9, c10⟩ := boxEl n1
  clear n1 b1 h
  go_enter Tryz.func70, Tryz.ntmps70
  go_wp2_with fail
  go_loopg [4, 5] 5 (fun g s4 s5 wr => ∃ (d : Nat) (s : ByteArray), d + g = 5 ∧ d ≤ 4 ∧ s4 = .string s ∧ s5 = .int .i64 (d : Int) ∧ Hid (chainR m.els (4 - d) s = chainR m.els 4 el.inn) ∧ Hid (Below w1.heap.size w1 wr))
  case atStart => exact ⟨0, el.inn, by omega, by omega, rfl, rfl, Lib.hid rfl, Lib.hid (Below.refl _ _)⟩
  case round =>
    obtain ⟨d, s, hdg, hd4, rfl, rfl, hC, hW⟩ := hrel
    have hX := Lib.hid (HK.out wr hW.out)
    obtain ⟨⟨d0, d1, d2, d3, e4, e5, e6, e7, e8, e9, e10⟩, hcap⟩ := HK.out wr hW.out
    have cc := hcap.cell
    obtain ⟨-, -, -, -, -, x5, -, -⟩ := hcap.idx.cells
    have lk := (hcap.idx.look s).1
    obtain ⟨E, hE⟩ : ∃ E, elemE m.els s = E := ⟨_, rfl⟩
    rw [hE] at lk
    have HE := Lib.hid hE
    clear hcap hE
    cases hs : s.toList.isEmpty with
    | true =>
      have HR : Hid (hasB el = (chainR m.els 4 el.inn && hasB el)) := Lib.hid (by rw [← hC.out, chain_end hs, Bool.true_and])
      go_wp2_with (go_at_call 71; refine (has_any el).mono ?_; rintro e w2 ⟨rfl, hb2⟩; have HB2 := Lib.hid (HB.out.trans ((hW.out.trans (hb2.mono hW.out.size)).mono HB.out.size)); clear hb2)
      go_ret
      exact ⟨ret_bool HR.out, HB2.out⟩
    | false =>
      have dd : ((d : Int) == 4) = (d == 4) := by rw [Bool.eq_iff_iff, beq_iff_eq, beq_iff_eq]; omega
      have ek : (E.kind != 10) = !(E.kind == 10) := rfl
      have HA := Lib.hid (show ∀ o, Below w1.heap.size w1 (wr.alloc o) from fun o => hW.out.alloc hW.out.size o)
      cases hk : (E.kind == 10) with
      | false =>
        rw [hk] at ek
        have HR : Hid (false = (chainR m.els 4 el.inn && hasB el)) := Lib.hid (by
          rw [← hC.out]
          cases hq : 4 - d with
          | zero => rw [chain_deep hs]; rfl
          | succ j => rw [chain_go hs, HE.out]; unfold isS; rw [hk]; rfl)
        clear hk dd
        go_wp2_with fail
        go_ret
        exact ⟨ret_bool HR.out, HB.out.trans ((HA.out _).mono HB.out.size)⟩
      | true =>
        rw [hk] at ek
        by_cases h4 : d = 4
        · have HR : Hid (false = (chainR m.els 4 el.inn && hasB el)) := Lib.hid (by rw [← hC.out, h4, chain_deep hs]; rfl)
          have dt : (d == 4) = true := beq_iff_eq.2 h4
          rw [dt] at dd
          clear hk h4
          go_wp2_with fail
          go_ret
          exact ⟨ret_bool HR.out, HB.out.trans ((HA.out _).mono HB.out.size)⟩
        · have HR : Hid (chainR m.els (4 - (d + 1)) E.inn = chainR m.els 4 el.inn) := Lib.hid (by
            rw [← hC.out, show 4 - d = (4 - (d + 1)) + 1 by omega, chain_go hs, HE.out]; unfold isS; rw [hk]; rfl)
          have dt : (d == 4) = false := beq_eq_false_iff_ne.2 h4
          rw [dt] at dd
          clear hk
          go_wp2_with fail
          go_roundg (gk - 1)
          case measure => omega
          case rel => exact ⟨d + 1, E.inn, by omega, by omega, rfl, by go_num, HR, Lib.hid (HA.out _)⟩
theorem boxP {W : World} {p : Nat} {v : Value} {t : TypeId} {fr : Nat × Nat} (h : W.heap[p]? = some (.cells #[v] t fr)) : W.cell? ⟨p, 0, none⟩ = some v := (cell_of_block h 0).trans rfl
end
section
variable {w : World} {x : IX} {m : Md}
/-- A rule's box of its index, and what its closures captured. -/
theorem cap_box (h : IdxR w w.heap.size x m) : ∃ (w1 : World) (p0 : Nat), w.heap.size = p0 ∧ w.alloc (.cells #[.pointer (some ⟨x.p, 0, none⟩)] 51) = w1 ∧ p0 < w1.heap.size ∧ Below w.heap.size w w1 ∧ CapX w1 w1.heap.size p0 x m := by
  obtain ⟨w1, p0, hp0, hw1, l1, n1, b1⟩ := box_new w (.cells #[.pointer (some ⟨x.p, 0, none⟩)] 51)
  exact ⟨w1, p0, hp0, hw1, l1, b1, ⟨(cell_of_block n1 0).trans rfl, h.mono b1 b1.size, Nat.le_refl _⟩⟩
set_option maxHeartbeats 2000000 in
theorem two_any (h : IdxR w w.heap.size x m) : Calls Tryz.prog 34 #[.pointer (some ⟨x.p, 0, none⟩)] w (RuleR (twoR m) w) := by
  obtain ⟨w1, p0, hp0, hw1, l1, b1, hc⟩ := cap_box h
  have S := Lib.hid (firstEl0 (w := w1) x.ve m.els hc.idx.md.els 70 #[.pointer (some ⟨p0, 0, none⟩)] (fun e => chainR m.els 4 e.inn && hasB e) (enters_of Tryz.func70 (by kernel_rfl) rfl) (fun e _ W hW => two1_any (hc.below hW) e))
  have cc := hc.cell
  obtain ⟨-, -, -, x3, -, -, -, -⟩ := hc.idx.cells
  have HB := Lib.hid b1
  obtain ⟨r, hr⟩ : ∃ r, twoR m = r := ⟨_, rfl⟩
  rw [show firstBad El.id (fun e => chainR m.els 4 e.inn && hasB e) m.els = r from hr] at S
  rw [hr]
  obtain ⟨a1, k1, a2, k2, a3, k3, v1, v2, v3⟩ := hc.idx.md.shape
  rw [v2] at x3 S
  clear h b1 hc v1 v2 v3 hr
  go_enter Tryz.func34, Tryz.ntmps34
  go_wp2_with (go_at_call 64; refine S.out.mono ?_; rintro e w2 ⟨rfl, hb2⟩; have HB2 := Lib.hid (HB.out.trans (hb2.mono HB.out.size)); clear hb2)
  go_ret2
  exact ⟨rfl, HB2.out⟩
end
end Go.Proofs.YtjcaaahbfkjipaaGreatDoor
