/- Texts fused by fuse.py: EvalReadP, EvalSeen, EvalIter, EvalReads, EvalNam, EvalNam2. -/
import Derived.Test.YtbephgifbghilaaGreatDoorEvalDeepP
import Derived.Test.YtbephgifbghilaaGreatDoorStepOwn
import Derived.Maps.OwnOps
import Derived.Maps.OwnSet
import Derived.Maps.Views
import Derived.Sort.KeysCollected
import Derived.Test.YtbephgifbghilaaGreatDoorShelfI
import Derived.CallsIn
import Derived.Test.YtbephgifbghilaaGreatDoorXTyp
import Derived.Sort.OwnSorted
import Derived.Maps.AppendAt
import Derived.Lib.OwnBridge
import Derived.Laws.EntriesVeiled
import Derived.Lib.SlicesCompact
/- The statement EvalRead on plain data: what a node comes to hangs on what is read alone. -/
set_option maxRecDepth 100000
namespace Go.Proofs.YtbephgifbghilaaGreatDoor

theorem comb_ok {op : Int} {x y : Vl × Int} (h : (combE op x y).2 = 0) : x.2 = 0 := by
  unfold combE at h
  split at h
  · assumption
  · exact h
theorem comb_rest {op : Int} (_h3 : 3 ≤ op) {x y : Vl × Int} (hg : goesOn op x = true) (h : (combE op x y).2 = 0) : y.2 = 0 := by
  have hx := comb_ok h
  unfold goesOn at hg
  simp only [Bool.and_eq_true, beq_iff_eq, decide_eq_true_eq, Bool.not_eq_true', Bool.and_eq_false_iff, Bool.or_eq_false_iff, beq_eq_false_iff_ne, bne_eq_false_iff_eq] at hg
  obtain ⟨_, h5, hg⟩ := hg
  unfold combE at h
  rw [if_pos hx, if_neg (by omega)] at h
  by_cases hk : (op = 3 ∨ op = 5 ∨ op = 6) ∧ ¬ x.1.kind = 2
  · exfalso
    rcases hg with hg | hg
    · omega
    · exact hk.2 hg.1
  · rw [if_neg hk, if_neg (by omega)] at h
    by_cases ht : (op = 5 ∨ op = 6) ∧ x.1.tr = decide (op = 6)
    · exfalso
      rcases hg with hg | hg
      · omega
      · exact hg.2 ht.2
    · rw [if_neg ht] at h
      split at h
      · assumption
      · exact h
theorem comb_stays {op : Int} (h3 : 3 ≤ op) {x y z : Vl × Int} (hg : goesOn op x = false) : combE op x y = combE op x z := by
  unfold goesOn at hg
  simp only [Bool.and_eq_false_iff, beq_eq_false_iff_ne, decide_eq_false_iff_not, Bool.not_eq_false', Bool.and_eq_true, Bool.or_eq_true, beq_iff_eq, bne_iff_ne] at hg
  unfold combE
  by_cases hx : x.2 = 0
  · rw [if_pos hx, if_pos hx]
    rcases hg with hg | hg | hg
    · exact absurd hx hg
    · obtain rfl | rfl : op = 3 ∨ op = 4 := by omega
      · by_cases hk : x.1.kind = 2
        · rw [if_neg (by omega), if_neg (by rintro ⟨_, h⟩; exact h hk), if_pos rfl, if_neg (by omega), if_neg (by rintro ⟨_, h⟩; exact h hk), if_pos rfl]
        · rw [if_neg (by omega), if_pos ⟨Or.inl rfl, hk⟩, if_neg (by omega), if_pos ⟨Or.inl rfl, hk⟩]
      · rw [if_pos rfl, if_pos rfl]
    · obtain ⟨ho, hg⟩ := hg
      by_cases hk : x.1.kind = 2
      · have ht : x.1.tr = decide (op = 6) := by
          rcases hg with hg | hg
          · exact absurd hk hg
          · exact hg
        rw [if_neg (by omega), if_neg (by rintro ⟨_, h⟩; exact h hk), if_neg (by omega), if_pos ⟨ho, ht⟩, if_neg (by omega), if_neg (by rintro ⟨_, h⟩; exact h hk), if_neg (by omega), if_pos ⟨ho, ht⟩]
      · rw [if_neg (by omega), if_pos ⟨by omega, hk⟩, if_neg (by omega), if_pos ⟨by omega, hk⟩]
  · rw [if_neg hx, if_neg hx]
theorem head_op3 {op : Int} {v : Vl} {nm : ByteArray} {n : Nat} (h : headB op v nm n = true) (h1 : op ≠ 1) (h2 : op ≠ 2) : 3 ≤ op := by
  obtain ⟨k, -⟩ := head_facts h
  unfold kidsN at k
  split at k
  · omega
  · omega
mutual
theorem eval_reads {l l' : List Bd} : ∀ n : Nd, checkN n = true → (∀ s ∈ noteN l n, varE l' s = varE l s) → (evalN l n).2 = 0 → evalN l' n = evalN l n
  | .mk op v nm ks, hc, hs, h0 => by
    have h' : (headB op v nm ks.length && checkL ks) = true := hc
    rw [Bool.and_eq_true] at h'
    obtain ⟨hh, hL⟩ := h'
    have e1 : ∀ l, evalN l (.mk op v nm ks) = if op = 1 then ((v, 0) : Vl × Int) else if op = 2 then varE l nm else combE op (evalH l ks) (evalT l ks) := fun _ => rfl
    have e2 : noteN l (.mk op v nm ks) = if op = 1 then [] else if op = 2 then (if (varE l nm).2 = 0 then [nm] else []) else noteH l ks ++ (if goesOn op (evalH l ks) then noteT l ks else []) := rfl
    rw [e1, e1]
    rw [e1] at h0
    rw [e2] at hs
    by_cases o1 : op = 1
    · rw [if_pos o1, if_pos o1]
    rw [if_neg o1] at h0 hs ⊢
    rw [if_neg o1]
    by_cases o2 : op = 2
    · rw [if_pos o2] at h0 hs ⊢
      rw [if_pos o2]
      rw [if_pos h0] at hs
      exact hs nm (by simp)
    rw [if_neg o2] at h0 hs ⊢
    rw [if_neg o2]
    have h3 := head_op3 hh o1 o2
    obtain ⟨f1, f2⟩ := eval_readsL (l := l) (l' := l') ks hL
    have hx := f1 (fun s hs' => hs s (List.mem_append_left _ hs')) (comb_ok h0)
    rw [hx]
    cases hg : goesOn op (evalH l ks) with
    | true =>
      rw [hg] at hs
      rw [f2 (fun s hs' => hs s (List.mem_append_right _ (by simpa using hs'))) (comb_rest h3 hg h0)]
    | false => exact comb_stays h3 hg
theorem eval_readsL {l l' : List Bd} : ∀ ks : List Nd, checkL ks = true → ((∀ s ∈ noteH l ks, varE l' s = varE l s) → (evalH l ks).2 = 0 → evalH l' ks = evalH l ks) ∧ ((∀ s ∈ noteT l ks, varE l' s = varE l s) → (evalT l ks).2 = 0 → evalT l' ks = evalT l ks)
  | [], _ => ⟨fun _ _ => rfl, fun _ _ => rfl⟩
  | a :: r, h => by
    have h' : (checkN a && checkL r) = true := h
    rw [Bool.and_eq_true] at h'
    exact ⟨eval_reads a h'.1, (eval_readsL r h'.2).1⟩
end
mutual
/-- A node's variables, in their order. -/
def namN : Nd → List ByteArray
  | .mk op _ nm ks => (if op = 2 then [nm] else []) ++ namL ks
def namL : List Nd → List ByteArray
  | [] => []
  | k :: r => namN k ++ namL r
end
theorem var_found {l : List Bd} {s : ByteArray} (h : (varE l s).2 = 0) : ∃ v, findB l s = some v := by
  unfold varE at h
  split at h
  · exact absurd h (by decide)
  · rename_i v hv; exact ⟨v, hv⟩
mutual
theorem note_in {l : List Bd} : ∀ n : Nd, ∀ s ∈ noteN l n, s ∈ namN n ∧ ∃ v, findB l s = some v
  | .mk op v nm ks, s, hs => by
    have e2 : noteN l (.mk op v nm ks) = if op = 1 then [] else if op = 2 then (if (varE l nm).2 = 0 then [nm] else []) else noteH l ks ++ (if goesOn op (evalH l ks) then noteT l ks else []) := rfl
    have e3 : namN (.mk op v nm ks) = (if op = 2 then [nm] else []) ++ namL ks := rfl
    rw [e2] at hs
    rw [e3]
    obtain ⟨f1, f2⟩ := note_inL (l := l) ks
    split at hs
    · simp at hs
    · split at hs
      · rename_i o2
        split at hs
        · rename_i h0
          rw [List.mem_singleton.1 hs, if_pos o2]
          exact ⟨by simp, var_found h0⟩
        · simp at hs
      · rcases List.mem_append.1 hs with hs | hs
        · obtain ⟨a, b⟩ := f1 s hs
          exact ⟨List.mem_append_right _ a, b⟩
        · split at hs
          · obtain ⟨a, b⟩ := f2 s hs
            exact ⟨List.mem_append_right _ a, b⟩
          · simp at hs
theorem note_inL {l : List Bd} : ∀ ks : List Nd, (∀ s ∈ noteH l ks, s ∈ namL ks ∧ ∃ v, findB l s = some v) ∧ (∀ s ∈ noteT l ks, s ∈ namL ks ∧ ∃ v, findB l s = some v)
  | [] => ⟨fun s h => by simp [noteH] at h, fun s h => by simp [noteT] at h⟩
  | a :: r => ⟨fun s h => by
      obtain ⟨x, y⟩ := note_in a s h
      exact ⟨List.mem_append_left _ x, y⟩, fun s h => by
      obtain ⟨x, y⟩ := (note_inL r).1 s h
      exact ⟨List.mem_append_right _ x, y⟩⟩
end
/-- The binds that are read; all binds, those that are not read with another value. -/
def lessB (p : ByteArray → Bool) (l : List Bd) : List Bd := l.filter (fun b => p b.name)
def otherB (p : ByteArray → Bool) (v : Vl) (l : List Bd) : List Bd := l.map (fun b => if p b.name then b else ⟨b.name, v⟩)
theorem find_less {p : ByteArray → Bool} {s : ByteArray} (hs : p s = true) : ∀ l : List Bd, findB (lessB p l) s = findB l s
  | [] => rfl
  | b :: r => by
    have ih := find_less hs r
    unfold lessB at ih ⊢
    by_cases hb : b.name.toList = s.toList
    · have : b.name = s := bytes_eq hb
      rw [List.filter_cons_of_pos (p := fun b : Bd => p b.name) (by show p b.name = true; rw [this]; exact hs)]
      unfold findB
      rw [if_pos (by simp [hb]), if_pos (by simp [hb])]
    · have e : findB (b :: r) s = findB r s := by
        unfold findB
        rw [if_neg (by simp [hb])]
        cases r <;> rfl
      rw [e, ← ih]
      by_cases hp : p b.name = true
      · rw [List.filter_cons_of_pos (p := fun b : Bd => p b.name) hp]
        show (if b.name.toList == s.toList then some b.val else findB _ s) = _
        rw [if_neg (by simp [hb])]
      · rw [List.filter_cons_of_neg (p := fun b : Bd => p b.name) hp]
theorem find_other {p : ByteArray → Bool} {s : ByteArray} (hs : p s = true) (v : Vl) : ∀ l : List Bd, findB (otherB p v l) s = findB l s
  | [] => rfl
  | b :: r => by
    have ih := find_other hs v r
    show (if (if p b.name then b else ⟨b.name, v⟩ : Bd).name.toList == s.toList then some (if p b.name then b else ⟨b.name, v⟩ : Bd).val else findB (otherB p v r) s) = (if b.name.toList == s.toList then some b.val else findB r s)
    rw [ih]
    by_cases hb : b.name.toList = s.toList
    · have : b.name = s := bytes_eq hb
      have hp : p b.name = true := by rw [this]; exact hs
      simp [hp]
    · have hn : ((if p b.name then b else ⟨b.name, v⟩ : Bd).name.toList == s.toList) = false := by
        split <;> simpa using hb
      rw [hn]
      simp [hb]
theorem var_less {p : ByteArray → Bool} {s : ByteArray} (hs : p s = true) (l : List Bd) : varE (lessB p l) s = varE l s := by unfold varE; rw [find_less hs]
theorem var_other {p : ByteArray → Bool} {s : ByteArray} (hs : p s = true) (v : Vl) (l : List Bd) : varE (otherB p v l) s = varE l s := by unfold varE; rw [find_other hs]
theorem reads_less {l : List Bd} {n : Nd} {p : ByteArray → Bool} (hp : ∀ s ∈ noteN l n, p s = true) (h0 : (evE l n).2 = 0) : evE (lessB p l) n = evE l n := by
  unfold evE at h0 ⊢
  split
  · rename_i hc
    rw [if_pos hc] at h0
    exact eval_reads n hc (fun s hs => var_less (hp s hs) l) h0
  · rfl
theorem reads_other {l : List Bd} {n : Nd} {p : ByteArray → Bool} (v : Vl) (hp : ∀ s ∈ noteN l n, p s = true) (h0 : (evE l n).2 = 0) : evE (otherB p v l) n = evE l n := by
  unfold evE at h0 ⊢
  split
  · rename_i hc
    rw [if_pos hc] at h0
    exact eval_reads n hc (fun s hs => var_other (hp s hs) v l) h0
  · rfl
end Go.Proofs.YtbephgifbghilaaGreatDoor

/- The names that are read, in a map of the call's own. -/
set_option maxRecDepth 100000
namespace Go.Proofs.YtbephgifbghilaaGreatDoor
open Go.RowKit Go.Maps

theorem nodup_len {α : Type} [DecidableEq α] : ∀ (A B : List α), A.Nodup → (∀ x ∈ A, x ∈ B) → A.length ≤ B.length
  | [], _, _, _ => Nat.zero_le _
  | a :: r, B, h, hs => by
    rw [List.nodup_cons] at h
    have ha := hs a List.mem_cons_self
    have := nodup_len r (B.erase a) h.2 (fun x hx => by
      have hxa : x ≠ a := fun e => h.1 (e ▸ hx)
      exact (List.mem_erase_of_ne hxa).2 (hs x (List.mem_cons_of_mem _ hx)))
    rw [List.length_erase_of_mem ha] at this
    have h0 : 0 < B.length := List.length_pos_of_mem ha
    simp only [List.length_cons]
    omega

def nmB (s : ByteArray) : List UInt8 := s.data.toList
theorem nmB_inj {s t : ByteArray} (h : nmB s = nmB t) : s = t := bytes_eq (by rw [Lib.toList_data, Lib.toList_data]; exact h)

/-- The map at block b has just the names in S, each a name of l. -/
structure SeenS (l : List Bd) (w : World) (b : Nat) (S : List ByteArray) (D : DataW Unit) : Prop where
  own : w.ownsMap Tryz.prog 9 (plainElem Tryz.prog 4) b (Maps.size D) D
  map : IsMap D
  has : ∀ x : List UInt8, has D (.string x) = true ↔ ∃ s ∈ S, nmB s = x
  names : ∀ s ∈ S, ∃ v, findB l s = some v
theorem found_name {l : List Bd} {s : ByteArray} {v : Vl} (h : findB l s = some v) : nmB s ∈ l.map (fun b => nmB b.name) := by
  induction l with
  | nil => cases h
  | cons b r ih =>
    unfold findB at h
    split at h
    · rename_i e
      simp only [beq_iff_eq] at e
      have := bytes_eq e
      simp [this]
    · exact List.mem_cons_of_mem _ (ih h)
section
variable {l : List Bd} {w w' : World} {b : Nat} {S : List ByteArray} {D : DataW Unit}
theorem SeenS.lt (h : SeenS l w b S D) : b < w.heap.size := h.own.lt
theorem SeenS.made (l : List Bd) (w : World) : SeenS l (w.alloc (.map #[] 0)) w.heap.size [] (.map []) :=
  ⟨World.ownsMap_made _ _ _ _, ⟨[], rfl⟩, fun x => by simp [Go.Maps.has], by simp⟩
theorem SeenS.keepB (h : SeenS l w b S D) (hb : w'.heap[b]? = w.heap[b]?) : SeenS l w' b S D := by
  obtain ⟨⟨es, ck, h1, hr⟩, h2, h3, h4⟩ := h
  exact ⟨⟨es, ck, hb.trans h1, hr⟩, h2, h3, h4⟩
theorem SeenS.nodup (h : SeenS l w b S D) : (strKeys D).Nodup := by
  obtain ⟨es, hD, hp⟩ := h.own.tidy (string_keyed Tryz.underlying9)
  obtain ⟨es', hD', hko⟩ := h.own.keysOf
  obtain rfl : es = es' := by rw [hD] at hD'; simpa using hD'
  rw [hD]
  show (es.map fun p => strOf p.1).Nodup
  refine List.pairwise_map.2 (hp.imp_of_mem fun {p q} hp' hq' hne e => hne ?_)
  obtain ⟨v, hv⟩ := hko p hp'
  obtain ⟨x, _, hx, _⟩ := Maps.keyOf_str Tryz.underlying9 hv
  obtain ⟨v2, hv2⟩ := hko q hq'
  obtain ⟨y, _, hy, _⟩ := Maps.keyOf_str Tryz.underlying9 hv2
  rw [hx, hy] at e ⊢
  exact congrArg _ e
theorem SeenS.small (h : SeenS l w b S D) : Maps.size D ≤ l.length := by
  have hnd := h.nodup
  obtain ⟨es, hD, hko⟩ := h.own.keysOf
  have hs : Maps.size D = (strKeys D).length := by rw [hD]; simp [Maps.size, strKeys]
  have hm : ∀ x ∈ strKeys D, x ∈ l.map (fun b => nmB b.name) := fun x hx => by
    rw [hD] at hx
    obtain ⟨p, hp', rfl⟩ := List.mem_map.1 hx
    obtain ⟨v, hv⟩ := hko p hp'
    obtain ⟨y, _, hy, _⟩ := Maps.keyOf_str Tryz.underlying9 hv
    have hh : Go.Maps.has D (.string y) = true := by
      rw [hD]
      show es.any (fun q => q.1.sameKey (.string y)) = true
      exact List.any_eq_true.2 ⟨p, hp', by rw [hy]; simp [Lit.sameKey]⟩
    obtain ⟨s, hs, e⟩ := (h.has y).1 hh
    obtain ⟨v, hv⟩ := h.names s hs
    rw [hy]
    show y ∈ _
    rw [← e]
    exact found_name hv
  rw [hs]
  have := nodup_len _ _ hnd hm
  simpa using this
theorem SeenS.keys (h : SeenS l w b S D) : ∀ x, x ∈ strKeys D ↔ ∃ s ∈ S, nmB s = x := by
  obtain ⟨es, hD, hko⟩ := h.own.keysOf
  intro x
  rw [← h.has x, hD]
  show x ∈ es.map (fun p => strOf p.1) ↔ es.any (fun q => q.1.sameKey (.string x)) = true
  rw [List.mem_map, List.any_eq_true]
  constructor
  · rintro ⟨p, hp, rfl⟩
    obtain ⟨v, hv⟩ := hko p hp
    obtain ⟨y, _, hy, _⟩ := Maps.keyOf_str Tryz.underlying9 hv
    exact ⟨p, hp, by rw [hy]; simp [Lit.sameKey, strOf]⟩
  · rintro ⟨p, hp, hs⟩
    obtain ⟨v, hv⟩ := hko p hp
    obtain ⟨y, _, hy, _⟩ := Maps.keyOf_str Tryz.underlying9 hv
    rw [hy] at hs
    exact ⟨p, hp, by rw [hy]; simpa [Lit.sameKey, strOf] using hs⟩
theorem SeenS.put (h : SeenS l w b S D) (s : ByteArray) (hs : s.size ≤ 140737488355328) (hf : ∃ v, findB l s = some v) (hl : l.length ≤ 2513169435000) :
    ∃ w' D', (Instr.mapUpdate 99 (.map (some b)) (.string s) (.bool true)).run Tryz.prog w = .ok () w' ∧ SeenS l w' b (S ++ [s]) D' ∧ w.grownBy w' (some b) := by
  have hsm := h.small
  have hsz : s.size ≤ maxLen := by unfold maxLen; omega
  obtain ⟨w', hrun, h4, h5⟩ := h.own.update (string_keyed Tryz.underlying9) Tryz.underlying99 (show Maps.size D < maxLen by unfold maxLen; omega) (Go.WideMaps.keyOf_string_mk Tryz.underlying9 hsz) (plainElem_bool Tryz.underlying4 true)
  refine ⟨w', D.put (.string s.data.toList) (.lit (.bool true)), hrun, ⟨?_, h.map.put _ _, fun x => ?_, fun t ht => ?_⟩, h5⟩
  · obtain ⟨es, ck, hb, F, _, hD⟩ := h4
    exact ⟨es, ck, hb, F, by rw [hD]; simp [Maps.size, length_sorted], hD⟩
  · by_cases e : x = nmB s
    · subst e
      rw [show (Lit.string (nmB s)) = .string s.data.toList from rfl, has_put_same h.map (by trivial)]
      simp
    · rw [has_put_other (by intro h; injection h with h; exact e h), h.has x]
      constructor
      · rintro ⟨t, ht, e2⟩
        exact ⟨t, by simp [ht], e2⟩
      · rintro ⟨t, ht, e2⟩
        rcases List.mem_append.1 ht with ht | ht
        · exact ⟨t, ht, e2⟩
        · rw [List.mem_singleton.1 ht] at e2; exact absurd e2.symm e
  · rcases List.mem_append.1 ht with ht | ht
    · exact h.names t ht
    · rw [List.mem_singleton.1 ht]; exact hf
end
end Go.Proofs.YtbephgifbghilaaGreatDoor

/- slices.Sorted(maps.Keys(m)) at a map of strings to truths: the shelf's contracts. -/
set_option maxRecDepth 100000
namespace Go.Proofs.YtbephgifbghilaaGreatDoor
open Go.RowKit Go.Maps Go.Sort Go.Shelf

theorem sortsM (m : Nat) : AnyZ.SortsIn Tryz.prog Tryz.sortedM_ren Fence.wide m :=
  ⟨fun blk off cap ss W hH hblk hsz => callsIn_wide.2 (AnyM.slices_Sort_string Tryz.sortM blk off cap ss W hH hblk hsz),
   fun p cap W => callsIn_wide.2 (AnyM.slices_Sort_string_none Tryz.sortM p cap W)⟩
abbrev keysF (p : Nat) : Value := .func (.func 89) #[] #[.pointer (some ⟨p, 0, none⟩)]
theorem keysM_any (mb : Option Nat) (W : World) : Calls Tryz.prog 59 #[.map mb] W fun e w' => e = .returned (keysF W.heap.size) ∧ w' = W.alloc (.cells #[.map mb] 99) :=
  (callsIn_wide (n := 5)).1 (AnyZ.keys_in Tryz.keysM Fence.wide 5 trivial rfl mb W)
set_option maxHeartbeats 1000000 in
/-- The keys, sorted. -/
theorem sortedM_any {H : Type} (b nn : Nat) (D0 : DataW H) (R : Value → Option (DataW H × List MemPlace)) (w : World) (hown : w.ownsMap Tryz.prog 9 R b nn D0) (hmax : Maps.size D0 ≤ maxLen) (hbytes : Maps.size D0 * 16 ≤ 140737488355328) :
    Calls Tryz.prog 58 #[keysF w.heap.size] (w.alloc (.cells #[.map (some b)] 99)) fun e w' => ∃ (v : Value) (ss : List (List UInt8)), e = .returned v ∧ ss.Perm (strKeys D0) ∧
      w'.ownsRow (w.alloc (.cells #[.map (some b)] 99)).heap.size 9 1 v ss.length ((ss.mergeSort (fun x y => decide (x ≤ y))).map encStr) ∧ (v = .slice none 0 0 ↔ ss = []) ∧ Below (w.alloc (.cells #[.map (some b)] 99)).heap.size (w.alloc (.cells #[.map (some b)] 99)) w' := by
  have hbl := hown.lt
  have hseq : SeqGives Fence.wide 2 Tryz.prog 89 #[.pointer (some ⟨w.heap.size, 0, none⟩)] encStr (fun ss => ss.Perm (strKeys D0)) (Maps.size D0) (w.alloc (.cells #[.map (some b)] 99)) :=
    AnyZ.keys_gives (ρ := Tryz.keysM_ren) { Tryz.keysM with } Fence.wide _ trivial rfl (by omega) w.heap.size b nn D0 _ (by simp) (by simp) (by
      obtain ⟨es, clock, hb, Ft, hs, hD⟩ := hown
      exact ⟨es, clock, (Below.heap_alloc _ _ b hbl).trans hb, Ft, hs, hD⟩)
  exact (callsIn_wide (n := 5)).1 (AnyZ.sorted_in Tryz.sortedM Fence.wide 5 trivial trivial trivial trivial rfl (by omega) (sortsM _) (enters_of Tryz.func62 (by kernel_rfl) rfl) 89 #[.pointer (some ⟨w.heap.size, 0, none⟩)] trivial (enters_of Tryz.func89 (by kernel_rfl) rfl) _ _ hmax hbytes _ hseq)

/-- Names in a rising row, none twice. -/
def Rises (l : List (List UInt8)) : Prop := l.Pairwise (fun x y => x < y)
theorem sort_rises {l : List (List UInt8)} (h : l.Nodup) : Rises (l.mergeSort (fun x y => decide (x ≤ y))) := by
  have tr : ∀ a b c : List UInt8, decide (a ≤ b) = true → decide (b ≤ c) = true → decide (a ≤ c) = true := fun a b c h1 h2 => by simp only [decide_eq_true_eq] at *; exact List.le_trans h1 h2
  have tot : ∀ a b : List UInt8, (decide (a ≤ b) || decide (b ≤ a)) = true := fun a b => by simp only [Bool.or_eq_true, decide_eq_true_eq]; exact List.le_total a b
  have h1 := List.pairwise_mergeSort tr tot l
  have h2 : (l.mergeSort (fun x y => decide (x ≤ y))).Nodup := (List.mergeSort_perm l _).nodup_iff.2 h
  refine (h1.and h2).imp fun {a b} ⟨x, y⟩ => ?_
  simp only [decide_eq_true_eq] at x
  by_cases hlt : a < b
  · exact hlt
  · exact absurd (List.le_antisymm x (List.not_lt.1 hlt)) y
end Go.Proofs.YtbephgifbghilaaGreatDoor

/- eval.Reads. -/
set_option maxRecDepth 100000
namespace Go.Proofs.YtbephgifbghilaaGreatDoor
open Go.RowKit Go.Maps Go.Sort

theorem n_cells1 {w : World} {p : Nat} {n : Nd} {vk : Value} {t : TypeId} {fr : Nat × Nat} (h : w.heap[p]? = some (.cells #[.int .u8 n.op, .int .u8 n.v.kind, .int .i64 n.v.num, .bool n.v.tr, .string n.v.text, .string n.name, vk] t fr)) :
    w.cell? ⟨p, 0, none⟩ = some (.int .u8 n.op) ∧ w.cell? ⟨p, 1, none⟩ = some (.int .u8 n.v.kind) ∧ w.cell? ⟨p, 2, none⟩ = some (.int .i64 n.v.num) ∧ w.cell? ⟨p, 3, none⟩ = some (.bool n.v.tr) ∧ w.cell? ⟨p, 4, none⟩ = some (.string n.v.text) ∧ w.cell? ⟨p, 5, none⟩ = some (.string n.name) ∧ w.cell? ⟨p, 6, none⟩ = some vk :=
  ⟨(cell_of_block h 0).trans rfl, (cell_of_block h 1).trans rfl, (cell_of_block h 2).trans rfl, (cell_of_block h 3).trans rfl, (cell_of_block h 4).trans rfl, (cell_of_block h 5).trans rfl, (cell_of_block h 6).trans rfl⟩
theorem readsNote {l : List Bd} {W : World} {p b : Nat} {S : List ByteArray} {D : DataW Unit} (s : ByteArray) (hp : W.cell? ⟨p, 0, none⟩ = some (.map (some b))) (h : SeenS l W b S D) (hs : s.size ≤ 140737488355328) (hf : ∃ v, findB l s = some v) (hl : l.length ≤ 2513169435000) :
    Calls Tryz.prog 57 #[.string s, .pointer (some ⟨p, 0, none⟩)] W fun e w' => e = .returned (.tuple #[]) ∧ (∃ D', SeenS l w' b (S ++ [s]) D') ∧ W.grownBy w' (some b) := by
  obtain ⟨w', D', hrun, h1, h2⟩ := h.put s hs hf hl
  have H1 := Lib.hid h1
  have H2 := Lib.hid h2
  clear h1 h2 h hf hs
  go_enter Tryz.func57, Tryz.ntmps57
  go_wp2_with fail
  refine bodyPost_end (results_none rfl _ _ _) rfl ?_
  exact ⟨rfl, ⟨D', H1.out⟩, H2.out⟩
theorem found_size {l : List Bd} (hl : ∀ b ∈ l, VlW b.val ∧ b.name.size ≤ 140737488355328) {s : ByteArray} {v : Vl} (h : findB l s = some v) : s.size ≤ 140737488355328 := by
  obtain ⟨b, hb, e⟩ := List.mem_map.1 (found_name h)
  rw [← nmB_inj e]
  exact (hl b hb).2
theorem readsNoteS (w w2 : World) (b p : Nat) (vv : Value) (l : List Bd) (hT : Tabs8 w) (hl : BdsR w w.heap.size vv l) (hb : w.heap.size ≤ b) (hp : w.heap.size ≤ p) (hbp : b < p) (hp2 : p < w2.heap.size) :
    NoteS w w.heap.size w2.heap.size [some b] (fun xs V => Below w.heap.size w V ∧ V.cell? ⟨p, 0, none⟩ = some (.map (some b)) ∧ ∃ D, SeenS l V b xs D) 57 #[.pointer (some ⟨p, 0, none⟩)] l where
  below _ _ h := h.1
  mono xs V V' h hB := by
    obtain ⟨h1, h2, D, h3⟩ := h
    exact ⟨h1.trans (hB.mono (by omega)), (Below.cellB hB hp2).trans h2, D, h3.keepB (hB.block b (by omega))⟩
  note xs V s hf h hB := by
    obtain ⟨h1, h2, D, h3⟩ := h
    have hlen : l.length ≤ 2513169435000 := by obtain ⟨_, _, _, h, _⟩ := hl; exact h
    have hw : ∀ b ∈ l, VlW b.val ∧ b.name.size ≤ 140737488355328 := by obtain ⟨_, _, _, _, _, _, h⟩ := hl; exact h
    have hsz : s.size ≤ 140737488355328 := by obtain ⟨v, hv⟩ := hf; exact found_size hw hv
    refine (readsNote s h2 h3 hsz hf hlen).mono fun e w' ⟨he, ⟨D', hD⟩, hg⟩ => ⟨he, ⟨?_, ?_, D', hD⟩, Frm.grown (Frm.refl _ _) hg (by simp)⟩
    · exact h1.grown hg h1.size (fun k hk => by cases hk; exact hb)
    · have : w'.heap[p]? = V.heap[p]? := hg.block p (by omega) (by intro e; cases e; omega)
      unfold World.cell? at h2 ⊢
      rw [this]
      exact h2
  run args W := by kernel_rfl
  old r hr := by simp at hr; exact ⟨b, hr, by omega⟩
  le := by omega
  tabs _ _ h := Utf8Tabs_below hT h.1

def toB (x : List UInt8) : ByteArray := ⟨x.toArray⟩
theorem nmB_toB (x : List UInt8) : nmB (toB x) = x := by simp [nmB, toB]
theorem toB_nmB (s : ByteArray) : toB (nmB s) = s := nmB_inj (nmB_toB _)
theorem strs_of_own {w : World} {base : Nat} {v : Value} {L : List (List UInt8)} (h : w.ownsRow base 9 1 v L.length (L.map encStr)) (hl : L.length ≤ 8796093022208) : Strs w w.heap.size v (L.map toB) := by
  rcases h.2 with ⟨rfl, h0⟩ | ⟨g, cap, cur, rfl, hb, hg, hc, _⟩
  · obtain rfl := List.eq_nil_of_length_eq_zero h0
    exact ColV.nil _ _ _ _
  · refine ⟨_, cap, by rw [List.length_map], by rw [List.length_map]; exact hl, by rw [List.length_map]; exact hc, fun i hi => ⟨g, 0, rfl, lt_of_block hg, ?_⟩⟩
    rw [List.length_map] at hi
    have := World.ownsRow.cellAt h i (by omega)
    rw [Nat.zero_add, this]
    simp [hi, encStr, toB]

section
variable (w : World) (n : Nd) (vk vv : Value) (l : List Bd) (hn : NdR w w.heap.size vk n) (hl : BdsR w w.heap.size vv l) (hT : Tabs8 w)
include hn hl hT
set_option maxHeartbeats 2000000 in
theorem reads_any : Calls Tryz.prog 26 #[valN n vk, vv] w fun e w' =>
    ((evE l n).2 ≠ 0 ∧ e = .returned (.tuple #[.slice none 0 0, .int .i64 (evE l n).2]) ∨ (evE l n).2 = 0 ∧ ∃ v rd, e = .returned (.tuple #[v, .int .i64 0]) ∧ Strs w' w'.heap.size v (rd.map toB) ∧ Rises rd ∧ (∀ x, x ∈ rd ↔ ∃ s ∈ notesN l n, nmB s = x)) ∧ Below w.heap.size w w' := by
  obtain ⟨w0, p0, hp0, hw0, l0, n0, b0⟩ := box_new w (objN n.op n.v n.name vk)
  obtain ⟨w1, b, hb, hw1, l1, n1, b1⟩ := box_new w0 (.map #[] 0)
  obtain ⟨w2, p, hp, hw2, l2, n2, b2⟩ := box_new w1 (.cells #[.map (some b)] 99)
  have hB2 := b0.trans ((b1.trans (b2.mono b1.size)).mono b0.size)
  have z0 := b0.size
  have z1 := b1.size
  have z2 := b2.size
  have N := readsNoteS w w2 b p vv l hT hl (by omega) (by omega) (by omega) l2
  have hseen : SeenS l w2 b [] (.map []) := (hb ▸ hw1 ▸ SeenS.made l w0 : SeenS l w1 b [] (.map [])).keepB (b2.block b l1)
  have hJ : Below w.heap.size w w2 ∧ w2.cell? ⟨p, 0, none⟩ = some (.map (some b)) ∧ ∃ D, SeenS l w2 b [] D := ⟨hB2, (cell_of_block n2 0).trans rfl, _, hseen⟩
  have K := Lib.hid (reckon_any N w2 [] hJ (Nat.le_refl _) n vk vv hn.2 hl hn.deep)
  have cN := n_cells1 (((b1.trans (b2.mono b1.size)).block p0 l0).trans n0)
  obtain ⟨c0, c1, c2, c3, c4, c5, c6⟩ := cN
  have hlen : l.length ≤ 2513169435000 := by obtain ⟨_, _, _, h, _⟩ := hl; exact h
  have HB := Lib.hid hB2
  obtain ⟨r, hr⟩ : ∃ r, evE l n = r := ⟨_, rfl⟩
  obtain ⟨ys, hys⟩ : ∃ ys, notesN l n = ys := ⟨_, rfl⟩
  rw [hr, hys] at K ⊢
  obtain ⟨rv, re⟩ := r
  clear hn hl hT hr hys N hJ hB2 hseen n0 b0 b1 b2 n1 n2
  have hmm := @run_makeMap Tryz.prog
  go_enter Tryz.func26, Tryz.ntmps26
  go_wp2_with (go_at_call 55; refine K.out.mono ?_; rintro e w3 ⟨rfl, hj3, hf3⟩; refine Hid.out ?_)
  refine Lib.hid ?_
  obtain ⟨hb3, hc3, D, hD3⟩ := hj3
  obtain ⟨w4, p4, hp4, hw4, l4, n4, b4⟩ := box_new w3 (objV rv)
  have lp3 : p < w3.heap.size := Nat.lt_of_lt_of_le l2 hf3.size
  have lb3 := hD3.lt
  have hc4 : w4.cell? ⟨p, 0, none⟩ = some (.map (some b)) := (Below.cellB b4 lp3).trans hc3
  have hD4 := hD3.keepB (b4.block b lb3)
  have HB4 := Lib.hid (hb3.trans (b4.mono hb3.size))
  have HD := Lib.hid hD4
  clear hb3 hc3 hD3 n4 b4 hf3 hD4 lp3 lb3 c0 c1 c2 c3 c4 c5 c6
  by_cases hre : re = 0
  · have dr : (re != 0) = false := by simpa using hre
    have hsm := HD.out.small
    have hown := HD.out.own
    have HR := Lib.hid hre
    have HS := Lib.hid (sortedM_any b _ D _ w4 hown (by unfold maxLen; omega) (by omega))
    clear hre hown
    go_wp2_with (first
      | (go_at_call 59; refine (keysM_any _ _).mono ?_; rintro e w5 ⟨rfl, rfl⟩)
      | (go_at_call 58; refine HS.out.mono ?_; rintro e w5 ⟨v, ss, rfl, hperm, hrow, -, hb5⟩; refine Hid.out ?_))
    refine Lib.hid ?_
    have hb45 : Below w4.heap.size w4 w5 := ((Below.refl _ w4).alloc (Nat.le_refl _) _).trans (hb5.mono (by simp))
    have HE := Lib.hid (HB4.out.trans (hb45.mono HB4.out.size))
    have hlen2 : (ss.mergeSort (fun x y => decide (x ≤ y))).length = ss.length := List.length_mergeSort _
    have hss : ss.length ≤ 8796093022208 := by
      have e1 := hperm.length_eq
      have e2 : (strKeys D).length = Maps.size D := by
        obtain ⟨es, hD, _⟩ := HD.out.own.keysOf
        rw [hD]; simp [Maps.size, strKeys]
      omega
    have hst := strs_of_own (L := ss.mergeSort (fun x y => decide (x ≤ y))) (by rw [hlen2]; exact hrow) (by omega)
    have hri := sort_rises (hperm.nodup_iff.2 HD.out.nodup)
    have hmem : ∀ x, x ∈ ss.mergeSort (fun x y => decide (x ≤ y)) ↔ ∃ s ∈ ys, nmB s = x := fun x => by
      rw [(List.mergeSort_perm ss _).mem_iff, hperm.mem_iff, HD.out.keys x, List.nil_append]
    have H5 := Lib.hid (And.intro hst (And.intro hri hmem))
    obtain ⟨av, cv, rfl⟩ := hst.val
    clear hrow hperm hb5 hb45 hst hri hmem hss hlen2
    go_wp2_with fail
    go_ret2
    exact ⟨Or.inr ⟨HR.out, _, _, rfl, H5.out.1, H5.out.2.1, H5.out.2.2⟩, HE.out⟩
  · have dr : (re != 0) = true := by simpa using hre
    have HR := Lib.hid hre
    clear hre
    go_wp2_with fail
    go_ret2
    exact ⟨Or.inl ⟨HR.out, rfl⟩, HB4.out⟩
end
end Go.Proofs.YtbephgifbghilaaGreatDoor

/- expr.Names at a node that may be: the walk over the parts. -/
set_option maxRecDepth 100000
namespace Go.Proofs.YtbephgifbghilaaGreatDoor
open Go.RowKit Go.Sort
theorem alloc_keeps (w : World) (o : Obj) (i : Nat) (h : i < w.heap.size) : (w.alloc o).heap[i]? = w.heap[i]? := by
  show (w.heap.push o)[i]? = _
  rw [Array.getElem?_push, if_neg (by omega)]

def walkF (po pw : Nat) : Value := .func (.func 61) #[] #[.pointer (some ⟨po, 0, none⟩), .pointer (some ⟨pw, 0, none⟩)]
/-- The names so far, in a row of the call's own behind a cell. -/
structure NamS (W : World) (base po pw : Nat) (v : Value) (acc : List (List UInt8)) : Prop where
  out : W.heap[po]? = some (.cells #[v] 44 (0, 0))
  fn : W.heap[pw]? = some (.cells #[.func (.func 61) #[] #[.pointer (some ⟨po, 0, none⟩), .pointer (some ⟨pw, 0, none⟩)]] 104 (0, 0))
  row : W.ownsRow base 9 1 v acc.length (acc.map encStr)
  po : po < base
  pw : pw < base
  base : base ≤ W.heap.size
section
variable {W W' : World} {base po pw : Nat} {v : Value} {acc : List (List UInt8)}
theorem NamS.below (h : NamS W base po pw v acc) (hb : Below W.heap.size W W') : NamS W' base po pw v acc :=
  ⟨(hb.block po (lt_of_block h.out)).trans h.out, (hb.block pw (lt_of_block h.fn)).trans h.fn, h.row.kept (below_grownBy hb none) (by cases hv : v.ownBlock <;> simp), h.po, h.pw, Nat.le_trans h.base hb.size⟩
/-- A block of another kind is none of its own. -/
theorem NamS.ne (h : NamS W base po pw v acc) {q : Nat} {c : Array Value} {t : TypeId} {fr : Nat × Nat} (hq : W.heap[q]? = some (.cells c t fr)) (h1 : t ≠ 44) (h2 : t ≠ 9) : ∀ r ∈ [some po, v.ownBlock], r ≠ some q := by
  intro r hr e
  simp only [List.mem_cons, List.not_mem_nil, or_false] at hr
  rcases hr with rfl | rfl
  · exact type_ne h.out hq (Ne.symm h1) (Option.some.inj e)
  · rcases h.row.2 with ⟨e0, _⟩ | ⟨g, cap, cur, e0, _, hg, _⟩
    · rw [e0] at e; cases e
    · rw [e0] at e
      exact type_ne hg hq (Ne.symm h2) (Option.some.inj e)
theorem NamS.low (h : NamS W base po pw v acc) {B : Nat} (hB : B ≤ po) : ∀ r ∈ [some po, v.ownBlock], ∀ k, r = some k → B ≤ k := by
  intro r hr k e
  simp only [List.mem_cons, List.not_mem_nil, or_false] at hr
  rcases hr with rfl | rfl
  · cases e; exact hB
  · have := (h.row.lt k e).1
    have := h.po
    omega
end
/-- What a call at a part does. -/
def NamK (base po pw B : Nat) (k : Nd) : Prop := ∀ (W : World) (v : Value) (acc : List (List UInt8)) (vk : Value), NamS W base po pw v acc → KidsR W B vk k.kids → acc.length + (namN k).length ≤ 1048576 →
  Calls Tryz.prog 61 #[valN k vk, .pointer (some ⟨po, 0, none⟩), .pointer (some ⟨pw, 0, none⟩)] W fun e w' => e = .returned (.tuple #[]) ∧ ∃ v', NamS w' base po pw v' (acc ++ (namN k).map nmB) ∧ Frm [some po, v.ownBlock] W w' ∧ Fresh W v v'

theorem info_str1 : (Tryz.prog.info? 9).map (fun i => (i.zero, i.size, i.bytes)) = some (some (.string ⟨#[]⟩), 1, 16) := by kernel_rfl
section
variable {base po pw B : Nat} (op : Int) (u : Vl) (nm : ByteArray) (vk : Value)
set_option maxHeartbeats 2000000 in
theorem nam_var (W : World) (v : Value) (acc : List (List UInt8)) (a : Option Addr) (c : Nat) (h : NamS W base po pw v acc) (hlen : acc.length + 1 ≤ 1048576) :
    Calls Tryz.prog 61 #[valO 2 u nm (.slice a 0 c), .pointer (some ⟨po, 0, none⟩), .pointer (some ⟨pw, 0, none⟩)] W fun e w' => e = .returned (.tuple #[]) ∧ ∃ v', NamS w' base po pw v' (acc ++ [nmB nm]) ∧ Frm [some po, v.ownBlock] W w' ∧ Fresh W v v' := by
  obtain ⟨w1, p0, hp0, hw1, l1, n1, b1⟩ := box_new W (objN 2 u nm (.slice a 0 c))
  have h1 := h.below b1
  have HP := Lib.hid (fun (V : World) (e : V.heap[p0]? = w1.heap[p0]?) => (show V.cell? ⟨p0, 0, none⟩ = some (.int .u8 2) ∧ V.cell? ⟨p0, 5, none⟩ = some (.string nm) ∧ V.cell? ⟨p0, 6, none⟩ = some (.slice a 0 c) from ⟨(cell_of_block (e.trans n1) 0).trans rfl, (cell_of_block (e.trans n1) 5).trans rfl, (cell_of_block (e.trans n1) 6).trans rfl⟩))
  obtain ⟨c0, c5, c6⟩ := HP.out w1 rfl
  have m1 : w1.cell? ⟨po, 0, none⟩ = some v := (cell_of_block h1.out 0).trans rfl
  have f1 : w1.frozen? ⟨po, 0, none⟩ = false := free_of_block h1.out 0
  obtain ⟨i0, hti, hz0, hz1, hz2⟩ := info_parts info_str1
  have hrow := h1.row
  have hpo := lt_of_block h1.out
  have hpp : p0 ≠ po := type_ne n1 h1.out (by decide)
  go_enter Tryz.func61, Tryz.ntmps61
  go_wp2_with (at_builtin; refine wpList_append_own_at _ rfl _ _ 44 rfl base 9 i0 _ 1 16 Tryz.underlying44 hti hz0 hz1 hz2 rfl (by decide) v acc.length (acc.map encStr) rfl (hrow.alloc _) ⟨w1.heap.size, 0, none⟩ 1 1 [.string nm] rfl rfl (cells_new _ _ _) (by simp [Value.oneCell']) (by unfold maxLen; omega) (by omega) (by have := h1.base; simp; omega) ?_; intro v' w4 hown hg4 _ hob4; refine Hid.out ?_)
  refine Lib.hid ?_
  have hb0 : Below W.heap.size W (w1.alloc (.cells #[.string nm] 9)) := b1.alloc b1.size _
  have hw1n : (w1.alloc (.cells #[.string nm] 9)).heap[po]? = some (.cells #[v] 44 (0, 0)) := (alloc_keeps _ _ po hpo).trans h1.out
  have hw1f := (alloc_keeps w1 (.cells #[.string nm] 9) pw (lt_of_block h1.fn)).trans h1.fn
  have ne1 : some po ≠ v.ownBlock := fun e => by
    rcases h1.row.2 with ⟨e0, _⟩ | ⟨g, cap, cur, e0, _, hg, _⟩
    · rw [e0] at e; cases e
    · rw [e0] at e; exact type_ne h1.out hg (by decide) (Option.some.inj e)
  have ne2 : some pw ≠ v.ownBlock := fun e => by
    rcases h1.row.2 with ⟨e0, _⟩ | ⟨g, cap, cur, e0, _, hg, _⟩
    · rw [e0] at e; cases e
    · rw [e0] at e; exact type_ne h1.fn hg (by decide) (Option.some.inj e)
  have ne3 : some p0 ≠ v.ownBlock := fun e => by
    rcases h1.row.2 with ⟨e0, _⟩ | ⟨g, cap, cur, e0, _, hg, _⟩
    · rw [e0] at e; cases e
    · rw [e0] at e; exact type_ne n1 hg (by decide) (Option.some.inj e)
  have lpo : po < (w1.alloc (.cells #[.string nm] 9)).heap.size := lt_of_block hw1n
  have o4 := (hg4.block po lpo ne1).trans hw1n
  have o5 := (hg4.block pw (lt_of_block hw1f) ne2).trans hw1f
  have o6 := (hg4.block p0 (by simp; omega) ne3).trans ((alloc_keeps w1 (.cells #[.string nm] 9) p0 l1).trans n1)
  have m4 : w4.cell? ⟨po, 0, none⟩ = some v := (cell_of_block o4 0).trans rfl
  have f4 : w4.frozen? ⟨po, 0, none⟩ = false := free_of_block o4 0
  obtain ⟨av, cv, rfl⟩ : ∃ a c, v' = .slice a (acc.length + 1) c := by
    rcases hown.2 with ⟨rfl, h0⟩ | ⟨g, cap, cur, rfl, _⟩
    · omega
    · exact ⟨_, _, rfl⟩
  have hppw : pw ≠ po := type_ne h1.fn h1.out (by decide)
  have o7 : (w4.setCell ⟨po, 0, none⟩ (.slice av (acc.length + 1) cv)).heap[p0]? = w1.heap[p0]? := (heap_setCell_other w4 ⟨po, 0, none⟩ p0 _ hpp).trans (o6.trans n1.symm)
  obtain ⟨d0, d5, d6⟩ := HP.out _ o7
  have hg5 : w4.grownBy (w4.setCell ⟨po, 0, none⟩ (.slice av (acc.length + 1) cv)) (some po) := grownBy_setCell _ _ _ _
  have hNew : NamS (w4.setCell ⟨po, 0, none⟩ (.slice av (acc.length + 1) cv)) base po pw (.slice av (acc.length + 1) cv) (acc ++ [nmB nm]) := by
    refine ⟨?_, (heap_setCell_other w4 ⟨po, 0, none⟩ pw _ hppw).trans o5, ?_, h1.po, h1.pw, Nat.le_trans h1.base (by have e1 := hg4.size; rw [World.size_alloc] at e1; have e2 := hg5.size; omega)⟩
    · have := heap_setCell_self (i := 0) (.slice av (acc.length + 1) cv) o4
      simpa using this
    · have hown' : w4.ownsRow base 9 1 (.slice av (acc.length + 1) cv) (acc ++ [nmB nm]).length ((acc ++ [nmB nm]).map encStr) := by
        simpa [encStr, nmB] using hown
      refine hown'.kept hg5 (Or.inr ?_)
      intro e
      rcases hown.2 with ⟨e0, _⟩ | ⟨g, cap, cur, e0, _, hg, _⟩
      · cases e0
      · rw [e0] at e
        exact type_ne hg o4 (by decide) (Option.some.inj e)
  have hFrm : Frm [some po, v.ownBlock] W (w4.setCell ⟨po, 0, none⟩ (.slice av (acc.length + 1) cv)) := Frm.grown (Frm.grown (Frm.ofBelow hb0) hg4 (by simp)) hg5 (by simp)
  have hFresh : Fresh W v (.slice av (acc.length + 1) cv) := by
    rcases hob4 with e | e
    · exact Or.inl e
    · exact Or.inr ⟨_, e, by have := b1.size; simp; omega⟩
  have HN := Lib.hid (And.intro hNew (And.intro hFrm hFresh))
  clear hNew hFrm hFresh hob4 hown hg4 hg5 ne1 ne2 ne3 hw1n hw1f hb0 h1 o4 o5 o6 o7 hrow h n1 b1
  obtain ⟨w5, hw5⟩ : ∃ w5, w4.setCell ⟨po, 0, none⟩ (.slice av (acc.length + 1) cv) = w5 := ⟨_, rfl⟩
  rw [hw5] at HN d0 d5 d6
  go_wp2_with fail
  go_loopg [17] 0 (fun _ s17 wr => w5 = wr ∧ s17 = .int .i64 0)
  case atStart => exact ⟨rfl, rfl⟩
  case round =>
    obtain ⟨rfl, rfl⟩ := hrel
    go_wp2_with fail
    refine bodyPost_end (results_none rfl _ _ _) rfl ?_
    exact ⟨rfl, _, HN.out.1, HN.out.2.1, HN.out.2.2⟩
end
theorem namL_app : ∀ a b : List Nd, namL (a ++ b) = namL a ++ namL b
  | [], _ => rfl
  | x :: r, b => by
    show namN x ++ namL (r ++ b) = namN x ++ namL r ++ namL b
    rw [namL_app r b, List.append_assoc]
theorem namL_take {ks : List Nd} {k : Nat} (h : k < ks.length) : namL (ks.take (k + 1)) = namL (ks.take k) ++ namN ks[k] := by
  rw [List.take_add_one, List.getElem?_eq_getElem h, namL_app]
  show _ ++ (namN ks[k] ++ []) = _
  rw [List.append_nil]
theorem namL_le (ks : List Nd) (k : Nat) : (namL (ks.take k)).length ≤ (namL ks).length := by
  have := namL_app (ks.take k) (ks.drop k)
  rw [List.take_append_drop] at this
  rw [this, List.length_append]
  omega
section
variable {base po pw B : Nat} (op : Int) (u : Vl) (nm : ByteArray) (vk : Value)
set_option maxHeartbeats 2000000 in
theorem nam_kids (W : World) (v : Value) (acc : List (List UInt8)) (ks : List Nd) (d2 : (op == 2) = false) (h : NamS W base po pw v acc) (hk : KidsR W B vk ks) (hB : B ≤ po) (hlen : acc.length + (namL ks).length ≤ 1048576) (HK : ∀ i (hi : i < ks.length), NamK base po pw B ks[i]) :
    Calls Tryz.prog 61 #[valO op u nm vk, .pointer (some ⟨po, 0, none⟩), .pointer (some ⟨pw, 0, none⟩)] W fun e w' => e = .returned (.tuple #[]) ∧ ∃ v', NamS w' base po pw v' (acc ++ (namL ks).map nmB) ∧ Frm [some po, v.ownBlock] W w' ∧ Fresh W v v' := by
  obtain ⟨w1, p0, hp0, hw1, l1, n1, b1⟩ := box_new W (objN op u nm vk)
  have h1 := h.below b1
  have HP := Lib.hid (fun (V : World) (e : V.heap[p0]? = w1.heap[p0]?) => (show V.cell? ⟨p0, 0, none⟩ = some (.int .u8 op) ∧ V.cell? ⟨p0, 6, none⟩ = some vk from ⟨(cell_of_block (e.trans n1) 0).trans rfl, (cell_of_block (e.trans n1) 6).trans rfl⟩))
  obtain ⟨c0, c6⟩ := HP.out w1 rfl
  have hll := hk.len
  obtain ⟨ka, kc, rfl, hat⟩ := kid_at hk
  have HA := Lib.hid hat
  have HKK := Lib.hid HK
  have HL := Lib.hid hlen
  have H0 := Lib.hid (And.intro h1 (And.intro (Frm.ofBelow (S := [some po, v.ownBlock]) b1) (Fresh.refl W v)))
  have HN1 := Lib.hid n1
  have HBW := Lib.hid (show B ≤ W.heap.size from Nat.le_trans hB (Nat.le_of_lt (lt_of_block h.out)))
  have HLow := Lib.hid (h.low hB)
  have HBpo := hB
  clear hk HK hat h h1 n1 b1 hlen hB
  go_enter Tryz.func61, Tryz.ntmps61
  go_wp2_with fail
  go_loopg [17] ks.length (fun g s17 wr => ∃ (k : Nat) (v' : Value), k + g = ks.length ∧ s17 = .int .i64 (k : Int) ∧ Hid (NamS wr base po pw v' (acc ++ (namL (ks.take k)).map nmB) ∧ Frm [some po, v.ownBlock] W wr ∧ Fresh W v v' ∧ wr.heap[p0]? = w1.heap[p0]? ∧ w1.heap.size ≤ wr.heap.size))
  case atStart => exact ⟨0, v, by omega, rfl, Lib.hid ⟨by simpa [namL] using H0.out.1, H0.out.2.1, H0.out.2.2, rfl, Nat.le_refl _⟩⟩
  case round =>
    obtain ⟨k, v', hkg, rfl, hI⟩ := hrel
    obtain ⟨hS, hF, hFr, hp, hsz⟩ := hI.out
    by_cases hk : k < ks.length
    · have hBel : Below B W wr := hF.toBelow HBW.out HLow.out
      obtain ⟨b, o, vk', rfl, hb, hw, hkk, hcc⟩ := HA.out k hk
      obtain ⟨e0, e1, e2, e3, e4, e5, e6⟩ := kid_cells hcc hBel hb
      obtain ⟨w2, p2, hp2, hw2, l2, n2, b2⟩ := box_new wr (objN ks[k].op ks[k].v ks[k].name vk')
      have hS2 := hS.below b2
      have hp2' : w2.heap[p0]? = w1.heap[p0]? := (b2.block p0 (by omega)).trans hp
      have hkB2 := (hkk.mono hBel (Nat.le_refl _)).mono (b2.mono (Nat.le_trans HBW.out hF.size)) (Nat.le_refl _)
      have hlk : (acc ++ (namL (ks.take k)).map nmB).length + (namN ks[k]).length ≤ 1048576 := by
        have e1 := namL_take hk
        have e2 := namL_le ks (k + 1)
        rw [e1, List.length_append] at e2
        have := HL.out
        simp only [List.length_append, List.length_map]
        omega
      have HCall := Lib.hid (HKK.out k hk w2 v' _ vk' hS2 hkB2 hlk)
      have HT := Lib.hid (namL_take hk)
      have g0 : w2.cell? ⟨pw, 0, none⟩ = some (.func (.func 61) #[] #[.pointer (some ⟨po, 0, none⟩), .pointer (some ⟨pw, 0, none⟩)]) := (cell_of_block hS2.fn 0).trans rfl
      have HF2 := Lib.hid (And.intro hS2 (And.intro (hF.below b2) (And.intro hFr hp2')))
      have hsz2 : W.heap.size ≤ w2.heap.size := Nat.le_trans hF.size b2.size
      obtain ⟨ak, ck, rfl⟩ := hkk.val
      obtain ⟨x, hx⟩ : ∃ x, ks[k] = x := ⟨_, rfl⟩
      obtain ⟨nk, hnk⟩ : ∃ nk, ks[k].kids.length = nk := ⟨_, rfl⟩
      rw [hnk] at e6 hw2 n2 HCall
      rw [hx] at e0 e1 e2 e3 e4 e5 hw2 n2 HCall HT
      have hw2' : wr.alloc (.cells #[.int .u8 x.op, .int .u8 x.v.kind, .int .i64 x.v.num, .bool x.v.tr, .string x.v.text, .string x.name, .slice ak nk ck] 29) = w2 := hw2
      obtain ⟨f0, f1, f2, f3, f4, f5, f6⟩ := n_cells n2
      have k1 : (0 : Int) ≤ (k : Int) := by omega
      have k2 : (k : Int) < (ks.length : Int) := by omega
      clear hx hnk hw2 n2 b2 hkk hcc hw hBel hS hF hFr hp hS2 hp2' hkB2 hlk hI
      go_wp2_with (go_at_call 61; refine HCall.out.mono ?_; rintro e w3 ⟨rfl, v3, hS3, hF3, hFr3⟩; refine Hid.out ?_)
      refine Lib.hid ?_
      obtain ⟨hS2, hFW, hFrW, hp2'⟩ := HF2.out
      have hp3 : w3.heap[p0]? = w1.heap[p0]? := (hF3.keep p0 (lt_of_block (hp2'.trans HN1.out)) (fun r hr e => hS2.ne (hp2'.trans HN1.out) (by decide) (by decide) r hr e)).trans hp2'
      have hFn : Frm [some po, v.ownBlock] W w3 := Frm.trans hFW hF3 (fun r hr => by
        simp only [List.mem_cons, List.not_mem_nil, or_false] at hr
        rcases hr with rfl | rfl
        · exact Or.inl (by simp)
        · rcases hFrW with e | ⟨j, e, hj⟩
          · rw [e]; exact Or.inl (by simp)
          · exact Or.inr ⟨j, e, hj⟩)
      have hFrn : Fresh W v v3 := Fresh.trans hFrW hFr3 hsz2
      have hSn : NamS w3 base po pw v3 (acc ++ (namL (ks.take (k + 1))).map nmB) := by
        rw [HT.out, List.map_append, ← List.append_assoc]
        exact hS3
      have HE := Lib.hid (And.intro hSn (And.intro hFn (And.intro hFrn (And.intro hp3 (show w1.heap.size ≤ w3.heap.size from by have := hF3.size; omega)))))
      clear hS3 hF3 hFr3 hS2 hFW hFrW hp2' hp3 hFn hFrn hSn
      go_wp2_with fail
      go_roundg (gk - 1)
      case measure => omega
      case rel => exact ⟨k + 1, v3, by omega, by go_num, HE⟩
    · have dk : decide (k < ks.length) = false := decide_eq_false hk
      have HE := Lib.hid (show NamS wr base po pw v' (acc ++ (namL ks).map nmB) ∧ Frm [some po, v.ownBlock] W wr ∧ Fresh W v v' from ⟨by rw [List.take_of_length_le (by omega)] at hS; exact hS, hF, hFr⟩)
      clear hS hF hFr hp hI
      go_wp2_with fail
      refine bodyPost_end (results_none rfl _ _ _) rfl ?_
      exact ⟨rfl, _, HE.out.1, HE.out.2.1, HE.out.2.2⟩
end
end Go.Proofs.YtbephgifbghilaaGreatDoor

/- expr.Names at a node that may be: all its variables stand in what it answers. -/
set_option maxRecDepth 100000
namespace Go.Proofs.YtbephgifbghilaaGreatDoor
open Go.RowKit Go.Sort

mutual
theorem nam_N {base po pw B : Nat} (hB : B ≤ po) : ∀ n : Nd, checkN n = true → NamK base po pw B n
  | .mk op u nm ks, hc, W, v, acc, vk, h, hk, hlen => by
    have h' : (headB op u nm ks.length && checkL ks) = true := hc
    rw [Bool.and_eq_true] at h'
    obtain ⟨hh, hL⟩ := h'
    have e3 : namN (.mk op u nm ks) = (if op = 2 then [nm] else []) ++ namL ks := rfl
    rw [e3] at hlen ⊢
    by_cases o2 : op = 2
    · subst o2
      obtain ⟨k1, -⟩ := head_facts hh
      have k0 : ks.length = 0 := by unfold kidsN at k1; simp at k1; rw [k1]; rfl
      obtain rfl := List.eq_nil_of_length_eq_zero k0
      obtain ⟨a, c, rfl⟩ := hk.val
      rw [show ((if (2 : Int) = 2 then [nm] else []) ++ namL []).map nmB = [nmB nm] from rfl]
      exact nam_var (base := base) (po := po) (pw := pw) u nm W v acc a c h (by simp [namL] at hlen; omega)
    · rw [if_neg o2, List.nil_append] at hlen ⊢
      exact nam_kids op u nm vk W v acc ks (by simpa using o2) h hk hB hlen (nam_L hB ks hL)
theorem nam_L {base po pw B : Nat} (hB : B ≤ po) : ∀ ks : List Nd, checkL ks = true → ∀ i (hi : i < ks.length), NamK base po pw B ks[i]
  | [], _, i, hi => absurd hi (by simp)
  | a :: r, h, 0, _ => by
    have h' : (checkN a && checkL r) = true := h
    rw [Bool.and_eq_true] at h'
    exact nam_N hB a h'.1
  | a :: r, h, i + 1, hi => by
    have h' : (checkN a && checkL r) = true := h
    rw [Bool.and_eq_true] at h'
    exact nam_L hB r h'.2 i (by simp at hi; omega)
end
theorem mem_compactUpTo (d : Array (List UInt8)) (m : Nat) : ∀ j, j < m → d[j]! ∈ Lib.compactUpTo d m := by
  intro j
  induction j with
  | zero =>
    intro h
    unfold Lib.compactUpTo
    exact List.mem_map.2 ⟨0, List.mem_filter.2 ⟨List.mem_range.2 h, Lib.keeps_lt_one d 0 (by omega)⟩, rfl⟩
  | succ j ih =>
    intro h
    by_cases e : d[j + 1]! = d[j + 1 - 1]!
    · rw [e]; exact ih (by omega)
    · unfold Lib.compactUpTo
      exact List.mem_map.2 ⟨j + 1, List.mem_filter.2 ⟨List.mem_range.2 h, Lib.keeps_pos e⟩, rfl⟩
theorem mem_compact {zs : List (List UInt8)} {x : List UInt8} (h : x ∈ zs) : x ∈ Lib.compact zs := by
  obtain ⟨j, hj, rfl⟩ := List.getElem_of_mem h
  have := mem_compactUpTo zs.toArray zs.length j hj
  rw [getElem!_pos _ _ (by simpa using hj)] at this
  simpa [Lib.compact] using this
theorem compact_le (zs : List (List UInt8)) : (Lib.compact zs).length ≤ zs.length := by
  unfold Lib.compact Lib.compactUpTo
  rw [List.length_map]
  exact Nat.le_trans (List.length_filter_le _ _) (by simp)

/-- A node's names: sorted, each once. -/
def namesL (n : Nd) : List (List UInt8) := Lib.compact (((namN n).map nmB).mergeSort fun x y => decide (x ≤ y))
theorem mem_namesL (n : Nd) {s : ByteArray} (h : s ∈ namN n) : nmB s ∈ namesL n := mem_compact ((List.mergeSort_perm _ _).mem_iff.2 (List.mem_map.2 ⟨s, h, rfl⟩))
set_option maxHeartbeats 2000000 in
theorem names_full (w : World) (n : Nd) (vk : Value) (hn : NdR w w.heap.size vk n) (hc : checkN n = true) (hlen : (namN n).length ≤ 1048576) :
    Calls Tryz.prog 29 #[valN n vk] w fun e w' => ∃ (v : Value) (L : List (List UInt8)), e = .returned v ∧ Strs w' w'.heap.size v (L.map toB) ∧ L = namesL n ∧ Below w.heap.size w w' := by
  obtain ⟨w1, p0, hp0, hw1, l1, n1, b1⟩ := box_new w (objN n.op n.v n.name vk)
  obtain ⟨w2, po, hpo, hw2, l2, n2, b2⟩ := box_new w1 (.cells #[.slice none 0 0] 44)
  obtain ⟨w3, pw, hpw, hw3, l3, n3, b3⟩ := box_new w2 (.cells #[.nilFunc] 104)
  obtain ⟨w4, hw4⟩ : ∃ w4, w3.setCell ⟨pw, 0, none⟩ (.func (.func 61) #[] #[.pointer (some ⟨po, 0, none⟩), .pointer (some ⟨pw, 0, none⟩)]) = w4 := ⟨_, rfl⟩
  have z1 := b1.size
  have z2 := b2.size
  have m3 : w3.cell? ⟨pw, 0, none⟩ = some .nilFunc := (cell_of_block n3 0).trans rfl
  have f3 : w3.frozen? ⟨pw, 0, none⟩ = false := free_of_block n3 0
  have hop : po ≠ pw := by omega
  have h0p : p0 ≠ pw := by omega
  have o4 : w4.heap[po]? = some (.cells #[.slice none 0 0] 44 (0, 0)) := by rw [← hw4, heap_setCell_other w3 ⟨pw, 0, none⟩ po _ hop]; exact (b3.block po l2).trans n2
  have q4 : w4.heap[pw]? = some (.cells #[.func (.func 61) #[] #[.pointer (some ⟨po, 0, none⟩), .pointer (some ⟨pw, 0, none⟩)]] 104 (0, 0)) := by
    have := heap_setCell_self (i := 0) (.func (.func 61) #[] #[.pointer (some ⟨po, 0, none⟩), .pointer (some ⟨pw, 0, none⟩)]) n3
    rw [hw4] at this
    simpa using this
  have p4 : w4.heap[p0]? = w1.heap[p0]? := by rw [← hw4, heap_setCell_other w3 ⟨pw, 0, none⟩ p0 _ h0p]; exact (b3.block p0 (by omega)).trans (b2.block p0 l1)
  have hb4 : Below w.heap.size w w4 := by rw [← hw4]; exact ((b1.trans ((b2.trans (b3.mono b2.size)).mono b1.size))).setCell (show w.heap.size ≤ pw by omega) _
  have hz4 : w3.heap.size = w4.heap.size := by rw [← hw4]; simp
  have hS : NamS w4 w4.heap.size po pw (.slice none 0 0) [] := ⟨o4, q4, World.ownsRow_nil _ _ _ _, by omega, by omega, Nat.le_refl _⟩
  have hB : w.heap.size ≤ po := by omega
  obtain ⟨c0, c1, c2, c3, c4, c5, c6⟩ := n_cells (p4.trans n1)
  have K := Lib.hid (nam_N hB n hc w4 _ [] vk hS (hn.2.mono hb4 (Nat.le_refl _)) (by simpa using hlen))
  have HB := Lib.hid hb4
  have g4 := (show w4.cell? ⟨pw, 0, none⟩ = some (.func (.func 61) #[] #[.pointer (some ⟨po, 0, none⟩), .pointer (some ⟨pw, 0, none⟩)]) from (cell_of_block q4 0).trans rfl)
  have HM : Hid (namesL n = Lib.compact (((namN n).map nmB).mergeSort fun x y => decide (x ≤ y))) := Lib.hid rfl
  have HL := Lib.hid hlen
  obtain ⟨N, hN⟩ : ∃ N, (namN n).map nmB = N := ⟨_, rfl⟩
  have HN := Lib.hid (show N.length ≤ 1048576 by rw [← hN, List.length_map]; exact hlen)
  rw [hN] at K HM
  rw [List.nil_append] at K
  obtain ⟨ms, hms⟩ : ∃ ms, namesL n = ms := ⟨_, rfl⟩
  rw [hms] at HM ⊢
  have hlow := Lib.hid (hS.low hB)
  clear hN hms hlen hS hb4 hn hc n1 n2 n3 b1 b2 b3 o4 q4 p4 hz4
  go_enter Tryz.func29, Tryz.ntmps29
  go_wp2_with (go_at_call 61; refine K.out.mono ?_; rintro e w5 ⟨rfl, v5, hS5, hF5, -⟩; refine Hid.out ?_)
  refine Lib.hid ?_
  have h5 : w5.cell? ⟨po, 0, none⟩ = some v5 := (cell_of_block hS5.out 0).trans rfl
  have hb5 := HB.out.trans (hF5.toBelow HB.out.size hlow.out)
  by_cases hN0 : N.length = 0
  · have hv5 : ∃ a c, v5 = .slice a 0 c := by
      rcases hS5.row.2 with ⟨rfl, _⟩ | ⟨g, cap, cur, rfl, _⟩
      · exact ⟨_, _, rfl⟩
      · rw [hN0]; exact ⟨_, _, rfl⟩
    obtain ⟨a5, k5, rfl⟩ := hv5
    have HS := Lib.hid (show Calls Tryz.prog 62 #[.slice a5 0 k5] w5 fun e w' => e = .returned (.tuple #[]) ∧ w' = w5 from AnyM.slices_Sort_string_none Tryz.sortM a5 k5 w5)
    have HC := Lib.hid (show Calls Tryz.prog 63 #[.slice a5 0 k5] w5 fun e w' => e = .returned (.slice a5 0 k5) ∧ w' = w5 from Tryz.slices_Compact_string_empty a5 k5 w5)
    have H0 := Lib.hid (List.eq_nil_of_length_eq_zero hN0)
    have HB5 := Lib.hid hb5
    clear hN0 hS5 hF5 hb5
    go_wp2_with (first
      | (go_at_call 62; refine HS.out.mono ?_; rintro e w6 ⟨rfl, rfl⟩)
      | (go_at_call 63; refine HC.out.mono ?_; rintro e w6 ⟨rfl, rfl⟩))
    go_ret
    refine ⟨_, [], rfl, ⟨a5, k5, rfl, by simp, by simp, fun i hi => by simp at hi⟩, ?_, HB5.out⟩
    rw [H0.out] at HM
    rw [HM.out]
    simp [Lib.compact, Lib.compactUpTo]
  · have hv5 : v5 ≠ .slice none 0 0 := by
      intro e
      rcases hS5.row.2 with ⟨_, h⟩ | ⟨g, cap, cur, e2, _⟩
      · exact hN0 h
      · rw [e] at e2; cases e2
    obtain ⟨g, k5, rfl, hbg, hgl, hnk, hkm, -, hH⟩ := Lib.holds_of_ownsRow hS5.row hv5
    have hlN := HN.out
    have HS := Lib.hid (show Calls Tryz.prog 62 #[.slice (some ⟨g, 0, none⟩) N.length k5] w5 fun e w' => e = .returned (.tuple #[]) ∧ ∃ n os, w' = grow (putRow encStr (Sort.ahead w5 n) g 0 (N.mergeSort fun x y => decide (x ≤ y)).toArray) os from AnyM.slices_Sort_string Tryz.sortM g 0 k5 N w5 hH hgl (by omega))
    obtain ⟨M, hM⟩ : ∃ M, N.mergeSort (fun x y => decide (x ≤ y)) = M := ⟨_, rfl⟩
    have hlM : M.length = N.length := by rw [← hM]; exact List.length_mergeSort _
    rw [hM] at HS HM
    obtain ⟨cur, hcur, h1, h2, h3⟩ : ∃ cur, w5.heap[g]? = some (.cells cur 9 (0, 0)) ∧ N.length ≤ k5 ∧ k5 ≤ maxLen ∧ cur.size = k5 * 1 := by
      rcases hS5.row.2 with ⟨e0, _⟩ | ⟨g', cap, cur, e0, _, hg, h1, h2, h3, _⟩
      · cases e0
      · cases e0; exact ⟨cur, hg, h1, h2, h3⟩
    have hgo : g ≠ po := type_ne hcur hS5.out (by decide)
    have HO := Lib.hid hS5.out
    have HB5 := Lib.hid hb5
    have HCU := Lib.hid (And.intro hcur h3)
    have HLM := Lib.hid hlM
    have hbw : w.heap.size ≤ g := by have := HB.out.size; omega
    clear hN0 hS5 hF5 hb5 hv5 hH hM hcur h3 hlM
    go_wp2_with (go_at_call 62; refine HS.out.mono ?_; rintro e w6 ⟨rfl, q6, os6, hw6⟩; have HW6 := Lib.hid hw6; clear hw6; refine Hid.out ?_)
    refine Lib.hid ?_
    have hw6 := HW6.out
    have hg6 : w5.grownBy w6 (some g) := by rw [hw6]; exact grownBy_sorted _
    have hr6 : w6.ownsRow g 9 1 (.slice (some ⟨g, 0, none⟩) N.length k5) N.length (M.map encStr) := by rw [hw6]; exact ownsRow_sorted HLM.out (Nat.le_refl _) HCU.out.1 h1 h2 HCU.out.2
    have c6o : w6.cell? ⟨po, 0, none⟩ = some (.slice (some ⟨g, 0, none⟩) N.length k5) := (cell_of_block ((hg6.block po (lt_of_block HO.out) (fun e => hgo (Option.some.inj e).symm)).trans HO.out) 0).trans rfl
    have hb6 : Below w.heap.size w w6 := HB5.out.grown hg6 (by have := HB5.out.size; omega) (fun k hk => by cases hk; exact hbw)
    obtain ⟨_, _, e7, _, _, _, _, hlM, hH6⟩ := Lib.holds_of_ownsRow hr6 (by intro e; cases e)
    cases e7
    have HCo := Lib.hid (show Calls Tryz.prog 63 #[.slice (some ⟨g, 0, none⟩) N.length k5] w6 fun e w' => e = .returned (.slice (some ⟨g, 0, none⟩) (Lib.compact M).length k5) ∧ ∃ q, w' = putRow encStr (Sort.ahead w6 q) g 0 (Lib.compact M ++ List.replicate (M.length - (Lib.compact M).length) []).toArray from by
      rw [← hlM]
      exact Tryz.slices_Compact_string g 0 k5 M w6 hH6 (by omega) (by omega))
    have HR6 := Lib.hid hr6
    have HB6 := Lib.hid hb6
    have HLM2 := Lib.hid hlM
    clear hr6 hb6 hH6 hlM hg6 hw6 h5
    go_wp2_with (go_at_call 63; refine HCo.out.mono ?_; rintro e w7 ⟨rfl, q7, hw7⟩; have HW7 := Lib.hid hw7; clear hw7; refine Hid.out ?_)
    refine Lib.hid ?_
    have hw7 := HW7.out
    have hle := compact_le M
    have hr7 : w7.ownsRow g 9 1 (.slice (some ⟨g, 0, none⟩) (Lib.compact M).length k5) (Lib.compact M).length ((Lib.compact M).map encStr) := by
      rw [hw7]
      have := Lib.ownsRow_putRow (q := q7) (k := (Lib.compact M).length) (ys := Lib.compact M ++ List.replicate (M.length - (Lib.compact M).length) []) HR6.out (by rw [List.length_append, List.length_replicate, HLM2.out.symm]; omega) (by rw [← HLM2.out]; exact hle)
      rwa [List.take_left'] at this
      rfl
    have hb7 : Below w.heap.size w w7 := by rw [hw7]; exact Lib.below_putRow HB6.out hbw
    have HF := Lib.hid (And.intro (strs_of_own hr7 (by have := HLM2.out; omega)) hb7)
    clear hr7 hb7 hw7 hle
    go_wp2_with fail
    go_ret
    exact ⟨_, Lib.compact M, rfl, HF.out.1, HM.out.symm, HF.out.2⟩
theorem names_any (w : World) (n : Nd) (vk : Value) (hn : NdR w w.heap.size vk n) (hc : checkN n = true) (hlen : (namN n).length ≤ 1048576) :
    Calls Tryz.prog 29 #[valN n vk] w fun e w' => ∃ (v : Value) (L : List (List UInt8)), e = .returned v ∧ Strs w' w'.heap.size v (L.map toB) ∧ (∀ s ∈ namN n, nmB s ∈ L) ∧ Below w.heap.size w w' := by
  refine (names_full w n vk hn hc hlen).mono ?_
  rintro e w' ⟨v, L, he, hs, rfl, hb⟩
  exact ⟨v, _, he, hs, fun s h => mem_namesL n h, hb⟩
end Go.Proofs.YtbephgifbghilaaGreatDoor
