/- A region that draws its order: a load may be taken first where the store to its cell waits for it, though the region itself stores to that cell at its end. (Laws on the model's regions; no program here.) -/
import Derived.Test.YtbolacnpljkpbaaDoorBase
import Derived.OrdersHeld
import Derived.Deep.RegionHeld
set_option maxRecDepth 100000
namespace Go.Proofs.YtbolacnpljkpbaaDoor
open Go

section
variable {P : Program} {ops : Array Oper} {Q : Exit → Act → World → Prop} {md : Region.Mode} {C : World → Prop} {s : Nat}

/-- Whatever order is picked from here on; till number 's' has come up, 'C' holds behind every operation. -/
def wpAnyL (P : Program) (md : Region.Mode) (ops : Array Oper) (Q : Exit → Act → World → Prop) (C : World → Prop) (s : Nat) : Nat → Array Bool → Act → World → Prop
  | 0, listed, a, w => Region.ready md ops listed = [] ∧ Q .normal a w
  | fuel + 1, listed, a, w =>
    (Region.ready md ops listed = [] → Q .normal a w) ∧
    ∀ i ∈ Region.ready md ops listed, wpOp P ops Q i (fun a' w' => ((listed.setIfInBounds i true).getD s true = false → C w') ∧ wpAnyL P md ops Q C s fuel (listed.setIfInBounds i true) a' w') a w

theorem wpAny_of_L : ∀ (fuel : Nat) (listed : Array Bool) (a : Act) (w : World), wpAnyL P md ops Q C s fuel listed a w → wpAny P md ops Q fuel listed a w
  | 0, _, _, _, h => h
  | fuel + 1, _, _, _, h => ⟨h.1, fun i hi => wpOp_mono (fun a' w' h' => wpAny_of_L fuel _ a' w' h'.2) (h.2 i hi)⟩

/-- Whoever has come up, those that it waits for have. -/
def Down (md : Region.Mode) (ops : Array Oper) (listed : Array Bool) : Prop :=
  listed.size = ops.size ∧ ∀ j o, ops[j]? = some o → listed.getD j false = true → ∀ e ∈ o.after, Region.binds md e = true → listed.getD e.on false = true
def downB (md : Region.Mode) (ops : Array Oper) (listed : Array Bool) : Bool :=
  (listed.size == ops.size) && (List.range ops.size).all fun j => !(listed.getD j false) || (match ops[j]? with | some o => o.after.all fun e => !(Region.binds md e) || listed.getD e.on false | none => true)
theorem down_of {listed : Array Bool} (h : downB md ops listed = true) : Down md ops listed := by
  simp only [downB, Bool.and_eq_true, beq_iff_eq, List.all_eq_true, List.mem_range] at h
  refine ⟨h.1, fun j o ho hl e he hb => ?_⟩
  have h1 := h.2 j (Array.getElem?_eq_some_iff.1 ho).1
  rw [hl, ho] at h1
  simp only [Bool.not_true, Bool.false_or] at h1
  have h2 := Array.all_eq_true_iff_forall_mem.1 h1 e he
  rw [hb] at h2
  simpa using h2
theorem Down.step {listed : Array Bool} {j : Nat} (h : Down md ops listed) (hj : j ∈ Region.ready md ops listed) : Down md ops (listed.setIfInBounds j true) := by
  obtain ⟨h0, oj, hoj, hall⟩ := mem_ready.1 hj
  refine ⟨by rw [Array.size_setIfInBounds]; exact h.1, fun k o ho hk e he hb => ?_⟩
  by_cases hkj : k = j
  · subst hkj
    rw [hoj] at ho
    cases ho
    exact getD_set_true (hall e he hb)
  · rw [getD_set_ne false (Ne.symm hkj)] at hk
    exact getD_set_true (h.2 k o ho hk e he hb)

/-- A row of numbers of which each waits for the next one. -/
def pathB (md : Region.Mode) (ops : Array Oper) : List Nat → Bool
  | a :: b :: r => (match ops[a]? with | some o => o.after.any fun e => Region.binds md e && e.on == b | none => false) && pathB md ops (b :: r)
  | _ => true
theorem down_path {listed : Array Bool} (h : Down md ops listed) : ∀ (r : List Nat) (a z : Nat), pathB md ops (a :: r) = true → (a :: r).getLast? = some z → listed.getD a false = true → listed.getD z false = true
  | [], a, z, _, hz, ha => by simp at hz; rw [← hz]; exact ha
  | b :: r, a, z, hp, hz, ha => by
    simp only [pathB, Bool.and_eq_true] at hp
    obtain ⟨h1, h2⟩ := hp
    cases ho : ops[a]? with
    | none => rw [ho] at h1; cases h1
    | some o =>
      rw [ho] at h1
      obtain ⟨e, he, hb⟩ := Array.any_eq_true'.1 h1
      simp only [Bool.and_eq_true, beq_iff_eq] at hb
      refine down_path h r b z h2 (by simpa using hz) ?_
      rw [← hb.2]
      exact h.2 a o ho ha e he hb.1

theorem getD_both {listed : Array Bool} {i n : Nat} (hs : listed.size = n) (hi : i < n) (d d' : Bool) : listed.getD i d = listed.getD i d' := by
  simp [Array.getD, hs, hi]

/-- Who waits for number 'i' has not come up where 'i' has not. -/
theorem unlisted {listed : Array Bool} {i : Nat} {r : List Nat} (h : Down md ops listed) (hs : s < ops.size) (hi : i < ops.size) (hp : pathB md ops (s :: r) = true) (hz : (s :: r).getLast? = some i) (hu : listed.getD i true = false) : listed.getD s true = false := by
  cases e : listed.getD s true with
  | false => rfl
  | true =>
    have h1 := down_path h r s i hp hz (by rw [getD_both h.1 hs false true]; exact e)
    rw [getD_both h.1 hi false true, hu] at h1
    cases h1

theorem wpAnyL_first {C' : World → Prop} {i : Nat} {oi : Oper} {v : Value} (hi : ops[i]? = some oi) (hsel : ∀ (j : Nat) (o : Oper) cs b, ops[j]? = some o → o.op ≠ .select cs b)
    (hQ : ∀ c a w, Q (.panic c) (a.put oi.dst v) w → Q (.panic c) a w) (his : i ≠ s)
    (hw : ∀ listed w, Down md ops listed → listed.getD i true = false → (listed.getD s true = false → C w) → C' w) :
    ∀ (fuel : Nat) (listed : Array Bool) (a : Act) (w : World), Down md ops listed →
      (∀ j oj, ops[j]? = some oj → j ≠ i → listed.getD j true = false → (∀ e ∈ oj.after, Region.binds md e = true → e.on ≠ i) → oi.apart ops oj = true) →
      i ∈ Region.ready md ops listed → YieldsIf P ops C' oi v a → (listed.getD s true = false → C w) →
      wpAnyL P md ops Q C s fuel (listed.setIfInBounds i true) (a.put oi.dst v) w → wpAnyL P md ops Q C s (fuel + 1) listed a w := by
  intro fuel
  induction fuel with
  | zero =>
    intro listed a w hD _ hr hy hS H
    have hC' := hw listed w hD (mem_ready.1 hr).1 hS
    refine ⟨fun h => (by rw [h] at hr; cases hr), fun j hj => ?_⟩
    by_cases hji : j = i
    · subst hji; exact hy.wpOp hi hC' ⟨fun hg => hS (by rw [getD_set_ne true his] at hg; exact hg), H⟩
    · have := ready_mono hj hji
      rw [H.1] at this
      cases this
  | succ fuel ih =>
    intro listed a w hD hfree hr hy hS H
    have hC' := hw listed w hD (mem_ready.1 hr).1 hS
    refine ⟨fun h => (by rw [h] at hr; cases hr), fun j hj => ?_⟩
    by_cases hji : j = i
    · subst hji; exact hy.wpOp hi hC' ⟨fun hg => hS (by rw [getD_set_ne true his] at hg; exact hg), H⟩
    · have h1 := H.2 j (ready_mono hj hji)
      obtain ⟨hjun, oj, hoj, hall⟩ := mem_ready.1 hj
      have hnot : ∀ e ∈ oj.after, Region.binds md e = true → e.on ≠ i := fun e he hb heq => by
        have h1 := hall e he hb
        have h0 := (mem_ready.1 hr).1
        rw [heq] at h1
        rcases Nat.lt_or_ge i listed.size with h' | h'
        · simp [h'] at h0 h1; rw [h0] at h1; cases h1
        · simp [Array.getElem?_eq_none h'] at h1
      have h2 := wpOp_putIf hoj (hfree j oj hoj hji hjun hnot) (fun cs b => hsel i oi cs b hi) (fun cs b => hsel j oj cs b hoj) hQ hy h1
      have hfree' : ∀ k ok, ops[k]? = some ok → k ≠ i → (listed.setIfInBounds j true).getD k true = false →
          (∀ e ∈ ok.after, Region.binds md e = true → e.on ≠ i) → oi.apart ops ok = true := fun k ok hk hki hun hno => by
        refine hfree k ok hk hki ?_ hno
        by_cases hjk : j = k
        · subst hjk; exact hjun
        · rw [getD_set_ne true hjk] at hun; exact hun
      refine wpOp_mono (fun a' w' h3 => ?_) h2
      have hcomm : (listed.setIfInBounds i true).setIfInBounds j true = (listed.setIfInBounds j true).setIfInBounds i true := Array.setIfInBounds_comm _ _ (Ne.symm hji)
      obtain ⟨hy3, hg3, h3⟩ := h3
      rw [hcomm] at hg3 h3
      have hgC : (listed.setIfInBounds j true).getD s true = false → C w' := fun hg => hg3 (by rw [getD_set_ne true his]; exact hg)
      exact ⟨hgC, ih (listed.setIfInBounds j true) a' w' (hD.step hj) hfree' (ready_mono hr (Ne.symm hji)) hy3 hgC h3⟩

/-- Take number 'i' first, which yields its value in whatever world. -/
theorem wpAnyL_takeY {i : Nat} {oi : Oper} {v : Value} {fuel : Nat} {listed : Array Bool} {a : Act} {w : World} (hi : ops[i]? = some oi)
    (hs : Region.noSelect ops = true) (hf : Region.free md ops listed i = true) (hr : (Region.ready md ops listed).contains i = true) (hd : downB md ops listed = true) (his : (i == s) = false)
    (hQ : ∀ c a w, Q (.panic c) (a.put oi.dst v) w → Q (.panic c) a w) (hS : listed.getD s true = false → C w) (hy : YieldsIf P ops (fun _ => True) oi v a)
    (h : wpAnyL P md ops Q C s fuel (listed.setIfInBounds i true) (a.put oi.dst v) w) : wpAnyL P md ops Q C s (fuel + 1) listed a w :=
  wpAnyL_first (C' := fun _ => True) hi (Region.noSelect_spec hs) hQ (by simpa using his) (fun _ _ _ _ _ => trivial) fuel listed a w (down_of hd) (Region.free_spec hi hf) (by simpa using hr) hy hS h

/-- Take number 'i' first, which yields its value where 'C' holds, and for which 's' waits. -/
theorem wpAnyL_takeC {r : List Nat} {i : Nat} {oi : Oper} {v : Value} {fuel : Nat} {listed : Array Bool} {a : Act} {w : World} (hp : (pathB md ops (s :: r) && ((s :: r).getLast? == some i) && (s < ops.size) && (i < ops.size)) = true) (hi : ops[i]? = some oi)
    (hs : Region.noSelect ops = true) (hf : Region.free md ops listed i = true) (hr : (Region.ready md ops listed).contains i = true) (hd : downB md ops listed = true) (his : (i == s) = false)
    (hQ : ∀ c a w, Q (.panic c) (a.put oi.dst v) w → Q (.panic c) a w) (hS : listed.getD s true = false → C w) (hy : YieldsIf P ops C oi v a)
    (h : wpAnyL P md ops Q C s fuel (listed.setIfInBounds i true) (a.put oi.dst v) w) : wpAnyL P md ops Q C s (fuel + 1) listed a w := by
  simp only [Bool.and_eq_true, beq_iff_eq, decide_eq_true_eq] at hp
  obtain ⟨⟨⟨h1, h2⟩, h3⟩, h4⟩ := hp
  exact wpAnyL_first (C' := C) hi (Region.noSelect_spec hs) hQ (by simpa using his) (fun l w' hD hu hc => hc (unlisted hD h3 h4 h1 h2 hu)) fuel listed a w (down_of hd) (Region.free_spec hi hf) (by simpa using hr) hy hS h

def AllReadyL (P : Program) (md : Region.Mode) (ops : Array Oper) (Q : Exit → Act → World → Prop) (C : World → Prop) (s : Nat) (fuel : Nat) (listed : Array Bool) (a : Act) (w : World) (rs : List Nat) : Prop :=
  ∀ i ∈ rs, wpOp P ops Q i (fun a' w' => ((listed.setIfInBounds i true).getD s true = false → C w') ∧ wpAnyL P md ops Q C s fuel (listed.setIfInBounds i true) a' w') a w
theorem AllReadyL.nil {fuel : Nat} {listed : Array Bool} {a : Act} {w : World} : AllReadyL P md ops Q C s fuel listed a w [] := fun _ h => by cases h
theorem AllReadyL.cons {fuel : Nat} {listed : Array Bool} {a : Act} {w : World} {i : Nat} {o : Oper} {rs : List Nat} (ho : ops[i]? = some o)
    (h : ∀ K' : Act → World → Prop, Shut (∀ a w, ((listed.setIfInBounds i true).getD s true = false → C w) → wpAnyL P md ops Q C s fuel (listed.setIfInBounds i true) a w → K' a w) → if Region.wanted o (yielded ops a.tmps) = true then Oper.wp P o a w K' Q else K' (a.put o.dst undef) w)
    (hs : AllReadyL P md ops Q C s fuel listed a w rs) : AllReadyL P md ops Q C s fuel listed a w (i :: rs) := fun j hj => by
  rcases List.mem_cons.1 hj with rfl | hj
  · exact wpOp_step ho (fun K' hK => h K' (fun a w hS hW => hK a w ⟨hS, hW⟩))
  · exact hs j hj
theorem wpAnyL_ready {rs : List Nat} {fuel : Nat} {listed : Array Bool} {a : Act} {w : World} (hr : Region.ready md ops listed = rs) (hne : rs ≠ [])
    (h : AllReadyL P md ops Q C s fuel listed a w rs) : wpAnyL P md ops Q C s (fuel + 1) listed a w := ⟨fun h0 => absurd (hr ▸ h0) hne, hr ▸ h⟩
theorem wpAnyL_done {listed : Array Bool} {a : Act} {w : World} (hr : Region.ready md ops listed = []) (h : Q .normal a w) : ∀ fuel, wpAnyL P md ops Q C s fuel listed a w
  | 0 => ⟨hr, h⟩
  | _ + 1 => ⟨fun _ => h, by rw [hr]; simp⟩
/-- The beginning. -/
theorem wp_region_once {id : Nat} {a : Act} {w : World} (C : World → Prop) (s : Nat) (hm : P.follows .mixedOrders = true)
    (h : wpAnyL P .any ops Q C s ops.size (Array.replicate ops.size false) a w.drew) : (Code.region id ops true).wp P Q a w :=
  wp_region_any hm (wpAny_of_L _ _ _ _ h)
end
end Go.Proofs.YtbolacnpljkpbaaDoor
