/- Texts fused by fuse.py: KExprPar6, KHeldBar. -/
import Derived.Test.YtjcaaahbfkjipaaGreatDoorKZ32
import Derived.Test.YtjcaaahbfkjipaaGreatDoorKZ00
/- Of ExprPar6: what FRuleNames uses (shake.py). -/
set_option maxRecDepth 100000
/- The closures of expr.Parse: from (seat expr). -/
namespace Go.Proofs.YtjcaaahbfkjipaaGreatDoor
open Go.RowKit
theorem ahead_mu {s : List UInt8} (hs : s.length ≤ 1000) {f : Nat} {op : Int} {line : Nat} {st : Tk × Nat} {n : Nd} {st' : Tk × Nat} (hi : StW s.length st) (hf : isFin st.1 = false) (h : aheadE s f op line st = .ok (n, st')) : StW s.length st' ∧ mu s.length st' < mu s.length st := by
  unfold aheadE at h
  obtain ⟨st1, h1, h⟩ := bind_ok h
  obtain ⟨⟨m, st2⟩, h2, h⟩ := bind_ok h
  injection h with h
  injection h with _ h
  subst h
  obtain ⟨a1, a2, a3, a4, a5⟩ := next_mu hs hi.1 hf h1
  obtain ⟨b1, b2, b3⟩ := prs_mu hs f none line st1 m st2 ⟨a2, a4, a5⟩ h2
  exact ⟨b1, by omega⟩
theorem first_mu {s : List UInt8} (hs : s.length ≤ 1000) {f line : Nat} {st : Tk × Nat} {n : Nd} {st' : Tk × Nat} (hi : StW s.length st) (h : firstE s f line st = .ok (n, st')) : StW s.length st' ∧ mu s.length st' < mu s.length st := by
  unfold firstE at h
  split at h
  · next h1 => exact ahead_mu hs hi (fin_say (by rw [h1.1]; decide)) h
  · split at h
    · next h1 => exact ahead_mu hs hi (fin_say (by rw [h1]; decide)) h
    · split at h
      · next h1 =>
        have hf := fin_say (st := st) (by rw [h1]; decide)
        rw [brackE_is] at h
        obtain ⟨st1, h2, h⟩ := bind_ok h
        obtain ⟨⟨m, st2⟩, h3, h⟩ := bind_ok h
        obtain ⟨a1, a2, a3, a4, a5⟩ := next_mu hs hi.1 hf h2
        obtain ⟨b1, b2, b3⟩ := prs_mu hs f none 1 st1 m st2 ⟨a2, a4, a5⟩ h3
        simp only at h
        by_cases h41 : (sayOf st2.1).data.toList = [41]
        · rw [tailE_yes h41] at h
          obtain ⟨st3, h4, h⟩ := bind_ok h
          injection h with h
          injection h with _ h
          subst h
          obtain ⟨c1, c2, c3, c4, c5⟩ := next_mu hs b1.1 (fin_say (by rw [h41]; decide)) h4
          exact ⟨⟨c2, c4, c5⟩, by omega⟩
        · rw [tailE_no h41] at h
          cases h
      · unfold atomE at h
        split at h
        · next m a he =>
          obtain ⟨st1, h2, h⟩ := bind_ok h
          injection h with h
          injection h with _ h
          subst h
          obtain ⟨a1, a2, a3, a4, a5⟩ := next_mu hs hi.1 (by rw [he]; rfl) h2
          exact ⟨⟨a2, a4, a5⟩, a1⟩
        · cases h
theorem signT_say (tk : Tk) : signT tk = signL (sayOf tk).data.toList := by cases tk <;> rfl
/-- What goes on behind a part: the next sign, and the part behind it. -/
def stepE (s : List UInt8) (g : Nat) (n : Nd) (op : Int) (ln : Nat) (st : Tk × Nat) : Rs (Nd × (Tk × Nat)) := do
  let st1 ← nextE s st.2
  let (m, st2) ← prsE s g none (ln + 1) st1
  .ok (twoN op n m, st2)
def chainB (ln : Nat) (tk : Tk) : Bool := decide (ln = 4) && decide (sgB (signT tk) = 4)
theorem ite_some {α : Type} {c : Prop} [Decidable c] {a b : α} {o : Option α} (h : (if c then some a else o) = some b) : a = b ∨ o = some b := by
  split at h
  · exact .inl (Option.some.inj h)
  · exact .inr h
theorem sign_line {u : List UInt8} {op : Int} {ln : Nat} (h : signL u = some (op, ln)) : 0 ≤ op ∧ op ≤ 255 ∧ 1 ≤ ln ∧ ln ≤ 6 := by
  unfold signL at h
  repeat (rcases ite_some h with h | h; · (injection h with h1 h2; subst h1 h2; omega))
  cases h
theorem prs_some {s : List UInt8} {g line : Nat} {n : Nd} {st : Tk × Nat} : prsE s (g + 1) (some n) line st = match signT st.1 with
    | none => .ok (n, st)
    | some (op, ln) => if ln < line then .ok (n, st) else (stepE s g n op ln st >>= fun r => if chainB ln r.2.1 then .error (4, r.2.1.at_) else prsE s g (some r.1) line r.2) := by
  obtain ⟨tk, i⟩ := st
  rw [prsE]
  simp only
  cases hsg : signT tk with
  | none => rfl
  | some p =>
    obtain ⟨op, ln⟩ := p
    simp only
    split
    · rfl
    · unfold stepE
      simp only [bind_assoc']
      congr 1
      funext st1
      congr 1
      funext r
      obtain ⟨m, st2⟩ := r
      have e : (ln = 4 ∧ ((signT st2.1).any fun p => p.2 == 4) = true) ↔ chainB ln st2.1 = true := by
        unfold chainB
        rw [Bool.and_eq_true, decide_eq_true_eq, decide_eq_true_eq]
        cases signT st2.1 with
        | none => simp [sgB]
        | some q => simp [sgB]; intro _; omega
      simp only
      by_cases hc : chainB ln st2.1 = true
      · rw [if_pos (e.2 hc)]
        show _ = (if chainB ln st2.1 = true then _ else _)
        rw [if_pos hc]
      · rw [if_neg (fun h => hc (e.1 h))]
        show _ = (if chainB ln st2.1 = true then _ else _)
        rw [if_neg hc]
end Go.Proofs.YtjcaaahbfkjipaaGreatDoor

/- Of HeldBar: what FRuleNames uses (shake.py). -/
set_option maxRecDepth 100000
/- A region that draws its order: loads may be taken first though the region's LAST store hits their cells: the condition on the world is asked only till that store comes up (turned from the base's own law of held regions). -/
namespace Go.Proofs.YtjcaaahbfkjipaaGreatDoor
open Go
section
variable {P : Program} {ops : Array Oper} {Q : Exit → Act → World → Prop} {md : Region.Mode} {S : World → Prop} {b : Nat}
/-- Whatever order is picked from here on, and S holds behind every operation that is carried out, till number b has come up. -/
def wpAnyB (P : Program) (md : Region.Mode) (ops : Array Oper) (Q : Exit → Act → World → Prop) (S : World → Prop) (b : Nat) : Nat → Array Bool → Act → World → Prop
  | 0, listed, a, w => Region.ready md ops listed = [] ∧ Q .normal a w
  | fuel + 1, listed, a, w => (Region.ready md ops listed = [] → Q .normal a w) ∧
    ∀ i ∈ Region.ready md ops listed, wpOp P ops Q i (fun a' w' => ((listed.setIfInBounds i true).getD b true = false → S w') ∧ wpAnyB P md ops Q S b fuel (listed.setIfInBounds i true) a' w') a w
theorem wpAny_of_bar : ∀ (fuel : Nat) (listed : Array Bool) (a : Act) (w : World), wpAnyB P md ops Q S b fuel listed a w → wpAny P md ops Q fuel listed a w
  | 0, _, _, _, h => h
  | fuel + 1, _, _, _, h => ⟨h.1, fun i hi => wpOp_mono (fun a' w' h' => wpAny_of_bar fuel _ a' w' h'.2) (h.2 i hi)⟩
/-- Each of some operations waits for i, or for another of them. -/
def waitsB (md : Region.Mode) (ops : Array Oper) (D : List Nat) (i : Nat) : Bool :=
  D.all fun d => match ops[d]? with
    | none => false
    | some od => od.after.any fun e => Region.binds md e && (e.on == i || D.contains e.on)
theorem waitsB_spec {D : List Nat} {i : Nat} (h : waitsB md ops D i = true) : ∀ d ∈ D, ∃ od, ops[d]? = some od ∧ ∃ e ∈ od.after, Region.binds md e = true ∧ (e.on = i ∨ e.on ∈ D) := by
  intro d hd
  have := List.all_eq_true.1 h d hd
  cases ho : ops[d]? with
  | none => rw [ho] at this; cases this
  | some od =>
    rw [ho] at this
    simp only [Array.any_eq_true] at this
    obtain ⟨k, hk, h2⟩ := this
    rw [Bool.and_eq_true, Bool.or_eq_true, beq_iff_eq, List.contains_iff_mem] at h2
    exact ⟨od, rfl, _, Array.getElem_mem hk, h2.1, h2.2⟩
theorem wpAnyB_first {i : Nat} {oi : Oper} {v : Value} {D : List Nat} (hi : ops[i]? = some oi) (hsel : ∀ (j : Nat) (o : Oper) cs b, ops[j]? = some o → o.op ≠ .select cs b)
    (hQ : ∀ c a w, Q (.panic c) (a.put oi.dst v) w → Q (.panic c) a w) (hD : ∀ d ∈ D, ∃ od, ops[d]? = some od ∧ ∃ e ∈ od.after, Region.binds md e = true ∧ (e.on = i ∨ e.on ∈ D)) (hb : b ∈ D) :
    ∀ (fuel : Nat) (listed : Array Bool) (a : Act) (w : World),
      (∀ j oj, ops[j]? = some oj → j ≠ i → listed.getD j true = false → (∀ e ∈ oj.after, Region.binds md e = true → e.on ≠ i) → oi.apart ops oj = true) →
      i ∈ Region.ready md ops listed → (∀ d ∈ D, listed.getD d true = false) → YieldsIf P ops S oi v a → S w →
      wpAnyB P md ops Q S b fuel (listed.setIfInBounds i true) (a.put oi.dst v) w → wpAnyB P md ops Q S b (fuel + 1) listed a w := by
  intro fuel
  induction fuel with
  | zero =>
    intro listed a w _ hr hun hy hS H
    refine ⟨fun h => (by rw [h] at hr; cases hr), fun j hj => ?_⟩
    by_cases hji : j = i
    · subst hji; exact hy.wpOp hi hS ⟨fun _ => hS, H⟩
    · have := ready_mono hj hji
      rw [H.1] at this
      cases this
  | succ fuel ih =>
    intro listed a w hfree hr hun hy hS H
    refine ⟨fun h => (by rw [h] at hr; cases hr), fun j hj => ?_⟩
    by_cases hji : j = i
    · subst hji; exact hy.wpOp hi hS ⟨fun _ => hS, H⟩
    · have h1 := H.2 j (ready_mono hj hji)
      obtain ⟨hjun, oj, hoj, hall⟩ := mem_ready.1 hj
      have hoff : ∀ k, listed.getD k true = false → ∀ e ∈ oj.after, Region.binds md e = true → e.on ≠ k := fun k hk e he hbd heq => by
        have h1 := hall e he hbd
        rw [heq] at h1
        rcases Nat.lt_or_ge k listed.size with h' | h'
        · simp [h'] at hk h1; rw [hk] at h1; cases h1
        · simp [Array.getElem?_eq_none h'] at h1
      have hiun := (mem_ready.1 hr).1
      have hnot : ∀ e ∈ oj.after, Region.binds md e = true → e.on ≠ i := hoff i hiun
      have hjD : j ∉ D := fun hjd => by
        obtain ⟨od, hod, e, he, hbd, hor⟩ := hD j hjd
        rw [hoj] at hod
        injection hod with hod
        subst hod
        rcases hor with h | h
        · exact hnot e he hbd h
        · exact hoff _ (hun _ h) e he hbd rfl
      have hun' : ∀ d ∈ D, (listed.setIfInBounds j true).getD d true = false := fun d hd => by
        rw [getD_set_ne true (show j ≠ d from fun e => hjD (by rw [e]; exact hd))]
        exact hun d hd
      have h2 := wpOp_putIf hoj (hfree j oj hoj hji hjun hnot) (fun cs b => hsel i oi cs b hi) (fun cs b => hsel j oj cs b hoj) hQ hy h1
      have hfree' : ∀ k ok, ops[k]? = some ok → k ≠ i → (listed.setIfInBounds j true).getD k true = false →
          (∀ e ∈ ok.after, Region.binds md e = true → e.on ≠ i) → oi.apart ops ok = true := fun k ok hk hki hkun hno => by
        refine hfree k ok hk hki ?_ hno
        by_cases hjk : j = k
        · subst hjk; exact hjun
        · rw [getD_set_ne true hjk] at hkun; exact hkun
      have hbj : ((listed.setIfInBounds i true).setIfInBounds j true).getD b true = false := by
        rw [getD_set_ne true (show j ≠ b from fun e => hjD (by rw [e]; exact hb)), getD_set_ne true]
        · exact hun b hb
        · intro e
          subst e
          obtain ⟨od, hod, e, he, hbd, hor⟩ := hD i hb
          obtain ⟨_, oi', hoi', hall'⟩ := mem_ready.1 hr
          rw [hoi'] at hod
          injection hod with hod
          subst hod
          have h1 := hall' e he hbd
          have h3 : listed.getD e.on true = false := by
            rcases hor with h | h
            · rw [h]; exact hiun
            · exact hun _ h
          rcases Nat.lt_or_ge e.on listed.size with h' | h'
          · simp [h'] at h3 h1; rw [h3] at h1; cases h1
          · simp [Array.getElem?_eq_none h'] at h1
      refine wpOp_mono (fun a' w' h3 => ⟨fun _ => h3.2.1 hbj, ih (listed.setIfInBounds j true) a' w' hfree' (ready_mono hr (Ne.symm hji)) hun' h3.1 (h3.2.1 hbj) ?_⟩) h2
      rw [Array.setIfInBounds_comm _ _ hji]
      exact h3.2.2
theorem wpAnyB_take {i : Nat} {oi : Oper} {v : Value} {fuel : Nat} {listed : Array Bool} {a : Act} {w : World} (D : List Nat) (hi : ops[i]? = some oi)
    (hs : Region.noSelect ops = true) (hf : Region.free md ops listed i = true) (hr : (Region.ready md ops listed).contains i = true) (hD : waitsB md ops D i = true) (hb : D.contains b = true) (hun : (D.all fun d => !listed.getD d true) = true)
    (hQ : ∀ c a w, Q (.panic c) (a.put oi.dst v) w → Q (.panic c) a w) (hy : YieldsIf P ops S oi v a) (hS : S w)
    (h : wpAnyB P md ops Q S b fuel (listed.setIfInBounds i true) (a.put oi.dst v) w) : wpAnyB P md ops Q S b (fuel + 1) listed a w :=
  wpAnyB_first hi (Region.noSelect_spec hs) hQ (waitsB_spec hD) (by simpa using hb) fuel listed a w (Region.free_spec hi hf) (by simpa using hr) (fun d hd => by have := List.all_eq_true.1 hun d hd; simpa using this) hy hS h
/-- One operation alone may come up. -/
theorem wpAnyB_ready {i : Nat} {o : Oper} {fuel : Nat} {listed : Array Bool} {a : Act} {w : World} (hr : Region.ready md ops listed = [i]) (ho : ops[i]? = some o)
    (h : ∀ K' : Act → World → Prop, Shut (∀ a w, ((listed.setIfInBounds i true).getD b true = false → S w) → wpAnyB P md ops Q S b fuel (listed.setIfInBounds i true) a w → K' a w) → if Region.wanted o (yielded ops a.tmps) = true then Oper.wp P o a w K' Q else K' (a.put o.dst undef) w) :
    wpAnyB P md ops Q S b (fuel + 1) listed a w :=
  ⟨fun h0 => (by rw [hr] at h0; cases h0), fun j hj => by
    rw [hr, List.mem_singleton] at hj
    subst hj
    exact wpOp_step ho (fun K' hK => h K' (fun a w hS hW => hK a w ⟨hS, hW⟩))⟩
theorem wpAnyB_done {listed : Array Bool} {a : Act} {w : World} (hr : Region.ready md ops listed = []) (h : Q .normal a w) : ∀ fuel, wpAnyB P md ops Q S b fuel listed a w
  | 0 => ⟨hr, h⟩
  | _ + 1 => ⟨fun _ => h, by rw [hr]; simp⟩
theorem wp_region_bar {id : Nat} {a : Act} {w : World} (b : Nat) (S : World → Prop) (hm : P.follows .mixedOrders = true)
    (h : wpAnyB P .any ops Q S b ops.size (Array.replicate ops.size false) a w.drew) : (Code.region id ops true).wp P Q a w :=
  wp_region_any hm (wpAny_of_bar _ _ _ _ h)
end
end Go.Proofs.YtjcaaahbfkjipaaGreatDoor
