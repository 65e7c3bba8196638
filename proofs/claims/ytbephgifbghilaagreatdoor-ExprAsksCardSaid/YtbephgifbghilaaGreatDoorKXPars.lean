/- Of XPars: what XFAs uses (shake.py). -/
import Derived.Test.YtbephgifbghilaaGreatDoorKBase
import Derived.Test.YtbephgifbghilaaGreatDoorKXPar
import Derived.IntWalk
import Derived.Laws.EntriesVeiled
import Derived.BigRegion
/- Texts fused by fuse.py: HeldBar, ExprPar7, ExprPars. -/
/- A region that draws its order: loads may be taken first though the region's LAST store hits their cells: the condition on the world is asked only till that store comes up (turned from the base's own law of held regions). -/
set_option maxRecDepth 100000
namespace Go.Proofs.YtbephgifbghilaaGreatDoor
open Go
section
variable {P : Program} {ops : Array Oper} {Q : Exit → Act → World → Prop} {md : Region.Mode} {S : World → Prop} {b : Nat}
/-- Whatever order is picked from here on, and S holds behind every operation that is carried out, till number b has come up. -/
def wpAnyB (P : Program) (md : Region.Mode) (ops : Array Oper) (Q : Exit → Act → World → Prop) (S : World → Prop) (b : Nat) : Nat → Array Bool → Act → World → Prop
  | 0, listed, a, w => Region.ready md ops listed = [] ∧ Q .normal a w
  | fuel + 1, listed, a, w => (Region.ready md ops listed = [] → Q .normal a w) ∧
    ∀ i ∈ Region.ready md ops listed, wpOp P ops Q i (fun a' w' => ((listed.setIfInBounds i true).getD b true = false → S w') ∧ wpAnyB P md ops Q S b fuel (listed.setIfInBounds i true) a' w') a w
theorem wpAny_of_bar : ∀ (fuel : Nat) (listed : Array Bool) (a : Act) (w : World), wpAnyB P md ops Q S b fuel listed a w → wpAny P md ops Q fuel listed a w
  | 0, _, _, _, h => h
  | fuel + 1, _, _, _, h => ⟨h.1, fun i hi => wpOp_mono (fun a' w' h' => wpAny_of_bar fuel _ a' w' h'.2) (h.2 i hi)⟩
/-- Each of some operations waits for i, or for another of them. -/
def waitsB (md : Region.Mode) (ops : Array Oper) (D : List Nat) (i : Nat) : Bool :=
  D.all fun d => match ops[d]? with
    | none => false
    | some od => od.after.any fun e => Region.binds md e && (e.on == i || D.contains e.on)
theorem waitsB_spec {D : List Nat} {i : Nat} (h : waitsB md ops D i = true) : ∀ d ∈ D, ∃ od, ops[d]? = some od ∧ ∃ e ∈ od.after, Region.binds md e = true ∧ (e.on = i ∨ e.on ∈ D) := by
  intro d hd
  have := List.all_eq_true.1 h d hd
  cases ho : ops[d]? with
  | none => rw [ho] at this; cases this
  | some od =>
    rw [ho] at this
    simp only [Array.any_eq_true] at this
    obtain ⟨k, hk, h2⟩ := this
    rw [Bool.and_eq_true, Bool.or_eq_true, beq_iff_eq, List.contains_iff_mem] at h2
    exact ⟨od, rfl, _, Array.getElem_mem hk, h2.1, h2.2⟩
theorem wpAnyB_first {i : Nat} {oi : Oper} {v : Value} {D : List Nat} (hi : ops[i]? = some oi) (hsel : ∀ (j : Nat) (o : Oper) cs b, ops[j]? = some o → o.op ≠ .select cs b)
    (hQ : ∀ c a w, Q (.panic c) (a.put oi.dst v) w → Q (.panic c) a w) (hD : ∀ d ∈ D, ∃ od, ops[d]? = some od ∧ ∃ e ∈ od.after, Region.binds md e = true ∧ (e.on = i ∨ e.on ∈ D)) (hb : b ∈ D) :
    ∀ (fuel : Nat) (listed : Array Bool) (a : Act) (w : World),
      (∀ j oj, ops[j]? = some oj → j ≠ i → listed.getD j true = false → (∀ e ∈ oj.after, Region.binds md e = true → e.on ≠ i) → oi.apart ops oj = true) →
      i ∈ Region.ready md ops listed → (∀ d ∈ D, listed.getD d true = false) → YieldsIf P ops S oi v a → S w →
      wpAnyB P md ops Q S b fuel (listed.setIfInBounds i true) (a.put oi.dst v) w → wpAnyB P md ops Q S b (fuel + 1) listed a w := by
  intro fuel
  induction fuel with
  | zero =>
    intro listed a w _ hr hun hy hS H
    refine ⟨fun h => (by rw [h] at hr; cases hr), fun j hj => ?_⟩
    by_cases hji : j = i
    · subst hji; exact hy.wpOp hi hS ⟨fun _ => hS, H⟩
    · have := ready_mono hj hji
      rw [H.1] at this
      cases this
  | succ fuel ih =>
    intro listed a w hfree hr hun hy hS H
    refine ⟨fun h => (by rw [h] at hr; cases hr), fun j hj => ?_⟩
    by_cases hji : j = i
    · subst hji; exact hy.wpOp hi hS ⟨fun _ => hS, H⟩
    · have h1 := H.2 j (ready_mono hj hji)
      obtain ⟨hjun, oj, hoj, hall⟩ := mem_ready.1 hj
      have hoff : ∀ k, listed.getD k true = false → ∀ e ∈ oj.after, Region.binds md e = true → e.on ≠ k := fun k hk e he hbd heq => by
        have h1 := hall e he hbd
        rw [heq] at h1
        rcases Nat.lt_or_ge k listed.size with h' | h'
        · simp [h'] at hk h1; rw [hk] at h1; cases h1
        · simp [Array.getElem?_eq_none h'] at h1
      have hiun := (mem_ready.1 hr).1
      have hnot : ∀ e ∈ oj.after, Region.binds md e = true → e.on ≠ i := hoff i hiun
      have hjD : j ∉ D := fun hjd => by
        obtain ⟨od, hod, e, he, hbd, hor⟩ := hD j hjd
        rw [hoj] at hod
        injection hod with hod
        subst hod
        rcases hor with h | h
        · exact hnot e he hbd h
        · exact hoff _ (hun _ h) e he hbd rfl
      have hun' : ∀ d ∈ D, (listed.setIfInBounds j true).getD d true = false := fun d hd => by
        rw [getD_set_ne true (show j ≠ d from fun e => hjD (by rw [e]; exact hd))]
        exact hun d hd
      have h2 := wpOp_putIf hoj (hfree j oj hoj hji hjun hnot) (fun cs b => hsel i oi cs b hi) (fun cs b => hsel j oj cs b hoj) hQ hy h1
      have hfree' : ∀ k ok, ops[k]? = some ok → k ≠ i → (listed.setIfInBounds j true).getD k true = false →
          (∀ e ∈ ok.after, Region.binds md e = true → e.on ≠ i) → oi.apart ops ok = true := fun k ok hk hki hkun hno => by
        refine hfree k ok hk hki ?_ hno
        by_cases hjk : j = k
        · subst hjk; exact hjun
        · rw [getD_set_ne true hjk] at hkun; exact hkun
      have hbj : ((listed.setIfInBounds i true).setIfInBounds j true).getD b true = false := by
        rw [getD_set_ne true (show j ≠ b from fun e => hjD (by rw [e]; exact hb)), getD_set_ne true]
        · exact hun b hb
        · intro e
          subst e
          obtain ⟨od, hod, e, he, hbd, hor⟩ := hD i hb
          obtain ⟨_, oi', hoi', hall'⟩ := mem_ready.1 hr
          rw [hoi'] at hod
          injection hod with hod
          subst hod
          have h1 := hall' e he hbd
          have h3 : listed.getD e.on true = false := by
            rcases hor with h | h
            · rw [h]; exact hiun
            · exact hun _ h
          rcases Nat.lt_or_ge e.on listed.size with h' | h'
          · simp [h'] at h3 h1; rw [h3] at h1; cases h1
          · simp [Array.getElem?_eq_none h'] at h1
      refine wpOp_mono (fun a' w' h3 => ⟨fun _ => h3.2.1 hbj, ih (listed.setIfInBounds j true) a' w' hfree' (ready_mono hr (Ne.symm hji)) hun' h3.1 (h3.2.1 hbj) ?_⟩) h2
      rw [Array.setIfInBounds_comm _ _ hji]
      exact h3.2.2
theorem wpAnyB_take {i : Nat} {oi : Oper} {v : Value} {fuel : Nat} {listed : Array Bool} {a : Act} {w : World} (D : List Nat) (hi : ops[i]? = some oi)
    (hs : Region.noSelect ops = true) (hf : Region.free md ops listed i = true) (hr : (Region.ready md ops listed).contains i = true) (hD : waitsB md ops D i = true) (hb : D.contains b = true) (hun : (D.all fun d => !listed.getD d true) = true)
    (hQ : ∀ c a w, Q (.panic c) (a.put oi.dst v) w → Q (.panic c) a w) (hy : YieldsIf P ops S oi v a) (hS : S w)
    (h : wpAnyB P md ops Q S b fuel (listed.setIfInBounds i true) (a.put oi.dst v) w) : wpAnyB P md ops Q S b (fuel + 1) listed a w :=
  wpAnyB_first hi (Region.noSelect_spec hs) hQ (waitsB_spec hD) (by simpa using hb) fuel listed a w (Region.free_spec hi hf) (by simpa using hr) (fun d hd => by have := List.all_eq_true.1 hun d hd; simpa using this) hy hS h
/-- One operation alone may come up. -/
theorem wpAnyB_ready {i : Nat} {o : Oper} {fuel : Nat} {listed : Array Bool} {a : Act} {w : World} (hr : Region.ready md ops listed = [i]) (ho : ops[i]? = some o)
    (h : ∀ K' : Act → World → Prop, Shut (∀ a w, ((listed.setIfInBounds i true).getD b true = false → S w) → wpAnyB P md ops Q S b fuel (listed.setIfInBounds i true) a w → K' a w) → if Region.wanted o (yielded ops a.tmps) = true then Oper.wp P o a w K' Q else K' (a.put o.dst undef) w) :
    wpAnyB P md ops Q S b (fuel + 1) listed a w :=
  ⟨fun h0 => (by rw [hr] at h0; cases h0), fun j hj => by
    rw [hr, List.mem_singleton] at hj
    subst hj
    exact wpOp_step ho (fun K' hK => h K' (fun a w hS hW => hK a w ⟨hS, hW⟩))⟩
theorem wpAnyB_done {listed : Array Bool} {a : Act} {w : World} (hr : Region.ready md ops listed = []) (h : Q .normal a w) : ∀ fuel, wpAnyB P md ops Q S b fuel listed a w
  | 0 => ⟨hr, h⟩
  | _ + 1 => ⟨fun _ => h, by rw [hr]; simp⟩
theorem wp_region_bar {id : Nat} {a : Act} {w : World} (b : Nat) (S : World → Prop) (hm : P.follows .mixedOrders = true)
    (h : wpAnyB P .any ops Q S b ops.size (Array.replicate ops.size false) a w.drew) : (Code.region id ops true).wp P Q a w :=
  wp_region_any hm (wpAny_of_bar _ _ _ _ h)
end
end Go.Proofs.YtbephgifbghilaaGreatDoor
/- The closures of expr.Parse: from, the walk (seat expr). -/
set_option maxRecDepth 100000
namespace Go.Proofs.YtbephgifbghilaaGreatDoor
open Go.RowKit
abbrev ndObj (n : Nd) (a : Option Addr) (c d : Nat) : Obj := .cells #[.int .u8 n.op, .int .u8 n.v.kind, .int .i64 n.v.num, .bool n.v.tr, .string n.v.text, .string n.name, .slice a c d] 29
/-- Where the loop of from stands: the part read so far, and what all comes to. -/
def LoopQ (w : World) (px p1 lo : Nat) (s : ByteArray) (line : Nat) (n : Nd) (vk : Value) (R : Rs (Nd × (Tk × Nat))) (gh K : Nat) : Prop :=
  (∃ (x : Int) (y : Nat), x ≠ 0 ∧ LxE w px s x (y : Int) ∧ R = .error (x, y)) ∨
  (∃ (g : Nat) (st : Tk × Nat), (g < gh ∧ g ≤ K) ∧ LxT w px s st ∧ StW s.data.toList.length st ∧ mu s.data.toList.length st < g ∧ MadeR w (fun b => lo ≤ b ∧ b ≠ p1) vk n.kids ∧ HeadW n ∧ R = prsE s.data.toList g (some n) line st)
theorem LoopQ.lex {w : World} {px p1 lo : Nat} {s : ByteArray} {line : Nat} {n : Nd} {vk : Value} {R : Rs (Nd × (Tk × Nat))} {gh K : Nat} (h : LoopQ w px p1 lo s line n vk R gh K) : ∃ c, w.heap[px]? = some (.cells c 79 (0, 0)) := by
  rcases h with ⟨x, y, _, h, _⟩ | ⟨g, st, _, h, _⟩
  · exact h.lex
  · exact h.lex
theorem LoopQ.keptB {w w' : World} {px p1 lo : Nat} {s : ByteArray} {line : Nat} {n : Nd} {vk : Value} {R : Rs (Nd × (Tk × Nat))} {gh K : Nat} (h : LoopQ w px p1 lo s line n vk R gh K) (hb : Below w.heap.size w w') : LoopQ w' px p1 lo s line n vk R gh K := by
  obtain ⟨c, hc⟩ := h.lex
  have e := hb.block _ (lt_of_block hc)
  rcases h with ⟨x, y, h1, h2, h3⟩ | ⟨g, st, h1, h2, h3, h4, h5, h6, h7⟩
  · exact .inl ⟨x, y, h1, h2.kept e, h3⟩
  · exact .inr ⟨g, st, h1, h2.kept e, h3, h4, h5.keptB hb, h6, h7⟩
/-- Behind a sign and a part: is it a chain of comparisons? -/
def MidQ (w : World) (px p1 lo : Nat) (s : ByteArray) (line : Nat) (n : Nd) (vk : Value) (R : Rs (Nd × (Tk × Nat))) (gh K ln : Nat) : Prop :=
  ∃ (say : ByteArray) (ta : Int), w.cell? ⟨px, 9, none⟩ = some (.string say) ∧ w.cell? ⟨px, 10, none⟩ = some (.int .i64 ta) ∧ say.size ≤ 1000 ∧
    ((decide (ln = 4) && decide (sgB (signL say.data.toList) = 4)) = true → ∃ (X : Int) (Y : Nat), X ≠ 0 ∧ R = .error (X, Y) ∧ ∀ W, Below w.heap.size w W → Calls Tryz.prog 39 #[.pointer (some ⟨px, 0, none⟩), .int .i64 4, .int .i64 ta] W fun r w' => r = .returned (.tuple #[]) ∧ Frm [some px] W w' ∧ LxE w' px s X (Y : Int) ∧ w'.cell? ⟨px, 10, none⟩ = W.cell? ⟨px, 10, none⟩) ∧
    ((decide (ln = 4) && decide (sgB (signL say.data.toList) = 4)) = false → LoopQ w px p1 lo s line n vk R gh K) ∧ (∃ c, w.heap[px]? = some (.cells c 79 (0, 0)))
theorem mid_err {w : World} {px p1 lo : Nat} {s : ByteArray} {line : Nat} {n : Nd} {vk : Value} {R : Rs (Nd × (Tk × Nat))} {gh K ln : Nat} {x : Int} {y : Nat} (hx : x ≠ 0) (hl : LxE w px s x (y : Int)) (hR : R = .error (x, y)) : MidQ w px p1 lo s line n vk R gh K ln := by
  obtain ⟨say, ta, h0, h9, h10⟩ := hl.c9
  obtain ⟨c, hc⟩ := hl.lex
  exact ⟨say, ta, h9, h10, h0, fun _ => ⟨x, y, hx, hR, fun W hW => failX hx (hl.kept (hW.block _ (lt_of_block hc))) _ _⟩, fun _ => .inl ⟨x, y, hx, hl, hR⟩, c, hc⟩
theorem mid_ok {w : World} {px p1 lo : Nat} {s : ByteArray} {line : Nat} {n : Nd} {vk : Value} {R : Rs (Nd × (Tk × Nat))} {gh K ln g : Nat} {st : Tk × Nat} (hl : LxT w px s st) (hst : StW s.data.toList.length st) (hg : g < gh ∧ g ≤ K) (hmu : mu s.data.toList.length st < g) (hm : MadeR w (fun b => lo ≤ b ∧ b ≠ p1) vk n.kids) (hh : HeadW n)
    (hR : R = if chainB ln st.1 then .error (4, st.1.at_) else prsE s.data.toList g (some n) line st) : MidQ w px p1 lo s line n vk R gh K ln := by
  obtain ⟨c, hc⟩ := hl.lex
  have hch : chainB ln st.1 = (decide (ln = 4) && decide (sgB (signL (sayOf st.1).data.toList) = 4)) := by unfold chainB; rw [signT_say]
  refine ⟨_, _, hl.c9, hl.c10, sayOf_size hst, fun h => ?_, fun h => ?_, c, hc⟩
  · rw [← hch] at h
    rw [if_pos h] at hR
    exact ⟨4, st.1.at_, by decide, hR, fun W hW => failT (hl.kept (hW.block _ (lt_of_block hc))) hst _ _⟩
  · rw [← hch] at h
    rw [if_neg (by rw [h]; decide)] at hR
    exact .inr ⟨g, st, hg, hl, hst, hmu, hm, hh, hR⟩
/-- The world in which a node of two kids is made. -/
abbrev twoW (w7 : World) (p1 : Nat) (op : Int) (n : Nd) (vk : Value) (m : Nd) (vm : Value) : World :=
  (set7 w7 p1 (.int .u8 op) (.int .u8 0) (.int .i64 0) (.bool false) (.string ⟨#[]⟩) (.string ⟨#[]⟩) (.slice (some ⟨w7.heap.size, 0, none⟩) 2 2)).alloc (.cells #[.int .u8 n.op, .int .u8 n.v.kind, .int .i64 n.v.num, .bool n.v.tr, .string n.v.text, .string n.name, vk, .int .u8 m.op, .int .u8 m.v.kind, .int .i64 m.v.num, .bool m.v.tr, .string m.v.text, .string m.name, vm] 29)
theorem two_done {w1 w6 w7 : World} {px p1 lo : Nat} {s : ByteArray} {line : Nat} {n m : Nd} {vk vm : Value} {R : Rs (Nd × (Tk × Nat))} {gh K ln g : Nat} {op : Int} {st' : Tk × Nat} {a0 a1 a2 a3 a4 a5 a6 : Value}
    (h0 : 0 ≤ op) (h1 : op ≤ 255) (hlo : lo = w1.heap.size) (hpx : px < w1.heap.size) (hp1 : lo ≤ p1) (hl1 : p1 < w6.heap.size) (hF16 : Frm [some px] w1 w6) (hF67 : Frm [some px] w6 w7) (hn7 : w7.heap[p1]? = some (.cells #[a0, a1, a2, a3, a4, a5, a6] 29 (0, 0)))
    (hM : MadeR w6 (fun b => lo ≤ b ∧ b ≠ p1) vk n.kids) (hH : HeadW n) (hg : g < gh ∧ g ≤ K) (hs1 : s.data.toList.length ≤ 1000) (hst : StW s.data.toList.length st') (hfin : isFin st'.1 = false) (hmu : mu s.data.toList.length st' < g + 1)
    (hr : partR w7 px s w6.heap.size m vm (nextE s.data.toList st'.2 >>= fun st1 => prsE s.data.toList g none (ln + 1) st1))
    (hR : R = (stepE s.data.toList g n op ln st' >>= fun r => if chainB ln r.2.1 then .error (4, r.2.1.at_) else prsE s.data.toList g (some r.1) line r.2)) :
    Frm [some px] w1 (twoW w7 p1 op n vk m vm) ∧ (twoW w7 p1 op n vk m vm).heap[p1]? = some (ndObj (.mk op Vl.zero ⟨#[]⟩ [n, m]) (some ⟨w7.heap.size, 0, none⟩) 2 2) ∧ (∀ k, k < w7.heap.size → k ≠ p1 → (twoW w7 p1 op n vk m vm).heap[k]? = w7.heap[k]?) ∧
    MidQ (twoW w7 p1 op n vk m vm) px p1 lo s line (.mk op Vl.zero ⟨#[]⟩ [n, m]) (.slice (some ⟨w7.heap.size, 0, none⟩) 2 2) R gh K ln := by
  obtain ⟨W7, hW7⟩ : ∃ W7, set7 w7 p1 (.int .u8 op) (.int .u8 0) (.int .i64 0) (.bool false) (.string ⟨#[]⟩) (.string ⟨#[]⟩) (.slice (some ⟨w7.heap.size, 0, none⟩) 2 2) = W7 := ⟨_, rfl⟩
  have hz7 : W7.heap.size = w7.heap.size := by rw [← hW7]; exact set7_size _ _ _ _ _ _ _ _ _
  have hf7 : Frm [some p1] w7 W7 := by rw [← hW7]; exact set7_frm _ _ _ _ _ _ _ _ _
  have hi7 : W7.heap[p1]? = some (ndObj (.mk op Vl.zero ⟨#[]⟩ [n, m]) (some ⟨w7.heap.size, 0, none⟩) 2 2) := by rw [← hW7]; exact set7_is hn7 _ _ _ _ _ _ _
  obtain ⟨o, ho⟩ : ∃ o, (Obj.cells #[.int .u8 n.op, .int .u8 n.v.kind, .int .i64 n.v.num, .bool n.v.tr, .string n.v.text, .string n.name, vk, .int .u8 m.op, .int .u8 m.v.kind, .int .i64 m.v.num, .bool m.v.tr, .string m.v.text, .string m.name, vm] 29) = o := ⟨_, rfl⟩
  have hb := (Below.refl W7.heap.size W7).alloc (Nat.le_refl _) o
  have hnew := heap_alloc_new W7 o
  have hFW : Frm [some p1] w7 (W7.alloc o) := hf7.below hb
  have hz16 := hF16.size
  have hz67 := hF67.size
  have hl17 := lt_of_block hn7
  have hpxs : (W7.alloc o).heap[px]? = w7.heap[px]? := hFW.keep px (by omega) (by intro r hr e; simp only [List.mem_singleton] at hr; rw [hr] at e; injection e with e; omega)
  show Frm [some px] w1 ((set7 w7 p1 _ _ _ _ _ _ _).alloc _) ∧ ((set7 w7 p1 _ _ _ _ _ _ _).alloc _).heap[p1]? = _ ∧ (∀ k, k < w7.heap.size → k ≠ p1 → ((set7 w7 p1 _ _ _ _ _ _ _).alloc _).heap[k]? = w7.heap[k]?) ∧ MidQ ((set7 w7 p1 _ _ _ _ _ _ _).alloc _) px p1 lo s line _ _ R gh K ln
  rw [hW7, ho]
  refine ⟨(hF16.trans hF67 (by intro r hr; exact .inl hr)).trans hFW (by intro r hr; simp only [List.mem_singleton] at hr; subst hr; exact .inr ⟨p1, rfl, by omega⟩), (hb.block p1 (by omega)).trans hi7, fun k hk hkp => hFW.keep k hk (by intro r hr e; simp only [List.mem_singleton] at hr; rw [hr] at e; injection e with e; exact hkp e.symm), ?_⟩
  have hstep : stepE s.data.toList g n op ln st' = ((nextE s.data.toList st'.2 >>= fun st1 => prsE s.data.toList g none (ln + 1) st1) >>= fun r => .ok (twoN op n r.1, r.2)) := by
    unfold stepE
    rw [bind_assoc']
  rw [hstep] at hR
  cases hq : (nextE s.data.toList st'.2 >>= fun st1 => prsE s.data.toList g none (ln + 1) st1) with
  | error x =>
    rw [hq] at hr hR
    obtain ⟨x, y⟩ := x
    exact mid_err hr.2 (hr.1.kept hpxs) hR
  | ok r =>
    obtain ⟨m', st2⟩ := r
    rw [hq] at hr
    obtain ⟨rfl, h2, h3, h4, h5⟩ := hr
    rw [hq] at hR
    obtain ⟨st1, e1, e2⟩ := bind_ok hq
    have b1 := next_mu hs1 hst.1 hfin e1
    have b2 := prs_mu hs1 g none (ln + 1) st1 m st2 ⟨b1.2.1, b1.2.2.2.1, b1.2.2.2.2⟩ e2
    have b3 := b2.2.2 rfl
    rw [hz7, ← ho] at hnew
    rw [← ho] at hFW hpxs ⊢
    refine mid_ok (g := g) (st := st2) (h4.kept hpxs) h5 hg (by omega) ?_ (HeadW_two h0 h1 n m) hR
    refine MadeR.two hnew ⟨by omega, by omega⟩ hH h3 ?_ ?_
    · exact (hM.kept hF67 (fun b hb r hr => by simp only [List.mem_singleton] at hr; subst hr; intro e; injection e with e; omega)).kept hFW (fun b hb r hr => by simp only [List.mem_singleton] at hr; subst hr; intro e; injection e with e; exact hb.2 e.symm)
    · exact (h2.kept hFW (fun b hb r hr => by simp only [List.mem_singleton] at hr; subst hr; intro e; injection e with e; omega)).weak (fun b _ h => ⟨by omega, by omega⟩)
/-- What the region that makes a node of two kids reads. -/
abbrev CellsS (p7 p1 cf cx c10 : Nat) (op : Int) (ln : Nat) (n : Nd) (a : Option Addr) (c d : Nat) (w' : World) : Prop :=
  w'.cell? ⟨p7, 0, none⟩ = some (.int .u8 op) ∧ w'.cell? ⟨p7, 1, none⟩ = some (.int .i64 (ln : Int)) ∧ w'.cell? ⟨cf, 0, none⟩ = some (.func (.func 42) #[] #[.pointer (some ⟨cx, 0, none⟩), .pointer (some ⟨c10, 0, none⟩), .pointer (some ⟨cf, 0, none⟩)]) ∧ w'.cell? ⟨p1, 0, none⟩ = some (.int .u8 n.op) ∧ w'.cell? ⟨p1, 1, none⟩ = some (.int .u8 n.v.kind) ∧ w'.cell? ⟨p1, 2, none⟩ = some (.int .i64 n.v.num) ∧ w'.cell? ⟨p1, 3, none⟩ = some (.bool n.v.tr) ∧ w'.cell? ⟨p1, 4, none⟩ = some (.string n.v.text) ∧ w'.cell? ⟨p1, 5, none⟩ = some (.string n.name) ∧ w'.cell? ⟨p1, 6, none⟩ = some (.slice a c d)
set_option maxHeartbeats 16000000 in
theorem from_step {s : ByteArray} (hs : s.size ≤ 256) {B px cx cf c7 c8 c9 c10 k : Nat} (HF : ∀ j, j ≤ k → FromC s B px cx cf c7 c8 c9 c10 j) : FromC s B px cx cf c7 c8 c9 c10 (k + 1) := by
  intro w line st hX hlx hst hline hmu
  obtain ⟨w1, p0, hp0, hw1, l0, n0, b0⟩ := box_new w nilObj
  have hX1 := hX.below b0
  obtain ⟨c, hc⟩ := hlx.lex
  have hpx := lt_of_block hc
  have hlx1 := hlx.kept (b0.block _ hpx)
  have k0 : w1.cell? ⟨cx, 0, none⟩ = some (.pointer (some ⟨px, 0, none⟩)) := cell_of_block hX1.pw.hx 0
  have k10 : w1.cell? ⟨c10, 0, none⟩ = some (.func (.func 41) #[] #[.pointer (some ⟨cx, 0, none⟩), .pointer (some ⟨c7, 0, none⟩), .pointer (some ⟨c9, 0, none⟩), .pointer (some ⟨c8, 0, none⟩)]) := cell_of_block hX1.pw.h10 0
  have k12 := hlx1.c12
  have hsl := sl_len s
  have hs1 : s.data.toList.length ≤ 1000 := by omega
  have HC := Lib.hid (first_any hs (HF k (Nat.le_refl _)) hX1 hlx1 hst line (by omega))
  obtain ⟨R, hR⟩ : ∃ R, prsE s.data.toList (k + 1) none line st = R := ⟨_, rfl⟩
  have HR : Hid (R = (firstE s.data.toList k line st >>= fun r => prsE s.data.toList k (some r.1) line r.2)) := Lib.hid (by rw [← hR, prs_first])
  rw [hR]
  have HB := Lib.hid b0
  have HX1 := Lib.hid hX1
  have HN0 := Lib.hid n0
  have HP0 := Lib.hid hp0
  have hpx0 : px < p0 := by omega
  have hmk : mu s.data.toList.length st ≤ k := by omega
  have HSL := Lib.hid hsl
  have HFR := Lib.hid (fun (n : Nd) (st' : Tk × Nat) (h : firstE s.data.toList k line st = .ok (n, st')) => first_mu hs1 hst h)
  clear hX hX1 hlx hlx1 hc b0 n0 hR hsl hmu
  go_enter Tryz.func42, Tryz.ntmps42
  go_upto_region 3 with fail
  go_cut [6] (fun s6 wx => ∃ w4 p1 n a c d, w4 = wx ∧ s6 = .pointer (some ⟨p1, 0, none⟩) ∧ Hid (w4.heap[p1]? = some (ndObj n a c d)) ∧ w1.heap.size ≤ p1 ∧ Hid (Frm [some px] w1 w4) ∧ Hid (LoopQ w4 px p1 w1.heap.size s line n (.slice a c d) R (k + 1) k))
  case first =>
    go_wp2_with (go_at_call 41; refine HC.out.mono ?_; rintro e w3 ⟨n, a, c3, d, rfl, hF3, hr3⟩; have H3 := Lib.hid (And.intro hF3 hr3); clear hF3 hr3)
    go_meet
    have hz3 := H3.out.1.size
    have hal := (Below.refl w3.heap.size w3).alloc (Nat.le_refl _) (ndObj n a c3 d)
    have hpk := hal.block px (by omega)
    refine ⟨_, w3.heap.size, n, a, c3, d, rfl, rfl, Lib.hid (heap_alloc_new w3 _), hz3, Lib.hid (H3.out.1.below hal), Lib.hid ?_⟩
    have hr3 := H3.out.2
    cases hq : firstE s.data.toList k line st with
    | error x =>
      rw [hq] at hr3
      obtain ⟨x, y⟩ := x
      exact .inl ⟨x, y, hr3.2, hr3.1.kept hpk, by rw [HR.out, bind_no hq]⟩
    | ok r =>
      obtain ⟨m, st2⟩ := r
      rw [hq] at hr3
      obtain ⟨rfl, h2, h3, h4, h5⟩ := hr3
      exact .inr ⟨k, st2, ⟨by omega, Nat.le_refl _⟩, h4.kept hpk, h5, by have := (HFR.out _ _ hq).2; omega, (h2.weak (ok' := fun b => w1.heap.size ≤ b ∧ b ≠ w3.heap.size) (fun b hb h => ⟨h, by omega⟩)).keptB hal, h3, by rw [HR.out, bind_is hq]⟩
  case rest =>
    obtain ⟨w4, p1, n, a, c4, d, rfl, rfl, hN4, hp1, hF4, hQ4⟩ := hcut
    go_wp2_with fail
    go_loopg [] (k + 1) (fun gh wr => ∃ n a c d, Hid (wr.heap[p1]? = some (ndObj n a c d)) ∧ Hid (Frm [some px] w1 wr) ∧ Hid (LoopQ wr px p1 w1.heap.size s line n (.slice a c d) R gh k))
    case atStart => exact ⟨n, a, c4, d, hN4, hF4, hQ4⟩
    case round =>
      clear hN4 hF4 hQ4
      obtain ⟨n, a, c, d, hN, hFr, hQ⟩ := hrel
      have fin : Hid (∀ (W : World) (n : Nd) (a : Option Addr) (c3 d : Nat), Frm [some px] w1 W → partR W px s w1.heap.size n (.slice a c3 d) R → PartC w px s R (.returned (valN n (.slice a c3 d))) (set7 W p0 (.int .u8 n.op) (.int .u8 n.v.kind) (.int .i64 n.v.num) (.bool n.v.tr) (.string n.v.text) (.string n.name) (.slice a c3 d))) := Lib.hid (fun W n a c3 d hF hr => by
        have hd := put_done (w := w) (w3 := W) (p0 := p0) (lo := w1.heap.size) (n := n) (vk := .slice a c3 d) (s := s) (r := R) HP0.out hpx l0 ((Frm.ofBelow HB.out).trans hF (by intro r hr; exact .inl hr)) hr
        exact ⟨_, _, _, _, rfl, hd.1, hd.2⟩)
      have hzr := hFr.out.size
      have hlr := lt_of_block hN.out
      have hXr := HX1.out.kept hFr.out hQ.out.lex
      have kx : wr.cell? ⟨cx, 0, none⟩ = some (.pointer (some ⟨px, 0, none⟩)) := cell_of_block hXr.pw.hx 0
      have hm0 := hFr.out.block HN0.out (by intro r hr e; simp only [List.mem_singleton] at hr; rw [hr] at e; injection e with e; omega)
      obtain ⟨d0, d1, d2, d3, d4, d5, d6, df⟩ := n7_cells hm0
      obtain ⟨g0, g1, g2, g3, g4, g5, g6, gf⟩ := n7_cells hN.out
      have HXr := Lib.hid hXr
      have hpr : px < wr.heap.size := by omega
      clear hXr hm0
      rcases hQ.out with ⟨x, y, hx, hlE, hR⟩ | ⟨g, st', ⟨hg, hgK⟩, hlT, hst', hmu', hMk, hHd, hR⟩
      · have k12 := hlE.c12
        have ex : (x == 0) = false := beq_eq_false_iff_ne.2 hx
        have HE := Lib.hid (And.intro hx (And.intro hlE hR))
        clear hx hlE hR
        go_wp2_with fail
        refine bodyPost_ret (v := valN n (.slice a c d)) (by simp [results, Tryz.results42, go_sem, d0, d1, d2, d3, d4, d5, d6]) rfl ?_
        refine fin.out _ _ _ _ _ hFr.out ?_
        rw [HE.out.2.2]
        exact ⟨HE.out.2.1, HE.out.1⟩
      · have k12 := hlT.c12
        have k9 := hlT.c9
        have hU := sayOf_size hst'
        have HRs := Lib.hid hR
        have HO := Lib.hid (And.intro hlT (And.intro hMk hHd))
        obtain ⟨U, hUe⟩ : ∃ U, sayOf st'.1 = U := ⟨_, rfl⟩
        have HTS : Hid (signT st'.1 = signL U.data.toList) := Lib.hid (by rw [signT_say, hUe])
        have HUF : Hid (U.data.toList ≠ [] → isFin st'.1 = false) := Lib.hid (fun h => fin_say (by rw [hUe]; exact h))
        rw [hUe] at k9 hU
        have hum : U.size ≤ maxLen := by unfold maxLen; omega
        clear hlT hMk hHd hR hUe
        go_upto_region 5 with fail
        go_cut [7, 8] (fun s7 s8 wx => ∃ w5 p7, w5 = wx ∧ s7 = .pointer (some ⟨p7, 0, none⟩) ∧ s8 = .bool (signL U.data.toList).isSome ∧ Hid (w5.heap[p7]? = some (.cells #[.int .u8 (sgA (signL U.data.toList)), .int .i64 (sgB (signL U.data.toList))] 85 (0, 0))) ∧ wr.heap.size ≤ p7 ∧ Hid (Below wr.heap.size wr w5))
        case first =>
          go_region_held3 (fun w' => w'.cell? ⟨px, 9, none⟩ = some (.string U) ∧ w'.cell? ⟨cx, 0, none⟩ = some (.pointer (some ⟨px, 0, none⟩))) (first | go_keep | exact ⟨q9, q9x⟩ | exact ⟨q9b _ _, q9bx _ _⟩) (first | (go_at_call 43; refine (signs_any _).mono ?_; rintro e w5 ⟨bm, rfl, hm5, hlo5, hb5⟩; have hL5 := hm5.look_ok U hum; have hL6 := (hm5.kept ((Below.refl _ _).alloc (Nat.le_refl _) (.cells #[.int .u8 0, .int .i64 0] 85))).look_ok U hum; clear hm5; have HB5 : Hid (Below wr.heap.size wr w5) := Lib.hid (by first | exact (Below.drew (Below.refl _ _)).trans hb5 | exact (((Below.refl _ _).alloc (Nat.le_refl _) _).drew).trans (hb5.mono (by simp)) | exact ((Below.drew (Below.refl _ _)).alloc (Nat.le_refl _) _).trans (hb5.mono (by simp))); have q9 : w5.cell? ⟨px, 9, none⟩ = some (.string U) := (Below.cellB HB5.out hpr).trans k9; have q9x : w5.cell? ⟨cx, 0, none⟩ = some (.pointer (some ⟨px, 0, none⟩)) := (Below.cellB HB5.out (cell_lt kx)).trans kx; have q9b : ∀ v1 v2, ((w5.setCell ⟨wr.heap.size, 0, none⟩ v1).setCell ⟨wr.heap.size, 1, none⟩ v2).cell? ⟨px, 9, none⟩ = some (.string U) := (fun v1 v2 => (Below.cellB (((Below.refl wr.heap.size w5).setCell (p := ⟨wr.heap.size, 0, none⟩) (Nat.le_refl _) v1).setCell (p := ⟨wr.heap.size, 1, none⟩) (Nat.le_refl _) v2) hpr).trans q9); have q9bx : ∀ v1 v2, ((w5.setCell ⟨wr.heap.size, 0, none⟩ v1).setCell ⟨wr.heap.size, 1, none⟩ v2).cell? ⟨cx, 0, none⟩ = some (.pointer (some ⟨px, 0, none⟩)) := (fun v1 v2 => (Below.cellB (((Below.refl wr.heap.size w5).setCell (p := ⟨wr.heap.size, 0, none⟩) (Nat.le_refl _) v1).setCell (p := ⟨wr.heap.size, 1, none⟩) (Nat.le_refl _) v2) (cell_lt kx)).trans q9x); try (have hz0 : w5.heap[wr.heap.size]? = some (.cells #[.int .u8 0, .int .i64 0] 85 (0, 0)) := (hb5.block _ (by simp)).trans (heap_alloc_new _ _); have HZ0 := Lib.hid hz0; have z0 : w5.cell? ⟨wr.heap.size, 0, none⟩ = some (.int .u8 0) := cell_of_block hz0 0; have z1 : w5.cell? ⟨wr.heap.size, 1, none⟩ = some (.int .i64 0) := cell_of_block hz0 1; have zf := free_of_block hz0; clear hz0)))
          all_goals
            go_wp2_with fail
            go_meet
          all_goals
            have hz5 := HB5.out.size
            first
              | exact ⟨_, w5.heap.size, rfl, rfl, rfl, Lib.hid (heap_alloc_new w5 _), hz5, Lib.hid (HB5.out.alloc HB5.out.size _)⟩
              | exact ⟨_, w5.heap.size, rfl, rfl, rfl, Lib.hid (heap_alloc_new w5 _), hz5, Lib.hid (HB5.out.alloc HB5.out.size _).drew⟩
              | exact ⟨_, wr.heap.size, rfl, rfl, rfl, Lib.hid (set_selfL _ (set_selfL _ HZ0.out)), Nat.le_refl _, Lib.hid ((HB5.out.setCell (Nat.le_refl _) _).setCell (Nat.le_refl _) _)⟩
        case rest =>
          obtain ⟨w5, p7, rfl, rfl, rfl, hN7, hp7, hB5⟩ := hcut
          have hz5 := hB5.out.size
          have hF5 := hFr.out.below hB5.out
          have hX5 := HXr.out.below hB5.out
          have hn15 := (hB5.out.block p1 hlr).trans hN.out
          have hn05 := hF5.block HN0.out (by intro r hr e; simp only [List.mem_singleton] at hr; rw [hr] at e; injection e with e; omega)
          have kx5 : w5.cell? ⟨cx, 0, none⟩ = some (.pointer (some ⟨px, 0, none⟩)) := cell_of_block hX5.pw.hx 0
          clear d0 d1 d2 d3 d4 d5 d6 df g0 g1 g2 g3 g4 g5 g6 gf kx k9 k12
          obtain ⟨d0, d1, d2, d3, d4, d5, d6, df⟩ := n7_cells hn05
          obtain ⟨g0, g1, g2, g3, g4, g5, g6, gf⟩ := n7_cells hn15
          have hO5 : LxT w5 px s st' ∧ MadeR w5 (fun b => w1.heap.size ≤ b ∧ b ≠ p1) (.slice a c d) n.kids ∧ HeadW n := ⟨HO.out.1.kept (hB5.out.block _ hpr), HO.out.2.1.keptB hB5.out, HO.out.2.2⟩
          have HO5 := Lib.hid hO5
          have HF5 := Lib.hid hF5
          have HX5 := Lib.hid hX5
          have HN15 := Lib.hid hn15
          have hl15 := lt_of_block hn15
          have hl75 := lt_of_block hN7.out
          clear hO5 hF5 hX5 hn15 hn05 HO
          obtain ⟨g', hg'⟩ : ∃ g', g = g' + 1 := ⟨g - 1, by omega⟩
          subst hg'
          have hgk : g' ≤ k := by omega
          have hRok : Hid (R = .ok (n, st') → PartC w px s R (.returned (valN n (.slice a c d))) (set7 w5 p0 (.int .u8 n.op) (.int .u8 n.v.kind) (.int .i64 n.v.num) (.bool n.v.tr) (.string n.v.text) (.string n.name) (.slice a c d))) := Lib.hid (fun hr => fin.out _ _ _ _ _ HF5.out (by
            rw [hr]
            exact ⟨rfl, HO5.out.2.1.weak (fun b _ h => h.1), HO5.out.2.2, HO5.out.1, hst'⟩))
          cases hsg : signL U.data.toList with
          | none =>
            have hRe : Hid (R = .ok (n, st')) := Lib.hid (by rw [HRs.out, prs_some, HTS.out, hsg])
            rw [hsg] at hN7
            clear hsg
            go_wp2_with fail
            refine bodyPost_ret (v := valN n (.slice a c d)) (by simp [results, Tryz.results42, go_sem, d0, d1, d2, d3, d4, d5, d6]) rfl ?_
            exact hRok.out hRe.out
          | some pr =>
            obtain ⟨op, ln⟩ := pr
            obtain ⟨ho0, ho1, hl1, hl6⟩ := sign_line hsg
            have hUf : isFin st'.1 = false := HUF.out (by intro e; rw [e] at hsg; cases hsg)
            have hRe : Hid (R = if ln < line then .ok (n, st') else (stepE s.data.toList g' n op ln st' >>= fun r => if chainB ln r.2.1 then .error (4, r.2.1.at_) else prsE s.data.toList g' (some r.1) line r.2)) := Lib.hid (by rw [HRs.out, prs_some, HTS.out, hsg])
            rw [hsg] at hN7
            have hN7' : Hid (w5.heap[p7]? = some (.cells #[.int .u8 op, .int .i64 (ln : Int)] 85 (0, 0))) := hN7
            have z0 : w5.cell? ⟨p7, 0, none⟩ = some (.int .u8 op) := cell_of_block hN7'.out 0
            have z1 : w5.cell? ⟨p7, 1, none⟩ = some (.int .i64 (ln : Int)) := cell_of_block hN7'.out 1
            clear hsg hN7 HRs HTS HUF
            by_cases hlt : ln < line
            · have e1 : decide ((ln : Int) < (line : Int)) = true := decide_eq_true (by omega)
              have e1' : decide (ln < line) = true := decide_eq_true hlt
              have hRe' : Hid (R = .ok (n, st')) := Lib.hid (by rw [hRe.out, if_pos hlt])
              clear hRe
              go_wp2_with fail
              refine bodyPost_ret (v := valN n (.slice a c d)) (by simp [results, Tryz.results42, go_sem, d0, d1, d2, d3, d4, d5, d6]) rfl ?_
              exact hRok.out hRe'.out
            · have e1 : decide ((ln : Int) < (line : Int)) = false := decide_eq_false (by omega)
              have e1' : decide (ln < line) = false := decide_eq_false hlt
              have hRe' : Hid (R = (stepE s.data.toList g' n op ln st' >>= fun r => if chainB ln r.2.1 then .error (4, r.2.1.at_) else prsE s.data.toList g' (some r.1) line r.2)) := Lib.hid (by rw [hRe.out, if_neg hlt])
              clear hRe hRok
              go_upto_region 8 with fail
              go_cut [] (fun wx => ∃ w6, w6 = wx ∧ Hid (Frm [some px] w5 w6) ∧ Hid (nextR w6 px s (nextE s.data.toList st'.2)))
              case first =>
                go_wp2_with (go_at_call 36; refine (nextT HX5.out hs HO5.out.1 hst').mono ?_; rintro e w6 ⟨rfl, hF6, hn6⟩; have H6 := Lib.hid (And.intro hF6 hn6); clear hF6 hn6)
                go_meet
                exact ⟨_, rfl, Lib.hid H6.out.1, Lib.hid H6.out.2⟩
              case rest =>
                obtain ⟨w6, rfl, hF6, hn6⟩ := hcut
                have hz6 := hF6.out.size
                have hF16 := HF5.out.trans hF6.out (by intro r hr; exact .inl hr)
                have hlex6 : ∃ c, w6.heap[px]? = some (.cells c 79 (0, 0)) := by
                  have := hn6.out
                  cases hne : nextE s.data.toList st'.2 with
                  | error x => rw [hne] at this; exact LxE.lex this
                  | ok st1 => rw [hne] at this; exact LxT.lex this
                have hX6 := HX5.out.kept hF6.out hlex6
                have hn16 := hF6.out.block HN15.out (by intro r hr e; simp only [List.mem_singleton] at hr; rw [hr] at e; injection e with e; omega)
                have hn76 := hF6.out.block hN7'.out (by intro r hr e; simp only [List.mem_singleton] at hr; rw [hr] at e; injection e with e; omega)
                have hM6 : MadeR w6 (fun b => w1.heap.size ≤ b ∧ b ≠ p1) (.slice a c d) n.kids := HO5.out.2.1.kept hF6.out (fun b hb r hr => by simp only [List.mem_singleton] at hr; subst hr; intro e; injection e with e; omega)
                clear d0 d1 d2 d3 d4 d5 d6 df g0 g1 g2 g3 g4 g5 g6 gf z0 z1 kx5 e1 e1'
                obtain ⟨g0, g1, g2, g3, g4, g5, g6, gf⟩ := n7_cells hn16
                have z0 : w6.cell? ⟨p7, 0, none⟩ = some (.int .u8 op) := cell_of_block hn76 0
                have z1 : w6.cell? ⟨p7, 1, none⟩ = some (.int .i64 (ln : Int)) := cell_of_block hn76 1
                have kf : w6.cell? ⟨cf, 0, none⟩ = some (.func (.func 42) #[] #[.pointer (some ⟨cx, 0, none⟩), .pointer (some ⟨c10, 0, none⟩), .pointer (some ⟨cf, 0, none⟩)]) := cell_of_block hX6.pw.hf 0
                have HCF : Hid (∀ W, Below w6.heap.size w6 W → Calls Tryz.prog 42 #[.int .i64 ((ln : Int) + 1), .pointer (some ⟨cx, 0, none⟩), .pointer (some ⟨c10, 0, none⟩), .pointer (some ⟨cf, 0, none⟩)] W (PartC W px s (nextE s.data.toList st'.2 >>= fun st1 => prsE s.data.toList g' none (ln + 1) st1))) := Lib.hid (fun W hW => by
                  obtain ⟨cc, hcc⟩ := hlex6
                  have hpk := hW.block px (lt_of_block hcc)
                  have hXW := hX6.below hW
                  have hn := hn6.out
                  cases hne : nextE s.data.toList st'.2 with
                  | error x =>
                    rw [hne] at hn
                    obtain ⟨x, y⟩ := x
                    have hx0 : x ≠ 0 := by have := (nextE_err hne).1; omega
                    rw [bind_no rfl]
                    refine (fromerr_any hXW hx0 (LxE.kept hn hpk) _).mono ?_
                    rintro e w' ⟨rfl, hb'⟩
                    exact ⟨nilN, none, 0, 0, rfl, Frm.ofBelow hb', LxE.kept (LxE.kept hn hpk) (hb'.block px (by have := lt_of_block hcc; have := hW.size; omega)), hx0⟩
                  | ok st1 =>
                    rw [hne] at hn
                    rw [bind_is rfl]
                    have b1 := next_mu hs1 hst'.1 hUf hne
                    have hcl := HF g' hgk W (ln + 1) st1 hXW (LxT.kept hn hpk) ⟨b1.2.1, b1.2.2.2.1, b1.2.2.2.2⟩ (by omega) (by omega)
                    rw [show ((ln + 1 : Nat) : Int) = (ln : Int) + 1 from by omega] at hcl
                    exact hcl)
                have HF16 := Lib.hid hF16
                have HX6 := Lib.hid hX6
                have HN16 := Lib.hid hn16
                have HN76 := Lib.hid hn76
                have HM6 := Lib.hid (And.intro hM6 HO5.out.2.2)
                have hp16 := lt_of_block hn16
                have hp76 := lt_of_block hn76
                have hcf6 := cell_lt kf
                have hw1 : IntKind.i64.wrap ((ln : Int) + 1) = (ln : Int) + 1 := IntWalk.i64_in _ (by omega)
                clear hF16 hX6 hn16 hn76 hM6 hlex6 hn6
                go_upto_region 9 with fail
                go_cut [] (fun wx => ∃ w8 n' a' c' d', w8 = wx ∧ Hid (w8.heap[p1]? = some (ndObj n' a' c' d')) ∧ Hid (w8.heap[p7]? = some (.cells #[.int .u8 op, .int .i64 (ln : Int)] 85 (0, 0))) ∧ Hid (Frm [some px] w1 w8) ∧ Hid (MidQ w8 px p1 w1.heap.size s line n' (.slice a' c' d') R (gk - 1) k ln))
                case first =>
                  refine wp_region_bar 10 (CellsS p7 p1 cf cx c10 op ln n a c d) (by kernel_rfl) ?_
                  have hHeld : CellsS p7 p1 cf cx c10 op ln n a c d w6.drew := ⟨z0, z1, kf, g0, g1, g2, g3, g4, g5, g6⟩
                  refine wpAnyB_take [1, 9, 10] (i := 0) (v := ?vN0) rfl (by kernel_rfl) (by kernel_rfl) (by kernel_rfl) (by kernel_rfl) (by kernel_rfl) (by kernel_rfl) (fun _ _ _ h => h) (Or.inl ⟨by rfl, ?hyN0⟩) hHeld ?restN0
                  case hyN0 => (intro w hSw; obtain ⟨s0, s1, s2, s3, s4, s5, s6, s7, s8, s9⟩ := hSw; go_simp; try with_reducible rfl)
                  try simp only [Act.put, List.setIfInBounds_toArray, List.set_cons_zero, List.set_cons_succ, List.getElem_toArray, List.getElem_cons_zero]
                  refine wpAnyB_take [5, 6, 7, 8, 9, 10] (i := 4) (v := ?vN4) rfl (by kernel_rfl) (by kernel_rfl) (by kernel_rfl) (by kernel_rfl) (by kernel_rfl) (by kernel_rfl) (fun _ _ _ h => h) (Or.inl ⟨by rfl, ?hyN4⟩) hHeld ?restN4
                  case hyN4 => (intro w hSw; obtain ⟨s0, s1, s2, s3, s4, s5, s6, s7, s8, s9⟩ := hSw; go_simp; try with_reducible rfl)
                  try simp only [Act.put, List.setIfInBounds_toArray, List.set_cons_zero, List.set_cons_succ, List.getElem_toArray, List.getElem_cons_succ, List.getElem_cons_zero]
                  refine wpAnyB_take [9, 10] (i := 1) (v := ?vN1) rfl (by kernel_rfl) (by kernel_rfl) (by kernel_rfl) (by kernel_rfl) (by kernel_rfl) (by kernel_rfl) (fun _ _ _ h => h) (Or.inl ⟨by rfl, ?hyN1⟩) hHeld ?restN1
                  case hyN1 => (intro w hSw; obtain ⟨s0, s1, s2, s3, s4, s5, s6, s7, s8, s9⟩ := hSw; go_simp; try with_reducible rfl)
                  try simp only [Act.put, List.setIfInBounds_toArray, List.set_cons_zero, List.set_cons_succ, List.getElem_toArray, List.getElem_cons_succ, List.getElem_cons_zero]
                  refine wpAnyB_take [8, 9, 10] (i := 2) (v := ?vN2) rfl (by kernel_rfl) (by kernel_rfl) (by kernel_rfl) (by kernel_rfl) (by kernel_rfl) (by kernel_rfl) (fun _ _ _ h => h) (Or.inl ⟨by rfl, ?hyN2⟩) hHeld ?restN2
                  case hyN2 => (intro w hSw; obtain ⟨s0, s1, s2, s3, s4, s5, s6, s7, s8, s9⟩ := hSw; go_simp; try with_reducible rfl)
                  try simp only [Act.put, List.setIfInBounds_toArray, List.set_cons_zero, List.set_cons_succ, List.getElem_toArray, List.getElem_cons_succ, List.getElem_cons_zero]
                  refine wpAnyB_take [7, 8, 9, 10] (i := 3) (v := ?vN3) rfl (by kernel_rfl) (by kernel_rfl) (by kernel_rfl) (by kernel_rfl) (by kernel_rfl) (by kernel_rfl) (fun _ _ _ h => h) (Or.inl ⟨by rfl, ?hyN3⟩) hHeld ?restN3
                  case hyN3 => (intro w hSw; obtain ⟨s0, s1, s2, s3, s4, s5, s6, s7, s8, s9⟩ := hSw; go_simp; try with_reducible rfl)
                  try simp only [Act.put, List.setIfInBounds_toArray, List.set_cons_zero, List.set_cons_succ, List.getElem_toArray, List.getElem_cons_succ, List.getElem_cons_zero]
                  refine wpAnyB_take [6, 7, 8, 9, 10] (i := 5) (v := ?vN5) rfl (by kernel_rfl) (by kernel_rfl) (by kernel_rfl) (by kernel_rfl) (by kernel_rfl) (by kernel_rfl) (fun _ _ _ h => h) (Or.inl ⟨by rfl, ?hyN5⟩) hHeld ?restN5
                  case hyN5 => (intro w hSw; obtain ⟨s0, s1, s2, s3, s4, s5, s6, s7, s8, s9⟩ := hSw; go_simp; try with_reducible rfl)
                  try simp only [Act.put, List.setIfInBounds_toArray, List.set_cons_zero, List.set_cons_succ, List.getElem_toArray, List.getElem_cons_succ, List.getElem_cons_zero]
                  refine wpAnyB_take [7, 8, 9, 10] (i := 6) (v := ?vN6) rfl (by kernel_rfl) (by kernel_rfl) (by kernel_rfl) (by kernel_rfl) (by kernel_rfl) (by kernel_rfl) (fun _ _ _ h => h) (Or.inl ⟨by rfl, ?hyN6⟩) hHeld ?restN6
                  case hyN6 => (intro w hSw; obtain ⟨s0, s1, s2, s3, s4, s5, s6, s7, s8, s9⟩ := hSw; go_simp; try with_reducible rfl)
                  try simp only [Act.put, List.setIfInBounds_toArray, List.set_cons_zero, List.set_cons_succ, List.getElem_toArray, List.getElem_cons_succ, List.getElem_cons_zero]
                  refine wpAnyB_ready (i := 7) (by kernel_rfl) rfl (fun K hK => ?_)
                  try simp only [List.getElem_toArray, List.getElem_cons_succ, List.getElem_cons_zero]
                  go_simp
                  go_at_call 42; refine (HCF.out _ (Below.drew (Below.refl _ _))).mono ?_; rintro e w7 ⟨m, a2, c2, d2, rfl, hF7, hr7⟩
                  have hF67 : Frm [some px] w6 w7 := (Frm.ofBelow (Below.drew (Below.refl _ _))).trans hF7 (by intro r hr; exact .inl hr)
                  have hn17 := hF67.block HN16.out (by intro r hr e; simp only [List.mem_singleton] at hr; rw [hr] at e; injection e with e; omega)
                  have hn77 := hF67.block HN76.out (by intro r hr e; simp only [List.mem_singleton] at hr; rw [hr] at e; injection e with e; omega)
                  obtain ⟨x0, x1, x2, x3, x4, x5, x6, xf⟩ := n7_cells hn17
                  have y0 : w7.cell? ⟨p7, 0, none⟩ = some (.int .u8 op) := cell_of_block hn77 0
                  have y1 : w7.cell? ⟨p7, 1, none⟩ = some (.int .i64 (ln : Int)) := cell_of_block hn77 1
                  have yf : w7.cell? ⟨cf, 0, none⟩ = some (.func (.func 42) #[] #[.pointer (some ⟨cx, 0, none⟩), .pointer (some ⟨c10, 0, none⟩), .pointer (some ⟨cf, 0, none⟩)]) := cell_of_block (HX6.out.kept hF67 hr7.lex).pw.hf 0
                  have hp17 := lt_of_block hn17
                  have hp77 := lt_of_block hn77
                  have hcf7 := cell_lt yf
                  have H7 := Lib.hid (And.intro hF67 (And.intro hr7 (And.intro hn17 hn77)))
                  have hHeld : CellsS p7 p1 cf cx c10 op ln n a c d w7 := ⟨y0, y1, yf, x0, x1, x2, x3, x4, x5, x6⟩
                  clear hF7 hF67 hr7 hn17 hn77
                  refine hK.out _ _ (fun _ => hHeld) ?hRN7
                  case' hRN7 => clear hK K
                  try simp only [Act.put, List.setIfInBounds_toArray, List.set_cons_zero, List.set_cons_succ, List.getElem_toArray, List.getElem_cons_succ, List.getElem_cons_zero]
                  refine wpAnyB_ready (i := 8) (by kernel_rfl) rfl (fun K hK => ?_)
                  try simp only [List.getElem_toArray, List.getElem_cons_succ, List.getElem_cons_zero]
                  go_simp
                  have hHeld : CellsS p7 p1 cf cx c10 op ln n a c d (w7.alloc (.cells #[.int .u8 n.op, .int .u8 n.v.kind, .int .i64 n.v.num, .bool n.v.tr, .string n.v.text, .string n.name, .slice a c d, .int .u8 m.op, .int .u8 m.v.kind, .int .i64 m.v.num, .bool m.v.tr, .string m.v.text, .string m.name, .slice a2 c2 d2] 29)) := by
                    have hal := (Below.refl w7.heap.size w7).alloc (Nat.le_refl _) (.cells #[.int .u8 n.op, .int .u8 n.v.kind, .int .i64 n.v.num, .bool n.v.tr, .string n.v.text, .string n.name, .slice a c d, .int .u8 m.op, .int .u8 m.v.kind, .int .i64 m.v.num, .bool m.v.tr, .string m.v.text, .string m.name, .slice a2 c2 d2] 29)
                    exact ⟨(Below.cellB hal hp77).trans y0, (Below.cellB hal hp77).trans y1, (Below.cellB hal hcf7).trans yf, (Below.cellB hal hp17).trans x0, (Below.cellB hal hp17).trans x1, (Below.cellB hal hp17).trans x2, (Below.cellB hal hp17).trans x3, (Below.cellB hal hp17).trans x4, (Below.cellB hal hp17).trans x5, (Below.cellB hal hp17).trans x6⟩
                  refine hK.out _ _ (fun _ => hHeld) ?hRN8
                  case' hRN8 => clear hK K
                  try simp only [Act.put, List.setIfInBounds_toArray, List.set_cons_zero, List.set_cons_succ, List.getElem_toArray, List.getElem_cons_succ, List.getElem_cons_zero]
                  refine wpAnyB_take [10] (i := 9) (v := ?vN9) rfl (by kernel_rfl) (by kernel_rfl) (by kernel_rfl) (by kernel_rfl) (by kernel_rfl) (by kernel_rfl) (fun _ _ _ h => h) (Or.inl ⟨by rfl, ?hyN9⟩) hHeld ?restN9
                  case hyN9 => (intro w hSw; obtain ⟨s0, s1, s2, s3, s4, s5, s6, s7, s8, s9⟩ := hSw; go_simp; try with_reducible rfl)
                  try simp only [Act.put, List.setIfInBounds_toArray, List.set_cons_zero, List.set_cons_succ, List.getElem_toArray, List.getElem_cons_succ, List.getElem_cons_zero]
                  refine wpAnyB_ready (i := 10) (by kernel_rfl) rfl (fun K hK => ?_)
                  try simp only [List.getElem_toArray, List.getElem_cons_succ, List.getElem_cons_zero]
                  go_simp
                  refine hK.out _ _ (fun hbar => by cases hbar) ?hRN10
                  case' hRN10 => clear hK K
                  try simp only [Act.put, List.setIfInBounds_toArray, List.set_cons_zero, List.set_cons_succ, List.getElem_toArray, List.getElem_cons_succ, List.getElem_cons_zero]
                  refine wpAnyB_done (by kernel_rfl) ?_ _
                  go_wp2_with fail
                  go_meet
                  have hd := two_done (w1 := w1) (w6 := w6) (w7 := w7) (px := px) (p1 := p1) (lo := w1.heap.size) (s := s) (line := line) (n := n) (m := m) (vk := .slice a c d) (vm := .slice a2 c2 d2) (R := R) (gh := gk - 1) (K := k) (ln := ln) (g := g') (op := op) (st' := st') ho0 ho1 rfl (by omega) hp1 hp16 HF16.out H7.out.1 H7.out.2.2.1 HM6.out.1 HM6.out.2 ⟨by omega, hgk⟩ hs1 hst' hUf hmu' H7.out.2.1 hRe'.out
                  exact ⟨_, .mk op Vl.zero ⟨#[]⟩ [n, m], _, _, _, rfl, Lib.hid hd.2.1, Lib.hid ((hd.2.2.1 p7 hp77 (by omega)).trans H7.out.2.2.2), Lib.hid hd.1, Lib.hid hd.2.2.2⟩
                case rest =>
                  obtain ⟨w8, n', a', c', d', rfl, hN18, hN78, hF18, hMid⟩ := hcut
                  obtain ⟨say, ta, k9, k10', hsz, hch, hno, hlex8⟩ := hMid.out
                  have hz8 := hF18.out.size
                  have hX8 := HX1.out.kept hF18.out hlex8
                  have kx8 : w8.cell? ⟨cx, 0, none⟩ = some (.pointer (some ⟨px, 0, none⟩)) := cell_of_block hX8.pw.hx 0
                  have hum8 : say.size ≤ maxLen := by unfold maxLen; omega
                  have hpx8 : px < w8.heap.size := by omega
                  have HCH := Lib.hid hch
                  have HNO := Lib.hid hno
                  have HX8 := Lib.hid hX8
                  have hl18 := lt_of_block hN18.out
                  have hl78 := lt_of_block hN78.out
                  clear hMid hch hno hX8 g0 g1 g2 g3 g4 g5 g6 gf z0 z1 kf HCF hlex8
                  go_upto_region 10 with fail
                  go_cut [9] (fun s9 wx => ∃ w9 p9, w9 = wx ∧ s9 = .pointer (some ⟨p9, 0, none⟩) ∧ Hid (w9.heap[p9]? = some (.cells #[.int .u8 (sgA (signL say.data.toList)), .int .i64 (sgB (signL say.data.toList))] 85 (0, 0))) ∧ Hid (Below w8.heap.size w8 w9))
                  case first =>
                    go_region_held3 (fun w' => w'.cell? ⟨px, 9, none⟩ = some (.string say) ∧ w'.cell? ⟨cx, 0, none⟩ = some (.pointer (some ⟨px, 0, none⟩))) (first | go_keep | exact ⟨q9, q9x⟩ | exact ⟨q9b _ _, q9bx _ _⟩) (first | (go_at_call 43; refine (signs_any _).mono ?_; rintro e w5 ⟨bm, rfl, hm5, hlo5, hb5⟩; have hL5 := hm5.look say hum8; have hL6 := (hm5.kept ((Below.refl _ _).alloc (Nat.le_refl _) (.cells #[.int .u8 0, .int .i64 0] 85))).look say hum8; clear hm5; have HB5 : Hid (Below w8.heap.size w8 w5) := Lib.hid (by first | exact (Below.drew (Below.refl _ _)).trans hb5 | exact (((Below.refl _ _).alloc (Nat.le_refl _) _).drew).trans (hb5.mono (by simp)) | exact ((Below.drew (Below.refl _ _)).alloc (Nat.le_refl _) _).trans (hb5.mono (by simp))); have q9 : w5.cell? ⟨px, 9, none⟩ = some (.string say) := (Below.cellB HB5.out hpx8).trans k9; have q9x : w5.cell? ⟨cx, 0, none⟩ = some (.pointer (some ⟨px, 0, none⟩)) := (Below.cellB HB5.out (cell_lt kx8)).trans kx8; have q9b : ∀ v1 v2, ((w5.setCell ⟨w8.heap.size, 0, none⟩ v1).setCell ⟨w8.heap.size, 1, none⟩ v2).cell? ⟨px, 9, none⟩ = some (.string say) := (fun v1 v2 => (Below.cellB (((Below.refl w8.heap.size w5).setCell (p := ⟨w8.heap.size, 0, none⟩) (Nat.le_refl _) v1).setCell (p := ⟨w8.heap.size, 1, none⟩) (Nat.le_refl _) v2) hpx8).trans q9); have q9bx : ∀ v1 v2, ((w5.setCell ⟨w8.heap.size, 0, none⟩ v1).setCell ⟨w8.heap.size, 1, none⟩ v2).cell? ⟨cx, 0, none⟩ = some (.pointer (some ⟨px, 0, none⟩)) := (fun v1 v2 => (Below.cellB (((Below.refl w8.heap.size w5).setCell (p := ⟨w8.heap.size, 0, none⟩) (Nat.le_refl _) v1).setCell (p := ⟨w8.heap.size, 1, none⟩) (Nat.le_refl _) v2) (cell_lt kx8)).trans q9x); try (have hz0 : w5.heap[w8.heap.size]? = some (.cells #[.int .u8 0, .int .i64 0] 85 (0, 0)) := (hb5.block _ (by simp)).trans (heap_alloc_new _ _); have HZ0 := Lib.hid hz0; have z0 : w5.cell? ⟨w8.heap.size, 0, none⟩ = some (.int .u8 0) := cell_of_block hz0 0; have z1 : w5.cell? ⟨w8.heap.size, 1, none⟩ = some (.int .i64 0) := cell_of_block hz0 1; have zf := free_of_block hz0; clear hz0)))
                    all_goals
                      go_wp2_with fail
                      go_meet
                    all_goals
                      first
                        | exact ⟨_, w5.heap.size, rfl, rfl, Lib.hid (heap_alloc_new w5 _), Lib.hid (HB5.out.alloc HB5.out.size _)⟩
                        | exact ⟨_, w5.heap.size, rfl, rfl, Lib.hid (heap_alloc_new w5 _), Lib.hid (HB5.out.alloc HB5.out.size _).drew⟩
                        | exact ⟨_, w8.heap.size, rfl, rfl, Lib.hid (set_selfL _ (set_selfL _ HZ0.out)), Lib.hid ((HB5.out.setCell (Nat.le_refl _) _).setCell (Nat.le_refl _) _)⟩
                  case rest =>
                    obtain ⟨w9, p9, rfl, rfl, hN9, hB9⟩ := hcut
                    have hz9 := hB9.out.size
                    have hX9 := HX8.out.below hB9.out
                    have kx9 : w9.cell? ⟨cx, 0, none⟩ = some (.pointer (some ⟨px, 0, none⟩)) := cell_of_block hX9.pw.hx 0
                    have z1 : w9.cell? ⟨p7, 1, none⟩ = some (.int .i64 (ln : Int)) := cell_of_block ((hB9.out.block p7 hl78).trans hN78.out) 1
                    have k10 : w9.cell? ⟨px, 10, none⟩ = some (.int .i64 ta) := (Below.cellB hB9.out hpx8).trans k10'
                    have HN19 := Lib.hid ((hB9.out.block p1 hl18).trans hN18.out)
                    have HF19 := Lib.hid (hF18.out.below hB9.out)
                    have HX9 := Lib.hid hX9
                    have HNO9 := Lib.hid (fun h => (HNO.out h).keptB hB9.out)
                    obtain ⟨q, hq⟩ : ∃ q, sgB (signL say.data.toList) = q := ⟨_, rfl⟩
                    rw [hq] at hN9 HCH HNO9
                    have y1 : w9.cell? ⟨p9, 1, none⟩ = some (.int .i64 q) := cell_of_block hN9.out 1
                    clear hq HNO hX9 k9 k10' kx8
                    have hor : (((ln : Int) == 4) = false ∧ (ln == 4) = false ∧ Hid ((decide (ln = 4) && decide (q = 4)) = false)) ∨ (((ln : Int) == 4) = true ∧ (ln == 4) = true ∧ (q == 4) = false ∧ Hid ((decide (ln = 4) && decide (q = 4)) = false)) ∨ (((ln : Int) == 4) = true ∧ (ln == 4) = true ∧ (q == 4) = true ∧ Hid ((decide (ln = 4) && decide (q = 4)) = true)) := by
                      by_cases h4 : ln = 4
                      · by_cases hq4 : q = 4
                        · exact .inr (.inr ⟨beq_iff_eq.2 (by omega), beq_iff_eq.2 h4, beq_iff_eq.2 hq4, Lib.hid (by rw [decide_eq_true h4, decide_eq_true hq4]; rfl)⟩)
                        · exact .inr (.inl ⟨beq_iff_eq.2 (by omega), beq_iff_eq.2 h4, beq_eq_false_iff_ne.2 hq4, Lib.hid (by rw [decide_eq_true h4, decide_eq_false hq4]; rfl)⟩)
                      · exact .inl ⟨beq_eq_false_iff_ne.2 (by omega), beq_eq_false_iff_ne.2 h4, Lib.hid (by rw [decide_eq_false h4]; rfl)⟩
                    rcases hor with ⟨e1, e2, hcc⟩ | ⟨e1, e2, e3, hcc⟩ | ⟨e1, e2, e3, hcc⟩
                    case inr.inr =>
                      obtain ⟨X, Y, hX0, hRX, hfl⟩ := HCH.out hcc.out
                      have HXR := Lib.hid (And.intro hX0 hRX)
                      have HFL := Lib.hid (fun W (h : Below w9.heap.size w9 W) => hfl W (hB9.out.trans (h.mono hz9)))
                      clear hX0 hRX hfl HCH
                      go_upto_region 12 with fail
                      go_region_held3 (fun w' => w'.cell? ⟨cx, 0, none⟩ = some (.pointer (some ⟨px, 0, none⟩)) ∧ w'.cell? ⟨px, 10, none⟩ = some (.int .i64 ta)) (first | go_keep | exact ⟨qcx, q10⟩) (first | (go_at_call 39; refine (HFL.out _ (Below.drew (Below.refl _ _))).mono ?_; rintro e w10 ⟨rfl, hF10, hb10, he10⟩; have q10 : w10.cell? ⟨px, 10, none⟩ = some (.int .i64 ta) := he10.trans k10; have qcx : w10.cell? ⟨cx, 0, none⟩ = some (.pointer (some ⟨px, 0, none⟩)) := cell_of_block ((HX9.out.below (Below.drew (Below.refl _ _))).kept hF10 hb10.lex).pw.hx 0; have H10 := Lib.hid (And.intro hF10 hb10); clear hF10 hb10 he10))
                      all_goals
                        go_wp2_with fail
                        go_roundg (gk - 1)
                        case measure => omega
                        case rel =>
                          have hF910 : Frm [some px] w9 w10 := (Frm.ofBelow (Below.drew (Below.refl _ _))).trans H10.out.1 (by intro r hr; exact .inl hr)
                          exact ⟨n', a', c', d', Lib.hid (hF910.block HN19.out (by intro r hr e; simp only [List.mem_singleton] at hr; rw [hr] at e; injection e with e; omega)), Lib.hid (HF19.out.trans hF910 (by intro r hr; exact .inl hr)), Lib.hid (.inl ⟨X, Y, HXR.out.1, H10.out.2, HXR.out.2⟩)⟩
                    all_goals
                      go_wp2_with fail
                      go_roundg (gk - 1)
                      case measure => omega
                      case rel => exact ⟨n', a', c', d', HN19, HF19, Lib.hid (HNO9.out hcc.out)⟩
end Go.Proofs.YtbephgifbghilaaGreatDoor
/- expr.Parse (seat expr). -/
set_option maxRecDepth 100000
namespace Go.Proofs.YtbephgifbghilaaGreatDoor
open Go.RowKit
theorem from_all {s : ByteArray} (hs : s.size ≤ 256) {B px cx cf c7 c8 c9 c10 : Nat} : ∀ f, FromC s B px cx cf c7 c8 c9 c10 f := by
  intro f
  induction f using Nat.strongRecOn with
  | _ f ih =>
    cases f with
    | zero => intro w line st _ _ _ _ hmu; omega
    | succ k => exact from_step hs (fun j hj => ih j (by omega))
def parseR (w : World) (n : Nd) (vk : Value) (pos err : Int) (r : Rs Nd) : Prop := match r with
  | .ok m => n = m ∧ pos = 0 ∧ err = 0 ∧ HeadW m ∧ KidsR w w.heap.size vk m.kids
  | .error (x, p) => n = nilN ∧ vk = .slice none 0 0 ∧ pos = (p : Int) ∧ err = x ∧ x ≠ 0
def ParseC (w : World) (r : Rs Nd) (e : Ending) (w' : World) : Prop :=
  ∃ n a c d pos err, e = .returned (.tuple #[valN n (.slice a c d), .int .i64 pos, .int .i64 err]) ∧ Below w.heap.size w w' ∧ parseR w' n (.slice a c d) pos err r
theorem parseE_long {s : List UInt8} (h : 256 < s.length) : parseE s = .error (3, 0) := by unfold parseE; rw [if_pos h]
def endE (r : Nd × (Tk × Nat)) : Rs Nd := match r.2.1 with
  | .fin _ => .ok r.1
  | t => .error (4, t.at_)
theorem parseE_is {s : List UInt8} (h : s.length ≤ 256) : parseE s = ((nextE s 0 >>= fun st => prsE s (2 * s.length + 10) none 1 st) >>= endE) := by
  unfold parseE
  rw [if_neg (by omega), bind_assoc']
  rfl
theorem LxE.c11 {w : World} {px : Nat} {s : ByteArray} {x a : Int} (h : LxE w px s x a) : ∃ (en : Bool) (ta : Int), w.cell? ⟨px, 11, none⟩ = some (.bool en) ∧ w.cell? ⟨px, 10, none⟩ = some (.int .i64 ta) := by
  obtain ⟨i, say, h1, h2, op, kind, num, tr, text, name, vk, ta, en, hb⟩ := h
  exact ⟨en, ta, cell_of_block hb 11, cell_of_block hb 10⟩
theorem LxE.c13 {w : World} {px : Nat} {s : ByteArray} {x a : Int} (h : LxE w px s x a) : w.cell? ⟨px, 13, none⟩ = some (.int .i64 a) := by
  obtain ⟨i, say, h1, h2, op, kind, num, tr, text, name, vk, ta, en, hb⟩ := h
  exact cell_of_block hb 13
theorem endE_fin {n : Nd} {st : Tk × Nat} (h : isFin st.1 = true) : endE (n, st) = .ok n := by
  obtain ⟨tk, i⟩ := st
  cases tk with
  | fin a => rfl
  | nd m a => cases h
  | say u a => cases h
theorem endE_no {n : Nd} {st : Tk × Nat} (h : isFin st.1 = false) : endE (n, st) = .error (4, st.1.at_) := by
  obtain ⟨tk, i⟩ := st
  cases tk with
  | fin a => cases h
  | nd m a => rfl
  | say u a => rfl
theorem drew_cell (X : World) (a : Addr) : X.drew.cell? a = X.cell? a := rfl
theorem set7_cell {W : World} {p : Nat} {v0 v1 v2 v3 v4 v5 v6 : Value} {k j : Nat} (hk : k ≠ p) : (set7 W p v0 v1 v2 v3 v4 v5 v6).cell? ⟨k, j, none⟩ = W.cell? ⟨k, j, none⟩ := by
  unfold World.cell?
  simp only [set7_keep W p v0 v1 v2 v3 v4 v5 v6 hk]
set_option maxHeartbeats 8000000 in
theorem parse_any (w : World) (hG : GA w.heap.size w) (s : ByteArray) (hsz : s.size ≤ 140737488355328) : Calls Tryz.prog 9 #[.string s] w (ParseC w (parseE s.data.toList)) := by
  have hsl := sl_len s
  obtain ⟨w1, p0, hp0, hw1, l0, n0, b0⟩ := box_new w nilObj
  obtain ⟨d0, d1, d2, d3, d4, d5, d6, df⟩ := n7_cells n0
  have HB := Lib.hid b0
  have HN0 := Lib.hid n0
  have HP0 := Lib.hid hp0
  by_cases hs : s.size ≤ 256
  · have e1 : decide ((256 : Int) < (s.size : Int)) = false := decide_eq_false (by omega)
    have e1' : decide (256 < s.size) = false := decide_eq_false (by omega)
    obtain ⟨w2, px, hpx, hw2, l2, n2, b2⟩ := box_new w1 (.cells #[.string s, .int .i64 0, .int .u8 0, .int .u8 0, .int .i64 0, .bool false, .string ⟨#[]⟩, .string ⟨#[]⟩, .slice none 0 0, .string ⟨#[]⟩, .int .i64 0, .bool false, .int .i64 0, .int .i64 0] 79)
    obtain ⟨w3, cx, hcx, hw3, l3, n3, b3⟩ := box_new w2 (.cells #[.pointer (some ⟨px, 0, none⟩)] 75)
    have k0 : w3.cell? ⟨cx, 0, none⟩ = some (.pointer (some ⟨px, 0, none⟩)) := cell_of_block n3 0
    have hlx : LxB w3 px s ((0 : Nat) : Int) 0 0 0 false ⟨#[]⟩ ⟨#[]⟩ (.slice none 0 0) ⟨#[]⟩ 0 false 0 0 := (b3.block px l2).trans n2
    have hb13 : Below w.heap.size w w3 := b0.trans ((b2.trans (b3.mono b2.size)).mono b0.size)
    have hG3 := hG.step hb13
    have hz1 := b0.size
    have hz2 := b2.size
    have hz3 := b3.size
    have HNX := Lib.hid (next_any w.heap.size w3 hG3 px (by omega) hb13.size s (by omega) 0 (by omega) _ _ _ _ _ _ _ _ _ _ hlx)
    have HB13 := Lib.hid hb13
    have HG3 := Lib.hid hG3
    have HN3 := Lib.hid n3
    have HL3 := Lib.hid hlx
    have HN03 := Lib.hid (((b2.trans (b3.mono b2.size)).block p0 l0).trans n0)
    clear hG n0 b0 n2 b2 n3 b3 hlx hb13 hG3
    go_enter Tryz.func9, Tryz.ntmps9
    go_upto_region 4 with fail
    go_cut [] (fun wx => ∃ w4, w4 = wx ∧ Hid (Frm [some px] w3 w4) ∧ Hid (nextR w4 px s (nextE s.data.toList 0)))
    case first =>
      go_wp2_with (go_at_call 36; refine HNX.out.mono ?_; rintro e w4 ⟨rfl, hF4, hn4⟩; have H4 := Lib.hid (And.intro hF4 hn4); clear hF4 hn4)
      go_meet
      exact ⟨_, rfl, Lib.hid H4.out.1, Lib.hid H4.out.2⟩
    case rest =>
      obtain ⟨w4, rfl, hF4, hn4⟩ := hcut
      obtain ⟨wa, cf, hcf, hwa, la, na, ba⟩ := box_new w4 (.cells #[.nilFunc] 80)
      obtain ⟨wb, c7, hc7, hwb, lb, nb, bb⟩ := box_new wa (.cells #[.func (.func 37) #[] #[.pointer (some ⟨cx, 0, none⟩), .pointer (some ⟨cf, 0, none⟩)]] 81)
      obtain ⟨wc, c8, hc8, hwc, lc, nc, bc⟩ := box_new wb (.cells #[.func (.func 38) #[] #[.pointer (some ⟨cx, 0, none⟩)]] 83)
      obtain ⟨wd, c9, hc9, hwd, ld, nd, bd⟩ := box_new wc (.cells #[.func (.func 40) #[] #[.pointer (some ⟨cx, 0, none⟩), .pointer (some ⟨cf, 0, none⟩)]] 83)
      obtain ⟨we, c10, hc10, hwe, le, ne, be⟩ := box_new wd (.cells #[.func (.func 41) #[] #[.pointer (some ⟨cx, 0, none⟩), .pointer (some ⟨c7, 0, none⟩), .pointer (some ⟨c9, 0, none⟩), .pointer (some ⟨c8, 0, none⟩)]] 80)
      have hz4 := hF4.out.size
      have hza := ba.size
      have hzb := bb.size
      have hzc := bc.size
      have hzd := bd.size
      have hze := be.size
      have be4 : Below w4.heap.size w4 we := ba.trans ((bb.trans ((bc.trans ((bd.trans (be.mono bd.size)).mono bc.size)).mono bb.size)).mono ba.size)
      have beb : Below wb.heap.size wb we := bc.trans ((bd.trans (be.mono bd.size)).mono bc.size)
      have bec : Below wc.heap.size wc we := bd.trans (be.mono bd.size)
      have bea : Below wa.heap.size wa we := bb.trans (beb.mono bb.size)
      obtain ⟨w5, hw5⟩ : ∃ w5, we.setCell ⟨cf, 0, none⟩ (.func (.func 42) #[] #[.pointer (some ⟨cx, 0, none⟩), .pointer (some ⟨c10, 0, none⟩), .pointer (some ⟨cf, 0, none⟩)]) = w5 := ⟨_, rfl⟩
      have hcell : we.cell? ⟨cf, 0, none⟩ = some .nilFunc := cell_of_block ((bea.block cf la).trans na) 0
      have hfz : we.frozen? ⟨cf, 0, none⟩ = false := free_of_block ((bea.block cf la).trans na) 0
      have h5f : w5.heap[cf]? = some (.cells #[.func (.func 42) #[] #[.pointer (some ⟨cx, 0, none⟩), .pointer (some ⟨c10, 0, none⟩), .pointer (some ⟨cf, 0, none⟩)]] 80 (0, 0)) := by rw [← hw5]; exact set_selfL _ ((bea.block cf la).trans na)
      have h5o : ∀ k, k ≠ cf → w5.heap[k]? = we.heap[k]? := fun k hk => by rw [← hw5]; exact heap_setCell_other _ ⟨cf, 0, none⟩ k _ hk
      have h5F : Frm [some px] w4 w5 := by
        rw [← hw5]
        have h1 : Frm [some cf] w4 (we.setCell ⟨cf, 0, none⟩ (.func (.func 42) #[] #[.pointer (some ⟨cx, 0, none⟩), .pointer (some ⟨c10, 0, none⟩), .pointer (some ⟨cf, 0, none⟩)])) := (Frm.ofBelow be4).setL _ (by simp)
        exact (Frm.refl [some px] w4).trans h1 (by intro r hr; simp only [List.mem_singleton] at hr; subst hr; exact .inr ⟨cf, rfl, by omega⟩)
      have hz5 : w5.heap.size = we.heap.size := by rw [← hw5]; simp
      have hlex4 : ∃ c, w4.heap[px]? = some (.cells c 79 (0, 0)) := by
        have := hn4.out
        cases hne : nextE s.data.toList 0 with
        | error x => rw [hne] at this; exact LxE.lex this
        | ok st1 => rw [hne] at this; exact LxT.lex this
      have hpx5 : w5.heap[px]? = w4.heap[px]? := (h5o px (by omega)).trans (be4.block px (by omega))
      have hn3' := hF4.out.block HN3.out (by intro r hr e; simp only [List.mem_singleton] at hr; rw [hr] at e; injection e with e; omega)
      have hPW : PW w5 w.heap.size px cx cf c7 c8 c9 c10 := by
        obtain ⟨c, hc⟩ := hlex4
        exact ⟨by omega, by omega, (h5o cx (by omega)).trans ((be4.block cx (by omega)).trans hn3'), h5f, (h5o c7 (by omega)).trans ((beb.block c7 lb).trans nb), (h5o c8 (by omega)).trans ((bec.block c8 lc).trans nc), (h5o c9 (by omega)).trans ((be.block c9 ld).trans nd), (h5o c10 (by omega)).trans ne, c, hpx5.trans hc⟩
      have hF35 := hF4.out.trans h5F (by intro r hr; exact .inl hr)
      have hG5 := HG3.out.frm (by omega : w.heap.size ≤ px) HB13.out.size hF35
      have hPX : PX w5 w.heap.size px cx cf c7 c8 c9 c10 := ⟨hPW, hG5⟩
      have hn05 := hF35.block HN03.out (by intro r hr e; simp only [List.mem_singleton] at hr; rw [hr] at e; injection e with e; omega)
      have kf5 : w5.cell? ⟨cf, 0, none⟩ = some (.func (.func 42) #[] #[.pointer (some ⟨cx, 0, none⟩), .pointer (some ⟨c10, 0, none⟩), .pointer (some ⟨cf, 0, none⟩)]) := cell_of_block h5f 0
      have HCF : Hid (Calls Tryz.prog 42 #[.int .i64 1, .pointer (some ⟨cx, 0, none⟩), .pointer (some ⟨c10, 0, none⟩), .pointer (some ⟨cf, 0, none⟩)] w5 (PartC w5 px s (nextE s.data.toList 0 >>= fun st => prsE s.data.toList (2 * s.data.toList.length + 10) none 1 st))) := Lib.hid (by
        have hn := hn4.out
        cases hne : nextE s.data.toList 0 with
        | error x =>
          rw [hne] at hn
          obtain ⟨x, y⟩ := x
          have hx0 : x ≠ 0 := by have := (nextE_err hne).1; omega
          rw [bind_no rfl]
          refine (fromerr_any hPX hx0 (LxE.kept hn hpx5) _).mono ?_
          rintro e w' ⟨rfl, hb'⟩
          exact ⟨nilN, none, 0, 0, rfl, Frm.ofBelow hb', LxE.kept (LxE.kept hn hpx5) (hb'.block px (by omega)), hx0⟩
        | ok st1 =>
          rw [hne] at hn
          rw [bind_is rfl]
          have hst1 := next_stw (by omega : s.data.toList.length ≤ 1000) (Nat.zero_le _) hne
          exact from_all hs _ w5 1 st1 hPX (LxT.kept hn hpx5) hst1 (by omega) (by have := mu_le s.data.toList st1; omega))
      have HPX := Lib.hid hPX
      have HF35 := Lib.hid hF35
      have HN05 := Lib.hid hn05
      clear na nb nc nd ne ba bb bc bd be be4 beb bec bea h5f h5o h5F hpx5 hn3' hPW hG5 hPX hF35 hn05 hlex4 hn4 d0 d1 d2 d3 d4 d5 d6 df
      obtain ⟨RR, hRR⟩ : ∃ RR, (nextE s.data.toList 0 >>= fun st => prsE s.data.toList (2 * s.data.toList.length + 10) none 1 st) = RR := ⟨_, rfl⟩
      have HPE : Hid (parseE s.data.toList = (RR >>= endE)) := Lib.hid (by rw [parseE_is (by omega), hRR])
      rw [hRR] at HCF
      clear hRR
      go_upto_region 11 with fail
      go_cut [11] (fun s11 wx => ∃ w6 p11 n a c d, w6 = wx ∧ s11 = .pointer (some ⟨p11, 0, none⟩) ∧ Hid (w6.heap[p11]? = some (ndObj n a c d)) ∧ w5.heap.size ≤ p11 ∧ Hid (Frm [some px] w5 w6) ∧ Hid (partR w6 px s w5.heap.size n (.slice a c d) RR))
      case first =>
        go_wp2_with (go_at_call 42; refine HCF.out.mono ?_; rintro e w6 ⟨n, a, c, d, rfl, hF6, hr6⟩; have H6 := Lib.hid (And.intro hF6 hr6); clear hF6 hr6)
        go_meet
        have hz6 := H6.out.1.size
        have hal := (Below.refl w6.heap.size w6).alloc (Nat.le_refl _) (ndObj n a c d)
        refine ⟨_, w6.heap.size, n, a, c, d, rfl, rfl, Lib.hid (heap_alloc_new w6 _), hz6, Lib.hid (H6.out.1.below hal), Lib.hid ?_⟩
        have hr := H6.out.2
        have hpk := hal.block px (by omega)
        cases RR with
        | error x => exact ⟨hr.1.kept hpk, hr.2⟩
        | ok r => exact ⟨hr.1, hr.2.1.keptB hal, hr.2.2.1, hr.2.2.2.1.kept hpk, hr.2.2.2.2⟩
      case rest =>
        obtain ⟨w6, p11, n, a, c, d, rfl, rfl, hN6, hp11, hF6, hr6⟩ := hcut
        have hz6 := hF6.out.size
        have hX6 := HPX.out.kept hF6.out hr6.out.lex
        have kx6 : w6.cell? ⟨cx, 0, none⟩ = some (.pointer (some ⟨px, 0, none⟩)) := cell_of_block hX6.pw.hx 0
        have hn06 := hF6.out.block HN05.out (by intro r hr e; simp only [List.mem_singleton] at hr; rw [hr] at e; injection e with e; omega)
        have hpx6 : px < w6.heap.size := by omega
        obtain ⟨en, ta, k11, k10, hcase⟩ : ∃ (en : Bool) (ta : Int), w6.cell? ⟨px, 11, none⟩ = some (.bool en) ∧ w6.cell? ⟨px, 10, none⟩ = some (.int .i64 ta) ∧
            ((en = false ∧ ∃ (X : Int) (Y : Nat), X ≠ 0 ∧ parseE s.data.toList = .error (X, Y) ∧ ∀ W, Below w6.heap.size w6 W → Calls Tryz.prog 39 #[.pointer (some ⟨px, 0, none⟩), .int .i64 4, .int .i64 ta] W fun r w' => r = .returned (.tuple #[]) ∧ Frm [some px] W w' ∧ LxE w' px s X (Y : Int) ∧ w'.cell? ⟨px, 10, none⟩ = W.cell? ⟨px, 10, none⟩) ∨
             (en = true ∧ ∃ (X : Int) (Y : Nat), X ≠ 0 ∧ parseE s.data.toList = .error (X, Y) ∧ LxE w6 px s X (Y : Int)) ∨
             (en = true ∧ parseE s.data.toList = .ok n ∧ w6.cell? ⟨px, 12, none⟩ = some (.int .i64 0) ∧ MadeR w6 (fun b => w5.heap.size ≤ b) (.slice a c d) n.kids ∧ HeadW n)) := by
          have hr := hr6.out
          have hpe := HPE.out
          cases hq : RR with
          | error x =>
            rw [hq] at hr hpe
            obtain ⟨x, y⟩ := x
            obtain ⟨en, ta, q1, q2⟩ := LxE.c11 hr.1
            refine ⟨en, ta, q1, q2, ?_⟩
            cases en with
            | true => exact .inr (.inl ⟨rfl, x, y, hr.2, hpe, hr.1⟩)
            | false => exact .inl ⟨rfl, x, y, hr.2, hpe, fun W hW => failX hr.2 (hr.1.kept (hW.block _ hpx6)) _ _⟩
          | ok r =>
            obtain ⟨m, st⟩ := r
            rw [hq] at hr hpe
            obtain ⟨rfl, h2, h3, h4, h5⟩ := hr
            refine ⟨_, _, h4.c11, h4.c10, ?_⟩
            rw [bind_is rfl] at hpe
            cases hfin : isFin st.1 with
            | true => exact .inr (.inr ⟨rfl, hpe.trans (endE_fin hfin), h4.c12, h2, h3⟩)
            | false => exact .inl ⟨rfl, 4, st.1.at_, by decide, hpe.trans (endE_no hfin), fun W hW => failT (h4.kept (hW.block _ hpx6)) h5 _ _⟩
        have HX6 := Lib.hid hX6
        have HN06 := Lib.hid hn06
        have hb36 : Hid (Below w.heap.size w w6) := Lib.hid (HB13.out.trans ((HF35.out.trans hF6.out (by intro r hr; exact .inl hr)).toBelow HB13.out.size (by intro r hr k hk; simp only [List.mem_singleton] at hr; rw [hr] at hk; injection hk with hk; omega)))
        have hw0 : w.heap.size ≤ p0 := by omega
        -- the end behind an error
        have finE : Hid (∀ (W : World) (X : Int) (Y : Nat), X ≠ 0 → parseE s.data.toList = .error (X, Y) → Below w.heap.size w W → ParseC w (parseE s.data.toList) (.returned (.tuple #[valN nilN (.slice none 0 0), .int .i64 (Y : Int), .int .i64 X])) W) := Lib.hid (fun W X Y hX hpe hb => by
          rw [hpe]
          exact ⟨nilN, none, 0, 0, _, _, rfl, hb, rfl, rfl, rfl, rfl, hX⟩)
        have finB : Hid (∀ W : World, Below w.heap.size w W → Below w.heap.size w (set7 W p0 (.int .u8 0) (.int .u8 0) (.int .i64 0) (.bool false) (.string ⟨#[]⟩) (.string ⟨#[]⟩) (.slice none 0 0)).drew) := Lib.hid (fun W hb => (hb.trans ((set7_frm W p0 _ _ _ _ _ _ _).toBelow hb.size (by intro r hr k hk; simp only [List.mem_singleton] at hr; rw [hr] at hk; injection hk with hk; omega))).drew)
        clear hr6 hn06 hX6 HCF
        rcases hcase with ⟨rfl, X, Y, hX0, hpe, hfl⟩ | ⟨rfl, X, Y, hX0, hpe, hlE⟩ | ⟨rfl, hpe, k12, hmk, hhw⟩
        · have HFL := Lib.hid hfl
          have HXP := Lib.hid (And.intro hX0 hpe)
          clear hfl hX0 hpe
          go_upto_region 13 with fail
          go_cut [] (fun wx => ∃ w7, w7 = wx ∧ Hid (Frm [some px] w6 w7) ∧ Hid (LxE w7 px s X (Y : Int)))
          case first =>
            go_region_held3 (fun w' => w'.cell? ⟨cx, 0, none⟩ = some (.pointer (some ⟨px, 0, none⟩)) ∧ w'.cell? ⟨px, 10, none⟩ = some (.int .i64 ta)) (first | go_keep | exact ⟨qcx, q10⟩) (first | (go_at_call 39; refine (HFL.out _ (Below.drew (Below.refl _ _))).mono ?_; rintro e w5 ⟨rfl, hF5, hb5, he5⟩; have q10 : w5.cell? ⟨px, 10, none⟩ = some (.int .i64 ta) := he5.trans k10; have qcx : w5.cell? ⟨cx, 0, none⟩ = some (.pointer (some ⟨px, 0, none⟩)) := cell_of_block ((HX6.out.below (Below.drew (Below.refl _ _))).kept hF5 hb5.lex).pw.hx 0; have H5 := Lib.hid (And.intro hF5 hb5); clear hF5 hb5 he5))
            all_goals
              go_wp2_with fail
              go_meet
              exact ⟨_, rfl, Lib.hid ((Frm.ofBelow (Below.drew (Below.refl _ _))).trans H5.out.1 (by intro r hr; exact .inl hr)), Lib.hid H5.out.2⟩
          case rest =>
            obtain ⟨w7, rfl, hF7, hl7⟩ := hcut
            have hX7 := HX6.out.kept hF7.out hl7.out.lex
            have kx7 : w7.cell? ⟨cx, 0, none⟩ = some (.pointer (some ⟨px, 0, none⟩)) := cell_of_block hX7.pw.hx 0
            have k12 := hl7.out.c12
            have k13 := hl7.out.c13
            have eX : (X != 0) = true := by rw [bne_iff_ne]; exact HXP.out.1
            have hn07 := hF7.out.block HN06.out (by intro r hr e; simp only [List.mem_singleton] at hr; rw [hr] at e; injection e with e; omega)
            obtain ⟨d0, d1, d2, d3, d4, d5, d6, df⟩ := n7_cells hn07
            have hb37 := Lib.hid (hb36.out.trans (hF7.out.toBelow hb36.out.size (by intro r hr k hk; simp only [List.mem_singleton] at hr; rw [hr] at hk; injection hk with hk; omega)))
            clear hX7 HFL hn07
            go_upto_region 15 with fail
            have Qa : Hid ((set7 w7 p0 (.int .u8 0) (.int .u8 0) (.int .i64 0) (.bool false) (.string ⟨#[]⟩) (.string ⟨#[]⟩) (.slice none 0 0)).drew.cell? ⟨cx, 0, none⟩ = some (.pointer (some ⟨px, 0, none⟩))) := Lib.hid ((drew_cell _ _).trans ((set7_cell (by omega)).trans kx7))
            have Qb : Hid ((set7 w7 p0 (.int .u8 0) (.int .u8 0) (.int .i64 0) (.bool false) (.string ⟨#[]⟩) (.string ⟨#[]⟩) (.slice none 0 0)).drew.cell? ⟨px, 12, none⟩ = some (.int .i64 X)) := Lib.hid ((drew_cell _ _).trans ((set7_cell (by omega)).trans k12))
            have Qc : Hid ((set7 w7 p0 (.int .u8 0) (.int .u8 0) (.int .i64 0) (.bool false) (.string ⟨#[]⟩) (.string ⟨#[]⟩) (.slice none 0 0)).drew.cell? ⟨px, 13, none⟩ = some (.int .i64 (Y : Int))) := Lib.hid ((drew_cell _ _).trans ((set7_cell (by omega)).trans k13))
            go_big_region
            all_goals
              go_wp2_with fail
              refine bodyPost_ret (v := .tuple #[valN nilN (.slice none 0 0), .int .i64 (Y : Int), .int .i64 X]) (by simp [results, Tryz.results9, go_sem, d0, d1, d2, d3, d4, d5, d6, Nd.op, Nd.v, Nd.name, Vl.zero]) rfl ?_
              exact finE.out _ X Y HXP.out.1 HXP.out.2 (finB.out w7 hb37.out)
        · have HLE := Lib.hid hlE
          have HXP := Lib.hid (And.intro hX0 hpe)
          have k12 := hlE.c12
          have k13 := hlE.c13
          have eX : (X != 0) = true := by rw [bne_iff_ne]; exact hX0
          obtain ⟨d0, d1, d2, d3, d4, d5, d6, df⟩ := n7_cells HN06.out
          clear hlE hX0 hpe
          go_upto_region 15 with fail
          have Qa : Hid ((set7 w6 p0 (.int .u8 0) (.int .u8 0) (.int .i64 0) (.bool false) (.string ⟨#[]⟩) (.string ⟨#[]⟩) (.slice none 0 0)).drew.cell? ⟨cx, 0, none⟩ = some (.pointer (some ⟨px, 0, none⟩))) := Lib.hid ((drew_cell _ _).trans ((set7_cell (by omega)).trans kx6))
          have Qb : Hid ((set7 w6 p0 (.int .u8 0) (.int .u8 0) (.int .i64 0) (.bool false) (.string ⟨#[]⟩) (.string ⟨#[]⟩) (.slice none 0 0)).drew.cell? ⟨px, 12, none⟩ = some (.int .i64 X)) := Lib.hid ((drew_cell _ _).trans ((set7_cell (by omega)).trans k12))
          have Qc : Hid ((set7 w6 p0 (.int .u8 0) (.int .u8 0) (.int .i64 0) (.bool false) (.string ⟨#[]⟩) (.string ⟨#[]⟩) (.slice none 0 0)).drew.cell? ⟨px, 13, none⟩ = some (.int .i64 (Y : Int))) := Lib.hid ((drew_cell _ _).trans ((set7_cell (by omega)).trans k13))
          go_big_region
          all_goals
            go_wp2_with fail
            refine bodyPost_ret (v := .tuple #[valN nilN (.slice none 0 0), .int .i64 (Y : Int), .int .i64 X]) (by simp [results, Tryz.results9, go_sem, d0, d1, d2, d3, d4, d5, d6, Nd.op, Nd.v, Nd.name, Vl.zero]) rfl ?_
            exact finE.out _ X Y HXP.out.1 HXP.out.2 (finB.out w6 hb36.out)
        · obtain ⟨d0, d1, d2, d3, d4, d5, d6, df⟩ := n7_cells HN06.out
          obtain ⟨g0, g1, g2, g3, g4, g5, g6, gf⟩ := n7_cells hN6.out
          have HM := Lib.hid (And.intro hpe (And.intro hmk hhw))
          clear hpe hmk hhw
          go_wp2_with fail
          refine bodyPost_ret (v := .tuple #[valN n (.slice a c d), .int .i64 0, .int .i64 0]) (by simp [results, Tryz.results9, go_sem, d0, d1, d2, d3, d4, d5, d6]) rfl ?_
          have hf7 := set7_frm w6 p0 (.int .u8 n.op) (.int .u8 n.v.kind) (.int .i64 n.v.num) (.bool n.v.tr) (.string n.v.text) (.string n.name) (.slice a c d)
          rw [HM.out.1]
          exact ⟨n, a, c, d, 0, 0, rfl, hb36.out.trans (hf7.toBelow hb36.out.size (by intro r hr k hk; simp only [List.mem_singleton] at hr; rw [hr] at hk; injection hk with hk; omega)), rfl, rfl, rfl, HM.out.2.2, (HM.out.2.1.kept hf7 (fun b hb r hr => by simp only [List.mem_singleton] at hr; subst hr; intro e; injection e with e; omega)).kids⟩
  · have e1 : decide ((256 : Int) < (s.size : Int)) = true := decide_eq_true (by omega)
    have e1' : decide (256 < s.size) = true := decide_eq_true (by omega)
    have hpe : Hid (parseE s.data.toList = .error (3, 0)) := Lib.hid (parseE_long (by omega))
    clear hG n0 b0 hs
    go_enter Tryz.func9, Tryz.ntmps9
    go_wp2_with fail
    refine bodyPost_ret (v := .tuple #[valN nilN (.slice none 0 0), .int .i64 0, .int .i64 3]) (by simp [results, Tryz.results9, go_sem, d0, d1, d2, d3, d4, d5, d6, Nd.op, Nd.v, Nd.name, Vl.zero]) rfl ?_
    rw [hpe.out]
    refine ⟨nilN, none, 0, 0, 0, 3, rfl, ?_, rfl, rfl, rfl, rfl, by decide⟩
    exact HB.out.trans ((set7_frm w1 p0 _ _ _ _ _ _ _).toBelow HB.out.size (by intro r hr k hk; simp only [List.mem_singleton] at hr; rw [hr] at hk; injection hk with hk; have := HP0.out; omega))
end Go.Proofs.YtbephgifbghilaaGreatDoor
