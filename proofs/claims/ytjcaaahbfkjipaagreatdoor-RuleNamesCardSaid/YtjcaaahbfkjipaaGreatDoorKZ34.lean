/- Texts fused by fuse.py: KExprPar7. -/
import Derived.Test.YtjcaaahbfkjipaaGreatDoorKZ33
import Derived.IntWalk
/- Of ExprPar7: what FRuleNames uses (shake.py). -/
set_option maxRecDepth 100000
/- The closures of expr.Parse: from, the walk (seat expr). -/
namespace Go.Proofs.YtjcaaahbfkjipaaGreatDoor
open Go.RowKit
abbrev ndObj (n : Nd) (a : Option Addr) (c d : Nat) : Obj := .cells #[.int .u8 n.op, .int .u8 n.v.kind, .int .i64 n.v.num, .bool n.v.tr, .string n.v.text, .string n.name, .slice a c d] 108
/-- Where the loop of from stands: the part read so far, and what all comes to. -/
def LoopQ (w : World) (px p1 lo : Nat) (s : ByteArray) (line : Nat) (n : Nd) (vk : Value) (R : Rs (Nd × (Tk × Nat))) (gh K : Nat) : Prop :=
  (∃ (x : Int) (y : Nat), x ≠ 0 ∧ LxE w px s x (y : Int) ∧ R = .error (x, y)) ∨
  (∃ (g : Nat) (st : Tk × Nat), (g < gh ∧ g ≤ K) ∧ LxT w px s st ∧ StW s.data.toList.length st ∧ mu s.data.toList.length st < g ∧ MadeR w (fun b => lo ≤ b ∧ b ≠ p1) vk n.kids ∧ HeadW n ∧ R = prsE s.data.toList g (some n) line st)
theorem LoopQ.lex {w : World} {px p1 lo : Nat} {s : ByteArray} {line : Nat} {n : Nd} {vk : Value} {R : Rs (Nd × (Tk × Nat))} {gh K : Nat} (h : LoopQ w px p1 lo s line n vk R gh K) : ∃ c, w.heap[px]? = some (.cells c 125 (0, 0)) := by
  rcases h with ⟨x, y, _, h, _⟩ | ⟨g, st, _, h, _⟩
  · exact h.lex
  · exact h.lex
theorem LoopQ.keptB {w w' : World} {px p1 lo : Nat} {s : ByteArray} {line : Nat} {n : Nd} {vk : Value} {R : Rs (Nd × (Tk × Nat))} {gh K : Nat} (h : LoopQ w px p1 lo s line n vk R gh K) (hb : Below w.heap.size w w') : LoopQ w' px p1 lo s line n vk R gh K := by
  obtain ⟨c, hc⟩ := h.lex
  have e := hb.block _ (lt_of_block hc)
  rcases h with ⟨x, y, h1, h2, h3⟩ | ⟨g, st, h1, h2, h3, h4, h5, h6, h7⟩
  · exact .inl ⟨x, y, h1, h2.kept e, h3⟩
  · exact .inr ⟨g, st, h1, h2.kept e, h3, h4, h5.keptB hb, h6, h7⟩
/-- Behind a sign and a part: is it a chain of comparisons? -/
def MidQ (w : World) (px p1 lo : Nat) (s : ByteArray) (line : Nat) (n : Nd) (vk : Value) (R : Rs (Nd × (Tk × Nat))) (gh K ln : Nat) : Prop :=
  ∃ (say : ByteArray) (ta : Int), w.cell? ⟨px, 9, none⟩ = some (.string say) ∧ w.cell? ⟨px, 10, none⟩ = some (.int .i64 ta) ∧ say.size ≤ 1000 ∧
    ((decide (ln = 4) && decide (sgB (signL say.data.toList) = 4)) = true → ∃ (X : Int) (Y : Nat), X ≠ 0 ∧ R = .error (X, Y) ∧ ∀ W, Below w.heap.size w W → Calls Tryz.prog 128 #[.pointer (some ⟨px, 0, none⟩), .int .i64 4, .int .i64 ta] W fun r w' => r = .returned (.tuple #[]) ∧ Frm [some px] W w' ∧ LxE w' px s X (Y : Int) ∧ w'.cell? ⟨px, 10, none⟩ = W.cell? ⟨px, 10, none⟩) ∧
    ((decide (ln = 4) && decide (sgB (signL say.data.toList) = 4)) = false → LoopQ w px p1 lo s line n vk R gh K) ∧ (∃ c, w.heap[px]? = some (.cells c 125 (0, 0)))
theorem mid_err {w : World} {px p1 lo : Nat} {s : ByteArray} {line : Nat} {n : Nd} {vk : Value} {R : Rs (Nd × (Tk × Nat))} {gh K ln : Nat} {x : Int} {y : Nat} (hx : x ≠ 0) (hl : LxE w px s x (y : Int)) (hR : R = .error (x, y)) : MidQ w px p1 lo s line n vk R gh K ln := by
  obtain ⟨say, ta, h0, h9, h10⟩ := hl.c9
  obtain ⟨c, hc⟩ := hl.lex
  exact ⟨say, ta, h9, h10, h0, fun _ => ⟨x, y, hx, hR, fun W hW => failX hx (hl.kept (hW.block _ (lt_of_block hc))) _ _⟩, fun _ => .inl ⟨x, y, hx, hl, hR⟩, c, hc⟩
theorem mid_ok {w : World} {px p1 lo : Nat} {s : ByteArray} {line : Nat} {n : Nd} {vk : Value} {R : Rs (Nd × (Tk × Nat))} {gh K ln g : Nat} {st : Tk × Nat} (hl : LxT w px s st) (hst : StW s.data.toList.length st) (hg : g < gh ∧ g ≤ K) (hmu : mu s.data.toList.length st < g) (hm : MadeR w (fun b => lo ≤ b ∧ b ≠ p1) vk n.kids) (hh : HeadW n)
    (hR : R = if chainB ln st.1 then .error (4, st.1.at_) else prsE s.data.toList g (some n) line st) : MidQ w px p1 lo s line n vk R gh K ln := by
  obtain ⟨c, hc⟩ := hl.lex
  have hch : chainB ln st.1 = (decide (ln = 4) && decide (sgB (signL (sayOf st.1).data.toList) = 4)) := by unfold chainB; rw [signT_say]
  refine ⟨_, _, hl.c9, hl.c10, sayOf_size hst, fun h => ?_, fun h => ?_, c, hc⟩
  · rw [← hch] at h
    rw [if_pos h] at hR
    exact ⟨4, st.1.at_, by decide, hR, fun W hW => failT (hl.kept (hW.block _ (lt_of_block hc))) hst _ _⟩
  · rw [← hch] at h
    rw [if_neg (by rw [h]; decide)] at hR
    exact .inr ⟨g, st, hg, hl, hst, hmu, hm, hh, hR⟩
/-- The world in which a node of two kids is made. -/
abbrev twoW (w7 : World) (p1 : Nat) (op : Int) (n : Nd) (vk : Value) (m : Nd) (vm : Value) : World :=
  (set7 w7 p1 (.int .u8 op) (.int .u8 0) (.int .i64 0) (.bool false) (.string ⟨#[]⟩) (.string ⟨#[]⟩) (.slice (some ⟨w7.heap.size, 0, none⟩) 2 2)).alloc (.cells #[.int .u8 n.op, .int .u8 n.v.kind, .int .i64 n.v.num, .bool n.v.tr, .string n.v.text, .string n.name, vk, .int .u8 m.op, .int .u8 m.v.kind, .int .i64 m.v.num, .bool m.v.tr, .string m.v.text, .string m.name, vm] 108)
theorem two_done {w1 w6 w7 : World} {px p1 lo : Nat} {s : ByteArray} {line : Nat} {n m : Nd} {vk vm : Value} {R : Rs (Nd × (Tk × Nat))} {gh K ln g : Nat} {op : Int} {st' : Tk × Nat} {a0 a1 a2 a3 a4 a5 a6 : Value}
    (h0 : 0 ≤ op) (h1 : op ≤ 255) (hlo : lo = w1.heap.size) (hpx : px < w1.heap.size) (hp1 : lo ≤ p1) (hl1 : p1 < w6.heap.size) (hF16 : Frm [some px] w1 w6) (hF67 : Frm [some px] w6 w7) (hn7 : w7.heap[p1]? = some (.cells #[a0, a1, a2, a3, a4, a5, a6] 108 (0, 0)))
    (hM : MadeR w6 (fun b => lo ≤ b ∧ b ≠ p1) vk n.kids) (hH : HeadW n) (hg : g < gh ∧ g ≤ K) (hs1 : s.data.toList.length ≤ 1000) (hst : StW s.data.toList.length st') (hfin : isFin st'.1 = false) (hmu : mu s.data.toList.length st' < g + 1)
    (hr : partR w7 px s w6.heap.size m vm (nextE s.data.toList st'.2 >>= fun st1 => prsE s.data.toList g none (ln + 1) st1))
    (hR : R = (stepE s.data.toList g n op ln st' >>= fun r => if chainB ln r.2.1 then .error (4, r.2.1.at_) else prsE s.data.toList g (some r.1) line r.2)) :
    Frm [some px] w1 (twoW w7 p1 op n vk m vm) ∧ (twoW w7 p1 op n vk m vm).heap[p1]? = some (ndObj (.mk op Vl.zero ⟨#[]⟩ [n, m]) (some ⟨w7.heap.size, 0, none⟩) 2 2) ∧ (∀ k, k < w7.heap.size → k ≠ p1 → (twoW w7 p1 op n vk m vm).heap[k]? = w7.heap[k]?) ∧
    MidQ (twoW w7 p1 op n vk m vm) px p1 lo s line (.mk op Vl.zero ⟨#[]⟩ [n, m]) (.slice (some ⟨w7.heap.size, 0, none⟩) 2 2) R gh K ln := by
  obtain ⟨W7, hW7⟩ : ∃ W7, set7 w7 p1 (.int .u8 op) (.int .u8 0) (.int .i64 0) (.bool false) (.string ⟨#[]⟩) (.string ⟨#[]⟩) (.slice (some ⟨w7.heap.size, 0, none⟩) 2 2) = W7 := ⟨_, rfl⟩
  have hz7 : W7.heap.size = w7.heap.size := by rw [← hW7]; exact set7_size _ _ _ _ _ _ _ _ _
  have hf7 : Frm [some p1] w7 W7 := by rw [← hW7]; exact set7_frm _ _ _ _ _ _ _ _ _
  have hi7 : W7.heap[p1]? = some (ndObj (.mk op Vl.zero ⟨#[]⟩ [n, m]) (some ⟨w7.heap.size, 0, none⟩) 2 2) := by rw [← hW7]; exact set7_is hn7 _ _ _ _ _ _ _
  obtain ⟨o, ho⟩ : ∃ o, (Obj.cells #[.int .u8 n.op, .int .u8 n.v.kind, .int .i64 n.v.num, .bool n.v.tr, .string n.v.text, .string n.name, vk, .int .u8 m.op, .int .u8 m.v.kind, .int .i64 m.v.num, .bool m.v.tr, .string m.v.text, .string m.name, vm] 108) = o := ⟨_, rfl⟩
  have hb := (Below.refl W7.heap.size W7).alloc (Nat.le_refl _) o
  have hnew := heap_alloc_new W7 o
  have hFW : Frm [some p1] w7 (W7.alloc o) := hf7.below hb
  have hz16 := hF16.size
  have hz67 := hF67.size
  have hl17 := lt_of_block hn7
  have hpxs : (W7.alloc o).heap[px]? = w7.heap[px]? := hFW.keep px (by omega) (by intro r hr e; simp only [List.mem_singleton] at hr; rw [hr] at e; injection e with e; omega)
  show Frm [some px] w1 ((set7 w7 p1 _ _ _ _ _ _ _).alloc _) ∧ ((set7 w7 p1 _ _ _ _ _ _ _).alloc _).heap[p1]? = _ ∧ (∀ k, k < w7.heap.size → k ≠ p1 → ((set7 w7 p1 _ _ _ _ _ _ _).alloc _).heap[k]? = w7.heap[k]?) ∧ MidQ ((set7 w7 p1 _ _ _ _ _ _ _).alloc _) px p1 lo s line _ _ R gh K ln
  rw [hW7, ho]
  refine ⟨(hF16.trans hF67 (by intro r hr; exact .inl hr)).trans hFW (by intro r hr; simp only [List.mem_singleton] at hr; subst hr; exact .inr ⟨p1, rfl, by omega⟩), (hb.block p1 (by omega)).trans hi7, fun k hk hkp => hFW.keep k hk (by intro r hr e; simp only [List.mem_singleton] at hr; rw [hr] at e; injection e with e; exact hkp e.symm), ?_⟩
  have hstep : stepE s.data.toList g n op ln st' = ((nextE s.data.toList st'.2 >>= fun st1 => prsE s.data.toList g none (ln + 1) st1) >>= fun r => .ok (twoN op n r.1, r.2)) := by
    unfold stepE
    rw [bind_assoc']
  rw [hstep] at hR
  cases hq : (nextE s.data.toList st'.2 >>= fun st1 => prsE s.data.toList g none (ln + 1) st1) with
  | error x =>
    rw [hq] at hr hR
    obtain ⟨x, y⟩ := x
    exact mid_err hr.2 (hr.1.kept hpxs) hR
  | ok r =>
    obtain ⟨m', st2⟩ := r
    rw [hq] at hr
    obtain ⟨rfl, h2, h3, h4, h5⟩ := hr
    rw [hq] at hR
    obtain ⟨st1, e1, e2⟩ := bind_ok hq
    have b1 := next_mu hs1 hst.1 hfin e1
    have b2 := prs_mu hs1 g none (ln + 1) st1 m st2 ⟨b1.2.1, b1.2.2.2.1, b1.2.2.2.2⟩ e2
    have b3 := b2.2.2 rfl
    rw [hz7, ← ho] at hnew
    rw [← ho] at hFW hpxs ⊢
    refine mid_ok (g := g) (st := st2) (h4.kept hpxs) h5 hg (by omega) ?_ (HeadW_two h0 h1 n m) hR
    refine MadeR.two hnew ⟨by omega, by omega⟩ hH h3 ?_ ?_
    · exact (hM.kept hF67 (fun b hb r hr => by simp only [List.mem_singleton] at hr; subst hr; intro e; injection e with e; omega)).kept hFW (fun b hb r hr => by simp only [List.mem_singleton] at hr; subst hr; intro e; injection e with e; exact hb.2 e.symm)
    · exact (h2.kept hFW (fun b hb r hr => by simp only [List.mem_singleton] at hr; subst hr; intro e; injection e with e; omega)).weak (fun b _ h => ⟨by omega, by omega⟩)
/-- What the region that makes a node of two kids reads. -/
abbrev CellsS (p7 p1 cf cx c10 : Nat) (op : Int) (ln : Nat) (n : Nd) (a : Option Addr) (c d : Nat) (w' : World) : Prop :=
  w'.cell? ⟨p7, 0, none⟩ = some (.int .u8 op) ∧ w'.cell? ⟨p7, 1, none⟩ = some (.int .i64 (ln : Int)) ∧ w'.cell? ⟨cf, 0, none⟩ = some (.func (.func 131) #[] #[.pointer (some ⟨cx, 0, none⟩), .pointer (some ⟨c10, 0, none⟩), .pointer (some ⟨cf, 0, none⟩)]) ∧ w'.cell? ⟨p1, 0, none⟩ = some (.int .u8 n.op) ∧ w'.cell? ⟨p1, 1, none⟩ = some (.int .u8 n.v.kind) ∧ w'.cell? ⟨p1, 2, none⟩ = some (.int .i64 n.v.num) ∧ w'.cell? ⟨p1, 3, none⟩ = some (.bool n.v.tr) ∧ w'.cell? ⟨p1, 4, none⟩ = some (.string n.v.text) ∧ w'.cell? ⟨p1, 5, none⟩ = some (.string n.name) ∧ w'.cell? ⟨p1, 6, none⟩ = some (.slice a c d)
set_option maxHeartbeats 16000000 in
theorem from_step {s : ByteArray} (hs : s.size ≤ 256) {B px cx cf c7 c8 c9 c10 k : Nat} (HF : ∀ j, j ≤ k → FromC s B px cx cf c7 c8 c9 c10 j) : FromC s B px cx cf c7 c8 c9 c10 (k + 1) := by
  intro w line st hX hlx hst hline hmu
  obtain ⟨w1, p0, hp0, hw1, l0, n0, b0⟩ := box_new w nilObj
  have hX1 := hX.below b0
  obtain ⟨c, hc⟩ := hlx.lex
  have hpx := lt_of_block hc
  have hlx1 := hlx.kept (b0.block _ hpx)
  have k0 : w1.cell? ⟨cx, 0, none⟩ = some (.pointer (some ⟨px, 0, none⟩)) := cell_of_block hX1.pw.hx 0
  have k10 : w1.cell? ⟨c10, 0, none⟩ = some (.func (.func 130) #[] #[.pointer (some ⟨cx, 0, none⟩), .pointer (some ⟨c7, 0, none⟩), .pointer (some ⟨c9, 0, none⟩), .pointer (some ⟨c8, 0, none⟩)]) := cell_of_block hX1.pw.h10 0
  have k12 := hlx1.c12
  have hsl := sl_len s
  have hs1 : s.data.toList.length ≤ 1000 := by omega
  have HC := Lib.hid (first_any hs (HF k (Nat.le_refl _)) hX1 hlx1 hst line (by omega))
  obtain ⟨R, hR⟩ : ∃ R, prsE s.data.toList (k + 1) none line st = R := ⟨_, rfl⟩
  have HR : Hid (R = (firstE s.data.toList k line st >>= fun r => prsE s.data.toList k (some r.1) line r.2)) := Lib.hid (by rw [← hR, prs_first])
  rw [hR]
  have HB := Lib.hid b0
  have HX1 := Lib.hid hX1
  have HN0 := Lib.hid n0
  have HP0 := Lib.hid hp0
  have hpx0 : px < p0 := by omega
  have hmk : mu s.data.toList.length st ≤ k := by omega
  have HSL := Lib.hid hsl
  have HFR := Lib.hid (fun (n : Nd) (st' : Tk × Nat) (h : firstE s.data.toList k line st = .ok (n, st')) => first_mu hs1 hst h)
  clear hX hX1 hlx hlx1 hc b0 n0 hR hsl hmu
  go_enter Tryz.func131, Tryz.ntmps131
  go_upto_region 3 with fail
  go_cut [6] (fun s6 wx => ∃ w4 p1 n a c d, w4 = wx ∧ s6 = .pointer (some ⟨p1, 0, none⟩) ∧ Hid (w4.heap[p1]? = some (ndObj n a c d)) ∧ w1.heap.size ≤ p1 ∧ Hid (Frm [some px] w1 w4) ∧ Hid (LoopQ w4 px p1 w1.heap.size s line n (.slice a c d) R (k + 1) k))
  case first =>
    go_wp2_with (go_at_call 130; refine HC.out.mono ?_; rintro e w3 ⟨n, a, c3, d, rfl, hF3, hr3⟩; have H3 := Lib.hid (And.intro hF3 hr3); clear hF3 hr3)
    go_meet
    have hz3 := H3.out.1.size
    have hal := (Below.refl w3.heap.size w3).alloc (Nat.le_refl _) (ndObj n a c3 d)
    have hpk := hal.block px (by omega)
    refine ⟨_, w3.heap.size, n, a, c3, d, rfl, rfl, Lib.hid (heap_alloc_new w3 _), hz3, Lib.hid (H3.out.1.below hal), Lib.hid ?_⟩
    have hr3 := H3.out.2
    cases hq : firstE s.data.toList k line st with
    | error x =>
      rw [hq] at hr3
      obtain ⟨x, y⟩ := x
      exact .inl ⟨x, y, hr3.2, hr3.1.kept hpk, by rw [HR.out, bind_no hq]⟩
    | ok r =>
      obtain ⟨m, st2⟩ := r
      rw [hq] at hr3
      obtain ⟨rfl, h2, h3, h4, h5⟩ := hr3
      exact .inr ⟨k, st2, ⟨by omega, Nat.le_refl _⟩, h4.kept hpk, h5, by have := (HFR.out _ _ hq).2; omega, (h2.weak (ok' := fun b => w1.heap.size ≤ b ∧ b ≠ w3.heap.size) (fun b hb h => ⟨h, by omega⟩)).keptB hal, h3, by rw [HR.out, bind_is hq]⟩
  case rest =>
    obtain ⟨w4, p1, n, a, c4, d, rfl, rfl, hN4, hp1, hF4, hQ4⟩ := hcut
    go_wp2_with fail
    go_loopg [] (k + 1) (fun gh wr => ∃ n a c d, Hid (wr.heap[p1]? = some (ndObj n a c d)) ∧ Hid (Frm [some px] w1 wr) ∧ Hid (LoopQ wr px p1 w1.heap.size s line n (.slice a c d) R gh k))
    case atStart => exact ⟨n, a, c4, d, hN4, hF4, hQ4⟩
    case round =>
      clear hN4 hF4 hQ4
      obtain ⟨n, a, c, d, hN, hFr, hQ⟩ := hrel
      have fin : Hid (∀ (W : World) (n : Nd) (a : Option Addr) (c3 d : Nat), Frm [some px] w1 W → partR W px s w1.heap.size n (.slice a c3 d) R → PartC w px s R (.returned (valN n (.slice a c3 d))) (set7 W p0 (.int .u8 n.op) (.int .u8 n.v.kind) (.int .i64 n.v.num) (.bool n.v.tr) (.string n.v.text) (.string n.name) (.slice a c3 d))) := Lib.hid (fun W n a c3 d hF hr => by
        have hd := put_done (w := w) (w3 := W) (p0 := p0) (lo := w1.heap.size) (n := n) (vk := .slice a c3 d) (s := s) (r := R) HP0.out hpx l0 ((Frm.ofBelow HB.out).trans hF (by intro r hr; exact .inl hr)) hr
        exact ⟨_, _, _, _, rfl, hd.1, hd.2⟩)
      have hzr := hFr.out.size
      have hlr := lt_of_block hN.out
      have hXr := HX1.out.kept hFr.out hQ.out.lex
      have kx : wr.cell? ⟨cx, 0, none⟩ = some (.pointer (some ⟨px, 0, none⟩)) := cell_of_block hXr.pw.hx 0
      have hm0 := hFr.out.block HN0.out (by intro r hr e; simp only [List.mem_singleton] at hr; rw [hr] at e; injection e with e; omega)
      obtain ⟨d0, d1, d2, d3, d4, d5, d6, df⟩ := n7_cells hm0
      obtain ⟨g0, g1, g2, g3, g4, g5, g6, gf⟩ := n7_cells hN.out
      have HXr := Lib.hid hXr
      have hpr : px < wr.heap.size := by omega
      clear hXr hm0
      rcases hQ.out with ⟨x, y, hx, hlE, hR⟩ | ⟨g, st', ⟨hg, hgK⟩, hlT, hst', hmu', hMk, hHd, hR⟩
      · have k12 := hlE.c12
        have ex : (x == 0) = false := beq_eq_false_iff_ne.2 hx
        have HE := Lib.hid (And.intro hx (And.intro hlE hR))
        clear hx hlE hR
        go_wp2_with fail
        refine bodyPost_ret (v := valN n (.slice a c d)) (by simp [results, Tryz.results131, go_sem, d0, d1, d2, d3, d4, d5, d6]) rfl ?_
        refine fin.out _ _ _ _ _ hFr.out ?_
        rw [HE.out.2.2]
        exact ⟨HE.out.2.1, HE.out.1⟩
      · have k12 := hlT.c12
        have k9 := hlT.c9
        have hU := sayOf_size hst'
        have HRs := Lib.hid hR
        have HO := Lib.hid (And.intro hlT (And.intro hMk hHd))
        obtain ⟨U, hUe⟩ : ∃ U, sayOf st'.1 = U := ⟨_, rfl⟩
        have HTS : Hid (signT st'.1 = signL U.data.toList) := Lib.hid (by rw [signT_say, hUe])
        have HUF : Hid (U.data.toList ≠ [] → isFin st'.1 = false) := Lib.hid (fun h => fin_say (by rw [hUe]; exact h))
        rw [hUe] at k9 hU
        have hum : U.size ≤ maxLen := by unfold maxLen; omega
        clear hlT hMk hHd hR hUe
        go_upto_region 5 with fail
        go_cut [7, 8] (fun s7 s8 wx => ∃ w5 p7, w5 = wx ∧ s7 = .pointer (some ⟨p7, 0, none⟩) ∧ s8 = .bool (signL U.data.toList).isSome ∧ Hid (w5.heap[p7]? = some (.cells #[.int .u8 (sgA (signL U.data.toList)), .int .i64 (sgB (signL U.data.toList))] 130 (0, 0))) ∧ wr.heap.size ≤ p7 ∧ Hid (Below wr.heap.size wr w5))
        case first =>
          go_region_held3 (fun w' => w'.cell? ⟨px, 9, none⟩ = some (.string U) ∧ w'.cell? ⟨cx, 0, none⟩ = some (.pointer (some ⟨px, 0, none⟩))) (first | go_keep | exact ⟨q9, q9x⟩ | exact ⟨q9b _ _, q9bx _ _⟩) (first | (go_at_call 132; refine (signs_any _).mono ?_; rintro e w5 ⟨bm, rfl, hm5, hlo5, hb5⟩; have hL5 := hm5.look_ok U hum; have hL6 := (hm5.kept ((Below.refl _ _).alloc (Nat.le_refl _) (.cells #[.int .u8 0, .int .i64 0] 130))).look_ok U hum; clear hm5; have HB5 : Hid (Below wr.heap.size wr w5) := Lib.hid (by first | exact (Below.drew (Below.refl _ _)).trans hb5 | exact (((Below.refl _ _).alloc (Nat.le_refl _) _).drew).trans (hb5.mono (by simp)) | exact ((Below.drew (Below.refl _ _)).alloc (Nat.le_refl _) _).trans (hb5.mono (by simp))); have q9 : w5.cell? ⟨px, 9, none⟩ = some (.string U) := (Below.cellB HB5.out hpr).trans k9; have q9x : w5.cell? ⟨cx, 0, none⟩ = some (.pointer (some ⟨px, 0, none⟩)) := (Below.cellB HB5.out (cell_lt kx)).trans kx; have q9b : ∀ v1 v2, ((w5.setCell ⟨wr.heap.size, 0, none⟩ v1).setCell ⟨wr.heap.size, 1, none⟩ v2).cell? ⟨px, 9, none⟩ = some (.string U) := (fun v1 v2 => (Below.cellB (((Below.refl wr.heap.size w5).setCell (p := ⟨wr.heap.size, 0, none⟩) (Nat.le_refl _) v1).setCell (p := ⟨wr.heap.size, 1, none⟩) (Nat.le_refl _) v2) hpr).trans q9); have q9bx : ∀ v1 v2, ((w5.setCell ⟨wr.heap.size, 0, none⟩ v1).setCell ⟨wr.heap.size, 1, none⟩ v2).cell? ⟨cx, 0, none⟩ = some (.pointer (some ⟨px, 0, none⟩)) := (fun v1 v2 => (Below.cellB (((Below.refl wr.heap.size w5).setCell (p := ⟨wr.heap.size, 0, none⟩) (Nat.le_refl _) v1).setCell (p := ⟨wr.heap.size, 1, none⟩) (Nat.le_refl _) v2) (cell_lt kx)).trans q9x); try (have hz0 : w5.heap[wr.heap.size]? = some (.cells #[.int .u8 0, .int .i64 0] 130 (0, 0)) := (hb5.block _ (by simp)).trans (heap_alloc_new _ _); have HZ0 := Lib.hid hz0; have z0 : w5.cell? ⟨wr.heap.size, 0, none⟩ = some (.int .u8 0) := cell_of_block hz0 0; have z1 : w5.cell? ⟨wr.heap.size, 1, none⟩ = some (.int .i64 0) := cell_of_block hz0 1; have zf := free_of_block hz0; clear hz0)))
          all_goals
            go_wp2_with fail
            go_meet
          all_goals
            have hz5 := HB5.out.size
            first
              | exact ⟨_, w5.heap.size, rfl, rfl, rfl, Lib.hid (heap_alloc_new w5 _), hz5, Lib.hid (HB5.out.alloc HB5.out.size _)⟩
              | exact ⟨_, w5.heap.size, rfl, rfl, rfl, Lib.hid (heap_alloc_new w5 _), hz5, Lib.hid (HB5.out.alloc HB5.out.size _).drew⟩
              | exact ⟨_, wr.heap.size, rfl, rfl, rfl, Lib.hid (set_selfL _ (set_selfL _ HZ0.out)), Nat.le_refl _, Lib.hid ((HB5.out.setCell (Nat.le_refl _) _).setCell (Nat.le_refl _) _)⟩
        case rest =>
          obtain ⟨w5, p7, rfl, rfl, rfl, hN7, hp7, hB5⟩ := hcut
          have hz5 := hB5.out.size
          have hF5 := hFr.out.below hB5.out
          have hX5 := HXr.out.below hB5.out
          have hn15 := (hB5.out.block p1 hlr).trans hN.out
          have hn05 := hF5.block HN0.out (by intro r hr e; simp only [List.mem_singleton] at hr; rw [hr] at e; injection e with e; omega)
          have kx5 : w5.cell? ⟨cx, 0, none⟩ = some (.pointer (some ⟨px, 0, none⟩)) := cell_of_block hX5.pw.hx 0
          clear d0 d1 d2 d3 d4 d5 d6 df g0 g1 g2 g3 g4 g5 g6 gf kx k9 k12
          obtain ⟨d0, d1, d2, d3, d4, d5, d6, df⟩ := n7_cells hn05
          obtain ⟨g0, g1, g2, g3, g4, g5, g6, gf⟩ := n7_cells hn15
          have hO5 : LxT w5 px s st' ∧ MadeR w5 (fun b => w1.heap.size ≤ b ∧ b ≠ p1) (.slice a c d) n.kids ∧ HeadW n := ⟨HO.out.1.kept (hB5.out.block _ hpr), HO.out.2.1.keptB hB5.out, HO.out.2.2⟩
          have HO5 := Lib.hid hO5
          have HF5 := Lib.hid hF5
          have HX5 := Lib.hid hX5
          have HN15 := Lib.hid hn15
          have hl15 := lt_of_block hn15
          have hl75 := lt_of_block hN7.out
          clear hO5 hF5 hX5 hn15 hn05 HO
          obtain ⟨g', hg'⟩ : ∃ g', g = g' + 1 := ⟨g - 1, by omega⟩
          subst hg'
          have hgk : g' ≤ k := by omega
          have hRok : Hid (R = .ok (n, st') → PartC w px s R (.returned (valN n (.slice a c d))) (set7 w5 p0 (.int .u8 n.op) (.int .u8 n.v.kind) (.int .i64 n.v.num) (.bool n.v.tr) (.string n.v.text) (.string n.name) (.slice a c d))) := Lib.hid (fun hr => fin.out _ _ _ _ _ HF5.out (by
            rw [hr]
            exact ⟨rfl, HO5.out.2.1.weak (fun b _ h => h.1), HO5.out.2.2, HO5.out.1, hst'⟩))
          cases hsg : signL U.data.toList with
          | none =>
            have hRe : Hid (R = .ok (n, st')) := Lib.hid (by rw [HRs.out, prs_some, HTS.out, hsg])
            rw [hsg] at hN7
            clear hsg
            go_wp2_with fail
            refine bodyPost_ret (v := valN n (.slice a c d)) (by simp [results, Tryz.results131, go_sem, d0, d1, d2, d3, d4, d5, d6]) rfl ?_
            exact hRok.out hRe.out
          | some pr =>
            obtain ⟨op, ln⟩ := pr
            obtain ⟨ho0, ho1, hl1, hl6⟩ := sign_line hsg
            have hUf : isFin st'.1 = false := HUF.out (by intro e; rw [e] at hsg; cases hsg)
            have hRe : Hid (R = if ln < line then .ok (n, st') else (stepE s.data.toList g' n op ln st' >>= fun r => if chainB ln r.2.1 then .error (4, r.2.1.at_) else prsE s.data.toList g' (some r.1) line r.2)) := Lib.hid (by rw [HRs.out, prs_some, HTS.out, hsg])
            rw [hsg] at hN7
            have hN7' : Hid (w5.heap[p7]? = some (.cells #[.int .u8 op, .int .i64 (ln : Int)] 130 (0, 0))) := hN7
            have z0 : w5.cell? ⟨p7, 0, none⟩ = some (.int .u8 op) := cell_of_block hN7'.out 0
            have z1 : w5.cell? ⟨p7, 1, none⟩ = some (.int .i64 (ln : Int)) := cell_of_block hN7'.out 1
            clear hsg hN7 HRs HTS HUF
            by_cases hlt : ln < line
            · have e1 : decide ((ln : Int) < (line : Int)) = true := decide_eq_true (by omega)
              have e1' : decide (ln < line) = true := decide_eq_true hlt
              have hRe' : Hid (R = .ok (n, st')) := Lib.hid (by rw [hRe.out, if_pos hlt])
              clear hRe
              go_wp2_with fail
              refine bodyPost_ret (v := valN n (.slice a c d)) (by simp [results, Tryz.results131, go_sem, d0, d1, d2, d3, d4, d5, d6]) rfl ?_
              exact hRok.out hRe'.out
            · have e1 : decide ((ln : Int) < (line : Int)) = false := decide_eq_false (by omega)
              have e1' : decide (ln < line) = false := decide_eq_false hlt
              have hRe' : Hid (R = (stepE s.data.toList g' n op ln st' >>= fun r => if chainB ln r.2.1 then .error (4, r.2.1.at_) else prsE s.data.toList g' (some r.1) line r.2)) := Lib.hid (by rw [hRe.out, if_neg hlt])
              clear hRe hRok
              go_upto_region 8 with fail
              go_cut [] (fun wx => ∃ w6, w6 = wx ∧ Hid (Frm [some px] w5 w6) ∧ Hid (nextR w6 px s (nextE s.data.toList st'.2)))
              case first =>
                go_wp2_with (go_at_call 125; refine (nextT HX5.out hs HO5.out.1 hst').mono ?_; rintro e w6 ⟨rfl, hF6, hn6⟩; have H6 := Lib.hid (And.intro hF6 hn6); clear hF6 hn6)
                go_meet
                exact ⟨_, rfl, Lib.hid H6.out.1, Lib.hid H6.out.2⟩
              case rest =>
                obtain ⟨w6, rfl, hF6, hn6⟩ := hcut
                have hz6 := hF6.out.size
                have hF16 := HF5.out.trans hF6.out (by intro r hr; exact .inl hr)
                have hlex6 : ∃ c, w6.heap[px]? = some (.cells c 125 (0, 0)) := by
                  have := hn6.out
                  cases hne : nextE s.data.toList st'.2 with
                  | error x => rw [hne] at this; exact LxE.lex this
                  | ok st1 => rw [hne] at this; exact LxT.lex this
                have hX6 := HX5.out.kept hF6.out hlex6
                have hn16 := hF6.out.block HN15.out (by intro r hr e; simp only [List.mem_singleton] at hr; rw [hr] at e; injection e with e; omega)
                have hn76 := hF6.out.block hN7'.out (by intro r hr e; simp only [List.mem_singleton] at hr; rw [hr] at e; injection e with e; omega)
                have hM6 : MadeR w6 (fun b => w1.heap.size ≤ b ∧ b ≠ p1) (.slice a c d) n.kids := HO5.out.2.1.kept hF6.out (fun b hb r hr => by simp only [List.mem_singleton] at hr; subst hr; intro e; injection e with e; omega)
                clear d0 d1 d2 d3 d4 d5 d6 df g0 g1 g2 g3 g4 g5 g6 gf z0 z1 kx5 e1 e1'
                obtain ⟨g0, g1, g2, g3, g4, g5, g6, gf⟩ := n7_cells hn16
                have z0 : w6.cell? ⟨p7, 0, none⟩ = some (.int .u8 op) := cell_of_block hn76 0
                have z1 : w6.cell? ⟨p7, 1, none⟩ = some (.int .i64 (ln : Int)) := cell_of_block hn76 1
                have kf : w6.cell? ⟨cf, 0, none⟩ = some (.func (.func 131) #[] #[.pointer (some ⟨cx, 0, none⟩), .pointer (some ⟨c10, 0, none⟩), .pointer (some ⟨cf, 0, none⟩)]) := cell_of_block hX6.pw.hf 0
                have HCF : Hid (∀ W, Below w6.heap.size w6 W → Calls Tryz.prog 131 #[.int .i64 ((ln : Int) + 1), .pointer (some ⟨cx, 0, none⟩), .pointer (some ⟨c10, 0, none⟩), .pointer (some ⟨cf, 0, none⟩)] W (PartC W px s (nextE s.data.toList st'.2 >>= fun st1 => prsE s.data.toList g' none (ln + 1) st1))) := Lib.hid (fun W hW => by
                  obtain ⟨cc, hcc⟩ := hlex6
                  have hpk := hW.block px (lt_of_block hcc)
                  have hXW := hX6.below hW
                  have hn := hn6.out
                  cases hne : nextE s.data.toList st'.2 with
                  | error x =>
                    rw [hne] at hn
                    obtain ⟨x, y⟩ := x
                    have hx0 : x ≠ 0 := by have := (nextE_err hne).1; omega
                    rw [bind_no rfl]
                    refine (fromerr_any hXW hx0 (LxE.kept hn hpk) _).mono ?_
                    rintro e w' ⟨rfl, hb'⟩
                    exact ⟨nilN, none, 0, 0, rfl, Frm.ofBelow hb', LxE.kept (LxE.kept hn hpk) (hb'.block px (by have := lt_of_block hcc; have := hW.size; omega)), hx0⟩
                  | ok st1 =>
                    rw [hne] at hn
                    rw [bind_is rfl]
                    have b1 := next_mu hs1 hst'.1 hUf hne
                    have hcl := HF g' hgk W (ln + 1) st1 hXW (LxT.kept hn hpk) ⟨b1.2.1, b1.2.2.2.1, b1.2.2.2.2⟩ (by omega) (by omega)
                    rw [show ((ln + 1 : Nat) : Int) = (ln : Int) + 1 from by omega] at hcl
                    exact hcl)
                have HF16 := Lib.hid hF16
                have HX6 := Lib.hid hX6
                have HN16 := Lib.hid hn16
                have HN76 := Lib.hid hn76
                have HM6 := Lib.hid (And.intro hM6 HO5.out.2.2)
                have hp16 := lt_of_block hn16
                have hp76 := lt_of_block hn76
                have hcf6 := cell_lt kf
                have hw1 : IntKind.i64.wrap ((ln : Int) + 1) = (ln : Int) + 1 := IntWalk.i64_in _ (by omega)
                clear hF16 hX6 hn16 hn76 hM6 hlex6 hn6
                go_upto_region 9 with fail
                go_cut [] (fun wx => ∃ w8 n' a' c' d', w8 = wx ∧ Hid (w8.heap[p1]? = some (ndObj n' a' c' d')) ∧ Hid (w8.heap[p7]? = some (.cells #[.int .u8 op, .int .i64 (ln : Int)] 130 (0, 0))) ∧ Hid (Frm [some px] w1 w8) ∧ Hid (MidQ w8 px p1 w1.heap.size s line n' (.slice a' c' d') R (gk - 1) k ln))
                case first =>
                  refine wp_region_bar 10 (CellsS p7 p1 cf cx c10 op ln n a c d) (by kernel_rfl) ?_
                  have hHeld : CellsS p7 p1 cf cx c10 op ln n a c d w6.drew := ⟨z0, z1, kf, g0, g1, g2, g3, g4, g5, g6⟩
                  refine wpAnyB_take [1, 9, 10] (i := 0) (v := ?vN0) rfl (by kernel_rfl) (by kernel_rfl) (by kernel_rfl) (by kernel_rfl) (by kernel_rfl) (by kernel_rfl) (fun _ _ _ h => h) (Or.inl ⟨by rfl, ?hyN0⟩) hHeld ?restN0
                  case hyN0 => (intro w hSw; obtain ⟨s0, s1, s2, s3, s4, s5, s6, s7, s8, s9⟩ := hSw; go_simp; try with_reducible rfl)
                  try simp only [Act.put, List.setIfInBounds_toArray, List.set_cons_zero, List.set_cons_succ, List.getElem_toArray, List.getElem_cons_zero]
                  refine wpAnyB_take [5, 6, 7, 8, 9, 10] (i := 4) (v := ?vN4) rfl (by kernel_rfl) (by kernel_rfl) (by kernel_rfl) (by kernel_rfl) (by kernel_rfl) (by kernel_rfl) (fun _ _ _ h => h) (Or.inl ⟨by rfl, ?hyN4⟩) hHeld ?restN4
                  case hyN4 => (intro w hSw; obtain ⟨s0, s1, s2, s3, s4, s5, s6, s7, s8, s9⟩ := hSw; go_simp; try with_reducible rfl)
                  try simp only [Act.put, List.setIfInBounds_toArray, List.set_cons_zero, List.set_cons_succ, List.getElem_toArray, List.getElem_cons_succ, List.getElem_cons_zero]
                  refine wpAnyB_take [9, 10] (i := 1) (v := ?vN1) rfl (by kernel_rfl) (by kernel_rfl) (by kernel_rfl) (by kernel_rfl) (by kernel_rfl) (by kernel_rfl) (fun _ _ _ h => h) (Or.inl ⟨by rfl, ?hyN1⟩) hHeld ?restN1
                  case hyN1 => (intro w hSw; obtain ⟨s0, s1, s2, s3, s4, s5, s6, s7, s8, s9⟩ := hSw; go_simp; try with_reducible rfl)
                  try simp only [Act.put, List.setIfInBounds_toArray, List.set_cons_zero, List.set_cons_succ, List.getElem_toArray, List.getElem_cons_succ, List.getElem_cons_zero]
                  refine wpAnyB_take [8, 9, 10] (i := 2) (v := ?vN2) rfl (by kernel_rfl) (by kernel_rfl) (by kernel_rfl) (by kernel_rfl) (by kernel_rfl) (by kernel_rfl) (fun _ _ _ h => h) (Or.inl ⟨by rfl, ?hyN2⟩) hHeld ?restN2
                  case hyN2 => (intro w hSw; obtain ⟨s0, s1, s2, s3, s4, s5, s6, s7, s8, s9⟩ := hSw; go_simp; try with_reducible rfl)
                  try simp only [Act.put, List.setIfInBounds_toArray, List.set_cons_zero, List.set_cons_succ, List.getElem_toArray, List.getElem_cons_succ, List.getElem_cons_zero]
                  refine wpAnyB_take [7, 8, 9, 10] (i := 3) (v := ?vN3) rfl (by kernel_rfl) (by kernel_rfl) (by kernel_rfl) (by kernel_rfl) (by kernel_rfl) (by kernel_rfl) (fun _ _ _ h => h) (Or.inl ⟨by rfl, ?hyN3⟩) hHeld ?restN3
                  case hyN3 => (intro w hSw; obtain ⟨s0, s1, s2, s3, s4, s5, s6, s7, s8, s9⟩ := hSw; go_simp; try with_reducible rfl)
                  try simp only [Act.put, List.setIfInBounds_toArray, List.set_cons_zero, List.set_cons_succ, List.getElem_toArray, List.getElem_cons_succ, List.getElem_cons_zero]
                  refine wpAnyB_take [6, 7, 8, 9, 10] (i := 5) (v := ?vN5) rfl (by kernel_rfl) (by kernel_rfl) (by kernel_rfl) (by kernel_rfl) (by kernel_rfl) (by kernel_rfl) (fun _ _ _ h => h) (Or.inl ⟨by rfl, ?hyN5⟩) hHeld ?restN5
                  case hyN5 => (intro w hSw; obtain ⟨s0, s1, s2, s3, s4, s5, s6, s7, s8, s9⟩ := hSw; go_simp; try with_reducible rfl)
                  try simp only [Act.put, List.setIfInBounds_toArray, List.set_cons_zero, List.set_cons_succ, List.getElem_toArray, List.getElem_cons_succ, List.getElem_cons_zero]
                  refine wpAnyB_take [7, 8, 9, 10] (i := 6) (v := ?vN6) rfl (by kernel_rfl) (by kernel_rfl) (by kernel_rfl) (by kernel_rfl) (by kernel_rfl) (by kernel_rfl) (fun _ _ _ h => h) (Or.inl ⟨by rfl, ?hyN6⟩) hHeld ?restN6
                  case hyN6 => (intro w hSw; obtain ⟨s0, s1, s2, s3, s4, s5, s6, s7, s8, s9⟩ := hSw; go_simp; try with_reducible rfl)
                  try simp only [Act.put, List.setIfInBounds_toArray, List.set_cons_zero, List.set_cons_succ, List.getElem_toArray, List.getElem_cons_succ, List.getElem_cons_zero]
                  refine wpAnyB_ready (i := 7) (by kernel_rfl) rfl (fun K hK => ?_)
                  try simp only [List.getElem_toArray, List.getElem_cons_succ, List.getElem_cons_zero]
                  go_simp
                  go_at_call 131; refine (HCF.out _ (Below.drew (Below.refl _ _))).mono ?_; rintro e w7 ⟨m, a2, c2, d2, rfl, hF7, hr7⟩
                  have hF67 : Frm [some px] w6 w7 := (Frm.ofBelow (Below.drew (Below.refl _ _))).trans hF7 (by intro r hr; exact .inl hr)
                  have hn17 := hF67.block HN16.out (by intro r hr e; simp only [List.mem_singleton] at hr; rw [hr] at e; injection e with e; omega)
                  have hn77 := hF67.block HN76.out (by intro r hr e; simp only [List.mem_singleton] at hr; rw [hr] at e; injection e with e; omega)
                  obtain ⟨x0, x1, x2, x3, x4, x5, x6, xf⟩ := n7_cells hn17
                  have y0 : w7.cell? ⟨p7, 0, none⟩ = some (.int .u8 op) := cell_of_block hn77 0
                  have y1 : w7.cell? ⟨p7, 1, none⟩ = some (.int .i64 (ln : Int)) := cell_of_block hn77 1
                  have yf : w7.cell? ⟨cf, 0, none⟩ = some (.func (.func 131) #[] #[.pointer (some ⟨cx, 0, none⟩), .pointer (some ⟨c10, 0, none⟩), .pointer (some ⟨cf, 0, none⟩)]) := cell_of_block (HX6.out.kept hF67 hr7.lex).pw.hf 0
                  have hp17 := lt_of_block hn17
                  have hp77 := lt_of_block hn77
                  have hcf7 := cell_lt yf
                  have H7 := Lib.hid (And.intro hF67 (And.intro hr7 (And.intro hn17 hn77)))
                  have hHeld : CellsS p7 p1 cf cx c10 op ln n a c d w7 := ⟨y0, y1, yf, x0, x1, x2, x3, x4, x5, x6⟩
                  clear hF7 hF67 hr7 hn17 hn77
                  refine hK.out _ _ (fun _ => hHeld) ?hRN7
                  case' hRN7 => clear hK K
                  try simp only [Act.put, List.setIfInBounds_toArray, List.set_cons_zero, List.set_cons_succ, List.getElem_toArray, List.getElem_cons_succ, List.getElem_cons_zero]
                  refine wpAnyB_ready (i := 8) (by kernel_rfl) rfl (fun K hK => ?_)
                  try simp only [List.getElem_toArray, List.getElem_cons_succ, List.getElem_cons_zero]
                  go_simp
                  have hHeld : CellsS p7 p1 cf cx c10 op ln n a c d (w7.alloc (.cells #[.int .u8 n.op, .int .u8 n.v.kind, .int .i64 n.v.num, .bool n.v.tr, .string n.v.text, .string n.name, .slice a c d, .int .u8 m.op, .int .u8 m.v.kind, .int .i64 m.v.num, .bool m.v.tr, .string m.v.text, .string m.name, .slice a2 c2 d2] 108)) := by
                    have hal := (Below.refl w7.heap.size w7).alloc (Nat.le_refl _) (.cells #[.int .u8 n.op, .int .u8 n.v.kind, .int .i64 n.v.num, .bool n.v.tr, .string n.v.text, .string n.name, .slice a c d, .int .u8 m.op, .int .u8 m.v.kind, .int .i64 m.v.num, .bool m.v.tr, .string m.v.text, .string m.name, .slice a2 c2 d2] 108)
                    exact ⟨(Below.cellB hal hp77).trans y0, (Below.cellB hal hp77).trans y1, (Below.cellB hal hcf7).trans yf, (Below.cellB hal hp17).trans x0, (Below.cellB hal hp17).trans x1, (Below.cellB hal hp17).trans x2, (Below.cellB hal hp17).trans x3, (Below.cellB hal hp17).trans x4, (Below.cellB hal hp17).trans x5, (Below.cellB hal hp17).trans x6⟩
                  refine hK.out _ _ (fun _ => hHeld) ?hRN8
                  case' hRN8 => clear hK K
                  try simp only [Act.put, List.setIfInBounds_toArray, List.set_cons_zero, List.set_cons_succ, List.getElem_toArray, List.getElem_cons_succ, List.getElem_cons_zero]
                  refine wpAnyB_take [10] (i := 9) (v := ?vN9) rfl (by kernel_rfl) (by kernel_rfl) (by kernel_rfl) (by kernel_rfl) (by kernel_rfl) (by kernel_rfl) (fun _ _ _ h => h) (Or.inl ⟨by rfl, ?hyN9⟩) hHeld ?restN9
                  case hyN9 => (intro w hSw; obtain ⟨s0, s1, s2, s3, s4, s5, s6, s7, s8, s9⟩ := hSw; go_simp; try with_reducible rfl)
                  try simp only [Act.put, List.setIfInBounds_toArray, List.set_cons_zero, List.set_cons_succ, List.getElem_toArray, List.getElem_cons_succ, List.getElem_cons_zero]
                  refine wpAnyB_ready (i := 10) (by kernel_rfl) rfl (fun K hK => ?_)
                  try simp only [List.getElem_toArray, List.getElem_cons_succ, List.getElem_cons_zero]
                  go_simp
                  refine hK.out _ _ (fun hbar => by cases hbar) ?hRN10
                  case' hRN10 => clear hK K
                  try simp only [Act.put, List.setIfInBounds_toArray, List.set_cons_zero, List.set_cons_succ, List.getElem_toArray, List.getElem_cons_succ, List.getElem_cons_zero]
                  refine wpAnyB_done (by kernel_rfl) ?_ _
                  go_wp2_with fail
                  go_meet
                  have hd := two_done (w1 := w1) (w6 := w6) (w7 := w7) (px := px) (p1 := p1) (lo := w1.heap.size) (s := s) (line := line) (n := n) (m := m) (vk := .slice a c d) (vm := .slice a2 c2 d2) (R := R) (gh := gk - 1) (K := k) (ln := ln) (g := g') (op := op) (st' := st') ho0 ho1 rfl (by omega) hp1 hp16 HF16.out H7.out.1 H7.out.2.2.1 HM6.out.1 HM6.out.2 ⟨by omega, hgk⟩ hs1 hst' hUf hmu' H7.out.2.1 hRe'.out
                  exact ⟨_, .mk op Vl.zero ⟨#[]⟩ [n, m], _, _, _, rfl, Lib.hid hd.2.1, Lib.hid ((hd.2.2.1 p7 hp77 (by omega)).trans H7.out.2.2.2), Lib.hid hd.1, Lib.hid hd.2.2.2⟩
                case rest =>
                  obtain ⟨w8, n', a', c', d', rfl, hN18, hN78, hF18, hMid⟩ := hcut
                  obtain ⟨say, ta, k9, k10', hsz, hch, hno, hlex8⟩ := hMid.out
                  have hz8 := hF18.out.size
                  have hX8 := HX1.out.kept hF18.out hlex8
                  have kx8 : w8.cell? ⟨cx, 0, none⟩ = some (.pointer (some ⟨px, 0, none⟩)) := cell_of_block hX8.pw.hx 0
                  have hum8 : say.size ≤ maxLen := by unfold maxLen; omega
                  have hpx8 : px < w8.heap.size := by omega
                  have HCH := Lib.hid hch
                  have HNO := Lib.hid hno
                  have HX8 := Lib.hid hX8
                  have hl18 := lt_of_block hN18.out
                  have hl78 := lt_of_block hN78.out
                  clear hMid hch hno hX8 g0 g1 g2 g3 g4 g5 g6 gf z0 z1 kf HCF hlex8
                  go_upto_region 10 with fail
                  go_cut [9] (fun s9 wx => ∃ w9 p9, w9 = wx ∧ s9 = .pointer (some ⟨p9, 0, none⟩) ∧ Hid (w9.heap[p9]? = some (.cells #[.int .u8 (sgA (signL say.data.toList)), .int .i64 (sgB (signL say.data.toList))] 130 (0, 0))) ∧ Hid (Below w8.heap.size w8 w9))
                  case first =>
                    go_region_held3 (fun w' => w'.cell? ⟨px, 9, none⟩ = some (.string say) ∧ w'.cell? ⟨cx, 0, none⟩ = some (.pointer (some ⟨px, 0, none⟩))) (first | go_keep | exact ⟨q9, q9x⟩ | exact ⟨q9b _ _, q9bx _ _⟩) (first | (go_at_call 132; refine (signs_any _).mono ?_; rintro e w5 ⟨bm, rfl, hm5, hlo5, hb5⟩; have hL5 := hm5.look say hum8; have hL6 := (hm5.kept ((Below.refl _ _).alloc (Nat.le_refl _) (.cells #[.int .u8 0, .int .i64 0] 130))).look say hum8; clear hm5; have HB5 : Hid (Below w8.heap.size w8 w5) := Lib.hid (by first | exact (Below.drew (Below.refl _ _)).trans hb5 | exact (((Below.refl _ _).alloc (Nat.le_refl _) _).drew).trans (hb5.mono (by simp)) | exact ((Below.drew (Below.refl _ _)).alloc (Nat.le_refl _) _).trans (hb5.mono (by simp))); have q9 : w5.cell? ⟨px, 9, none⟩ = some (.string say) := (Below.cellB HB5.out hpx8).trans k9; have q9x : w5.cell? ⟨cx, 0, none⟩ = some (.pointer (some ⟨px, 0, none⟩)) := (Below.cellB HB5.out (cell_lt kx8)).trans kx8; have q9b : ∀ v1 v2, ((w5.setCell ⟨w8.heap.size, 0, none⟩ v1).setCell ⟨w8.heap.size, 1, none⟩ v2).cell? ⟨px, 9, none⟩ = some (.string say) := (fun v1 v2 => (Below.cellB (((Below.refl w8.heap.size w5).setCell (p := ⟨w8.heap.size, 0, none⟩) (Nat.le_refl _) v1).setCell (p := ⟨w8.heap.size, 1, none⟩) (Nat.le_refl _) v2) hpx8).trans q9); have q9bx : ∀ v1 v2, ((w5.setCell ⟨w8.heap.size, 0, none⟩ v1).setCell ⟨w8.heap.size, 1, none⟩ v2).cell? ⟨cx, 0, none⟩ = some (.pointer (some ⟨px, 0, none⟩)) := (fun v1 v2 => (Below.cellB (((Below.refl w8.heap.size w5).setCell (p := ⟨w8.heap.size, 0, none⟩) (Nat.le_refl _) v1).setCell (p := ⟨w8.heap.size, 1, none⟩) (Nat.le_refl _) v2) (cell_lt kx8)).trans q9x); try (have hz0 : w5.heap[w8.heap.size]? = some (.cells #[.int .u8 0, .int .i64 0] 130 (0, 0)) := (hb5.block _ (by simp)).trans (heap_alloc_new _ _); have HZ0 := Lib.hid hz0; have z0 : w5.cell? ⟨w8.heap.size, 0, none⟩ = some (.int .u8 0) := cell_of_block hz0 0; have z1 : w5.cell? ⟨w8.heap.size, 1, none⟩ = some (.int .i64 0) := cell_of_block hz0 1; have zf := free_of_block hz0; clear hz0)))
                    all_goals
                      go_wp2_with fail
                      go_meet
                    all_goals
                      first
                        | exact ⟨_, w5.heap.size, rfl, rfl, Lib.hid (heap_alloc_new w5 _), Lib.hid (HB5.out.alloc HB5.out.size _)⟩
                        | exact ⟨_, w5.heap.size, rfl, rfl, Lib.hid (heap_alloc_new w5 _), Lib.hid (HB5.out.alloc HB5.out.size _).drew⟩
                        | exact ⟨_, w8.heap.size, rfl, rfl, Lib.hid (set_selfL _ (set_selfL _ HZ0.out)), Lib.hid ((HB5.out.setCell (Nat.le_refl _) _).setCell (Nat.le_refl _) _)⟩
                  case rest =>
                    obtain ⟨w9, p9, rfl, rfl, hN9, hB9⟩ := hcut
                    have hz9 := hB9.out.size
                    have hX9 := HX8.out.below hB9.out
                    have kx9 : w9.cell? ⟨cx, 0, none⟩ = some (.pointer (some ⟨px, 0, none⟩)) := cell_of_block hX9.pw.hx 0
                    have z1 : w9.cell? ⟨p7, 1, none⟩ = some (.int .i64 (ln : Int)) := cell_of_block ((hB9.out.block p7 hl78).trans hN78.out) 1
                    have k10 : w9.cell? ⟨px, 10, none⟩ = some (.int .i64 ta) := (Below.cellB hB9.out hpx8).trans k10'
                    have HN19 := Lib.hid ((hB9.out.block p1 hl18).trans hN18.out)
                    have HF19 := Lib.hid (hF18.out.below hB9.out)
                    have HX9 := Lib.hid hX9
                    have HNO9 := Lib.hid (fun h => (HNO.out h).keptB hB9.out)
                    obtain ⟨q, hq⟩ : ∃ q, sgB (signL say.data.toList) = q := ⟨_, rfl⟩
                    rw [hq] at hN9 HCH HNO9
                    have y1 : w9.cell? ⟨p9, 1, none⟩ = some (.int .i64 q) := cell_of_block hN9.out 1
                    clear hq HNO hX9 k9 k10' kx8
                    have hor : (((ln : Int) == 4) = false ∧ (ln == 4) = false ∧ Hid ((decide (ln = 4) && decide (q = 4)) = false)) ∨ (((ln : Int) == 4) = true ∧ (ln == 4) = true ∧ (q == 4) = false ∧ Hid ((decide (ln = 4) && decide (q = 4)) = false)) ∨ (((ln : Int) == 4) = true ∧ (ln == 4) = true ∧ (q == 4) = true ∧ Hid ((decide (ln = 4) && decide (q = 4)) = true)) := by
                      by_cases h4 : ln = 4
                      · by_cases hq4 : q = 4
                        · exact .inr (.inr ⟨beq_iff_eq.2 (by omega), beq_iff_eq.2 h4, beq_iff_eq.2 hq4, Lib.hid (by rw [decide_eq_true h4, decide_eq_true hq4]; rfl)⟩)
                        · exact .inr (.inl ⟨beq_iff_eq.2 (by omega), beq_iff_eq.2 h4, beq_eq_false_iff_ne.2 hq4, Lib.hid (by rw [decide_eq_true h4, decide_eq_false hq4]; rfl)⟩)
                      · exact .inl ⟨beq_eq_false_iff_ne.2 (by omega), beq_eq_false_iff_ne.2 h4, Lib.hid (by rw [decide_eq_false h4]; rfl)⟩
                    rcases hor with ⟨e1, e2, hcc⟩ | ⟨e1, e2, e3, hcc⟩ | ⟨e1, e2, e3, hcc⟩
                    case inr.inr =>
                      obtain ⟨X, Y, hX0, hRX, hfl⟩ := HCH.out hcc.out
                      have HXR := Lib.hid (And.intro hX0 hRX)
                      have HFL := Lib.hid (fun W (h : Below w9.heap.size w9 W) => hfl W (hB9.out.trans (h.mono hz9)))
                      clear hX0 hRX hfl HCH
                      go_upto_region 12 with fail
                      go_region_held3 (fun w' => w'.cell? ⟨cx, 0, none⟩ = some (.pointer (some ⟨px, 0, none⟩)) ∧ w'.cell? ⟨px, 10, none⟩ = some (.int .i64 ta)) (first | go_keep | exact ⟨qcx, q10⟩) (first | (go_at_call 128; refine (HFL.out _ (Below.drew (Below.refl _ _))).mono ?_; rintro e w10 ⟨rfl, hF10, hb10, he10⟩; have q10 : w10.cell? ⟨px, 10, none⟩ = some (.int .i64 ta) := he10.trans k10; have qcx : w10.cell? ⟨cx, 0, none⟩ = some (.pointer (some ⟨px, 0, none⟩)) := cell_of_block ((HX9.out.below (Below.drew (Below.refl _ _))).kept hF10 hb10.lex).pw.hx 0; have H10 := Lib.hid (And.intro hF10 hb10); clear hF10 hb10 he10))
                      all_goals
                        go_wp2_with fail
                        go_roundg (gk - 1)
                        case measure => omega
                        case rel =>
                          have hF910 : Frm [some px] w9 w10 := (Frm.ofBelow (Below.drew (Below.refl _ _))).trans H10.out.1 (by intro r hr; exact .inl hr)
                          exact ⟨n', a', c', d', Lib.hid (hF910.block HN19.out (by intro r hr e; simp only [List.mem_singleton] at hr; rw [hr] at e; injection e with e; omega)), Lib.hid (HF19.out.trans hF910 (by intro r hr; exact .inl hr)), Lib.hid (.inl ⟨X, Y, HXR.out.1, H10.out.2, HXR.out.2⟩)⟩
                    all_goals
                      go_wp2_with fail
                      go_roundg (gk - 1)
                      case measure => omega
                      case rel => exact ⟨n', a', c', d', HN19, HF19, Lib.hid (HNO9.out hcc.out)⟩
end Go.Proofs.YtjcaaahbfkjipaaGreatDoor
