/- Texts fused by fuse.py: KExprPar3. -/
import Derived.Test.YtjcaaahbfkjipaaGreatDoorKZ29
/- Of ExprPar3: what FRuleNames uses (shake.py). -/
set_option maxRecDepth 100000
/- The closures of expr.Parse: atom, brackets (seat expr). -/
namespace Go.Proofs.YtjcaaahbfkjipaaGreatDoor
open Go.RowKit
def sayOf : Tk → ByteArray | .say u _ => ⟨u.toArray⟩ | _ => ⟨#[]⟩
def opOf : Tk → Int | .nd n _ => n.op | _ => 0
theorem LxT.c9 {w : World} {px : Nat} {s : ByteArray} {st : Tk × Nat} (h : LxT w px s st) : w.cell? ⟨px, 9, none⟩ = some (.string (sayOf st.1)) := by
  unfold LxT at h
  split at h
  · next a he => rw [he]; exact cell_of_block h 9
  · next n a he => rw [he]; exact cell_of_block h 9
  · next u a he => rw [he]; exact cell_of_block h 9
theorem LxT.c10 {w : World} {px : Nat} {s : ByteArray} {st : Tk × Nat} (h : LxT w px s st) : w.cell? ⟨px, 10, none⟩ = some (.int .i64 (st.1.at_ : Int)) := by
  unfold LxT at h
  split at h
  · next a he => rw [he]; exact cell_of_block h 10
  · next n a he => rw [he]; exact cell_of_block h 10
  · next u a he => rw [he]; exact cell_of_block h 10
theorem LxT.c11 {w : World} {px : Nat} {s : ByteArray} {st : Tk × Nat} (h : LxT w px s st) : w.cell? ⟨px, 11, none⟩ = some (.bool (isFin st.1)) := by
  unfold LxT at h
  split at h
  · next a he => rw [he]; exact cell_of_block h 11
  · next n a he => rw [he]; exact cell_of_block h 11
  · next u a he => rw [he]; exact cell_of_block h 11
theorem LxT.c12 {w : World} {px : Nat} {s : ByteArray} {st : Tk × Nat} (h : LxT w px s st) : w.cell? ⟨px, 12, none⟩ = some (.int .i64 0) := by
  obtain ⟨_, _, _, _, _, _, _, _, _, _, h⟩ := h.block
  exact cell_of_block h 12
theorem sayOf_size {L : Nat} {st : Tk × Nat} (h : StW L st) : (sayOf st.1).size ≤ 1000 := by
  obtain ⟨tk, i⟩ := st
  cases tk with
  | say u a => have := h.2.2.2; show u.toArray.size ≤ _; rw [List.size_toArray]; exact this
  | nd n a => show 0 ≤ _; omega
  | fin a => show 0 ≤ _; omega
theorem failT {w : World} {px : Nat} {s : ByteArray} {st : Tk × Nat} (hlx : LxT w px s st) (hst : StW s.data.toList.length st) (x a : Int) :
    Calls Tryz.prog 128 #[.pointer (some ⟨px, 0, none⟩), .int .i64 x, .int .i64 a] w fun r w' => r = .returned (.tuple #[]) ∧ Frm [some px] w w' ∧ LxE w' px s x a ∧ w'.cell? ⟨px, 10, none⟩ = w.cell? ⟨px, 10, none⟩ := by
  obtain ⟨op, kind, num, tr, text, name, vk, say, ta, en, hb⟩ := hlx.block
  have hs : say = sayOf st.1 := by
    have h1 := hlx.c9
    have h2 : w.cell? ⟨px, 9, none⟩ = some (.string say) := cell_of_block hb 9
    rw [h1] at h2
    injection h2 with h2
    injection h2 with h2
    exact h2.symm
  refine (xfail_any w px s _ _ _ _ _ _ _ _ _ _ _ _ _ hb x a).mono ?_
  rintro e w' ⟨rfl, hF, h⟩
  have h' : LxB w' px s (st.2 : Int) op kind num tr text name vk say ta en x a := by simpa using h
  exact ⟨rfl, hF, ⟨st.2, say, by have := hst.1; rw [sl_len] at this; exact this, by rw [hs]; exact sayOf_size hst, _, _, _, _, _, _, _, _, _, h'⟩, (cell_of_block h' 10).trans (cell_of_block hb 10).symm⟩
theorem failX {w : World} {px : Nat} {s : ByteArray} {x' a' : Int} (hx : x' ≠ 0) (hlx : LxE w px s x' a') (x a : Int) :
    Calls Tryz.prog 128 #[.pointer (some ⟨px, 0, none⟩), .int .i64 x, .int .i64 a] w fun r w' => r = .returned (.tuple #[]) ∧ Frm [some px] w w' ∧ LxE w' px s x' a' ∧ w'.cell? ⟨px, 10, none⟩ = w.cell? ⟨px, 10, none⟩ := by
  obtain ⟨i, say, h1, h2, op, kind, num, tr, text, name, vk, ta, en, hb⟩ := hlx
  refine (xfail_any w px s _ _ _ _ _ _ _ _ _ _ _ _ _ hb x a).mono ?_
  rintro e w' ⟨rfl, hF, h⟩
  rw [if_neg hx, if_neg hx] at h
  exact ⟨rfl, hF, ⟨i, say, h1, h2, _, _, _, _, _, _, _, _, _, h⟩, (cell_of_block h 10).trans (cell_of_block hb 10).symm⟩
theorem LxE.c9 {w : World} {px : Nat} {s : ByteArray} {x a : Int} (h : LxE w px s x a) : ∃ (say : ByteArray) (ta : Int), say.size ≤ 1000 ∧ w.cell? ⟨px, 9, none⟩ = some (.string say) ∧ w.cell? ⟨px, 10, none⟩ = some (.int .i64 ta) := by
  obtain ⟨i, say, h1, h2, op, kind, num, tr, text, name, vk, ta, en, hb⟩ := h
  exact ⟨say, ta, h2, cell_of_block hb 9, cell_of_block hb 10⟩
/-- A node that is laid into the result's block. -/
theorem put_done {w w3 : World} {px p0 lo : Nat} {s : ByteArray} {n : Nd} {vk : Value} {r : Rs (Nd × (Tk × Nat))} (hp : w.heap.size = p0) (hpx : px < w.heap.size) (hlo : p0 + 1 ≤ lo) (hF : Frm [some px] w w3) (hr : partR w3 px s lo n vk r) :
    Frm [some px] w (set7 w3 p0 (.int .u8 n.op) (.int .u8 n.v.kind) (.int .i64 n.v.num) (.bool n.v.tr) (.string n.v.text) (.string n.name) vk) ∧ partR (set7 w3 p0 (.int .u8 n.op) (.int .u8 n.v.kind) (.int .i64 n.v.num) (.bool n.v.tr) (.string n.v.text) (.string n.name) vk) px s w.heap.size n vk r := by
  have hf7 := set7_frm w3 p0 (.int .u8 n.op) (.int .u8 n.v.kind) (.int .i64 n.v.num) (.bool n.v.tr) (.string n.v.text) (.string n.name) vk
  have hpxs : (set7 w3 p0 (.int .u8 n.op) (.int .u8 n.v.kind) (.int .i64 n.v.num) (.bool n.v.tr) (.string n.v.text) (.string n.name) vk).heap[px]? = w3.heap[px]? := set7_keep _ _ _ _ _ _ _ _ _ (by omega)
  refine ⟨hF.trans hf7 (by intro r hr; simp only [List.mem_singleton] at hr; subst hr; exact .inr ⟨p0, rfl, by omega⟩), ?_⟩
  cases r with
  | error x => exact ⟨hr.1.kept hpxs, hr.2⟩
  | ok q =>
    obtain ⟨m, st2⟩ := q
    obtain ⟨rfl, h2, h3, h4, h5⟩ := hr
    exact ⟨rfl, (h2.kept hf7 (fun b hb r hr => by simp only [List.mem_singleton] at hr; subst hr; intro e; injection e with e; omega)).weak (fun b _ h => by omega), h3, h4.kept hpxs, h5⟩
theorem LxT.node {w : World} {px : Nat} {s : ByteArray} {n : Nd} {a i : Nat} (h : LxT w px s (.nd n a, i)) : w.cell? ⟨px, 2, none⟩ = some (.int .u8 n.op) ∧ w.cell? ⟨px, 3, none⟩ = some (.int .u8 n.v.kind) ∧ w.cell? ⟨px, 4, none⟩ = some (.int .i64 n.v.num) ∧ w.cell? ⟨px, 5, none⟩ = some (.bool n.v.tr) ∧ w.cell? ⟨px, 6, none⟩ = some (.string n.v.text) ∧ w.cell? ⟨px, 7, none⟩ = some (.string n.name) ∧ w.cell? ⟨px, 8, none⟩ = some (.slice none 0 0) :=
  ⟨cell_of_block h 2, cell_of_block h 3, cell_of_block h 4, cell_of_block h 5, cell_of_block h 6, cell_of_block h 7, cell_of_block h 8⟩
theorem LxT.none_ {w : World} {px : Nat} {s : ByteArray} {st : Tk × Nat} (h : LxT w px s st) (hn : opOf st.1 = 0 ∧ ∀ n a, st.1 ≠ .nd n a) : w.cell? ⟨px, 2, none⟩ = some (.int .u8 0) ∧ w.cell? ⟨px, 3, none⟩ = some (.int .u8 0) ∧ w.cell? ⟨px, 4, none⟩ = some (.int .i64 0) ∧ w.cell? ⟨px, 5, none⟩ = some (.bool false) ∧ w.cell? ⟨px, 6, none⟩ = some (.string ⟨#[]⟩) ∧ w.cell? ⟨px, 7, none⟩ = some (.string ⟨#[]⟩) ∧ w.cell? ⟨px, 8, none⟩ = some (.slice none 0 0) := by
  obtain ⟨tk, i⟩ := st
  cases tk with
  | nd n a => exact absurd rfl (hn.2 n a)
  | fin a => exact ⟨cell_of_block h 2, cell_of_block h 3, cell_of_block h 4, cell_of_block h 5, cell_of_block h 6, cell_of_block h 7, cell_of_block h 8⟩
  | say u a => exact ⟨cell_of_block h 2, cell_of_block h 3, cell_of_block h 4, cell_of_block h 5, cell_of_block h 6, cell_of_block h 7, cell_of_block h 8⟩
theorem setCell_id {w : World} {b i : Nat} {c : Array Value} {t : TypeId} {fr : Nat × Nat} {v : Value} (h : w.heap[b]? = some (.cells c t fr)) (hv : c[i]? = some v) : w.setCell ⟨b, i, none⟩ v = w := by
  have hc : c.setIfInBounds i v = c := by
    apply Array.ext_getElem?
    intro k
    rw [Array.getElem?_setIfInBounds]
    split
    · next e =>
      subst e
      split
      · exact hv.symm
      · next hlt => rw [Array.getElem?_eq_none (by omega)] at hv; cases hv
    · rfl
  have hh : (w.setCell ⟨b, i, none⟩ v).heap = w.heap := by
    apply Array.ext_getElem?
    intro k
    by_cases e : k = b
    · subst e
      rw [set_selfL v h, hc, h]
    · exact heap_setCell_other w ⟨b, i, none⟩ k v e
  have h2 : w.setCell ⟨b, i, none⟩ v = { w with heap := (w.setCell ⟨b, i, none⟩ v).heap } := rfl
  rw [h2, hh]
theorem n7_ids {w : World} {p : Nat} {v0 v1 v2 v3 v4 v5 v6 : Value} (h : w.heap[p]? = some (.cells #[v0, v1, v2, v3, v4, v5, v6] 108 (0, 0))) :
    w.setCell ⟨p, 0, none⟩ v0 = w ∧ w.setCell ⟨p, 1, none⟩ v1 = w ∧ w.setCell ⟨p, 2, none⟩ v2 = w ∧ w.setCell ⟨p, 3, none⟩ v3 = w ∧ w.setCell ⟨p, 4, none⟩ v4 = w ∧ w.setCell ⟨p, 5, none⟩ v5 = w ∧ w.setCell ⟨p, 6, none⟩ v6 = w :=
  ⟨setCell_id h rfl, setCell_id h rfl, setCell_id h rfl, setCell_id h rfl, setCell_id h rfl, setCell_id h rfl, setCell_id h rfl⟩
set_option maxHeartbeats 4000000 in
theorem atom_any {s : ByteArray} (hs : s.size ≤ 256) {B px cx cf c7 c8 c9 c10 : Nat} {w : World} (hX : PX w B px cx cf c7 c8 c9 c10) {st : Tk × Nat} (hlx : LxT w px s st) (hst : StW s.data.toList.length st) :
    Calls Tryz.prog 127 #[.pointer (some ⟨cx, 0, none⟩)] w (PartC w px s (atomE s.data.toList st)) := by
  obtain ⟨w1, p0, hp0, hw1, l0, n0, b0⟩ := box_new w nilObj
  have hX1 := hX.below b0
  obtain ⟨c, hc⟩ := hlx.lex
  have hpx := lt_of_block hc
  have hlx1 := hlx.kept (b0.block _ hpx)
  have k0 : w1.cell? ⟨cx, 0, none⟩ = some (.pointer (some ⟨px, 0, none⟩)) := cell_of_block hX1.pw.hx 0
  have HB := Lib.hid b0
  have HX1 := Lib.hid hX1
  have HN0 := Lib.hid n0
  have HLX := Lib.hid hlx1
  have HP0 := Lib.hid hp0
  clear hX hX1 hlx hlx1 hc b0 n0
  by_cases hnd : ∃ n a, st.1 = .nd n a
  · obtain ⟨n, ta, htk⟩ := hnd
    obtain ⟨tk, i⟩ := st
    simp only at htk
    subst htk
    obtain ⟨x0, x1, x2, x3, x4, x5, x6⟩ := HLX.out.node
    obtain ⟨w2, p1, hp1, hw2, l1, n1, b1⟩ := box_new w1 (.cells #[.int .u8 n.op, .int .u8 n.v.kind, .int .i64 n.v.num, .bool n.v.tr, .string n.v.text, .string n.name, .slice none 0 0] 108)
    have hX2 := HX1.out.below b1
    have hlx2 := HLX.out.kept (b1.block _ (by have := HB.out.size; omega))
    have k0' : w2.cell? ⟨cx, 0, none⟩ = some (.pointer (some ⟨px, 0, none⟩)) := cell_of_block hX2.pw.hx 0
    have hop : (n.op == 0) = false := by rw [beq_eq_false_iff_ne]; rcases hst.2.2.2.2 with h | h <;> rw [h] <;> decide
    have q0 : w2.cell? ⟨p1, 0, none⟩ = some (.int .u8 n.op) := cell_of_block n1 0
    obtain ⟨i0, i1, i2, i3, i4, i5, i6⟩ := n7_ids n1
    obtain ⟨y0, y1, y2, y3, y4, y5, y6, yf⟩ := n7_cells n1
    have HB1 := Lib.hid b1
    have HX2 := Lib.hid hX2
    have HN1 := Lib.hid n1
    have HLX2 := Lib.hid hlx2
    clear hX2 hlx2 b1 n1
    go_enter Tryz.func127, Tryz.ntmps127
    go_wp2_with (go_at_call 125; refine (nextT HX2.out hs HLX2.out hst).mono ?_; rintro e w3 ⟨rfl, hF3, hn3⟩; have m0 := hF3.block (HB1.out.block p0 l0 |>.trans HN0.out) (by intro r hr e; simp only [List.mem_singleton] at hr; rw [hr] at e; injection e with e; omega); have m1 := hF3.block HN1.out (by intro r hr e; simp only [List.mem_singleton] at hr; rw [hr] at e; injection e with e; have := HB1.out.size; have := HB.out.size; omega); obtain ⟨d0, d1, d2, d3, d4, d5, d6, df⟩ := n7_cells m0; obtain ⟨g0, g1, g2, g3, g4, g5, g6, gf⟩ := n7_cells m1; have H3 := Lib.hid (And.intro hF3 hn3); clear hF3 hn3 m0 m1)
    refine bodyPost_ret (v := valN n (.slice none 0 0)) (by simp [results, Tryz.results127, go_sem, d0, d1, d2, d3, d4, d5, d6]) rfl ?_
    have hd := put_done (w := w) (w3 := w3) (p0 := p0) (lo := p0 + 1) (n := n) (vk := .slice none 0 0) (s := s) (r := atomE s.data.toList (.nd n ta, i)) HP0.out hpx (Nat.le_refl _) ((Frm.ofBelow (HB.out.trans (HB1.out.mono HB.out.size))).trans H3.out.1 (by intro r hr; exact .inl hr)) (by
      unfold atomE
      simp only
      cases hne : nextE s.data.toList i with
      | error x =>
        obtain ⟨x, y⟩ := x
        rw [bind_no rfl]
        have := H3.out.2
        rw [hne] at this
        exact ⟨this, by have := (nextE_err hne).1; omega⟩
      | ok st1 =>
        rw [bind_is rfl]
        have := H3.out.2
        rw [hne] at this
        refine ⟨rfl, ?_, hst.2.2.1, this, next_stw (by have := sl_len s; omega) hst.1 hne⟩
        rw [hst.2.2.2.1]
        exact .nil)
    exact ⟨_, _, _, _, rfl, hd.1, hd.2⟩
  · have hno : opOf st.1 = 0 ∧ ∀ n a, st.1 ≠ .nd n a := by
      refine ⟨?_, fun n a e => hnd ⟨n, a, e⟩⟩
      cases he : st.1 with
      | nd n a => exact absurd ⟨n, a, he⟩ hnd
      | fin a => rfl
      | say u a => rfl
    have hE : Hid (atomE s.data.toList st = .error (4, st.1.at_)) := Lib.hid (by
      unfold atomE
      cases he : st.1 with
      | nd n a => exact absurd ⟨n, a, he⟩ hnd
      | fin a => rfl
      | say u a => rfl)
    obtain ⟨x0, x1, x2, x3, x4, x5, x6⟩ := HLX.out.none_ hno
    obtain ⟨w2, p1, hp1, hw2, l1, n1, b1⟩ := box_new w1 nilObj
    have hX2 := HX1.out.below b1
    have hlx2 := HLX.out.kept (b1.block _ (by have := HB.out.size; omega))
    have k0' : w2.cell? ⟨cx, 0, none⟩ = some (.pointer (some ⟨px, 0, none⟩)) := cell_of_block hX2.pw.hx 0
    have k10 := hlx2.c10
    have q0 : w2.cell? ⟨p1, 0, none⟩ = some (.int .u8 0) := cell_of_block n1 0
    obtain ⟨ta, hta⟩ : ∃ ta : Nat, st.1.at_ = ta := ⟨_, rfl⟩
    rw [hta] at k10 hE
    obtain ⟨i0, i1, i2, i3, i4, i5, i6⟩ := n7_ids n1
    obtain ⟨y0, y1, y2, y3, y4, y5, y6, yf⟩ := n7_cells n1
    have HB1 := Lib.hid b1
    have HX2 := Lib.hid hX2
    have HN1 := Lib.hid n1
    have HLX2 := Lib.hid hlx2
    clear hX2 hlx2 b1 n1 hno hnd hta
    have HFL := Lib.hid (fun (W : World) (h : Below w2.heap.size w2 W) => failT (w := W) (HLX2.out.kept (h.block _ (by have := HB1.out.size; have := HB.out.size; omega))) hst 4 (ta : Int))
    go_enter Tryz.func127, Tryz.ntmps127
    go_upto_region 3 with fail
    go_cut [] (fun wx => ∃ w4, w4 = wx ∧ Frm [some px] w2 w4 ∧ LxE w4 px s 4 (ta : Int))
    case first =>
      go_region_held3 (fun w' => w'.cell? ⟨cx, 0, none⟩ = some (.pointer (some ⟨px, 0, none⟩)) ∧ w'.cell? ⟨px, 10, none⟩ = some (.int .i64 (ta : Int))) (first | go_keep | exact ⟨qcx, q10⟩) (first | (go_at_call 128; refine (HFL.out _ (Below.drew (Below.refl _ _))).mono ?_; rintro e w4 ⟨rfl, hF4, hb4, he4⟩; have q10 : w4.cell? ⟨px, 10, none⟩ = some (.int .i64 (ta : Int)) := he4.trans k10; have qcx : w4.cell? ⟨cx, 0, none⟩ = some (.pointer (some ⟨px, 0, none⟩)) := cell_of_block ((HX2.out.below (Below.drew (Below.refl _ _))).kept hF4 hb4.lex).pw.hx 0; have H4 := Lib.hid (And.intro hF4 hb4); clear hF4 hb4 he4))
      all_goals
        go_wp2_with fail
        go_meet
        exact ⟨_, rfl, (Frm.ofBelow (Below.drew (Below.refl _ _))).trans H4.out.1 (by intro r hr; exact .inl hr), H4.out.2⟩
    case rest =>
      obtain ⟨w4, rfl, hF4, hl4⟩ := hcut
      have hX4 := HX2.out.kept hF4 hl4.lex
      have k4 : w4.cell? ⟨cx, 0, none⟩ = some (.pointer (some ⟨px, 0, none⟩)) := cell_of_block hX4.pw.hx 0
      have HX4 := Lib.hid hX4
      have H4 := Lib.hid (And.intro hF4 hl4)
      clear hF4 hl4 hX4 HFL
      go_wp2_with (go_at_call 125; refine (nextX hs (by decide) H4.out.2).mono ?_; rintro e w3 ⟨rfl, hF5, hn3⟩; have hF3 := H4.out.1.trans hF5 (by intro r hr; exact .inl hr); have m0 := hF3.block (HB1.out.block p0 l0 |>.trans HN0.out) (by intro r hr e; simp only [List.mem_singleton] at hr; rw [hr] at e; injection e with e; omega); have m1 := hF3.block HN1.out (by intro r hr e; simp only [List.mem_singleton] at hr; rw [hr] at e; injection e with e; have := HB1.out.size; have := HB.out.size; omega); obtain ⟨d0, d1, d2, d3, d4, d5, d6, df⟩ := n7_cells m0; obtain ⟨g0, g1, g2, g3, g4, g5, g6, gf⟩ := n7_cells m1; have H3 := Lib.hid (And.intro hF3 hn3); clear hF3 hF5 hn3 m0 m1)
      refine bodyPost_ret (v := valN nilN (.slice none 0 0)) (by simp [results, Tryz.results127, go_sem, d0, d1, d2, d3, d4, d5, d6, Nd.op, Nd.v, Nd.name, Vl.zero]) rfl ?_
      have hd := put_done (w := w) (w3 := w3) (p0 := p0) (lo := p0 + 1) (n := nilN) (vk := .slice none 0 0) (s := s) (r := .error (4, ta)) HP0.out hpx (Nat.le_refl _) ((Frm.ofBelow (HB.out.trans (HB1.out.mono HB.out.size))).trans H3.out.1 (by intro r hr; exact .inl hr)) ⟨H3.out.2, by decide⟩
      rw [hE.out]
      exact ⟨_, _, _, _, rfl, hd.1, hd.2⟩
end Go.Proofs.YtjcaaahbfkjipaaGreatDoor
