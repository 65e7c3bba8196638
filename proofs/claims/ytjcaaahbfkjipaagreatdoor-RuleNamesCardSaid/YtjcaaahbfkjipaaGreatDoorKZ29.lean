/- Texts fused by fuse.py: KExprPar2. -/
import Derived.Test.YtjcaaahbfkjipaaGreatDoorKZ28
/- Of ExprPar2: what FRuleNames uses (shake.py). -/
set_option maxRecDepth 100000
/- The closures of expr.Parse: ahead, atom, brackets (seat expr). -/
namespace Go.Proofs.YtjcaaahbfkjipaaGreatDoor
open Go.RowKit
def aheadE (s : List UInt8) (f : Nat) (op : Int) (line : Nat) (st : Tk × Nat) : Rs (Nd × (Tk × Nat)) := do
  let st1 ← nextE s st.2
  let (n, st2) ← prsE s f none line st1
  .ok (oneN op n, st2)
def atomE (s : List UInt8) (st : Tk × Nat) : Rs (Nd × (Tk × Nat)) := match st.1 with
  | .nd n _ => do
    let st1 ← nextE s st.2
    .ok (n, st1)
  | t => .error (4, t.at_)
def brackE (s : List UInt8) (f : Nat) (st : Tk × Nat) : Rs (Nd × (Tk × Nat)) := do
  let st1 ← nextE s st.2
  let (n, st2) ← prsE s f none 1 st1
  match st2.1 with
  | .say [41] _ => do
    let st3 ← nextE s st2.2
    .ok (n, st3)
  | t => .error (4, t.at_)
theorem sl_len (s : ByteArray) : s.data.toList.length = s.size := by rw [Array.length_toList]; rfl
/-- What a block of the call's own holds is laid anew; all else stands. -/
theorem set7_keep (W : World) (p : Nat) (v0 v1 v2 v3 v4 v5 v6 : Value) {k : Nat} (hk : k ≠ p) : (set7 W p v0 v1 v2 v3 v4 v5 v6).heap[k]? = W.heap[k]? := by
  unfold set7
  rw [heap_setCell_other _ ⟨p, 6, none⟩ k v6 hk, heap_setCell_other _ ⟨p, 5, none⟩ k v5 hk, heap_setCell_other _ ⟨p, 4, none⟩ k v4 hk, heap_setCell_other _ ⟨p, 3, none⟩ k v3 hk, heap_setCell_other _ ⟨p, 2, none⟩ k v2 hk, heap_setCell_other _ ⟨p, 1, none⟩ k v1 hk, heap_setCell_other _ ⟨p, 0, none⟩ k v0 hk]
theorem set7_size (W : World) (p : Nat) (v0 v1 v2 v3 v4 v5 v6 : Value) : (set7 W p v0 v1 v2 v3 v4 v5 v6).heap.size = W.heap.size := by
  unfold set7
  simp
/-- The world in which a node of one kid is made. -/
abbrev oneW (w3 : World) (p0 : Nat) (op : Int) (n : Nd) (vk : Value) : World :=
  (set7 w3 p0 (.int .u8 op) (.int .u8 0) (.int .i64 0) (.bool false) (.string ⟨#[]⟩) (.string ⟨#[]⟩) (.slice (some ⟨w3.heap.size, 0, none⟩) 1 1)).alloc (.cells #[.int .u8 n.op, .int .u8 n.v.kind, .int .i64 n.v.num, .bool n.v.tr, .string n.v.text, .string n.name, vk] 108)
theorem one_done {w w3 : World} {px p0 lo : Nat} {s : ByteArray} {f : Nat} {line : Nat} {op : Int} (h0 : 0 ≤ op) (h1 : op ≤ 255) {st st1 : Tk × Nat} (hn : nextE s.data.toList st.2 = .ok st1) {n : Nd} {vk : Value} (hp : w.heap.size = p0) (hpx : px < w.heap.size) (hlo : p0 + 1 ≤ lo) (hF : Frm [some px] w w3) (hw3 : p0 < w3.heap.size)
    (hr : partR w3 px s lo n vk (prsE s.data.toList f none line st1)) :
    Frm [some px] w (oneW w3 p0 op n vk) ∧ partR (oneW w3 p0 op n vk) px s w.heap.size (.mk op Vl.zero ⟨#[]⟩ [n]) (.slice (some ⟨w3.heap.size, 0, none⟩) 1 1) (aheadE s.data.toList f op line st) := by
  obtain ⟨W7, hW7⟩ : ∃ W7, set7 w3 p0 (.int .u8 op) (.int .u8 0) (.int .i64 0) (.bool false) (.string ⟨#[]⟩) (.string ⟨#[]⟩) (.slice (some ⟨w3.heap.size, 0, none⟩) 1 1) = W7 := ⟨_, rfl⟩
  have hz7 : W7.heap.size = w3.heap.size := by rw [← hW7]; exact set7_size _ _ _ _ _ _ _ _ _
  have hf7 : Frm [some p0] w3 W7 := by rw [← hW7]; exact set7_frm _ _ _ _ _ _ _ _ _
  obtain ⟨o, ho⟩ : ∃ o, (Obj.cells #[.int .u8 n.op, .int .u8 n.v.kind, .int .i64 n.v.num, .bool n.v.tr, .string n.v.text, .string n.name, vk] 108) = o := ⟨_, rfl⟩
  have hb := (Below.refl W7.heap.size W7).alloc (Nat.le_refl _) o
  have hnew := heap_alloc_new W7 o
  have hFW : Frm [some p0] w3 (W7.alloc o) := hf7.below hb
  have hpxs : (W7.alloc o).heap[px]? = w3.heap[px]? := hFW.keep px (by have := hF.size; omega) (by intro r hr e; simp only [List.mem_singleton] at hr; rw [hr] at e; injection e with e; omega)
  show Frm [some px] w ((set7 w3 p0 _ _ _ _ _ _ _).alloc _) ∧ partR ((set7 w3 p0 _ _ _ _ _ _ _).alloc _) px s _ _ _ _
  rw [hW7, ho]
  refine ⟨hF.trans hFW (by intro r hr; simp only [List.mem_singleton] at hr; subst hr; exact .inr ⟨p0, rfl, by omega⟩), ?_⟩
  unfold aheadE
  rw [bind_is hn]
  cases hq : prsE s.data.toList f none line st1 with
  | error x =>
    rw [hq] at hr
    rw [bind_no rfl]
    obtain ⟨x, y⟩ := x
    exact ⟨hr.1.kept hpxs, hr.2⟩
  | ok r =>
    obtain ⟨m, st2⟩ := r
    rw [hq] at hr
    rw [bind_is rfl]
    obtain ⟨rfl, h2, h3, h4, h5⟩ := hr
    refine ⟨rfl, ?_, HeadW_one h0 h1 _, h4.kept hpxs, h5⟩
    rw [hz7, ← ho] at hnew
    rw [← ho] at hFW ⊢
    exact MadeR.one hnew (by omega) h3 ((h2.kept hFW (fun b hb r hr => by simp only [List.mem_singleton] at hr; subst hr; intro e; injection e with e; omega)).weak (fun b _ h => by omega))
set_option maxHeartbeats 4000000 in
theorem ahead_any {s : ByteArray} (hs : s.size ≤ 256) {B px cx cf c7 c8 c9 c10 f : Nat} (HF : FromC s B px cx cf c7 c8 c9 c10 f) {w : World} (hX : PX w B px cx cf c7 c8 c9 c10) {st : Tk × Nat} (hlx : LxT w px s st) (hst : StW s.data.toList.length st) (hfin : isFin st.1 = false) (op : Int) (h0 : 0 ≤ op) (h1 : op ≤ 255) (line : Nat) (hline : line ≤ 9) (hmu : mu s.data.toList.length st ≤ f) :
    Calls Tryz.prog 126 #[.int .u8 op, .int .i64 (line : Int), .pointer (some ⟨cx, 0, none⟩), .pointer (some ⟨cf, 0, none⟩)] w (PartC w px s (aheadE s.data.toList f op line st)) := by
  obtain ⟨w1, p0, hp0, hw1, l0, n0, b0⟩ := box_new w nilObj
  have hX1 := hX.below b0
  obtain ⟨c, hc⟩ := hlx.lex
  have hpx := lt_of_block hc
  have hlx1 := hlx.kept (b0.block _ hpx)
  have k0 : w1.cell? ⟨cx, 0, none⟩ = some (.pointer (some ⟨px, 0, none⟩)) := cell_of_block hX1.pw.hx 0
  have HB := Lib.hid b0
  have HX1 := Lib.hid hX1
  have HN0 := Lib.hid n0
  have HLX := Lib.hid hlx1
  have HP0 := Lib.hid hp0
  clear hX hX1 hlx hlx1 hc b0 n0
  cases hne : nextE s.data.toList st.2 with
  | error x =>
    obtain ⟨x, y⟩ := x
    have hx0 : x ≠ 0 := by have := (nextE_err hne).1; omega
    have HNX : Hid (∀ w' n a c d, LxE w' px s x (y : Int) → partR w' px s w.heap.size n (.slice a c d) (aheadE s.data.toList f op line st)) := Lib.hid (fun w' n a c d h => by unfold aheadE; rw [bind_no hne]; exact ⟨h, hx0⟩)
    have HX0 := Lib.hid hx0
    have HNE := Lib.hid hne
    clear hne hx0
    go_enter Tryz.func126, Tryz.ntmps126
    go_wp2_with (first
      | (go_at_call 125; refine (nextT HX1.out hs HLX.out hst).mono ?_; rintro e w2 ⟨rfl, hF2, hn2⟩; rw [HNE.out] at hn2; have hX2 := HX1.out.kept hF2 hn2.lex; have k2 : w2.cell? ⟨cf, 0, none⟩ = _ := cell_of_block hX2.pw.hf 0; have HX2 := Lib.hid hX2; have HF2 := Lib.hid hF2; have HN2 := Lib.hid hn2; clear hF2 hn2 hX2)
      | (go_at_call 131; refine (fromerr_any HX2.out HX0.out HN2.out _).mono ?_; rintro e w3 ⟨rfl, hb3⟩; have hF3 := HF2.out.below hb3; have hn3 := hF3.block HN0.out (by intro r hr e; simp only [List.mem_singleton] at hr; rw [hr] at e; injection e with e; omega); obtain ⟨d0, d1, d2, d3, d4, d5, d6, df⟩ := n7_cells hn3; have l3 := lt_of_block hn3; obtain ⟨cc, hcc⟩ := HN2.out.lex; have hl3 := HN2.out.kept (hb3.block _ (lt_of_block hcc)); have HL3 := Lib.hid hl3; have HF3 := Lib.hid hF3; clear hcc hl3 hF3 hn3 hb3))
    refine bodyPost_ret (v := valN (.mk op Vl.zero ⟨#[]⟩ [nilN]) (.slice (some ⟨w3.heap.size, 0, none⟩) 1 1)) (by simp [results, Tryz.results126, go_sem, l3, d0, d1, d2, d3, d4, d5, d6, Nd.op, Nd.v, Nd.name, Vl.zero]) rfl ?_
    have hfr := set7_frm w3 p0 (.int .u8 op) (.int .u8 0) (.int .i64 0) (.bool false) (.string ⟨#[]⟩) (.string ⟨#[]⟩) (.slice (some ⟨w3.heap.size, 0, none⟩) 1 1)
    have hF4 : Frm [some px] w (oneW w3 p0 op nilN (.slice none 0 0)) := (((Frm.ofBelow HB.out).trans HF3.out (by intro r hr; exact .inl hr)).trans hfr (by intro r hr; simp only [List.mem_singleton] at hr; subst hr; exact .inr ⟨p0, rfl, by have := HP0.out; omega⟩)).below ((Below.refl _ _).alloc (Nat.le_refl _) _)
    refine ⟨_, _, _, _, rfl, hF4, HNX.out _ _ _ _ _ (HL3.out.kept ?_)⟩
    have hz := set7_size w3 p0 (.int .u8 op) (.int .u8 0) (.int .i64 0) (.bool false) (.string ⟨#[]⟩) (.string ⟨#[]⟩) (.slice (some ⟨w3.heap.size, 0, none⟩) 1 1)
    exact (((Below.refl _ _).alloc (Nat.le_refl _) _).block px (by rw [hz]; have := HP0.out; omega)).trans (set7_keep _ _ _ _ _ _ _ _ _ (by have := HP0.out; omega))
  | ok st1 =>
    have hst1 := next_stw (by have := sl_len s; omega) hst.1 hne
    have hm1 := next_mu (by have := sl_len s; omega) hst.1 hfin hne
    have hlt : mu s.data.toList.length st1 < f := by omega
    have HNE := Lib.hid hne
    have HST := Lib.hid hst1
    clear hne hst1 hm1
    go_enter Tryz.func126, Tryz.ntmps126
    go_wp2_with (first
      | (go_at_call 125; refine (nextT HX1.out hs HLX.out hst).mono ?_; rintro e w2 ⟨rfl, hF2, hn2⟩; rw [HNE.out] at hn2; have hX2 := HX1.out.kept hF2 (LxT.lex hn2); have k2 : w2.cell? ⟨cf, 0, none⟩ = _ := cell_of_block hX2.pw.hf 0; have HX2 := Lib.hid hX2; have HF2 := Lib.hid hF2; have HN2 := Lib.hid hn2; clear hF2 hn2 hX2)
      | (go_at_call 131; refine (HF _ line st1 HX2.out HN2.out HST.out hline hlt).mono ?_; rintro e w3 ⟨n, a, c3, d, rfl, hF23, hr3⟩; have hF3 := HF2.out.trans hF23 (by intro r hr; exact .inl hr); have hn3 := hF3.block HN0.out (by intro r hr e; simp only [List.mem_singleton] at hr; rw [hr] at e; injection e with e; omega); obtain ⟨d0, d1, d2, d3, d4, d5, d6, df⟩ := n7_cells hn3; have l3 := lt_of_block hn3; have HR3 := Lib.hid hr3; have HF3 := Lib.hid hF3; clear hF23 hF3 hr3 hn3))
    refine bodyPost_ret (v := valN (.mk op Vl.zero ⟨#[]⟩ [n]) (.slice (some ⟨w3.heap.size, 0, none⟩) 1 1)) (by simp [results, Tryz.results126, go_sem, l3, d0, d1, d2, d3, d4, d5, d6, Nd.op, Nd.v, Nd.name, Vl.zero]) rfl ?_
    have hd := one_done (lo := w2.heap.size) h0 h1 HNE.out HP0.out hpx (by have := HF2.out.size; omega) ((Frm.ofBelow HB.out).trans HF3.out (by intro r hr; exact .inl hr)) l3 HR3.out
    exact ⟨_, _, _, _, rfl, hd.1, hd.2⟩
end Go.Proofs.YtjcaaahbfkjipaaGreatDoor
