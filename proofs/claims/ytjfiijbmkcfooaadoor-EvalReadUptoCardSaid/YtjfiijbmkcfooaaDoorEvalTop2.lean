/- eval.Eval, eval.Bool; the law's helpers that make nodes. -/
import Derived.Test.YtjfiijbmkcfooaaDoorEvalTop
set_option maxRecDepth 100000
namespace Go.Proofs.YtjfiijbmkcfooaaDoor
open Go.RowKit

/-- A node that may be read: its own cells are at hand. -/
def NdR (w : World) (B : Nat) (vk : Value) (n : Nd) : Prop := HeadW n ∧ KidsR w B vk n.kids
theorem NdR.mono {w w' : World} {B B' : Nat} {vk : Value} {n : Nd} (h : NdR w B vk n) (hb : Below B w w') (hB : B ≤ B') : NdR w' B' vk n := ⟨h.1, h.2.mono hb hB⟩
theorem NdR.to {w w' : World} {vk : Value} {n : Nd} (h : NdR w w.heap.size vk n) (hb : Below w.heap.size w w') : NdR w' w'.heap.size vk n := h.mono hb hb.size
theorem BdsR.to {w w' : World} {v : Value} {l : List Bd} (h : BdsR w w.heap.size v l) (hb : Below w.heap.size w w') : BdsR w' w'.heap.size v l := h.mono hb hb.size
theorem NdR.deep {w : World} {B : Nat} {vk : Value} {n : Nd} (h : NdR w B vk n) : deepW n := by
  cases n
  exact ⟨h.1, h.2.deep⟩

theorem evalNote (W : World) (s : ByteArray) : Calls Tryd.prog 33 #[.string s] W fun e w' => e = .returned (.tuple #[]) ∧ W = w' := by
  go_enter Tryd.func33, Tryd.ntmps33
  go_wp2_with fail
  refine bodyPost_end (results_none rfl _ _ _) rfl ?_
  exact ⟨rfl, rfl⟩
theorem evalNoteS (w : World) (hT : Tabs8 w) (l : List Bd) : NoteS w w.heap.size w.heap.size [] (fun _ V => Below w.heap.size w V) 33 #[] l where
  below _ _ h := h
  mono _ _ _ h hb := h.trans hb
  note _ W s _ h _ := (evalNote W s).mono fun e w' ⟨he, hw⟩ => by subst hw; exact ⟨he, h, Frm.refl _ _⟩
  run args W := by kernel_rfl
  old r hr := by simp at hr
  le := Nat.le_refl _
  tabs _ _ h := Utf8Tabs_below hT h

set_option maxHeartbeats 2000000 in
theorem eval_any (w : World) (n : Nd) (vk vv : Value) (l : List Bd) (hn : NdR w w.heap.size vk n) (hl : BdsR w w.heap.size vv l) (hT : Tabs8 w) :
    Calls Tryd.prog 13 #[valN n vk, vv] w fun e w' => e = .returned (.tuple #[valV (evE l n).1, .int .i64 (evE l n).2]) ∧ Below w.heap.size w w' := by
  obtain ⟨w1, w2, p0, p1, hp0, hw1, hp1, hw2, l01, lp, hb2, HK⟩ := node_start w [] w.heap.size (Nat.le_refl _) (by simp) n.op n.v n.name vk
  obtain ⟨⟨c0, c1, c2, c3, c4, c5, c6⟩, z, hF, -, l2⟩ := HK.out w2 (Frm.refl _ _)
  have hnV := hn.to hb2
  have K := Lib.hid (reckon_any (evalNoteS w2 (Utf8Tabs_below hT hb2) l) w2 [] (Below.refl _ _) (Nat.le_refl _) n vk vv hnV.2 (hl.to hb2) hnV.deep)
  have HB := Lib.hid hb2
  have HZ := Lib.hid z
  obtain ⟨r, hr⟩ : ∃ r, evE l n = r := ⟨_, rfl⟩
  rw [hr] at K ⊢
  obtain ⟨rv, re⟩ := r
  have hw2' : w1.alloc (.cells #[.int .u8 0, .int .i64 0, .bool false, .string ⟨#[]⟩] 23) = w2 := hw2
  clear hb2 hF HK z hw2 hr hl hn hnV hT
  go_enter Tryd.func13, Tryd.ntmps13
  go_wp2_with (go_at_call 32; refine K.out.mono ?_; rintro e w3 ⟨rfl, hb3, -⟩; refine Hid.out ?_)
  refine Lib.hid ?_
  have z := (hb3.block p1 l2).trans HZ.out
  obtain ⟨⟨m0, m1, m2, m3⟩, f0, f1, f2, f3⟩ := zero_blk z
  have HE := Lib.hid (chain_below (HB.out.trans (hb3.mono HB.out.size)) lp rv)
  clear hb3 z
  go_wp2_with fail
  exact bodyPost_ret (v := .tuple #[valV rv, .int .i64 re]) (by simp [results, Tryd.results13, go_sem, m0, m1, m2, m3]) rfl ⟨rfl, HE.out⟩

def boolE (p : Vl × Int) : Bool × Int := if p.2 = 0 then (if p.1.kind = 2 then (p.1.tr, 0) else (false, 90)) else (false, p.2)
set_option maxHeartbeats 2000000 in
theorem bool_any (w : World) (n : Nd) (vk vv : Value) (l : List Bd) (hn : NdR w w.heap.size vk n) (hl : BdsR w w.heap.size vv l) (hT : Tabs8 w) :
    Calls Tryd.prog 26 #[valN n vk, vv] w fun e w' => e = .returned (.tuple #[.bool (boolE (evE l n)).1, .int .i64 (boolE (evE l n)).2]) ∧ Below w.heap.size w w' := by
  obtain ⟨w1, p0, hp0, hw1, l0, n0, b0⟩ := box_new w (objN n.op n.v n.name vk)
  have c0 : w1.cell? ⟨p0, 0, none⟩ = some (.int .u8 n.op) := (cell_of_block n0 0).trans rfl
  have c1 : w1.cell? ⟨p0, 1, none⟩ = some (.int .u8 n.v.kind) := (cell_of_block n0 1).trans rfl
  have c2 : w1.cell? ⟨p0, 2, none⟩ = some (.int .i64 n.v.num) := (cell_of_block n0 2).trans rfl
  have c3 : w1.cell? ⟨p0, 3, none⟩ = some (.bool n.v.tr) := (cell_of_block n0 3).trans rfl
  have c4 : w1.cell? ⟨p0, 4, none⟩ = some (.string n.v.text) := (cell_of_block n0 4).trans rfl
  have c5 : w1.cell? ⟨p0, 5, none⟩ = some (.string n.name) := (cell_of_block n0 5).trans rfl
  have c6 : w1.cell? ⟨p0, 6, none⟩ = some vk := (cell_of_block n0 6).trans rfl
  have K := Lib.hid (eval_any w1 n vk vv l (hn.to b0) (hl.to b0) (Utf8Tabs_below hT b0))
  have HB := Lib.hid b0
  obtain ⟨r, hr⟩ : ∃ r, evE l n = r := ⟨_, rfl⟩
  rw [hr] at K ⊢
  obtain ⟨rv, re⟩ := r
  clear b0 n0 hr hl hn hT
  by_cases he : re = 0
  · have d0 : (re != 0) = false := by simpa using he
    by_cases hk : rv.kind = 2
    · have d1 : (rv.kind != 2) = false := by simpa using hk
      rw [show boolE (rv, re) = (rv.tr, 0) by unfold boolE; rw [if_pos he, if_pos hk]]
      clear he hk
      go_enter Tryd.func26, Tryd.ntmps26
      go_wp2_with (go_at_call 13; refine K.out.mono ?_; rintro e w3 ⟨rfl, hb3⟩; have HE := Lib.hid ((HB.out.trans (hb3.mono HB.out.size)).alloc (Nat.le_trans HB.out.size hb3.size) (objV rv)); clear hb3)
      go_ret2
      exact ⟨rfl, HE.out⟩
    · have d1 : (rv.kind != 2) = true := by simpa using hk
      rw [show boolE (rv, re) = (false, 90) by unfold boolE; rw [if_pos he, if_neg hk]]
      clear he hk
      go_enter Tryd.func26, Tryd.ntmps26
      go_wp2_with (go_at_call 13; refine K.out.mono ?_; rintro e w3 ⟨rfl, hb3⟩; have HE := Lib.hid ((HB.out.trans (hb3.mono HB.out.size)).alloc (Nat.le_trans HB.out.size hb3.size) (objV rv)); clear hb3)
      go_ret2
      exact ⟨rfl, HE.out⟩
  · have d0 : (re != 0) = true := by simpa using he
    rw [show boolE (rv, re) = (false, re) by unfold boolE; rw [if_neg he]]
    clear he
    go_enter Tryd.func26, Tryd.ntmps26
    go_wp2_with (go_at_call 13; refine K.out.mono ?_; rintro e w3 ⟨rfl, hb3⟩; have HE := Lib.hid ((HB.out.trans (hb3.mono HB.out.size)).alloc (Nat.le_trans HB.out.size hb3.size) (objV rv)); clear hb3)
    go_ret2
    exact ⟨rfl, HE.out⟩
end Go.Proofs.YtjfiijbmkcfooaaDoor
