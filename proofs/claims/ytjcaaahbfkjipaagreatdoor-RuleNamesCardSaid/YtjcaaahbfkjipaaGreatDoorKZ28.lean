/- Texts fused by fuse.py: KExprMade, KExprPar1. -/
import Derived.Test.YtjcaaahbfkjipaaGreatDoorKZ27
/- Of ExprMade: what FRuleNames uses (shake.py). -/
set_option maxRecDepth 100000
/- Nodes that a call makes: their reading in own blocks; what a part of a condition leaves (seat expr). -/
namespace Go.Proofs.YtjcaaahbfkjipaaGreatDoor
open Go.RowKit
/-- Kids in blocks that meet 'ok'. -/
inductive MadeR (w : World) (ok : Nat → Prop) : Value → List Nd → Prop
  | nil : MadeR w ok (.slice none 0 0) []
  | mk (b : Nat) (c : Array Value) (l : List Nd) (vk : Nat → Value) (hn : 0 < l.length) (hl : l.length ≤ 2) (hok : ok b) (hblk : w.heap[b]? = some (.cells c 108 (0, 0))) (hw : ∀ i (h : i < l.length), HeadW l[i])
      (hc : ∀ i (h : i < l.length), ∀ j, j < 7 → c[i * 7 + j]? = (cellN l[i] (vk i))[j]?)
      (hk : ∀ i (h : i < l.length), MadeR w ok (vk i) l[i].kids) : MadeR w ok (.slice (some ⟨b, 0, none⟩) l.length l.length) l
theorem MadeR.kept {w w' : World} {ok : Nat → Prop} {v : Value} {l : List Nd} {S : List (Option Nat)} (h : MadeR w ok v l) (hF : Frm S w w') (hS : ∀ b, ok b → ∀ r ∈ S, r ≠ some b) : MadeR w' ok v l := by
  induction h with
  | nil => exact .nil
  | mk b c l vk hn hl hok hblk hw hc hk ih => exact .mk b c l vk hn hl hok ((hF.keep b (lt_of_block hblk) (hS b hok)).trans hblk) hw hc ih
theorem MadeR.keptB {w w' : World} {ok : Nat → Prop} {v : Value} {l : List Nd} (h : MadeR w ok v l) (hb : Below w.heap.size w w') : MadeR w' ok v l :=
  h.kept (Frm.ofBelow (S := []) hb) (fun b _ r hr => by cases hr)
theorem MadeR.weak {w : World} {ok ok' : Nat → Prop} {v : Value} {l : List Nd} (h : MadeR w ok v l) (ho : ∀ b, b < w.heap.size → ok b → ok' b) : MadeR w ok' v l := by
  induction h with
  | nil => exact .nil
  | mk b c l vk hn hl hok hblk hw hc hk ih => exact .mk b c l vk hn hl (ho b (lt_of_block hblk) hok) hblk hw hc ih
theorem MadeR.kids {w : World} {ok : Nat → Prop} {v : Value} {l : List Nd} (h : MadeR w ok v l) : KidsR w w.heap.size v l := by
  induction h with
  | nil => exact KidsR.nil _ _
  | mk b c l vk hn hl hok hblk hw hc hk ih =>
    refine .mk _ _ l vk (by omega) (Nat.le_refl _) hw (fun i hi => ⟨b, 0, rfl, lt_of_block hblk, fun j hj => ?_⟩) ih
    rw [Nat.zero_add, cell_of_block hblk]
    exact hc i hi j hj
theorem MadeR.shape {w : World} {ok : Nat → Prop} {v : Value} {l : List Nd} (h : MadeR w ok v l) : ∃ a c d, v = .slice a c d := by
  cases h with
  | nil => exact ⟨_, _, _, rfl⟩
  | mk => exact ⟨_, _, _, rfl⟩
/-- One kid, two kids, in a block of their own. -/
theorem MadeR.one {w : World} {ok : Nat → Prop} {n : Nd} {vk : Value} {b : Nat} (hblk : w.heap[b]? = some (.cells #[.int .u8 n.op, .int .u8 n.v.kind, .int .i64 n.v.num, .bool n.v.tr, .string n.v.text, .string n.name, vk] 108 (0, 0))) (hok : ok b) (hw : HeadW n) (hk : MadeR w ok vk n.kids) :
    MadeR w ok (.slice (some ⟨b, 0, none⟩) 1 1) [n] :=
  .mk b _ [n] (fun _ => vk) (by simp) (by simp) hok hblk (fun i h => by have : i = 0 := by simpa using h
                                                                        subst this; exact hw)
    (fun i h j hj => by
      have : i = 0 := by simpa using h
      subst this
      have : j = 0 ∨ j = 1 ∨ j = 2 ∨ j = 3 ∨ j = 4 ∨ j = 5 ∨ j = 6 := by omega
      rcases this with rfl | rfl | rfl | rfl | rfl | rfl | rfl <;> rfl)
    (fun i h => by have : i = 0 := by simpa using h
                   subst this; exact hk)
theorem MadeR.two {w : World} {ok : Nat → Prop} {n m : Nd} {vk vm : Value} {b : Nat} (hblk : w.heap[b]? = some (.cells #[.int .u8 n.op, .int .u8 n.v.kind, .int .i64 n.v.num, .bool n.v.tr, .string n.v.text, .string n.name, vk, .int .u8 m.op, .int .u8 m.v.kind, .int .i64 m.v.num, .bool m.v.tr, .string m.v.text, .string m.name, vm] 108 (0, 0)))
    (hok : ok b) (hw : HeadW n) (hw2 : HeadW m) (hk : MadeR w ok vk n.kids) (hk2 : MadeR w ok vm m.kids) : MadeR w ok (.slice (some ⟨b, 0, none⟩) 2 2) [n, m] :=
  .mk b _ [n, m] (fun i => if i = 0 then vk else vm) (by simp) (by simp) hok hblk
    (fun i h => by
      have : i = 0 ∨ i = 1 := by simp at h; omega
      rcases this with rfl | rfl
      · exact hw
      · exact hw2)
    (fun i h j hj => by
      have : i = 0 ∨ i = 1 := by simp at h; omega
      have hj : j = 0 ∨ j = 1 ∨ j = 2 ∨ j = 3 ∨ j = 4 ∨ j = 5 ∨ j = 6 := by omega
      rcases this with rfl | rfl <;> rcases hj with rfl | rfl | rfl | rfl | rfl | rfl | rfl <;> rfl)
    (fun i h => by
      have : i = 0 ∨ i = 1 := by simp at h; omega
      rcases this with rfl | rfl
      · exact hk
      · exact hk2)
theorem HeadW_one {op : Int} (h0 : 0 ≤ op) (h1 : op ≤ 255) (n : Nd) : HeadW (oneN op n) := ⟨h0, h1, VlW.zero, by show 0 ≤ _; omega⟩
theorem HeadW_two {op : Int} (h0 : 0 ≤ op) (h1 : op ≤ 255) (n m : Nd) : HeadW (twoN op n m) := ⟨h0, h1, VlW.zero, by show 0 ≤ _; omega⟩
theorem HeadW_nil : HeadW nilN := ⟨by show (0 : Int) ≤ 0; omega, by show (0 : Int) ≤ 255; omega, VlW.zero, by show 0 ≤ _; omega⟩
theorem Frm.new {px p : Nat} {w w' : World} (h : Frm [some px, some p] w w') (hp : w.heap.size ≤ p) : Frm [some px] w w' :=
  ⟨h.os, h.tape, h.output, h.size, fun k hk hs => h.keep k hk (fun r hr e => by
    simp only [List.mem_cons, List.not_mem_nil, or_false] at hr
    rcases hr with rfl | rfl
    · exact hs _ (by simp) e
    · injection e with e; omega)⟩
/-- The lexer's block stands. -/
theorem LxT.kept {w w' : World} {px : Nat} {s : ByteArray} {st : Tk × Nat} (h : LxT w px s st) (e : w'.heap[px]? = w.heap[px]?) : LxT w' px s st := by
  unfold LxT at h ⊢
  split
  · next a he => rw [he] at h; exact e.trans h
  · next n a he => rw [he] at h; exact e.trans h
  · next u a he => rw [he] at h; exact e.trans h
theorem LxE.kept {w w' : World} {px : Nat} {s : ByteArray} {x a : Int} (h : LxE w px s x a) (e : w'.heap[px]? = w.heap[px]?) : LxE w' px s x a := by
  obtain ⟨i, say, h1, h2, op, kind, num, tr, text, name, vk, ta, en, h3⟩ := h
  exact ⟨i, say, h1, h2, op, kind, num, tr, text, name, vk, ta, en, e.trans h3⟩
/-- .. in whatever state. -/
theorem LxT.block {w : World} {px : Nat} {s : ByteArray} {st : Tk × Nat} (h : LxT w px s st) : ∃ op kind num tr text name vk say ta en, LxB w px s (st.2 : Int) op kind num tr text name vk say ta en 0 0 := by
  unfold LxT at h
  split at h
  · exact ⟨_, _, _, _, _, _, _, _, _, _, h⟩
  · exact ⟨_, _, _, _, _, _, _, _, _, _, h⟩
  · exact ⟨_, _, _, _, _, _, _, _, _, _, h⟩
def partR (w : World) (px : Nat) (s : ByteArray) (lo : Nat) (n : Nd) (vk : Value) (r : Rs (Nd × (Tk × Nat))) : Prop := match r with
  | .ok (m, st) => n = m ∧ MadeR w (fun b => lo ≤ b) vk m.kids ∧ HeadW m ∧ LxT w px s st ∧ StW s.data.toList.length st
  | .error (e, a) => LxE w px s e (a : Int) ∧ e ≠ 0
/-- What a call leaves that reads a part. -/
def PartC (w : World) (px : Nat) (s : ByteArray) (r : Rs (Nd × (Tk × Nat))) (e : Ending) (w' : World) : Prop :=
  ∃ n a c d, e = .returned (valN n (.slice a c d)) ∧ Frm [some px] w w' ∧ partR w' px s w.heap.size n (.slice a c d) r
/-- The closures of expr.Parse. -/
structure PW (w : World) (B px cx cf c7 c8 c9 c10 : Nat) : Prop where
  hp : B ≤ px
  hB : B ≤ w.heap.size
  hx : w.heap[cx]? = some (.cells #[.pointer (some ⟨px, 0, none⟩)] 121 (0, 0))
  hf : w.heap[cf]? = some (.cells #[.func (.func 131) #[] #[.pointer (some ⟨cx, 0, none⟩), .pointer (some ⟨c10, 0, none⟩), .pointer (some ⟨cf, 0, none⟩)]] 126 (0, 0))
  h7 : w.heap[c7]? = some (.cells #[.func (.func 126) #[] #[.pointer (some ⟨cx, 0, none⟩), .pointer (some ⟨cf, 0, none⟩)]] 127 (0, 0))
  h8 : w.heap[c8]? = some (.cells #[.func (.func 127) #[] #[.pointer (some ⟨cx, 0, none⟩)]] 128 (0, 0))
  h9 : w.heap[c9]? = some (.cells #[.func (.func 129) #[] #[.pointer (some ⟨cx, 0, none⟩), .pointer (some ⟨cf, 0, none⟩)]] 128 (0, 0))
  h10 : w.heap[c10]? = some (.cells #[.func (.func 130) #[] #[.pointer (some ⟨cx, 0, none⟩), .pointer (some ⟨c7, 0, none⟩), .pointer (some ⟨c9, 0, none⟩), .pointer (some ⟨c8, 0, none⟩)]] 126 (0, 0))
  hl : ∃ c, w.heap[px]? = some (.cells c 125 (0, 0))
theorem PW.kept {w w' : World} {B px cx cf c7 c8 c9 c10 : Nat} (h : PW w B px cx cf c7 c8 c9 c10) (hF : Frm [some px] w w') (hl : ∃ c, w'.heap[px]? = some (.cells c 125 (0, 0))) : PW w' B px cx cf c7 c8 c9 c10 := by
  obtain ⟨c, hc⟩ := h.hl
  have key : ∀ {b : Nat} {d : Array Value} {t : TypeId}, w.heap[b]? = some (.cells d t (0, 0)) → t ≠ 125 → w'.heap[b]? = some (.cells d t (0, 0)) := fun {b d t} hb ht => hF.block hb (by
    intro r hr e
    simp only [List.mem_singleton] at hr
    rw [hr] at e
    injection e with e
    exact type_ne hb hc ht e.symm)
  exact ⟨h.hp, Nat.le_trans h.hB hF.size, key h.hx (by decide), key h.hf (by decide), key h.h7 (by decide), key h.h8 (by decide), key h.h9 (by decide), key h.h10 (by decide), hl⟩
theorem PW.below {w w' : World} {B px cx cf c7 c8 c9 c10 : Nat} (h : PW w B px cx cf c7 c8 c9 c10) (hb : Below w.heap.size w w') : PW w' B px cx cf c7 c8 c9 c10 := by
  obtain ⟨c, hc⟩ := h.hl
  exact h.kept (Frm.ofBelow hb) ⟨c, (hb.block _ (lt_of_block hc)).trans hc⟩
theorem LxT.lex {w : World} {px : Nat} {s : ByteArray} {st : Tk × Nat} (h : LxT w px s st) : ∃ c, w.heap[px]? = some (.cells c 125 (0, 0)) := by
  obtain ⟨_, _, _, _, _, _, _, _, _, _, h⟩ := h.block
  exact ⟨_, h⟩
theorem LxE.lex {w : World} {px : Nat} {s : ByteArray} {e a : Int} (h : LxE w px s e a) : ∃ c, w.heap[px]? = some (.cells c 125 (0, 0)) := by
  obtain ⟨_, _, _, _, _, _, _, _, _, _, _, _, _, h⟩ := h
  exact ⟨_, h⟩
theorem partR.lex {w : World} {px : Nat} {s : ByteArray} {lo : Nat} {n : Nd} {vk : Value} {r : Rs (Nd × (Tk × Nat))} (h : partR w px s lo n vk r) : ∃ c, w.heap[px]? = some (.cells c 125 (0, 0)) := by
  unfold partR at h
  split at h
  · exact h.2.2.2.1.lex
  · exact h.1.lex
end Go.Proofs.YtjcaaahbfkjipaaGreatDoor

/- Of ExprPar1: what FRuleNames uses (shake.py). -/
set_option maxRecDepth 100000
/- The closures of expr.Parse: contracts; from behind an error (seat expr). -/
namespace Go.Proofs.YtjcaaahbfkjipaaGreatDoor
open Go.RowKit
structure PX (w : World) (B px cx cf c7 c8 c9 c10 : Nat) : Prop where
  pw : PW w B px cx cf c7 c8 c9 c10
  ga : GA B w
theorem PX.kept {w w' : World} {B px cx cf c7 c8 c9 c10 : Nat} (h : PX w B px cx cf c7 c8 c9 c10) (hF : Frm [some px] w w') (hl : ∃ c, w'.heap[px]? = some (.cells c 125 (0, 0))) : PX w' B px cx cf c7 c8 c9 c10 :=
  ⟨h.pw.kept hF hl, h.ga.frm h.pw.hp h.pw.hB hF⟩
theorem PX.below {w w' : World} {B px cx cf c7 c8 c9 c10 : Nat} (h : PX w B px cx cf c7 c8 c9 c10) (hb : Below w.heap.size w w') : PX w' B px cx cf c7 c8 c9 c10 :=
  ⟨h.pw.below hb, h.ga.step (hb.mono h.pw.hB)⟩
theorem nextT {w : World} {B px cx cf c7 c8 c9 c10 : Nat} (h : PX w B px cx cf c7 c8 c9 c10) {s : ByteArray} (hs : s.size ≤ 256) {st : Tk × Nat} (hlx : LxT w px s st) (hi : StW s.data.toList.length st) :
    Calls Tryz.prog 125 #[.pointer (some ⟨px, 0, none⟩)] w fun r w' => r = .returned (.tuple #[]) ∧ Frm [some px] w w' ∧ nextR w' px s (nextE s.data.toList st.2) := by
  obtain ⟨op, kind, num, tr, text, name, vk, say, ta, en, hb⟩ := hlx.block
  have hsl : s.data.toList.length = s.size := by rw [Array.length_toList]; rfl
  exact next_any B w h.ga px h.pw.hp h.pw.hB s (by omega) st.2 (by have := hi.1; omega) _ _ _ _ _ _ _ _ _ _ hb
theorem nextX {w : World} {px : Nat} {s : ByteArray} (hs : s.size ≤ 256) {x a : Int} (hx : x ≠ 0) (hlx : LxE w px s x a) :
    Calls Tryz.prog 125 #[.pointer (some ⟨px, 0, none⟩)] w fun r w' => r = .returned (.tuple #[]) ∧ Frm [some px] w w' ∧ LxE w' px s x a := nexterr_any w px s (by omega) x a hx hlx
abbrev nilObj : Obj := .cells #[.int .u8 0, .int .u8 0, .int .i64 0, .bool false, .string ⟨#[]⟩, .string ⟨#[]⟩, .slice none 0 0] 108
theorem n7_cells {w : World} {p : Nat} {v0 v1 v2 v3 v4 v5 v6 : Value} (h : w.heap[p]? = some (.cells #[v0, v1, v2, v3, v4, v5, v6] 108 (0, 0))) :
    w.cell? ⟨p, 0, none⟩ = some v0 ∧ w.cell? ⟨p, 1, none⟩ = some v1 ∧ w.cell? ⟨p, 2, none⟩ = some v2 ∧ w.cell? ⟨p, 3, none⟩ = some v3 ∧ w.cell? ⟨p, 4, none⟩ = some v4 ∧ w.cell? ⟨p, 5, none⟩ = some v5 ∧ w.cell? ⟨p, 6, none⟩ = some v6 ∧ (∀ j, w.frozen? ⟨p, j, none⟩ = false) :=
  ⟨cell_of_block h 0, cell_of_block h 1, cell_of_block h 2, cell_of_block h 3, cell_of_block h 4, cell_of_block h 5, cell_of_block h 6, free_of_block h⟩
/-- A whole node is laid into a block. -/
abbrev set7 (W : World) (p : Nat) (v0 v1 v2 v3 v4 v5 v6 : Value) : World := ((((((W.setCell ⟨p, 0, none⟩ v0).setCell ⟨p, 1, none⟩ v1).setCell ⟨p, 2, none⟩ v2).setCell ⟨p, 3, none⟩ v3).setCell ⟨p, 4, none⟩ v4).setCell ⟨p, 5, none⟩ v5).setCell ⟨p, 6, none⟩ v6
theorem set7_frm (W : World) (p : Nat) (v0 v1 v2 v3 v4 v5 v6 : Value) : Frm [some p] W (set7 W p v0 v1 v2 v3 v4 v5 v6) :=
  (((((((Frm.refl [some p] W).setL v0 (by simp)).setL v1 (by simp)).setL v2 (by simp)).setL v3 (by simp)).setL v4 (by simp)).setL v5 (by simp)).setL v6 (by simp)
section
variable {W : World} {p : Nat} {a0 a1 a2 a3 a4 a5 a6 : Value}
theorem st_0 (h : W.heap[p]? = some (.cells #[a0, a1, a2, a3, a4, a5, a6] 108 (0, 0))) (v : Value) : (W.setCell ⟨p, 0, none⟩ v).heap[p]? = some (.cells #[v, a1, a2, a3, a4, a5, a6] 108 (0, 0)) := set_selfL v h
theorem st_1 (h : W.heap[p]? = some (.cells #[a0, a1, a2, a3, a4, a5, a6] 108 (0, 0))) (v : Value) : (W.setCell ⟨p, 1, none⟩ v).heap[p]? = some (.cells #[a0, v, a2, a3, a4, a5, a6] 108 (0, 0)) := set_selfL v h
theorem st_2 (h : W.heap[p]? = some (.cells #[a0, a1, a2, a3, a4, a5, a6] 108 (0, 0))) (v : Value) : (W.setCell ⟨p, 2, none⟩ v).heap[p]? = some (.cells #[a0, a1, v, a3, a4, a5, a6] 108 (0, 0)) := set_selfL v h
theorem st_3 (h : W.heap[p]? = some (.cells #[a0, a1, a2, a3, a4, a5, a6] 108 (0, 0))) (v : Value) : (W.setCell ⟨p, 3, none⟩ v).heap[p]? = some (.cells #[a0, a1, a2, v, a4, a5, a6] 108 (0, 0)) := set_selfL v h
theorem st_4 (h : W.heap[p]? = some (.cells #[a0, a1, a2, a3, a4, a5, a6] 108 (0, 0))) (v : Value) : (W.setCell ⟨p, 4, none⟩ v).heap[p]? = some (.cells #[a0, a1, a2, a3, v, a5, a6] 108 (0, 0)) := set_selfL v h
theorem st_5 (h : W.heap[p]? = some (.cells #[a0, a1, a2, a3, a4, a5, a6] 108 (0, 0))) (v : Value) : (W.setCell ⟨p, 5, none⟩ v).heap[p]? = some (.cells #[a0, a1, a2, a3, a4, v, a6] 108 (0, 0)) := set_selfL v h
theorem st_6 (h : W.heap[p]? = some (.cells #[a0, a1, a2, a3, a4, a5, a6] 108 (0, 0))) (v : Value) : (W.setCell ⟨p, 6, none⟩ v).heap[p]? = some (.cells #[a0, a1, a2, a3, a4, a5, v] 108 (0, 0)) := set_selfL v h
theorem set7_is (h : W.heap[p]? = some (.cells #[a0, a1, a2, a3, a4, a5, a6] 108 (0, 0))) (v0 v1 v2 v3 v4 v5 v6 : Value) : (set7 W p v0 v1 v2 v3 v4 v5 v6).heap[p]? = some (.cells #[v0, v1, v2, v3, v4, v5, v6] 108 (0, 0)) := st_6 (st_5 (st_4 (st_3 (st_2 (st_1 (st_0 h v0) v1) v2) v3) v4) v5) v6
end
/-- What from does with fuel f. -/
def FromC (s : ByteArray) (B px cx cf c7 c8 c9 c10 f : Nat) : Prop := ∀ (w : World) (line : Nat) (st : Tk × Nat), PX w B px cx cf c7 c8 c9 c10 → LxT w px s st → StW s.data.toList.length st → line ≤ 9 → mu s.data.toList.length st < f →
  Calls Tryz.prog 131 #[.int .i64 (line : Int), .pointer (some ⟨cx, 0, none⟩), .pointer (some ⟨c10, 0, none⟩), .pointer (some ⟨cf, 0, none⟩)] w (PartC w px s (prsE s.data.toList f none line st))
theorem LxE.c12 {w : World} {px : Nat} {s : ByteArray} {x a : Int} (h : LxE w px s x a) : w.cell? ⟨px, 12, none⟩ = some (.int .i64 x) := by
  obtain ⟨i, say, h1, h2, op, kind, num, tr, text, name, vk, ta, en, h3⟩ := h
  exact cell_of_block h3 12
set_option maxHeartbeats 2000000 in
/-- from behind an error. -/
theorem fromerr_any {w : World} {B px cx cf c7 c8 c9 c10 : Nat} (h : PX w B px cx cf c7 c8 c9 c10) {s : ByteArray} {x a : Int} (hx : x ≠ 0) (hlx : LxE w px s x a) (line : Int) :
    Calls Tryz.prog 131 #[.int .i64 line, .pointer (some ⟨cx, 0, none⟩), .pointer (some ⟨c10, 0, none⟩), .pointer (some ⟨cf, 0, none⟩)] w fun e w' => e = .returned (valN nilN (.slice none 0 0)) ∧ Below w.heap.size w w' := by
  obtain ⟨w1, p0, hp0, hw1, l0, n0, b0⟩ := box_new w nilObj
  have h1 := h.below b0
  obtain ⟨c, hc⟩ := hlx.lex
  have hlx1 := hlx.kept (b0.block _ (lt_of_block hc))
  have k0 : w1.cell? ⟨cx, 0, none⟩ = some (.pointer (some ⟨px, 0, none⟩)) := cell_of_block h1.pw.hx 0
  have k12 := hlx1.c12
  obtain ⟨d0, d1, d2, d3, d4, d5, d6, df⟩ := n7_cells n0
  have ex : (x != 0) = true := by rw [bne_iff_ne]; exact hx
  have HB := Lib.hid b0
  have HP := Lib.hid hp0
  clear h h1 hlx hlx1 hc b0 n0 hx
  go_enter Tryz.func131, Tryz.ntmps131
  go_wp2_with fail
  refine bodyPost_ret (v := valN nilN (.slice none 0 0)) (by simp [results, Tryz.results131, go_sem, nilN, Nd.op, Nd.v, Nd.name, Vl.zero, d0, d1, d2, d3, d4, d5, d6]) rfl ⟨rfl, ?_⟩
  exact HB.out.trans ((set7_frm w1 p0 _ _ _ _ _ _ _).toBelow HB.out.size (by intro r hr k hk; simp only [List.mem_singleton] at hr; rw [hr] at hk; injection hk with hk; have := HP.out; omega))
end Go.Proofs.YtjcaaahbfkjipaaGreatDoor
