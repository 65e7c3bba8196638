/- Of ExprLexB: what XFAs uses (shake.py). -/
import Derived.Test.YtbephgifbghilaaGreatDoorKExprParseP
import Derived.Test.YtbephgifbghilaaGreatDoorKBase
import Derived.Test.YtbephgifbghilaaGreatDoorKStepOwn
import Derived.Test.YtbephgifbghilaaGreatDoorKEvalMem
/- The lexer's block; fail (seat expr). -/
set_option maxRecDepth 100000
namespace Go.Proofs.YtbephgifbghilaaGreatDoor
open Go.RowKit
/-- The lexer: text, place, token (node, word, place, end), error, its place. -/
abbrev LxB (w : World) (px : Nat) (s : ByteArray) (at_ op kind num : Int) (tr : Bool) (text name : ByteArray) (vk : Value) (say : ByteArray) (ta : Int) (en : Bool) (e wh : Int) : Prop :=
  w.heap[px]? = some (.cells #[.string s, .int .i64 at_, .int .u8 op, .int .u8 kind, .int .i64 num, .bool tr, .string text, .string name, vk, .string say, .int .i64 ta, .bool en, .int .i64 e, .int .i64 wh] 79)
/-- The lexer at a place, its word and its error known. -/
def LxF (w : World) (px : Nat) (s : ByteArray) (at_ : Int) (say : ByteArray) (e wh : Int) : Prop := ∃ op kind num tr text name vk ta en, LxB w px s at_ op kind num tr text name vk say ta en e wh
/-- The lexer behind an error: its first error stands, whatever else it holds. -/
def LxE (w : World) (px : Nat) (s : ByteArray) (e wh : Int) : Prop := ∃ (a : Nat) (say : ByteArray), a ≤ s.size ∧ say.size ≤ 1000 ∧ LxF w px s a say e wh
/-- The lexer with a node for its token. -/
abbrev LxN (w : World) (px : Nat) (s : ByteArray) (at_ : Int) (n : Nd) (say : ByteArray) (ta : Int) (en : Bool) (e wh : Int) : Prop := LxB w px s at_ n.op n.v.kind n.v.num n.v.tr n.v.text n.name (.slice none 0 0) say ta en e wh
abbrev nilN : Nd := .mk 0 Vl.zero ⟨#[]⟩ []
theorem set_selfL {w : World} {b i : Nat} {c : Array Value} {t : TypeId} {fr : Nat × Nat} (v : Value) (h : w.heap[b]? = some (.cells c t fr)) : (w.setCell ⟨b, i, none⟩ v).heap[b]? = some (.cells (c.setIfInBounds i v) t fr) := by
  simp [World.setCell, Array.getElem?_modify, h]
theorem Frm.setL {S : List (Option Nat)} {w w1 : World} (h : Frm S w w1) {b i : Nat} (v : Value) (hb : some b ∈ S) : Frm S w (w1.setCell ⟨b, i, none⟩ v) := h.grown (grownBy_setCell _ _ _ _) hb
section
variable {W : World} {px : Nat} {s : ByteArray} {at_ op kind num : Int} {tr : Bool} {text name : ByteArray} {vk : Value} {say : ByteArray} {ta : Int} {en : Bool} {e wh : Int}
theorem lx_s1 (h : LxB W px s at_ op kind num tr text name vk say ta en e wh) (x : Int) : LxB (W.setCell ⟨px, 1, none⟩ (.int .i64 x)) px s x op kind num tr text name vk say ta en e wh := set_selfL _ h
theorem lx_s2 (h : LxB W px s at_ op kind num tr text name vk say ta en e wh) (x : Int) : LxB (W.setCell ⟨px, 2, none⟩ (.int .u8 x)) px s at_ x kind num tr text name vk say ta en e wh := set_selfL _ h
theorem lx_s3 (h : LxB W px s at_ op kind num tr text name vk say ta en e wh) (x : Int) : LxB (W.setCell ⟨px, 3, none⟩ (.int .u8 x)) px s at_ op x num tr text name vk say ta en e wh := set_selfL _ h
theorem lx_s4 (h : LxB W px s at_ op kind num tr text name vk say ta en e wh) (x : Int) : LxB (W.setCell ⟨px, 4, none⟩ (.int .i64 x)) px s at_ op kind x tr text name vk say ta en e wh := set_selfL _ h
theorem lx_s5 (h : LxB W px s at_ op kind num tr text name vk say ta en e wh) (x : Bool) : LxB (W.setCell ⟨px, 5, none⟩ (.bool x)) px s at_ op kind num x text name vk say ta en e wh := set_selfL _ h
theorem lx_s6 (h : LxB W px s at_ op kind num tr text name vk say ta en e wh) (x : ByteArray) : LxB (W.setCell ⟨px, 6, none⟩ (.string x)) px s at_ op kind num tr x name vk say ta en e wh := set_selfL _ h
theorem lx_s7 (h : LxB W px s at_ op kind num tr text name vk say ta en e wh) (x : ByteArray) : LxB (W.setCell ⟨px, 7, none⟩ (.string x)) px s at_ op kind num tr text x vk say ta en e wh := set_selfL _ h
theorem lx_s8 (h : LxB W px s at_ op kind num tr text name vk say ta en e wh) (x : Value) : LxB (W.setCell ⟨px, 8, none⟩ (x)) px s at_ op kind num tr text name x say ta en e wh := set_selfL _ h
theorem lx_s9 (h : LxB W px s at_ op kind num tr text name vk say ta en e wh) (x : ByteArray) : LxB (W.setCell ⟨px, 9, none⟩ (.string x)) px s at_ op kind num tr text name vk x ta en e wh := set_selfL _ h
theorem lx_s10 (h : LxB W px s at_ op kind num tr text name vk say ta en e wh) (x : Int) : LxB (W.setCell ⟨px, 10, none⟩ (.int .i64 x)) px s at_ op kind num tr text name vk say x en e wh := set_selfL _ h
theorem lx_s11 (h : LxB W px s at_ op kind num tr text name vk say ta en e wh) (x : Bool) : LxB (W.setCell ⟨px, 11, none⟩ (.bool x)) px s at_ op kind num tr text name vk say ta x e wh := set_selfL _ h
end
theorem lx_fail {W : World} {px : Nat} {s : ByteArray} {at_ op kind num : Int} {tr : Bool} {text name : ByteArray} {vk : Value} {say : ByteArray} {ta : Int} {en : Bool} {e wh : Int} (h : LxB W px s at_ op kind num tr text name vk say ta en e wh) (x a : Int) :
    LxB ((W.setCell ⟨px, 12, none⟩ (.int .i64 x)).setCell ⟨px, 13, none⟩ (.int .i64 a)) px s at_ op kind num tr text name vk say ta en x a := set_selfL _ (set_selfL _ h)
set_option maxHeartbeats 1000000 in
theorem xfail_any (w : World) (px : Nat) (s : ByteArray) (at_ op kind num : Int) (tr : Bool) (text name : ByteArray) (vk : Value) (say : ByteArray) (ta : Int) (en : Bool) (e wh : Int) (hb : LxB w px s at_ op kind num tr text name vk say ta en e wh) (x a : Int) :
    Calls Tryz.prog 39 #[.pointer (some ⟨px, 0, none⟩), .int .i64 x, .int .i64 a] w fun r w' => r = .returned (.tuple #[]) ∧ Frm [some px] w w' ∧ LxB w' px s at_ op kind num tr text name vk say ta en (if e = 0 then x else e) (if e = 0 then a else wh) := by
  have c12 : w.cell? ⟨px, 12, none⟩ = some (.int .i64 e) := cell_of_block hb 12
  have c13 : w.cell? ⟨px, 13, none⟩ = some (.int .i64 wh) := cell_of_block hb 13
  have f0 := free_of_block hb
  have HB := Lib.hid hb
  clear hb
  by_cases h0 : e = 0
  · subst h0
    rw [if_pos rfl, if_pos rfl]
    go_enter Tryz.func39, Tryz.ntmps39
    go_wp2_with fail
    refine bodyPost_end (results_none rfl _ _ _) rfl ?_
    exact ⟨rfl, ((Frm.refl _ _).setL _ (by simp)).setL _ (by simp), lx_fail HB.out x a⟩
  · have e1 : (e == 0) = false := beq_eq_false_iff_ne.2 h0
    rw [if_neg h0, if_neg h0]
    go_enter Tryz.func39, Tryz.ntmps39
    go_wp2_with fail
    refine bodyPost_end (results_none rfl _ _ _) rfl ?_
    exact ⟨rfl, Frm.refl _ _, HB.out⟩
end Go.Proofs.YtbephgifbghilaaGreatDoor
