/- Texts fused by fuse.py: KExprLexB, KExprNumber, KExprWord. -/
import Derived.Test.YtjcaaahbfkjipaaGreatDoorKZ01
import Derived.Test.YtjcaaahbfkjipaaGreatDoorKZ00
import Derived.Test.YtjcaaahbfkjipaaGreatDoorKZ04
import Derived.Test.YtjcaaahbfkjipaaGreatDoorKZ02
import Derived.Lib.ParseIntBTie
import Derived.Lib.AtoiErrMem
/- Of ExprLexB: what FRuleNames uses (shake.py). -/
set_option maxRecDepth 100000
/- The lexer's block; fail (seat expr). -/
namespace Go.Proofs.YtjcaaahbfkjipaaGreatDoor
open Go.RowKit
/-- The lexer: text, place, token (node, word, place, end), error, its place. -/
abbrev LxB (w : World) (px : Nat) (s : ByteArray) (at_ op kind num : Int) (tr : Bool) (text name : ByteArray) (vk : Value) (say : ByteArray) (ta : Int) (en : Bool) (e wh : Int) : Prop :=
  w.heap[px]? = some (.cells #[.string s, .int .i64 at_, .int .u8 op, .int .u8 kind, .int .i64 num, .bool tr, .string text, .string name, vk, .string say, .int .i64 ta, .bool en, .int .i64 e, .int .i64 wh] 125)
/-- The lexer at a place, its word and its error known. -/
def LxF (w : World) (px : Nat) (s : ByteArray) (at_ : Int) (say : ByteArray) (e wh : Int) : Prop := ∃ op kind num tr text name vk ta en, LxB w px s at_ op kind num tr text name vk say ta en e wh
/-- The lexer behind an error: its first error stands, whatever else it holds. -/
def LxE (w : World) (px : Nat) (s : ByteArray) (e wh : Int) : Prop := ∃ (a : Nat) (say : ByteArray), a ≤ s.size ∧ say.size ≤ 1000 ∧ LxF w px s a say e wh
/-- The lexer with a node for its token. -/
abbrev LxN (w : World) (px : Nat) (s : ByteArray) (at_ : Int) (n : Nd) (say : ByteArray) (ta : Int) (en : Bool) (e wh : Int) : Prop := LxB w px s at_ n.op n.v.kind n.v.num n.v.tr n.v.text n.name (.slice none 0 0) say ta en e wh
abbrev nilN : Nd := .mk 0 Vl.zero ⟨#[]⟩ []
theorem set_selfL {w : World} {b i : Nat} {c : Array Value} {t : TypeId} {fr : Nat × Nat} (v : Value) (h : w.heap[b]? = some (.cells c t fr)) : (w.setCell ⟨b, i, none⟩ v).heap[b]? = some (.cells (c.setIfInBounds i v) t fr) := by
  simp [World.setCell, Array.getElem?_modify, h]
theorem Frm.setL {S : List (Option Nat)} {w w1 : World} (h : Frm S w w1) {b i : Nat} (v : Value) (hb : some b ∈ S) : Frm S w (w1.setCell ⟨b, i, none⟩ v) := h.grown (grownBy_setCell _ _ _ _) hb
section
variable {W : World} {px : Nat} {s : ByteArray} {at_ op kind num : Int} {tr : Bool} {text name : ByteArray} {vk : Value} {say : ByteArray} {ta : Int} {en : Bool} {e wh : Int}
theorem lx_s1 (h : LxB W px s at_ op kind num tr text name vk say ta en e wh) (x : Int) : LxB (W.setCell ⟨px, 1, none⟩ (.int .i64 x)) px s x op kind num tr text name vk say ta en e wh := set_selfL _ h
theorem lx_s2 (h : LxB W px s at_ op kind num tr text name vk say ta en e wh) (x : Int) : LxB (W.setCell ⟨px, 2, none⟩ (.int .u8 x)) px s at_ x kind num tr text name vk say ta en e wh := set_selfL _ h
theorem lx_s3 (h : LxB W px s at_ op kind num tr text name vk say ta en e wh) (x : Int) : LxB (W.setCell ⟨px, 3, none⟩ (.int .u8 x)) px s at_ op x num tr text name vk say ta en e wh := set_selfL _ h
theorem lx_s4 (h : LxB W px s at_ op kind num tr text name vk say ta en e wh) (x : Int) : LxB (W.setCell ⟨px, 4, none⟩ (.int .i64 x)) px s at_ op kind x tr text name vk say ta en e wh := set_selfL _ h
theorem lx_s5 (h : LxB W px s at_ op kind num tr text name vk say ta en e wh) (x : Bool) : LxB (W.setCell ⟨px, 5, none⟩ (.bool x)) px s at_ op kind num x text name vk say ta en e wh := set_selfL _ h
theorem lx_s6 (h : LxB W px s at_ op kind num tr text name vk say ta en e wh) (x : ByteArray) : LxB (W.setCell ⟨px, 6, none⟩ (.string x)) px s at_ op kind num tr x name vk say ta en e wh := set_selfL _ h
theorem lx_s7 (h : LxB W px s at_ op kind num tr text name vk say ta en e wh) (x : ByteArray) : LxB (W.setCell ⟨px, 7, none⟩ (.string x)) px s at_ op kind num tr text x vk say ta en e wh := set_selfL _ h
theorem lx_s8 (h : LxB W px s at_ op kind num tr text name vk say ta en e wh) (x : Value) : LxB (W.setCell ⟨px, 8, none⟩ (x)) px s at_ op kind num tr text name x say ta en e wh := set_selfL _ h
theorem lx_s9 (h : LxB W px s at_ op kind num tr text name vk say ta en e wh) (x : ByteArray) : LxB (W.setCell ⟨px, 9, none⟩ (.string x)) px s at_ op kind num tr text name vk x ta en e wh := set_selfL _ h
theorem lx_s10 (h : LxB W px s at_ op kind num tr text name vk say ta en e wh) (x : Int) : LxB (W.setCell ⟨px, 10, none⟩ (.int .i64 x)) px s at_ op kind num tr text name vk say x en e wh := set_selfL _ h
theorem lx_s11 (h : LxB W px s at_ op kind num tr text name vk say ta en e wh) (x : Bool) : LxB (W.setCell ⟨px, 11, none⟩ (.bool x)) px s at_ op kind num tr text name vk say ta x e wh := set_selfL _ h
end
theorem lx_fail {W : World} {px : Nat} {s : ByteArray} {at_ op kind num : Int} {tr : Bool} {text name : ByteArray} {vk : Value} {say : ByteArray} {ta : Int} {en : Bool} {e wh : Int} (h : LxB W px s at_ op kind num tr text name vk say ta en e wh) (x a : Int) :
    LxB ((W.setCell ⟨px, 12, none⟩ (.int .i64 x)).setCell ⟨px, 13, none⟩ (.int .i64 a)) px s at_ op kind num tr text name vk say ta en x a := set_selfL _ (set_selfL _ h)
set_option maxHeartbeats 1000000 in
theorem xfail_any (w : World) (px : Nat) (s : ByteArray) (at_ op kind num : Int) (tr : Bool) (text name : ByteArray) (vk : Value) (say : ByteArray) (ta : Int) (en : Bool) (e wh : Int) (hb : LxB w px s at_ op kind num tr text name vk say ta en e wh) (x a : Int) :
    Calls Tryz.prog 128 #[.pointer (some ⟨px, 0, none⟩), .int .i64 x, .int .i64 a] w fun r w' => r = .returned (.tuple #[]) ∧ Frm [some px] w w' ∧ LxB w' px s at_ op kind num tr text name vk say ta en (if e = 0 then x else e) (if e = 0 then a else wh) := by
  have c12 : w.cell? ⟨px, 12, none⟩ = some (.int .i64 e) := cell_of_block hb 12
  have c13 : w.cell? ⟨px, 13, none⟩ = some (.int .i64 wh) := cell_of_block hb 13
  have f0 := free_of_block hb
  have HB := Lib.hid hb
  clear hb
  by_cases h0 : e = 0
  · subst h0
    rw [if_pos rfl, if_pos rfl]
    go_enter Tryz.func128, Tryz.ntmps128
    go_wp2_with fail
    refine bodyPost_end (results_none rfl _ _ _) rfl ?_
    exact ⟨rfl, ((Frm.refl _ _).setL _ (by simp)).setL _ (by simp), lx_fail HB.out x a⟩
  · have e1 : (e == 0) = false := beq_eq_false_iff_ne.2 h0
    rw [if_neg h0, if_neg h0]
    go_enter Tryz.func128, Tryz.ntmps128
    go_wp2_with fail
    refine bodyPost_end (results_none rfl _ _ _) rfl ?_
    exact ⟨rfl, Frm.refl _ _, HB.out⟩
end Go.Proofs.YtjcaaahbfkjipaaGreatDoor

/- Of ExprNumber: what FRuleNames uses (shake.py). -/
set_option maxRecDepth 100000
/- (*lexer).number (seat expr). -/
namespace Go.Proofs.YtjcaaahbfkjipaaGreatDoor
open Go.RowKit
theorem below_bytesX {w w' : World} (h : w' = w ∨ ∃ t, w' = Lib.bytesWorld w 5 t) : Below w.heap.size w w' := by
  rcases h with rfl | ⟨t, rfl⟩
  · exact Below.refl _ _
  · exact Lib.bytesWorld_below w 5 t
/-- What ParseInt answers: a number, or an error that is there. -/
theorem pint_any (w : World) (s : ByteArray) (hlim : s.size ≤ 281474976710656) (t1 p1 t2 p2 : _) (hs1 : w.cell? ⟨2, 0, none⟩ = some (.iface t1 p1)) (hs2 : w.cell? ⟨3, 0, none⟩ = some (.iface t2 p2)) :
    Calls Tryz.prog 167 #[.string s, .int .i64 10, .int .i64 64] w fun e w' => (∃ v, intE s.data.toList = some v ∧ e = .returned (.tuple #[.int .i64 v, .nilIface]) ∧ Below w.heap.size w w') ∨
      (intE s.data.toList = none ∧ ∃ (v : Int) (N : Nat), e = .returned (.tuple #[.int .i64 v, .iface 182 (.pointer (some ⟨N, 0, none⟩))]) ∧ Below w.heap.size w w') := by
  rcases h : Lib.atoiAll s.data.toList with v | _ | _
  · refine (Tryz.strconv_ParseInt_10_at64_ok s (by omega) v (by rw [Lib.parseIntB_64]; exact h) w).mono ?_
    rintro e w' ⟨rfl, hb⟩
    exact .inl ⟨v, by unfold intE; rw [h], rfl, below_bytesX hb⟩
  · refine (Tryz.strconv_ParseInt_10_at64_syntax s hlim (by rw [Lib.parseIntB_64]; exact h) _ w hs1 (Or.inr ⟨_, _, rfl⟩)).mono ?_
    rintro e w2 ⟨N, rfl, _, _, hb⟩
    exact .inr ⟨by unfold intE; rw [h], _, N, rfl, hb⟩
  · refine (Tryz.strconv_ParseInt_10_at64_range s hlim (by rw [Lib.parseIntB_64]; exact h) _ w hs2 (Or.inr ⟨_, _, rfl⟩)).mono ?_
    rintro e w2 ⟨N, rfl, _, _, hb⟩
    exact .inr ⟨by unfold intE; rw [h], _, N, rfl, hb⟩
theorem lx_node {W : World} {px : Nat} {s : ByteArray} {at_ op kind num : Int} {tr : Bool} {text name : ByteArray} {vk : Value} {say : ByteArray} {ta : Int} {en : Bool} {e wh : Int} (h : LxB W px s at_ op kind num tr text name vk say ta en e wh) (o k n : Int) (b : Bool) (t nm : ByteArray) (v : Value) :
    LxB (((((((W.setCell ⟨px, 2, none⟩ (.int .u8 o)).setCell ⟨px, 3, none⟩ (.int .u8 k)).setCell ⟨px, 4, none⟩ (.int .i64 n)).setCell ⟨px, 5, none⟩ (.bool b)).setCell ⟨px, 6, none⟩ (.string t)).setCell ⟨px, 7, none⟩ (.string nm)).setCell ⟨px, 8, none⟩ v) px s at_ o k n b t nm v say ta en e wh :=
  lx_s8 (lx_s7 (lx_s6 (lx_s5 (lx_s4 (lx_s3 (lx_s2 h o) k) n) b) t) nm) v
def numR (w : World) (px : Nat) (s : ByteArray) (at_ ta : Int) (d : ByteArray) (h0 : 0 < d.size) : Prop :=
  if d[0].toNat = 48 ∧ 1 < d.size then LxF w px s at_ ⟨#[]⟩ 4 at_ else match intE d.data.toList with
    | none => LxF w px s at_ ⟨#[]⟩ 91 at_
    | some v => LxN w px s at_ (litN (numV v)) ⟨#[]⟩ ta false 0 0
set_option maxHeartbeats 2000000 in
/-- A number's token; or the first error. -/
theorem lxnum_any (w : World) (t1 p1 t2 p2 : _) (hs1 : ∀ W, Below w.heap.size w W → W.cell? ⟨2, 0, none⟩ = some (.iface t1 p1)) (hs2 : ∀ W, Below w.heap.size w W → W.cell? ⟨3, 0, none⟩ = some (.iface t2 p2)) (px : Nat) (s : ByteArray) (at_ : Int) (ta : Int) (hb : LxB w px s at_ 0 0 0 false ⟨#[]⟩ ⟨#[]⟩ (.slice none 0 0) ⟨#[]⟩ ta false 0 0)
    (d : ByteArray) (hd : d.size ≤ 300) (h0 : 0 < d.size) :
    Calls Tryz.prog 147 #[.pointer (some ⟨px, 0, none⟩), .string d] w fun r w' => r = .returned (.tuple #[]) ∧ Frm [some px] w w' ∧
      numR w' px s at_ ta d h0 := by
  have HF := Lib.hid (xfail_any w px s at_ 0 0 0 false ⟨#[]⟩ ⟨#[]⟩ (.slice none 0 0) ⟨#[]⟩ ta false 0 0 hb)
  have c1 : w.cell? ⟨px, 1, none⟩ = some (.int .i64 at_) := cell_of_block hb 1
  have hx : d[0].toNat < 256 := d[0].toNat_lt
  by_cases hz : d[0].toNat = 48 ∧ 1 < d.size
  · have e1 : ((d[0].toNat : Int) == 48) = true := beq_iff_eq.2 (by omega)
    have e1' : (d[0].toNat == 48) = true := beq_iff_eq.2 hz.1
    have e2 : decide ((1 : Int) < (d.size : Int)) = true := decide_eq_true (by omega)
    have e2' : decide (1 < d.size) = true := decide_eq_true hz.2
    have HZ := Lib.hid hz
    clear hz
    go_enter Tryz.func147, Tryz.ntmps147
    go_wp2_with (go_at_call 128; refine (HF.out _ _).mono ?_; rintro e w2 ⟨rfl, hF2, hb2⟩)
    refine bodyPost_ret (results_none rfl _ _ _) rfl ?_
    refine ⟨rfl, hF2, ?_⟩
    have hb3 : LxB w2 px s at_ 0 0 0 false ⟨#[]⟩ ⟨#[]⟩ (.slice none 0 0) ⟨#[]⟩ ta false 4 at_ := by simpa using hb2
    unfold numR
    rw [if_pos HZ.out]
    exact ⟨_, _, _, _, _, _, _, _, _, hb3⟩
  · have hor : ((d[0].toNat : Int) == 48) = false ∧ (d[0].toNat == 48) = false ∨ ((d[0].toNat : Int) == 48) = true ∧ (d[0].toNat == 48) = true ∧ decide ((1 : Int) < (d.size : Int)) = false ∧ decide (1 < d.size) = false := by
      by_cases h48 : d[0].toNat = 48
      · exact .inr ⟨beq_iff_eq.2 (by omega), beq_iff_eq.2 h48, decide_eq_false (fun h => hz ⟨h48, by omega⟩), decide_eq_false (fun h => hz ⟨h48, h⟩)⟩
      · exact .inl ⟨beq_eq_false_iff_ne.2 (by omega), beq_eq_false_iff_ne.2 h48⟩
    have HZ := Lib.hid hz
    have HP := Lib.hid (pint_any w d (by omega) t1 p1 t2 p2 (hs1 w (Below.refl _ _)) (hs2 w (Below.refl _ _)))
    have HB := Lib.hid hb
    have hl := lt_of_block hb
    have HK := Lib.hid (fun (W : World) (h : Below w.heap.size w W) => show LxB W px s at_ 0 0 0 false ⟨#[]⟩ ⟨#[]⟩ (.slice none 0 0) ⟨#[]⟩ ta false 0 0 from (h.block _ hl).trans hb)
    have HF2 := Lib.hid (fun (W : World) (h : Below w.heap.size w W) => xfail_any W px s at_ 0 0 0 false ⟨#[]⟩ ⟨#[]⟩ (.slice none 0 0) ⟨#[]⟩ ta false 0 0 (HK.out W h))
    clear hz hs1 hs2 hb HF c1
    cases hI : intE d.data.toList with
    | none =>
      have HPn : Hid (Calls Tryz.prog 167 #[.string d, .int .i64 10, .int .i64 64] w fun e w' => ∃ (v : Int) (N : Nat), e = .returned (.tuple #[.int .i64 v, .iface 182 (.pointer (some ⟨N, 0, none⟩))]) ∧ Below w.heap.size w w') := Lib.hid (HP.out.mono (by
        rintro e w' (⟨v, hv, _⟩ | ⟨_, v, N, rfl, hb⟩)
        · rw [hI] at hv; cases hv
        · exact ⟨v, N, rfl, hb⟩))
      have HW : Hid (∀ W, LxF W px s at_ ⟨#[]⟩ 91 at_ → numR W px s at_ ta d h0) := Lib.hid (fun W h => by unfold numR; rw [if_neg HZ.out, hI]; exact h)
      clear hI
      rcases hor with ⟨e1, e1'⟩ | ⟨e1, e1', e2, e2'⟩
      all_goals
        go_enter Tryz.func147, Tryz.ntmps147
        go_wp2_with (first
          | (go_at_call 167; refine HPn.out.mono ?_; rintro e w2 ⟨v, N, rfl, hb2⟩; have HF3 := Lib.hid (HF2.out _ hb2); have hb3 := HK.out _ hb2; have c1 : w2.cell? ⟨px, 1, none⟩ = some (.int .i64 at_) := cell_of_block hb3 1; have HB2 := Lib.hid hb2; clear hb2 hb3)
          | (go_at_call 128; refine (HF3.out _ _).mono ?_; rintro e w3 ⟨rfl, hF4, hb4⟩; have hb5 : LxB w3 px s at_ 0 0 0 false ⟨#[]⟩ ⟨#[]⟩ (.slice none 0 0) ⟨#[]⟩ ta false 91 at_ := (by simpa using hb4); have f5 := free_of_block hb5; have k2 : w3.cell? ⟨px, 2, none⟩ = some (.int .u8 0) := cell_of_block hb5 2; have k3 : w3.cell? ⟨px, 3, none⟩ = some (.int .u8 0) := cell_of_block hb5 3; have k4 : w3.cell? ⟨px, 4, none⟩ = some (.int .i64 0) := cell_of_block hb5 4; have k5 : w3.cell? ⟨px, 5, none⟩ = some (.bool false) := cell_of_block hb5 5; have k6 : w3.cell? ⟨px, 6, none⟩ = some (.string ⟨#[]⟩) := cell_of_block hb5 6; have k7 : w3.cell? ⟨px, 7, none⟩ = some (.string ⟨#[]⟩) := cell_of_block hb5 7; have k8 : w3.cell? ⟨px, 8, none⟩ = some (.slice none 0 0) := cell_of_block hb5 8; have HB5 := Lib.hid hb5; have HF5 := Lib.hid ((Frm.ofBelow HB2.out).trans hF4 (by intro r hr; exact .inl hr)); clear hF4 hb4 hb5))
        refine bodyPost_end (results_none rfl _ _ _) rfl ?_
        have hz := lx_node HB5.out 1 1 v false ⟨#[]⟩ ⟨#[]⟩ (.slice none 0 0)
        refine ⟨rfl, ?_, HW.out _ ⟨_, _, _, _, _, _, _, _, _, hz⟩⟩
        exact (((((((HF5.out.setL _ (by simp)).setL _ (by simp)).setL _ (by simp)).setL _ (by simp)).setL _ (by simp)).setL _ (by simp)).setL _ (by simp))
    | some v =>
      have HPn : Hid (Calls Tryz.prog 167 #[.string d, .int .i64 10, .int .i64 64] w fun e w' => e = .returned (.tuple #[.int .i64 v, .nilIface]) ∧ Below w.heap.size w w') := Lib.hid (HP.out.mono (by
        rintro e w' (⟨v', hv, rfl, hb⟩ | ⟨hv, _⟩)
        · rw [hI] at hv; injection hv with hv; subst hv; exact ⟨rfl, hb⟩
        · rw [hI] at hv; cases hv))
      have HW : Hid (∀ W, LxN W px s at_ (litN (numV v)) ⟨#[]⟩ ta false 0 0 → numR W px s at_ ta d h0) := Lib.hid (fun W h => by unfold numR; rw [if_neg HZ.out, hI]; exact h)
      clear hI
      rcases hor with ⟨e1, e1'⟩ | ⟨e1, e1', e2, e2'⟩
      all_goals
        go_enter Tryz.func147, Tryz.ntmps147
        go_wp2_with (go_at_call 167; refine HPn.out.mono ?_; rintro e w3 ⟨rfl, hb2⟩; have hb5 := HK.out _ hb2; have f5 := free_of_block hb5; have k2 : w3.cell? ⟨px, 2, none⟩ = some (.int .u8 0) := cell_of_block hb5 2; have k3 : w3.cell? ⟨px, 3, none⟩ = some (.int .u8 0) := cell_of_block hb5 3; have k4 : w3.cell? ⟨px, 4, none⟩ = some (.int .i64 0) := cell_of_block hb5 4; have k5 : w3.cell? ⟨px, 5, none⟩ = some (.bool false) := cell_of_block hb5 5; have k6 : w3.cell? ⟨px, 6, none⟩ = some (.string ⟨#[]⟩) := cell_of_block hb5 6; have k7 : w3.cell? ⟨px, 7, none⟩ = some (.string ⟨#[]⟩) := cell_of_block hb5 7; have k8 : w3.cell? ⟨px, 8, none⟩ = some (.slice none 0 0) := cell_of_block hb5 8; have HB5 := Lib.hid hb5; have HF5 : Hid (Frm [some px] w w3) := Lib.hid (Frm.ofBelow hb2); clear hb2 hb5)
        refine bodyPost_end (results_none rfl _ _ _) rfl ?_
        have hz := lx_node HB5.out 1 1 v false ⟨#[]⟩ ⟨#[]⟩ (.slice none 0 0)
        refine ⟨rfl, ?_, HW.out _ hz⟩
        exact (((((((HF5.out.setL _ (by simp)).setL _ (by simp)).setL _ (by simp)).setL _ (by simp)).setL _ (by simp)).setL _ (by simp)).setL _ (by simp))
end Go.Proofs.YtjcaaahbfkjipaaGreatDoor

/- Of ExprWord: what FRuleNames uses (shake.py). -/
set_option maxRecDepth 100000
/- (*lexer).word (seat expr). -/
namespace Go.Proofs.YtjcaaahbfkjipaaGreatDoor
open Go.RowKit
theorem beq_dec (a b : List UInt8) : (a == b) = decide (a = b) := by rw [Bool.eq_iff_iff]; simp
def wordR (w : World) (px : Nat) (s : ByteArray) (at_ ta : Int) (d : ByteArray) : Prop :=
  if d.data.toList = [116, 114, 117, 101] then LxN w px s at_ (litN (trV true)) ⟨#[]⟩ ta false 0 0
  else if d.data.toList = [102, 97, 108, 115, 101] then LxN w px s at_ (litN (trV false)) ⟨#[]⟩ ta false 0 0
  else if keyWord d then LxN w px s at_ nilN d ta false 0 0
  else if nameB d then LxN w px s at_ (varN d) ⟨#[]⟩ ta false 0 0 else LxF w px s at_ ⟨#[]⟩ 4 at_
set_option maxHeartbeats 2000000 in
/-- A word's token; or the first error. -/
theorem lxword_any (w : World) (px : Nat) (s : ByteArray) (at_ : Int) (ta : Int) (hb : LxB w px s at_ 0 0 0 false ⟨#[]⟩ ⟨#[]⟩ (.slice none 0 0) ⟨#[]⟩ ta false 0 0) (d : ByteArray) (_hd : d.size ≤ 300) :
    Calls Tryz.prog 150 #[.pointer (some ⟨px, 0, none⟩), .string d] w fun r w' => r = .returned (.tuple #[]) ∧ Frm [some px] w w' ∧ wordR w' px s at_ ta d := by
  have hl := lt_of_block hb
  have HK := Lib.hid (fun (W : World) (h : Below w.heap.size w W) => show LxB W px s at_ 0 0 0 false ⟨#[]⟩ ⟨#[]⟩ (.slice none 0 0) ⟨#[]⟩ ta false 0 0 from (h.block _ hl).trans hb)
  have HF2 := Lib.hid (fun (W : World) (h : Below w.heap.size w W) => xfail_any W px s at_ 0 0 0 false ⟨#[]⟩ ⟨#[]⟩ (.slice none 0 0) ⟨#[]⟩ ta false 0 0 (HK.out W h))
  have HKW := Lib.hid (keyword_any w d)
  have HNM := Lib.hid (fun (W : World) (_ : Below w.heap.size w W) => name_any W d)
  have hB0 := Below.refl w.heap.size w
  clear hb
  have s1 : (d.toList == [116, 114, 117, 101]) = decide (d.data.toList = [116, 114, 117, 101]) := by rw [Lib.toList_data]; exact beq_dec _ _
  have s2 : (d.toList == [102, 97, 108, 115, 101]) = decide (d.data.toList = [102, 97, 108, 115, 101]) := by rw [Lib.toList_data]; exact beq_dec _ _
  by_cases h1 : d.data.toList = [116, 114, 117, 101]
  · have HW : Hid (∀ W, LxN W px s at_ (litN (trV true)) ⟨#[]⟩ ta false 0 0 → wordR W px s at_ ta d) := Lib.hid (fun W h => by unfold wordR; rw [if_pos h1]; exact h)
    rw [decide_eq_true h1] at s1
    clear h1 s2
    have hb5 := HK.out w hB0
    have f5 := free_of_block hb5; have k2 : w.cell? ⟨px, 2, none⟩ = some (.int .u8 0) := cell_of_block hb5 2; have k3 : w.cell? ⟨px, 3, none⟩ = some (.int .u8 0) := cell_of_block hb5 3; have k4 : w.cell? ⟨px, 4, none⟩ = some (.int .i64 0) := cell_of_block hb5 4; have k5 : w.cell? ⟨px, 5, none⟩ = some (.bool false) := cell_of_block hb5 5; have k6 : w.cell? ⟨px, 6, none⟩ = some (.string ⟨#[]⟩) := cell_of_block hb5 6; have k7 : w.cell? ⟨px, 7, none⟩ = some (.string ⟨#[]⟩) := cell_of_block hb5 7; have k8 : w.cell? ⟨px, 8, none⟩ = some (.slice none 0 0) := cell_of_block hb5 8
    have HB5 := Lib.hid hb5
    clear hb5
    go_enter Tryz.func150, Tryz.ntmps150
    go_wp2_with fail
    refine bodyPost_end (results_none rfl _ _ _) rfl ?_
    have hz := lx_node HB5.out 1 2 0 true ⟨#[]⟩ ⟨#[]⟩ (.slice none 0 0)
    refine ⟨rfl, ?_, HW.out _ hz⟩
    exact ((((((((Frm.refl _ _).setL _ (by simp)).setL _ (by simp)).setL _ (by simp)).setL _ (by simp)).setL _ (by simp)).setL _ (by simp)).setL _ (by simp))
  · by_cases h2 : d.data.toList = [102, 97, 108, 115, 101]
    · have HW : Hid (∀ W, LxN W px s at_ (litN (trV false)) ⟨#[]⟩ ta false 0 0 → wordR W px s at_ ta d) := Lib.hid (fun W h => by unfold wordR; rw [if_neg h1, if_pos h2]; exact h)
      rw [decide_eq_false h1] at s1
      rw [decide_eq_true h2] at s2
      clear h1 h2
      have hb5 := HK.out w hB0
      have f5 := free_of_block hb5; have k2 : w.cell? ⟨px, 2, none⟩ = some (.int .u8 0) := cell_of_block hb5 2; have k3 : w.cell? ⟨px, 3, none⟩ = some (.int .u8 0) := cell_of_block hb5 3; have k4 : w.cell? ⟨px, 4, none⟩ = some (.int .i64 0) := cell_of_block hb5 4; have k5 : w.cell? ⟨px, 5, none⟩ = some (.bool false) := cell_of_block hb5 5; have k6 : w.cell? ⟨px, 6, none⟩ = some (.string ⟨#[]⟩) := cell_of_block hb5 6; have k7 : w.cell? ⟨px, 7, none⟩ = some (.string ⟨#[]⟩) := cell_of_block hb5 7; have k8 : w.cell? ⟨px, 8, none⟩ = some (.slice none 0 0) := cell_of_block hb5 8
      have HB5 := Lib.hid hb5
      clear hb5
      go_enter Tryz.func150, Tryz.ntmps150
      go_wp2_with fail
      refine bodyPost_end (results_none rfl _ _ _) rfl ?_
      have hz := lx_node HB5.out 1 2 0 false ⟨#[]⟩ ⟨#[]⟩ (.slice none 0 0)
      refine ⟨rfl, ?_, HW.out _ hz⟩
      exact ((((((((Frm.refl _ _).setL _ (by simp)).setL _ (by simp)).setL _ (by simp)).setL _ (by simp)).setL _ (by simp)).setL _ (by simp)).setL _ (by simp))
    · rw [decide_eq_false h1] at s1
      rw [decide_eq_false h2] at s2
      have HO : Hid (¬ d.data.toList = [116, 114, 117, 101] ∧ ¬ d.data.toList = [102, 97, 108, 115, 101]) := Lib.hid ⟨h1, h2⟩
      clear h1 h2
      cases hk : keyWord d with
      | true =>
        have HW : Hid (∀ W, LxN W px s at_ nilN d ta false 0 0 → wordR W px s at_ ta d) := Lib.hid (fun W h => by unfold wordR; rw [if_neg HO.out.1, if_neg HO.out.2, if_pos hk]; exact h)
        rw [hk] at HKW
        clear hk
        go_enter Tryz.func150, Tryz.ntmps150
        go_wp2_with (go_at_call 153; refine HKW.out.mono ?_; rintro e w3 ⟨rfl, hb2⟩; have hb5 := HK.out _ hb2; have f5 := free_of_block hb5; have k9 : w3.cell? ⟨px, 9, none⟩ = some (.string ⟨#[]⟩) := cell_of_block hb5 9; have HB5 := Lib.hid hb5; have HF5 : Hid (Frm [some px] w w3) := Lib.hid (Frm.ofBelow hb2); clear hb2 hb5)
        refine bodyPost_end (results_none rfl _ _ _) rfl ?_
        exact ⟨rfl, HF5.out.setL _ (by simp), HW.out _ (lx_s9 HB5.out _)⟩
      | false =>
        cases hn : nameB d with
        | true =>
          have HW : Hid (∀ W, LxN W px s at_ (varN d) ⟨#[]⟩ ta false 0 0 → wordR W px s at_ ta d) := Lib.hid (fun W h => by unfold wordR; rw [if_neg HO.out.1, if_neg HO.out.2, if_neg (by rw [hk]; decide), if_pos hn]; exact h)
          rw [hk] at HKW
          rw [hn] at HNM
          clear hk hn
          go_enter Tryz.func150, Tryz.ntmps150
          go_wp2_with (first
            | (go_at_call 153; refine HKW.out.mono ?_; rintro e w2 ⟨rfl, hb2⟩; have HB2 := Lib.hid hb2; clear hb2)
            | (go_at_call 57; refine (HNM.out _ HB2.out).mono ?_; rintro e w3 ⟨rfl, hb3⟩; have hb4 := HB2.out.trans (hb3.mono HB2.out.size); have hb5 := HK.out _ hb4; have f5 := free_of_block hb5; have k2 : w3.cell? ⟨px, 2, none⟩ = some (.int .u8 0) := cell_of_block hb5 2; have k3 : w3.cell? ⟨px, 3, none⟩ = some (.int .u8 0) := cell_of_block hb5 3; have k4 : w3.cell? ⟨px, 4, none⟩ = some (.int .i64 0) := cell_of_block hb5 4; have k5 : w3.cell? ⟨px, 5, none⟩ = some (.bool false) := cell_of_block hb5 5; have k6 : w3.cell? ⟨px, 6, none⟩ = some (.string ⟨#[]⟩) := cell_of_block hb5 6; have k7 : w3.cell? ⟨px, 7, none⟩ = some (.string ⟨#[]⟩) := cell_of_block hb5 7; have k8 : w3.cell? ⟨px, 8, none⟩ = some (.slice none 0 0) := cell_of_block hb5 8; have HB5 := Lib.hid hb5; have HF5 : Hid (Frm [some px] w w3) := Lib.hid (Frm.ofBelow hb4); clear hb3 hb4 hb5))
          refine bodyPost_end (results_none rfl _ _ _) rfl ?_
          have hz := lx_node HB5.out 2 0 0 false ⟨#[]⟩ d (.slice none 0 0)
          refine ⟨rfl, ?_, HW.out _ hz⟩
          exact (((((((HF5.out.setL _ (by simp)).setL _ (by simp)).setL _ (by simp)).setL _ (by simp)).setL _ (by simp)).setL _ (by simp)).setL _ (by simp))
        | false =>
          have HW : Hid (∀ W, LxF W px s at_ ⟨#[]⟩ 4 at_ → wordR W px s at_ ta d) := Lib.hid (fun W h => by unfold wordR; rw [if_neg HO.out.1, if_neg HO.out.2, if_neg (by rw [hk]; decide), if_neg (by rw [hn]; decide)]; exact h)
          rw [hk] at HKW
          rw [hn] at HNM
          clear hk hn
          go_enter Tryz.func150, Tryz.ntmps150
          go_wp2_with (first
            | (go_at_call 153; refine HKW.out.mono ?_; rintro e w2 ⟨rfl, hb2⟩; have HB2 := Lib.hid hb2; clear hb2)
            | (go_at_call 57; refine (HNM.out _ HB2.out).mono ?_; rintro e w3 ⟨rfl, hb3⟩; have hb4 := HB2.out.trans (hb3.mono HB2.out.size); have HF3 := Lib.hid (HF2.out _ hb4); have hb5 := HK.out _ hb4; have c1 : w3.cell? ⟨px, 1, none⟩ = some (.int .i64 at_) := cell_of_block hb5 1; have HF5 : Hid (Frm [some px] w w3) := Lib.hid (Frm.ofBelow hb4); clear hb3 hb4 hb5)
            | (go_at_call 128; refine (HF3.out _ _).mono ?_; rintro e w4 ⟨rfl, hF4, hb4⟩; have HB4 := Lib.hid (And.intro hF4 hb4); clear hF4 hb4))
          refine bodyPost_end (results_none rfl _ _ _) rfl ?_
          refine ⟨rfl, HF5.out.trans HB4.out.1 (by intro r hr; exact .inl hr), HW.out _ ?_⟩
          have hb5 : LxB w4 px s at_ 0 0 0 false ⟨#[]⟩ ⟨#[]⟩ (.slice none 0 0) ⟨#[]⟩ ta false 4 at_ := by simpa using HB4.out.2
          exact ⟨_, _, _, _, _, _, _, _, _, hb5⟩
end Go.Proofs.YtjcaaahbfkjipaaGreatDoor
