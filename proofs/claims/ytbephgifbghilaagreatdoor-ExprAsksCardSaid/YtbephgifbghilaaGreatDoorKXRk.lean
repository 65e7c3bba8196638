/- Of XRk: what XFAs uses (shake.py). -/
import Derived.Test.YtbephgifbghilaaGreatDoorKEvalReck2
import Derived.Test.YtbephgifbghilaaGreatDoorKEvalReck4
import Derived.Test.YtbephgifbghilaaGreatDoorKEvalLawQ
import Derived.Test.YtbephgifbghilaaGreatDoorKShelf
import Derived.Test.YtbephgifbghilaaGreatDoorKExprNumber
import Derived.Test.YtbephgifbghilaaGreatDoorKExprBuild
import Derived.Test.YtbephgifbghilaaGreatDoorKEvalVal2
import Derived.Shelf.Strings.BuilderF
/- Texts fused by fuse.py: EvalReck5, EvalReck6, EvalReck7, EvalCheck, ExprWord, ExprText. -/
/- (*reckoner).eval at every node; printed by gen_evalreck5.py. -/
set_option maxRecDepth 100000
namespace Go.Proofs.YtbephgifbghilaaGreatDoor
open Go.RowKit
end Go.Proofs.YtbephgifbghilaaGreatDoor
/- (*reckoner).eval at every node: the ways joined. -/
set_option maxRecDepth 100000
namespace Go.Proofs.YtbephgifbghilaaGreatDoor
open Go.RowKit
section
variable {w0 : World} {B0 B1 : Nat} {S : List (Option Nat)} {J : List ByteArray → World → Prop} {rp mb fid : Nat} {caps : Array Value} {vv : Value} {l : List Bd}
end
end Go.Proofs.YtbephgifbghilaaGreatDoor
/- (*reckoner).eval at every node. -/
set_option maxRecDepth 100000
namespace Go.Proofs.YtbephgifbghilaaGreatDoor
open Go.RowKit
section
variable {w0 : World} {B0 B1 : Nat} {S : List (Option Nat)} {J : List ByteArray → World → Prop} {rp mb fid : Nat} {caps : Array Value} {vv : Value} {l : List Bd}
end
end Go.Proofs.YtbephgifbghilaaGreatDoor
/- expr.Check. -/
set_option maxRecDepth 100000
namespace Go.Proofs.YtbephgifbghilaaGreatDoor
open Go.RowKit
theorem kids_any (w : World) (op : Int) : Calls Tryz.prog 46 #[.int .u8 op] w fun e w' => e = .returned (.int .i64 (kidsN op)) ∧ w = w' := by
  by_cases h1 : op < 1
  · have d1 : decide (op < 1) = true := decide_eq_true h1
    rw [show kidsN op = -1 by unfold kidsN; rw [if_pos (Or.inl h1)]]
    go_enter Tryz.func46, Tryz.ntmps46
    go_wp2_with fail
    go_ret
    exact ⟨rfl, rfl⟩
  · have d1 : decide (op < 1) = false := decide_eq_false h1
    by_cases h2 : 17 < op
    · have d2 : decide (17 < op) = true := decide_eq_true h2
      rw [show kidsN op = -1 by unfold kidsN; rw [if_pos (Or.inr h2)]]
      go_enter Tryz.func46, Tryz.ntmps46
      go_wp2_with fail
      go_ret
      exact ⟨rfl, rfl⟩
    · have d2 : decide (17 < op) = false := decide_eq_false h2
      have h12 : ¬ (op < 1 ∨ 17 < op) := by omega
      by_cases h3 : op ≤ 2
      · have d3 : decide (op ≤ 2) = true := decide_eq_true h3
        rw [show kidsN op = 0 by unfold kidsN; rw [if_neg h12, if_pos h3]]
        clear h12
        go_enter Tryz.func46, Tryz.ntmps46
        go_wp2_with fail
        go_ret
        exact ⟨rfl, rfl⟩
      · have d3 : decide (op ≤ 2) = false := decide_eq_false h3
        by_cases h4 : op ≤ 4
        · have d4 : decide (op ≤ 4) = true := decide_eq_true h4
          rw [show kidsN op = 1 by unfold kidsN; rw [if_neg h12, if_neg h3, if_pos h4]]
          clear h12
          go_enter Tryz.func46, Tryz.ntmps46
          go_wp2_with fail
          go_ret
          exact ⟨rfl, rfl⟩
        · have d4 : decide (op ≤ 4) = false := decide_eq_false h4
          rw [show kidsN op = 2 by unfold kidsN; rw [if_neg h12, if_neg h3, if_neg h4]]
          clear h12
          go_enter Tryz.func46, Tryz.ntmps46
          go_wp2_with fail
          go_ret
          exact ⟨rfl, rfl⟩
def keyZ : List ByteArray := [⟨#[97, 110, 100]⟩, ⟨#[111, 114]⟩, ⟨#[110, 111, 116]⟩, ⟨#[116, 114, 117, 101]⟩, ⟨#[102, 97, 108, 115, 101]⟩]
theorem keyZ_is (s : ByteArray) : Lib.containsS keyZ s = keyWord s := by
  rw [Bool.eq_iff_iff, Lib.containsS_iff]
  unfold keyWord
  rw [List.contains_iff_mem]
  have hb : ∀ (a : ByteArray) (b : Array UInt8), a = ⟨b⟩ ↔ a.data.toList = b.toList := fun a b => ⟨fun h => by rw [h], fun h => by cases a; exact congrArg ByteArray.mk (Array.ext' h)⟩
  simp only [keyZ, keyL, List.mem_cons, List.not_mem_nil, or_false, hb]
theorem keyword_any (w : World) (s : ByteArray) : Calls Tryz.prog 49 #[.string s] w fun e w' => e = .returned (.bool (keyWord s)) ∧ Below w.heap.size w w' := by
  obtain ⟨w1, p0, hp0, hw1, l1, n1, b1⟩ := box_new w (.cells #[.string ⟨#[97, 110, 100]⟩, .string ⟨#[111, 114]⟩, .string ⟨#[110, 111, 116]⟩, .string ⟨#[116, 114, 117, 101]⟩, .string ⟨#[102, 97, 108, 115, 101]⟩] 9)
  have hc := Tryz.slices_Contains_string p0 0 5 5 keyZ s w1 (by decide) (by decide) (by
    intro j hj
    rw [cell_of_block n1, Nat.zero_add]
    have : j = 0 ∨ j = 1 ∨ j = 2 ∨ j = 3 ∨ j = 4 := by simp [keyZ] at hj; omega
    rcases this with rfl | rfl | rfl | rfl | rfl <;> rfl)
  rw [show keyZ.take 5 = keyZ from rfl, keyZ_is] at hc
  have HC := Lib.hid hc
  have HB := Lib.hid b1
  obtain ⟨r, hr⟩ : ∃ r, keyWord s = r := ⟨_, rfl⟩
  rw [hr] at HC ⊢
  clear hc b1 n1 hr
  go_enter Tryz.func49, Tryz.ntmps49
  go_wp2_with (go_at_call 84; refine HC.out.mono ?_; rintro e w2 ⟨rfl, rfl⟩; refine Hid.out ?_)
  refine Lib.hid ?_
  go_wp2_with fail
  go_ret
  exact ⟨rfl, by first | exact HB.out | (rw [hp0]; exact HB.out)⟩
end Go.Proofs.YtbephgifbghilaaGreatDoor
/- (*lexer).word (seat expr). -/
set_option maxRecDepth 100000
namespace Go.Proofs.YtbephgifbghilaaGreatDoor
open Go.RowKit
theorem beq_dec (a b : List UInt8) : (a == b) = decide (a = b) := by rw [Bool.eq_iff_iff]; simp
def wordR (w : World) (px : Nat) (s : ByteArray) (at_ ta : Int) (d : ByteArray) : Prop :=
  if d.data.toList = [116, 114, 117, 101] then LxN w px s at_ (litN (trV true)) ⟨#[]⟩ ta false 0 0
  else if d.data.toList = [102, 97, 108, 115, 101] then LxN w px s at_ (litN (trV false)) ⟨#[]⟩ ta false 0 0
  else if keyWord d then LxN w px s at_ nilN d ta false 0 0
  else if nameB d then LxN w px s at_ (varN d) ⟨#[]⟩ ta false 0 0 else LxF w px s at_ ⟨#[]⟩ 4 at_
set_option maxHeartbeats 2000000 in
/-- A word's token; or the first error. -/
theorem lxword_any (w : World) (px : Nat) (s : ByteArray) (at_ : Int) (ta : Int) (hb : LxB w px s at_ 0 0 0 false ⟨#[]⟩ ⟨#[]⟩ (.slice none 0 0) ⟨#[]⟩ ta false 0 0) (d : ByteArray) (_hd : d.size ≤ 300) :
    Calls Tryz.prog 76 #[.pointer (some ⟨px, 0, none⟩), .string d] w fun r w' => r = .returned (.tuple #[]) ∧ Frm [some px] w w' ∧ wordR w' px s at_ ta d := by
  have hl := lt_of_block hb
  have HK := Lib.hid (fun (W : World) (h : Below w.heap.size w W) => show LxB W px s at_ 0 0 0 false ⟨#[]⟩ ⟨#[]⟩ (.slice none 0 0) ⟨#[]⟩ ta false 0 0 from (h.block _ hl).trans hb)
  have HF2 := Lib.hid (fun (W : World) (h : Below w.heap.size w W) => xfail_any W px s at_ 0 0 0 false ⟨#[]⟩ ⟨#[]⟩ (.slice none 0 0) ⟨#[]⟩ ta false 0 0 (HK.out W h))
  have HKW := Lib.hid (keyword_any w d)
  have HNM := Lib.hid (fun (W : World) (_ : Below w.heap.size w W) => name_any W d)
  have hB0 := Below.refl w.heap.size w
  clear hb
  have s1 : (d.toList == [116, 114, 117, 101]) = decide (d.data.toList = [116, 114, 117, 101]) := by rw [Lib.toList_data]; exact beq_dec _ _
  have s2 : (d.toList == [102, 97, 108, 115, 101]) = decide (d.data.toList = [102, 97, 108, 115, 101]) := by rw [Lib.toList_data]; exact beq_dec _ _
  by_cases h1 : d.data.toList = [116, 114, 117, 101]
  · have HW : Hid (∀ W, LxN W px s at_ (litN (trV true)) ⟨#[]⟩ ta false 0 0 → wordR W px s at_ ta d) := Lib.hid (fun W h => by unfold wordR; rw [if_pos h1]; exact h)
    rw [decide_eq_true h1] at s1
    clear h1 s2
    have hb5 := HK.out w hB0
    have f5 := free_of_block hb5; have k2 : w.cell? ⟨px, 2, none⟩ = some (.int .u8 0) := cell_of_block hb5 2; have k3 : w.cell? ⟨px, 3, none⟩ = some (.int .u8 0) := cell_of_block hb5 3; have k4 : w.cell? ⟨px, 4, none⟩ = some (.int .i64 0) := cell_of_block hb5 4; have k5 : w.cell? ⟨px, 5, none⟩ = some (.bool false) := cell_of_block hb5 5; have k6 : w.cell? ⟨px, 6, none⟩ = some (.string ⟨#[]⟩) := cell_of_block hb5 6; have k7 : w.cell? ⟨px, 7, none⟩ = some (.string ⟨#[]⟩) := cell_of_block hb5 7; have k8 : w.cell? ⟨px, 8, none⟩ = some (.slice none 0 0) := cell_of_block hb5 8
    have HB5 := Lib.hid hb5
    clear hb5
    go_enter Tryz.func76, Tryz.ntmps76
    go_wp2_with fail
    refine bodyPost_end (results_none rfl _ _ _) rfl ?_
    have hz := lx_node HB5.out 1 2 0 true ⟨#[]⟩ ⟨#[]⟩ (.slice none 0 0)
    refine ⟨rfl, ?_, HW.out _ hz⟩
    exact ((((((((Frm.refl _ _).setL _ (by simp)).setL _ (by simp)).setL _ (by simp)).setL _ (by simp)).setL _ (by simp)).setL _ (by simp)).setL _ (by simp))
  · by_cases h2 : d.data.toList = [102, 97, 108, 115, 101]
    · have HW : Hid (∀ W, LxN W px s at_ (litN (trV false)) ⟨#[]⟩ ta false 0 0 → wordR W px s at_ ta d) := Lib.hid (fun W h => by unfold wordR; rw [if_neg h1, if_pos h2]; exact h)
      rw [decide_eq_false h1] at s1
      rw [decide_eq_true h2] at s2
      clear h1 h2
      have hb5 := HK.out w hB0
      have f5 := free_of_block hb5; have k2 : w.cell? ⟨px, 2, none⟩ = some (.int .u8 0) := cell_of_block hb5 2; have k3 : w.cell? ⟨px, 3, none⟩ = some (.int .u8 0) := cell_of_block hb5 3; have k4 : w.cell? ⟨px, 4, none⟩ = some (.int .i64 0) := cell_of_block hb5 4; have k5 : w.cell? ⟨px, 5, none⟩ = some (.bool false) := cell_of_block hb5 5; have k6 : w.cell? ⟨px, 6, none⟩ = some (.string ⟨#[]⟩) := cell_of_block hb5 6; have k7 : w.cell? ⟨px, 7, none⟩ = some (.string ⟨#[]⟩) := cell_of_block hb5 7; have k8 : w.cell? ⟨px, 8, none⟩ = some (.slice none 0 0) := cell_of_block hb5 8
      have HB5 := Lib.hid hb5
      clear hb5
      go_enter Tryz.func76, Tryz.ntmps76
      go_wp2_with fail
      refine bodyPost_end (results_none rfl _ _ _) rfl ?_
      have hz := lx_node HB5.out 1 2 0 false ⟨#[]⟩ ⟨#[]⟩ (.slice none 0 0)
      refine ⟨rfl, ?_, HW.out _ hz⟩
      exact ((((((((Frm.refl _ _).setL _ (by simp)).setL _ (by simp)).setL _ (by simp)).setL _ (by simp)).setL _ (by simp)).setL _ (by simp)).setL _ (by simp))
    · rw [decide_eq_false h1] at s1
      rw [decide_eq_false h2] at s2
      have HO : Hid (¬ d.data.toList = [116, 114, 117, 101] ∧ ¬ d.data.toList = [102, 97, 108, 115, 101]) := Lib.hid ⟨h1, h2⟩
      clear h1 h2
      cases hk : keyWord d with
      | true =>
        have HW : Hid (∀ W, LxN W px s at_ nilN d ta false 0 0 → wordR W px s at_ ta d) := Lib.hid (fun W h => by unfold wordR; rw [if_neg HO.out.1, if_neg HO.out.2, if_pos hk]; exact h)
        rw [hk] at HKW
        clear hk
        go_enter Tryz.func76, Tryz.ntmps76
        go_wp2_with (go_at_call 49; refine HKW.out.mono ?_; rintro e w3 ⟨rfl, hb2⟩; have hb5 := HK.out _ hb2; have f5 := free_of_block hb5; have k9 : w3.cell? ⟨px, 9, none⟩ = some (.string ⟨#[]⟩) := cell_of_block hb5 9; have HB5 := Lib.hid hb5; have HF5 : Hid (Frm [some px] w w3) := Lib.hid (Frm.ofBelow hb2); clear hb2 hb5)
        refine bodyPost_end (results_none rfl _ _ _) rfl ?_
        exact ⟨rfl, HF5.out.setL _ (by simp), HW.out _ (lx_s9 HB5.out _)⟩
      | false =>
        cases hn : nameB d with
        | true =>
          have HW : Hid (∀ W, LxN W px s at_ (varN d) ⟨#[]⟩ ta false 0 0 → wordR W px s at_ ta d) := Lib.hid (fun W h => by unfold wordR; rw [if_neg HO.out.1, if_neg HO.out.2, if_neg (by rw [hk]; decide), if_pos hn]; exact h)
          rw [hk] at HKW
          rw [hn] at HNM
          clear hk hn
          go_enter Tryz.func76, Tryz.ntmps76
          go_wp2_with (first
            | (go_at_call 49; refine HKW.out.mono ?_; rintro e w2 ⟨rfl, hb2⟩; have HB2 := Lib.hid hb2; clear hb2)
            | (go_at_call 48; refine (HNM.out _ HB2.out).mono ?_; rintro e w3 ⟨rfl, hb3⟩; have hb4 := HB2.out.trans (hb3.mono HB2.out.size); have hb5 := HK.out _ hb4; have f5 := free_of_block hb5; have k2 : w3.cell? ⟨px, 2, none⟩ = some (.int .u8 0) := cell_of_block hb5 2; have k3 : w3.cell? ⟨px, 3, none⟩ = some (.int .u8 0) := cell_of_block hb5 3; have k4 : w3.cell? ⟨px, 4, none⟩ = some (.int .i64 0) := cell_of_block hb5 4; have k5 : w3.cell? ⟨px, 5, none⟩ = some (.bool false) := cell_of_block hb5 5; have k6 : w3.cell? ⟨px, 6, none⟩ = some (.string ⟨#[]⟩) := cell_of_block hb5 6; have k7 : w3.cell? ⟨px, 7, none⟩ = some (.string ⟨#[]⟩) := cell_of_block hb5 7; have k8 : w3.cell? ⟨px, 8, none⟩ = some (.slice none 0 0) := cell_of_block hb5 8; have HB5 := Lib.hid hb5; have HF5 : Hid (Frm [some px] w w3) := Lib.hid (Frm.ofBelow hb4); clear hb3 hb4 hb5))
          refine bodyPost_end (results_none rfl _ _ _) rfl ?_
          have hz := lx_node HB5.out 2 0 0 false ⟨#[]⟩ d (.slice none 0 0)
          refine ⟨rfl, ?_, HW.out _ hz⟩
          exact (((((((HF5.out.setL _ (by simp)).setL _ (by simp)).setL _ (by simp)).setL _ (by simp)).setL _ (by simp)).setL _ (by simp)).setL _ (by simp))
        | false =>
          have HW : Hid (∀ W, LxF W px s at_ ⟨#[]⟩ 4 at_ → wordR W px s at_ ta d) := Lib.hid (fun W h => by unfold wordR; rw [if_neg HO.out.1, if_neg HO.out.2, if_neg (by rw [hk]; decide), if_neg (by rw [hn]; decide)]; exact h)
          rw [hk] at HKW
          rw [hn] at HNM
          clear hk hn
          go_enter Tryz.func76, Tryz.ntmps76
          go_wp2_with (first
            | (go_at_call 49; refine HKW.out.mono ?_; rintro e w2 ⟨rfl, hb2⟩; have HB2 := Lib.hid hb2; clear hb2)
            | (go_at_call 48; refine (HNM.out _ HB2.out).mono ?_; rintro e w3 ⟨rfl, hb3⟩; have hb4 := HB2.out.trans (hb3.mono HB2.out.size); have HF3 := Lib.hid (HF2.out _ hb4); have hb5 := HK.out _ hb4; have c1 : w3.cell? ⟨px, 1, none⟩ = some (.int .i64 at_) := cell_of_block hb5 1; have HF5 : Hid (Frm [some px] w w3) := Lib.hid (Frm.ofBelow hb4); clear hb3 hb4 hb5)
            | (go_at_call 39; refine (HF3.out _ _).mono ?_; rintro e w4 ⟨rfl, hF4, hb4⟩; have HB4 := Lib.hid (And.intro hF4 hb4); clear hF4 hb4))
          refine bodyPost_end (results_none rfl _ _ _) rfl ?_
          refine ⟨rfl, HF5.out.trans HB4.out.1 (by intro r hr; exact .inl hr), HW.out _ ?_⟩
          have hb5 : LxB w4 px s at_ 0 0 0 false ⟨#[]⟩ ⟨#[]⟩ (.slice none 0 0) ⟨#[]⟩ ta false 4 at_ := by simpa using HB4.out.2
          exact ⟨_, _, _, _, _, _, _, _, _, hb5⟩
end Go.Proofs.YtbephgifbghilaaGreatDoor
/- (*lexer).text (seat expr). -/
set_option maxRecDepth 100000
namespace Go.Proofs.YtbephgifbghilaaGreatDoor
open Go.RowKit
def textR (w : World) (px : Nat) (s : ByteArray) (at_ : Int) (ta : Int) (r : List UInt8) : Prop :=
  match textE 1 [] r with
  | none => LxF w px s at_ ⟨#[]⟩ 4 at_
  | some (t, n) => if Lib.validD t then LxN w px s (at_ + ((n : Nat) : Int)) (litN (txV ⟨t.toArray⟩)) ⟨#[]⟩ ta false 0 0 else LxF w px s at_ ⟨#[]⟩ 4 at_
theorem textE_other {c : UInt8} (h : c ≠ 39) (i : Nat) (acc r : List UInt8) : textE i acc (c :: r) = textE (i + 1) (acc ++ [c]) r := by
  rw [textE] <;> intros <;> contradiction
theorem textE_stop {c : UInt8} (h : c ≠ 39) (i : Nat) (acc r : List UInt8) : textE i acc (39 :: c :: r) = some (acc, i + 1) := by
  rw [textE] <;> intros <;> contradiction
abbrev BuF (B b : Nat) (bs : List Value) (w : World) : Prop := Lib.IsBuilderF 151 5 B b bs w
theorem BuF.kept {w w' : World} {B b : Nat} {bs : List Value} (h : BuF B b bs w) (hb : Below w.heap.size w w') : BuF B b bs w' := by
  rcases h with h | h
  · obtain ⟨h1, v, h2, h3, h4⟩ := h
    exact .inl ⟨h1, v, (hb.block b (lt_of_block h2)).trans h2, World.ownsRowF.kept (row := none) h3 ⟨hb.os, hb.tape, hb.output, hb.size, fun k hk _ => hb.block k hk⟩ (Classical.em _), h4⟩
  · obtain ⟨h1, v, h2, h3, h4⟩ := h
    exact .inr ⟨h1, v, (hb.block b (lt_of_block h2)).trans h2, World.ownsRowF.kept (row := none) h3 ⟨hb.os, hb.tape, hb.output, hb.size, fun k hk _ => hb.block k hk⟩ (Classical.em _), h4⟩
theorem byte39 {c : UInt8} : c = 39 ↔ c.toNat = 39 := ⟨fun h => by rw [h]; rfl, fun h => UInt8.toNat_inj.1 h⟩
set_option maxHeartbeats 4000000 in
/-- A text's token; or the first error. -/
theorem lxtext_any (w : World) (hT : Tabs8 w) (px : Nat) (s : ByteArray) (at_ : Int) (ha0 : 0 ≤ at_) (ta : Int) (hb : LxB w px s at_ 0 0 0 false ⟨#[]⟩ ⟨#[]⟩ (.slice none 0 0) ⟨#[]⟩ ta false 0 0) (d : ByteArray) (hd : at_ + (d.size : Int) ≤ 1000) (h0 : 1 ≤ d.size) :
    Calls Tryz.prog 77 #[.pointer (some ⟨px, 0, none⟩), .string d] w fun r w' => r = .returned (.tuple #[]) ∧ Frm [some px] w w' ∧ textR w' px s at_ ta (d.data.toList.drop 1) := by
  have hl := lt_of_block hb
  have HK := Lib.hid (fun (W : World) (h : Below w.heap.size w W) => show LxB W px s at_ 0 0 0 false ⟨#[]⟩ ⟨#[]⟩ (.slice none 0 0) ⟨#[]⟩ ta false 0 0 from (h.block _ hl).trans hb)
  have HF2 := Lib.hid (fun (W : World) (h : Below w.heap.size w W) => xfail_any W px s at_ 0 0 0 false ⟨#[]⟩ ⟨#[]⟩ (.slice none 0 0) ⟨#[]⟩ ta false 0 0 (HK.out W h))
  have hlen : d.data.toList.length = d.size := by rw [Array.length_toList]; rfl
  have HL := Lib.hid hlen
  have HB0 := Lib.hid (bu_new w)
  have hb0 := (Below.refl w.heap.size w).alloc (Nat.le_refl _) (.cells #[.pointer none, .slice none 0 0] 151)
  obtain ⟨R, hR⟩ : ∃ R, textE 1 [] (d.data.toList.drop 1) = R := ⟨_, rfl⟩
  have HW : Hid (∀ W, (match R with
      | none => LxF W px s at_ ⟨#[]⟩ 4 at_
      | some (t, n) => if Lib.validD t then LxN W px s (at_ + ((n : Nat) : Int)) (litN (txV ⟨t.toArray⟩)) ⟨#[]⟩ ta false 0 0 else LxF W px s at_ ⟨#[]⟩ 4 at_) → textR W px s at_ ta (d.data.toList.drop 1)) := Lib.hid (fun W h => by unfold textR; rw [hR]; exact h)
  have HR0 := Lib.hid hR
  have HT := Lib.hid hT
  clear hlen hb hR hT
  go_enter Tryz.func77, Tryz.ntmps77
  go_wp2_with fail
  go_loopg [5] d.size (fun gh s5 wr => ∃ (k : Nat) (acc : List UInt8), 1 ≤ k ∧ k ≤ d.size ∧ d.size ≤ k + gh ∧ s5 = .int .i64 (k : Int) ∧ Hid (Bu w.heap.size w.heap.size (Lib.byteCells acc) wr) ∧ Hid (textE k acc (d.data.toList.drop k) = R) ∧ Below w.heap.size w wr ∧ acc.length ≤ k)
  case atStart => exact ⟨1, [], by omega, by omega, by omega, rfl, HB0, HR0, hb0, by simp⟩
  case round =>
    clear HB0 hb0 HR0
    obtain ⟨k, acc, hk1, hkd, hkg, rfl, hbu, hRk, hbel, hacc⟩ := hrel
    have hsz := hbel.size
    have hbl : (Lib.byteCells acc).length ≤ k := by simp [Lib.byteCells]; omega
    have HKr := Lib.hid (HK.out wr hbel)
    have HFr := Lib.hid (HF2.out wr hbel)
    have hc1 : wr.cell? ⟨px, 1, none⟩ = some (.int .i64 at_) := cell_of_block HKr.out 1
    by_cases hk : k < d.size
    · have hdr : d.data.toList.drop k = d[k] :: d.data.toList.drop (k + 1) := by
        rw [List.drop_eq_getElem_cons (by rw [HL.out]; exact hk)]; rfl
      obtain ⟨c, hc⟩ : ∃ c, d[k] = c := ⟨_, rfl⟩
      have e0 : decide (k < d.size) = true := decide_eq_true hk
      have e0' : decide ((k : Int) < (d.size : Int)) = true := decide_eq_true (by omega)
      rw [hdr, hc] at hRk
      clear hdr
      by_cases h39 : c.toNat = 39
      · have g1 : ((c.toNat : Int) == 39) = true := beq_iff_eq.2 (by omega)
        have g1' : (c.toNat == 39) = true := beq_iff_eq.2 h39
        have hc39 := byte39.2 h39
        rw [hc39] at hRk
        have HC := Lib.hid hc39
        clear hc39 h39
        by_cases hpair : ∃ h : k + 1 < d.size, (d[k + 1]).toNat = 39
        · obtain ⟨hk2, h392⟩ := hpair
          have hdr : d.data.toList.drop (k + 1) = d[k + 1] :: d.data.toList.drop (k + 2) := by
            rw [List.drop_eq_getElem_cons (by rw [HL.out]; exact hk2)]; rfl
          obtain ⟨c2, hc2⟩ : ∃ c2, d[k + 1] = c2 := ⟨_, rfl⟩
          rw [hdr, hc2] at hRk
          rw [hc2] at h392
          clear hdr
          have e2 : ((k : Int) + 1 == (d.size : Int)) = false := beq_eq_false_iff_ne.2 (by omega)
          have e2' : (k + 1 == d.size) = false := beq_eq_false_iff_ne.2 (by omega)
          have e3 : decide ((k : Int) + 1 < (d.size : Int)) = true := decide_eq_true (by omega)
          have e3' : decide (k + 1 < d.size) = true := decide_eq_true hk2
          have g2 : ((c2.toNat : Int) != 39) = false := by rw [bne_eq_false_iff_eq]; omega
          have g2' : (c2.toNat != 39) = false := by rw [bne_eq_false_iff_eq]; omega
          have hc39 := byte39.2 h392
          rw [hc39] at hRk
          have hRn : Hid (textE (k + 2) (acc ++ [39]) (d.data.toList.drop (k + 2)) = R) := Lib.hid (by have := hRk.out; rw [textE] at this; exact this)
          have hval : Hid ((c2.toNat : Int) = 39) := Lib.hid (by omega)
          clear hc39 h392 hRk
          have HBU := Lib.hid (fun (v : Int) => bu_putb w.heap.size w.heap.size _ v wr hbu.out (by omega) hsz)
          go_wp2_with (go_at_call 108; refine (HBU.out _).mono ?_; rintro e w2 ⟨rfl, hbu2, hb2⟩)
          go_roundg (gk - 1)
          case measure => omega
          case rel =>
            refine ⟨k + 2, acc ++ [39], by omega, by omega, by omega, by go_num, ?_, hRn, hbel.trans hb2, by simp; omega⟩
            refine Lib.hid (Or.inr ?_)
            rw [Lib.byteCells_append]
            rw [hval.out] at hbu2
            exact hbu2
        · have hRn : Hid (some (acc, k + 1) = R) := Lib.hid (by
            have := hRk.out
            by_cases hk2 : k + 1 < d.size
            · have hdr : d.data.toList.drop (k + 1) = d[k + 1] :: d.data.toList.drop (k + 2) := by
                rw [List.drop_eq_getElem_cons (by rw [HL.out]; exact hk2)]; rfl
              rw [hdr, textE_stop (fun e => hpair ⟨hk2, byte39.1 e⟩)] at this
              exact this
            · rw [List.drop_eq_nil_of_le (by rw [HL.out]; omega), textE] at this
              exact this)
          have hor : (((k : Int) + 1 == (d.size : Int)) = true ∧ (k + 1 == d.size) = true) ∨ (((k : Int) + 1 == (d.size : Int)) = false ∧ (k + 1 == d.size) = false ∧ decide ((k : Int) + 1 < (d.size : Int)) = true ∧ decide (k + 1 < d.size) = true ∧ ∃ (h : k + 1 < d.size) (c2 : UInt8), d[k + 1] = c2 ∧ ((c2.toNat : Int) != 39) = true ∧ (c2.toNat != 39) = true) := by
            by_cases hk2 : k + 1 < d.size
            · refine .inr ⟨beq_eq_false_iff_ne.2 (by omega), beq_eq_false_iff_ne.2 (by omega), decide_eq_true (by omega), decide_eq_true hk2, hk2, _, rfl, ?_, ?_⟩
              · rw [bne_iff_ne]; intro e; exact hpair ⟨hk2, by omega⟩
              · rw [bne_iff_ne]; intro e; exact hpair ⟨hk2, e⟩
            · exact .inl ⟨beq_iff_eq.2 (by omega), beq_iff_eq.2 (by omega)⟩
          clear hpair hRk
          have HS := Lib.hid (fun (W : World) (h : BuF w.heap.size w.heap.size (Lib.byteCells acc) W ∧ Below w.heap.size w W) => Any.Builder_String_any_f Tryz.lays169 Tryz.Builder_Extra_169 w.heap.size w.heap.size acc W h.1 h.2.size)
          have HU : Hid (∀ W : World, Below w.heap.size w W → Calls Tryz.prog 82 #[.string ⟨acc.toArray⟩] W fun e w' => e = .returned (.bool (Lib.validD acc)) ∧ Below W.heap.size W w') := Lib.hid (fun W h => by
            have := utf8_any W ⟨acc.toArray⟩ (by show acc.toArray.size ≤ _; simp; omega) (Utf8Tabs_below HT.out h)
            simpa using this)
          have cur : Hid (BuF w.heap.size w.heap.size (Lib.byteCells acc) wr ∧ Below w.heap.size w wr) := Lib.hid ⟨Lib.IsBuilderF.of hbu.out, hbel⟩
          cases hv : Lib.validD acc with
          | true =>
            have HW2 : Hid (∀ W, LxN W px s (at_ + ((k + 1 : Nat) : Int)) (litN (txV ⟨acc.toArray⟩)) ⟨#[]⟩ ta false 0 0 → textR W px s at_ ta (d.data.toList.drop 1)) := Lib.hid (fun W h => HW.out W (by rw [← hRn.out]; simp only; rw [if_pos hv]; exact h))
            rw [hv] at HU
            clear hv hRn
            rcases hor with ⟨e2, e2'⟩ | ⟨e2, e2', e3, e3', hk2, c2, hc2, g2, g2'⟩
            all_goals
              go_wp2_with (first
                | (go_at_call 107; refine (HS.out _ cur.out).mono ?_; rintro e w1 ⟨rfl, hbf1, hb1⟩; have cur := Lib.hid (And.intro hbf1 (cur.out.2.trans hb1)); clear hbf1 hb1; have hb5 := HK.out _ cur.out.2; have f5 := free_of_block hb5; have k1 : w1.cell? ⟨px, 1, none⟩ = some (.int .i64 at_) := cell_of_block hb5 1; have k2 : w1.cell? ⟨px, 2, none⟩ = some (.int .u8 0) := cell_of_block hb5 2; have k3 : w1.cell? ⟨px, 3, none⟩ = some (.int .u8 0) := cell_of_block hb5 3; have k4 : w1.cell? ⟨px, 4, none⟩ = some (.int .i64 0) := cell_of_block hb5 4; have k5 : w1.cell? ⟨px, 5, none⟩ = some (.bool false) := cell_of_block hb5 5; have k6 : w1.cell? ⟨px, 6, none⟩ = some (.string ⟨#[]⟩) := cell_of_block hb5 6; have k7 : w1.cell? ⟨px, 7, none⟩ = some (.string ⟨#[]⟩) := cell_of_block hb5 7; have k8 : w1.cell? ⟨px, 8, none⟩ = some (.slice none 0 0) := cell_of_block hb5 8; have HB5 := Lib.hid hb5; have HF5 : Hid (Frm [some px] w w1) := Lib.hid (Frm.ofBelow cur.out.2); clear hb5)
                | (go_at_call 82; refine (HU.out _ cur.out.2).mono ?_; rintro e w3 ⟨rfl, hb3⟩; have cur := Lib.hid (And.intro (BuF.kept cur.out.1 hb3) (cur.out.2.trans (hb3.mono cur.out.2.size))); clear hb3))
              refine bodyPost_ret (results_none rfl _ _ _) rfl ?_
              have hz := lx_s1 (lx_node HB5.out 1 3 0 false ⟨acc.toArray⟩ ⟨#[]⟩ (.slice none 0 0)) (at_ + ((k : Int) + 1))
              refine ⟨rfl, ((((((((HF5.out.setL _ (by simp)).setL _ (by simp)).setL _ (by simp)).setL _ (by simp)).setL _ (by simp)).setL _ (by simp)).setL _ (by simp)).setL _ (by simp)), HW2.out _ ?_⟩
              have en : (at_ + ((k + 1 : Nat) : Int)) = at_ + ((k : Int) + 1) := by omega
              rw [en]
              exact hz
          | false =>
            have HW2 : Hid (∀ W, LxF W px s at_ ⟨#[]⟩ 4 at_ → textR W px s at_ ta (d.data.toList.drop 1)) := Lib.hid (fun W h => HW.out W (by rw [← hRn.out]; simp only; rw [if_neg (by rw [hv]; decide)]; exact h))
            rw [hv] at HU
            clear hv hRn
            rcases hor with ⟨e2, e2'⟩ | ⟨e2, e2', e3, e3', hk2, c2, hc2, g2, g2'⟩
            all_goals
              go_wp2_with (first
                | (go_at_call 107; refine (HS.out _ cur.out).mono ?_; rintro e w1 ⟨rfl, hbf1, hb1⟩; have cur := Lib.hid (And.intro hbf1 (cur.out.2.trans hb1)); clear hbf1 hb1)
                | (go_at_call 82; refine (HU.out _ cur.out.2).mono ?_; rintro e w3 ⟨rfl, hb3⟩; have hbw := cur.out.2.trans (hb3.mono cur.out.2.size); clear hb3; have HF3 := Lib.hid (HF2.out _ hbw); have hb5 := HK.out _ hbw; have c1 : w3.cell? ⟨px, 1, none⟩ = some (.int .i64 at_) := cell_of_block hb5 1; have HF5 : Hid (Frm [some px] w w3) := Lib.hid (Frm.ofBelow hbw); clear hb5)
                | (go_at_call 39; refine (HF3.out _ _).mono ?_; rintro e w4 ⟨rfl, hF4, hb4⟩; have HB4 := Lib.hid (And.intro hF4 hb4); clear hF4 hb4))
              refine bodyPost_end (results_none rfl _ _ _) rfl ?_
              refine ⟨rfl, HF5.out.trans HB4.out.1 (by intro r hr; exact .inl hr), HW2.out _ ?_⟩
              have hb5 : LxB w4 px s at_ 0 0 0 false ⟨#[]⟩ ⟨#[]⟩ (.slice none 0 0) ⟨#[]⟩ ta false 4 at_ := by simpa using HB4.out.2
              exact ⟨_, _, _, _, _, _, _, _, _, hb5⟩
      · have g1 : ((c.toNat : Int) == 39) = false := beq_eq_false_iff_ne.2 (by omega)
        have g1' : (c.toNat == 39) = false := beq_eq_false_iff_ne.2 h39
        have hRn : Hid (textE (k + 1) (acc ++ [c]) (d.data.toList.drop (k + 1)) = R) := Lib.hid (by have := hRk.out; rw [textE_other (fun e => h39 (byte39.1 e))] at this; exact this)
        clear hRk h39
        have HBU := Lib.hid (fun (v : Int) => bu_putb w.heap.size w.heap.size _ v wr hbu.out (by omega) hsz)
        go_wp2_with (go_at_call 108; refine (HBU.out _).mono ?_; rintro e w2 ⟨rfl, hbu2, hb2⟩)
        go_roundg (gk - 1)
        case measure => omega
        case rel =>
          refine ⟨k + 1, acc ++ [c], by omega, by omega, by omega, by go_num, ?_, hRn, hbel.trans hb2, by simp; omega⟩
          refine Lib.hid (Or.inr ?_)
          rw [Lib.byteCells_append]
          exact hbu2
    · have e0 : decide (k < d.size) = false := decide_eq_false hk
      have e0' : decide ((k : Int) < (d.size : Int)) = false := decide_eq_false (by omega)
      have HW2 : Hid (∀ W, LxF W px s at_ ⟨#[]⟩ 4 at_ → textR W px s at_ ta (d.data.toList.drop 1)) := Lib.hid (fun W h => HW.out W (by
        have := hRk.out
        rw [List.drop_eq_nil_of_le (by rw [HL.out]; omega), textE] at this
        rw [← this]
        exact h))
      clear hRk hk
      go_wp2_with (go_at_call 39; refine (HFr.out _ _).mono ?_; rintro e w4 ⟨rfl, hF4, hb4⟩; have HB4 := Lib.hid (And.intro hF4 hb4); clear hF4 hb4)
      refine bodyPost_end (results_none rfl _ _ _) rfl ?_
      refine ⟨rfl, (Frm.ofBelow hbel).trans HB4.out.1 (by intro r hr; exact .inl hr), HW2.out _ ?_⟩
      have hb5 : LxB w4 px s at_ 0 0 0 false ⟨#[]⟩ ⟨#[]⟩ (.slice none 0 0) ⟨#[]⟩ ta false 4 at_ := by simpa using HB4.out.2
      exact ⟨_, _, _, _, _, _, _, _, _, hb5⟩
end Go.Proofs.YtbephgifbghilaaGreatDoor
