/- Of ExprNumber: what XFAs uses (shake.py). -/
import Derived.Test.YtbephgifbghilaaGreatDoorKExprLexB
import Derived.Test.YtbephgifbghilaaGreatDoorKShelf
import Derived.Lib.ParseIntBTie
import Derived.Lib.AtoiErrMem
/- (*lexer).number (seat expr). -/
set_option maxRecDepth 100000
namespace Go.Proofs.YtbephgifbghilaaGreatDoor
open Go.RowKit
theorem below_bytesX {w w' : World} (h : w' = w ∨ ∃ t, w' = Lib.bytesWorld w 5 t) : Below w.heap.size w w' := by
  rcases h with rfl | ⟨t, rfl⟩
  · exact Below.refl _ _
  · exact Lib.bytesWorld_below w 5 t
/-- What ParseInt answers: a number, or an error that is there. -/
theorem pint_any (w : World) (s : ByteArray) (hlim : s.size ≤ 281474976710656) (t1 p1 t2 p2 : _) (hs1 : w.cell? ⟨3, 0, none⟩ = some (.iface t1 p1)) (hs2 : w.cell? ⟨4, 0, none⟩ = some (.iface t2 p2)) :
    Calls Tryz.prog 106 #[.string s, .int .i64 10, .int .i64 64] w fun e w' => (∃ v, intE s.data.toList = some v ∧ e = .returned (.tuple #[.int .i64 v, .nilIface]) ∧ Below w.heap.size w w') ∨
      (intE s.data.toList = none ∧ ∃ (v : Int) (N : Nat), e = .returned (.tuple #[.int .i64 v, .iface 219 (.pointer (some ⟨N, 0, none⟩))]) ∧ Below w.heap.size w w') := by
  rcases h : Lib.atoiAll s.data.toList with v | _ | _
  · refine (Tryz.strconv_ParseInt_10_at64_ok s (by omega) v (by rw [Lib.parseIntB_64]; exact h) w).mono ?_
    rintro e w' ⟨rfl, hb⟩
    exact .inl ⟨v, by unfold intE; rw [h], rfl, below_bytesX hb⟩
  · refine (Tryz.strconv_ParseInt_10_at64_syntax s hlim (by rw [Lib.parseIntB_64]; exact h) _ w hs1 (Or.inr ⟨_, _, rfl⟩)).mono ?_
    rintro e w2 ⟨N, rfl, _, _, hb⟩
    exact .inr ⟨by unfold intE; rw [h], _, N, rfl, hb⟩
  · refine (Tryz.strconv_ParseInt_10_at64_range s hlim (by rw [Lib.parseIntB_64]; exact h) _ w hs2 (Or.inr ⟨_, _, rfl⟩)).mono ?_
    rintro e w2 ⟨N, rfl, _, _, hb⟩
    exact .inr ⟨by unfold intE; rw [h], _, N, rfl, hb⟩
theorem lx_node {W : World} {px : Nat} {s : ByteArray} {at_ op kind num : Int} {tr : Bool} {text name : ByteArray} {vk : Value} {say : ByteArray} {ta : Int} {en : Bool} {e wh : Int} (h : LxB W px s at_ op kind num tr text name vk say ta en e wh) (o k n : Int) (b : Bool) (t nm : ByteArray) (v : Value) :
    LxB (((((((W.setCell ⟨px, 2, none⟩ (.int .u8 o)).setCell ⟨px, 3, none⟩ (.int .u8 k)).setCell ⟨px, 4, none⟩ (.int .i64 n)).setCell ⟨px, 5, none⟩ (.bool b)).setCell ⟨px, 6, none⟩ (.string t)).setCell ⟨px, 7, none⟩ (.string nm)).setCell ⟨px, 8, none⟩ v) px s at_ o k n b t nm v say ta en e wh :=
  lx_s8 (lx_s7 (lx_s6 (lx_s5 (lx_s4 (lx_s3 (lx_s2 h o) k) n) b) t) nm) v
def numR (w : World) (px : Nat) (s : ByteArray) (at_ ta : Int) (d : ByteArray) (h0 : 0 < d.size) : Prop :=
  if d[0].toNat = 48 ∧ 1 < d.size then LxF w px s at_ ⟨#[]⟩ 4 at_ else match intE d.data.toList with
    | none => LxF w px s at_ ⟨#[]⟩ 91 at_
    | some v => LxN w px s at_ (litN (numV v)) ⟨#[]⟩ ta false 0 0
set_option maxHeartbeats 2000000 in
/-- A number's token; or the first error. -/
theorem lxnum_any (w : World) (t1 p1 t2 p2 : _) (hs1 : ∀ W, Below w.heap.size w W → W.cell? ⟨3, 0, none⟩ = some (.iface t1 p1)) (hs2 : ∀ W, Below w.heap.size w W → W.cell? ⟨4, 0, none⟩ = some (.iface t2 p2)) (px : Nat) (s : ByteArray) (at_ : Int) (ta : Int) (hb : LxB w px s at_ 0 0 0 false ⟨#[]⟩ ⟨#[]⟩ (.slice none 0 0) ⟨#[]⟩ ta false 0 0)
    (d : ByteArray) (hd : d.size ≤ 300) (h0 : 0 < d.size) :
    Calls Tryz.prog 73 #[.pointer (some ⟨px, 0, none⟩), .string d] w fun r w' => r = .returned (.tuple #[]) ∧ Frm [some px] w w' ∧
      numR w' px s at_ ta d h0 := by
  have HF := Lib.hid (xfail_any w px s at_ 0 0 0 false ⟨#[]⟩ ⟨#[]⟩ (.slice none 0 0) ⟨#[]⟩ ta false 0 0 hb)
  have c1 : w.cell? ⟨px, 1, none⟩ = some (.int .i64 at_) := cell_of_block hb 1
  have hx : d[0].toNat < 256 := d[0].toNat_lt
  by_cases hz : d[0].toNat = 48 ∧ 1 < d.size
  · have e1 : ((d[0].toNat : Int) == 48) = true := beq_iff_eq.2 (by omega)
    have e1' : (d[0].toNat == 48) = true := beq_iff_eq.2 hz.1
    have e2 : decide ((1 : Int) < (d.size : Int)) = true := decide_eq_true (by omega)
    have e2' : decide (1 < d.size) = true := decide_eq_true hz.2
    have HZ := Lib.hid hz
    clear hz
    go_enter Tryz.func73, Tryz.ntmps73
    go_wp2_with (go_at_call 39; refine (HF.out _ _).mono ?_; rintro e w2 ⟨rfl, hF2, hb2⟩)
    refine bodyPost_ret (results_none rfl _ _ _) rfl ?_
    refine ⟨rfl, hF2, ?_⟩
    have hb3 : LxB w2 px s at_ 0 0 0 false ⟨#[]⟩ ⟨#[]⟩ (.slice none 0 0) ⟨#[]⟩ ta false 4 at_ := by simpa using hb2
    unfold numR
    rw [if_pos HZ.out]
    exact ⟨_, _, _, _, _, _, _, _, _, hb3⟩
  · have hor : ((d[0].toNat : Int) == 48) = false ∧ (d[0].toNat == 48) = false ∨ ((d[0].toNat : Int) == 48) = true ∧ (d[0].toNat == 48) = true ∧ decide ((1 : Int) < (d.size : Int)) = false ∧ decide (1 < d.size) = false := by
      by_cases h48 : d[0].toNat = 48
      · exact .inr ⟨beq_iff_eq.2 (by omega), beq_iff_eq.2 h48, decide_eq_false (fun h => hz ⟨h48, by omega⟩), decide_eq_false (fun h => hz ⟨h48, h⟩)⟩
      · exact .inl ⟨beq_eq_false_iff_ne.2 (by omega), beq_eq_false_iff_ne.2 h48⟩
    have HZ := Lib.hid hz
    have HP := Lib.hid (pint_any w d (by omega) t1 p1 t2 p2 (hs1 w (Below.refl _ _)) (hs2 w (Below.refl _ _)))
    have HB := Lib.hid hb
    have hl := lt_of_block hb
    have HK := Lib.hid (fun (W : World) (h : Below w.heap.size w W) => show LxB W px s at_ 0 0 0 false ⟨#[]⟩ ⟨#[]⟩ (.slice none 0 0) ⟨#[]⟩ ta false 0 0 from (h.block _ hl).trans hb)
    have HF2 := Lib.hid (fun (W : World) (h : Below w.heap.size w W) => xfail_any W px s at_ 0 0 0 false ⟨#[]⟩ ⟨#[]⟩ (.slice none 0 0) ⟨#[]⟩ ta false 0 0 (HK.out W h))
    clear hz hs1 hs2 hb HF c1
    cases hI : intE d.data.toList with
    | none =>
      have HPn : Hid (Calls Tryz.prog 106 #[.string d, .int .i64 10, .int .i64 64] w fun e w' => ∃ (v : Int) (N : Nat), e = .returned (.tuple #[.int .i64 v, .iface 219 (.pointer (some ⟨N, 0, none⟩))]) ∧ Below w.heap.size w w') := Lib.hid (HP.out.mono (by
        rintro e w' (⟨v, hv, _⟩ | ⟨_, v, N, rfl, hb⟩)
        · rw [hI] at hv; cases hv
        · exact ⟨v, N, rfl, hb⟩))
      have HW : Hid (∀ W, LxF W px s at_ ⟨#[]⟩ 91 at_ → numR W px s at_ ta d h0) := Lib.hid (fun W h => by unfold numR; rw [if_neg HZ.out, hI]; exact h)
      clear hI
      rcases hor with ⟨e1, e1'⟩ | ⟨e1, e1', e2, e2'⟩
      all_goals
        go_enter Tryz.func73, Tryz.ntmps73
        go_wp2_with (first
          | (go_at_call 106; refine HPn.out.mono ?_; rintro e w2 ⟨v, N, rfl, hb2⟩; have HF3 := Lib.hid (HF2.out _ hb2); have hb3 := HK.out _ hb2; have c1 : w2.cell? ⟨px, 1, none⟩ = some (.int .i64 at_) := cell_of_block hb3 1; have HB2 := Lib.hid hb2; clear hb2 hb3)
          | (go_at_call 39; refine (HF3.out _ _).mono ?_; rintro e w3 ⟨rfl, hF4, hb4⟩; have hb5 : LxB w3 px s at_ 0 0 0 false ⟨#[]⟩ ⟨#[]⟩ (.slice none 0 0) ⟨#[]⟩ ta false 91 at_ := (by simpa using hb4); have f5 := free_of_block hb5; have k2 : w3.cell? ⟨px, 2, none⟩ = some (.int .u8 0) := cell_of_block hb5 2; have k3 : w3.cell? ⟨px, 3, none⟩ = some (.int .u8 0) := cell_of_block hb5 3; have k4 : w3.cell? ⟨px, 4, none⟩ = some (.int .i64 0) := cell_of_block hb5 4; have k5 : w3.cell? ⟨px, 5, none⟩ = some (.bool false) := cell_of_block hb5 5; have k6 : w3.cell? ⟨px, 6, none⟩ = some (.string ⟨#[]⟩) := cell_of_block hb5 6; have k7 : w3.cell? ⟨px, 7, none⟩ = some (.string ⟨#[]⟩) := cell_of_block hb5 7; have k8 : w3.cell? ⟨px, 8, none⟩ = some (.slice none 0 0) := cell_of_block hb5 8; have HB5 := Lib.hid hb5; have HF5 := Lib.hid ((Frm.ofBelow HB2.out).trans hF4 (by intro r hr; exact .inl hr)); clear hF4 hb4 hb5))
        refine bodyPost_end (results_none rfl _ _ _) rfl ?_
        have hz := lx_node HB5.out 1 1 v false ⟨#[]⟩ ⟨#[]⟩ (.slice none 0 0)
        refine ⟨rfl, ?_, HW.out _ ⟨_, _, _, _, _, _, _, _, _, hz⟩⟩
        exact (((((((HF5.out.setL _ (by simp)).setL _ (by simp)).setL _ (by simp)).setL _ (by simp)).setL _ (by simp)).setL _ (by simp)).setL _ (by simp))
    | some v =>
      have HPn : Hid (Calls Tryz.prog 106 #[.string d, .int .i64 10, .int .i64 64] w fun e w' => e = .returned (.tuple #[.int .i64 v, .nilIface]) ∧ Below w.heap.size w w') := Lib.hid (HP.out.mono (by
        rintro e w' (⟨v', hv, rfl, hb⟩ | ⟨hv, _⟩)
        · rw [hI] at hv; injection hv with hv; subst hv; exact ⟨rfl, hb⟩
        · rw [hI] at hv; cases hv))
      have HW : Hid (∀ W, LxN W px s at_ (litN (numV v)) ⟨#[]⟩ ta false 0 0 → numR W px s at_ ta d h0) := Lib.hid (fun W h => by unfold numR; rw [if_neg HZ.out, hI]; exact h)
      clear hI
      rcases hor with ⟨e1, e1'⟩ | ⟨e1, e1', e2, e2'⟩
      all_goals
        go_enter Tryz.func73, Tryz.ntmps73
        go_wp2_with (go_at_call 106; refine HPn.out.mono ?_; rintro e w3 ⟨rfl, hb2⟩; have hb5 := HK.out _ hb2; have f5 := free_of_block hb5; have k2 : w3.cell? ⟨px, 2, none⟩ = some (.int .u8 0) := cell_of_block hb5 2; have k3 : w3.cell? ⟨px, 3, none⟩ = some (.int .u8 0) := cell_of_block hb5 3; have k4 : w3.cell? ⟨px, 4, none⟩ = some (.int .i64 0) := cell_of_block hb5 4; have k5 : w3.cell? ⟨px, 5, none⟩ = some (.bool false) := cell_of_block hb5 5; have k6 : w3.cell? ⟨px, 6, none⟩ = some (.string ⟨#[]⟩) := cell_of_block hb5 6; have k7 : w3.cell? ⟨px, 7, none⟩ = some (.string ⟨#[]⟩) := cell_of_block hb5 7; have k8 : w3.cell? ⟨px, 8, none⟩ = some (.slice none 0 0) := cell_of_block hb5 8; have HB5 := Lib.hid hb5; have HF5 : Hid (Frm [some px] w w3) := Lib.hid (Frm.ofBelow hb2); clear hb2 hb5)
        refine bodyPost_end (results_none rfl _ _ _) rfl ?_
        have hz := lx_node HB5.out 1 1 v false ⟨#[]⟩ ⟨#[]⟩ (.slice none 0 0)
        refine ⟨rfl, ?_, HW.out _ hz⟩
        exact (((((((HF5.out.setL _ (by simp)).setL _ (by simp)).setL _ (by simp)).setL _ (by simp)).setL _ (by simp)).setL _ (by simp)).setL _ (by simp))
end Go.Proofs.YtbephgifbghilaaGreatDoor
