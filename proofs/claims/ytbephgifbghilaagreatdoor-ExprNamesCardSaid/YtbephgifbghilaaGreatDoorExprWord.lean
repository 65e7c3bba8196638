/- (*lexer).word (seat expr). -/
import Derived.Test.YtbephgifbghilaaGreatDoorExprNumber
import Derived.Test.YtbephgifbghilaaGreatDoorEvalCheck
set_option maxRecDepth 100000
namespace Go.Proofs.YtbephgifbghilaaGreatDoor
open Go.RowKit

theorem beq_dec (a b : List UInt8) : (a == b) = decide (a = b) := by rw [Bool.eq_iff_iff]; simp
def wordR (w : World) (px : Nat) (s : ByteArray) (at_ ta : Int) (d : ByteArray) : Prop :=
  if d.data.toList = [116, 114, 117, 101] then LxN w px s at_ (litN (trV true)) ⟨#[]⟩ ta false 0 0
  else if d.data.toList = [102, 97, 108, 115, 101] then LxN w px s at_ (litN (trV false)) ⟨#[]⟩ ta false 0 0
  else if keyWord d then LxN w px s at_ nilN d ta false 0 0
  else if nameB d then LxN w px s at_ (varN d) ⟨#[]⟩ ta false 0 0 else LxF w px s at_ ⟨#[]⟩ 4 at_
set_option maxHeartbeats 2000000 in
/-- A word's token; or the first error. -/
theorem lxword_any (w : World) (px : Nat) (s : ByteArray) (at_ : Int) (ta : Int) (hb : LxB w px s at_ 0 0 0 false ⟨#[]⟩ ⟨#[]⟩ (.slice none 0 0) ⟨#[]⟩ ta false 0 0) (d : ByteArray) (_hd : d.size ≤ 300) :
    Calls Tryz.prog 76 #[.pointer (some ⟨px, 0, none⟩), .string d] w fun r w' => r = .returned (.tuple #[]) ∧ Frm [some px] w w' ∧ wordR w' px s at_ ta d := by
  have hl := lt_of_block hb
  have HK := Lib.hid (fun (W : World) (h : Below w.heap.size w W) => show LxB W px s at_ 0 0 0 false ⟨#[]⟩ ⟨#[]⟩ (.slice none 0 0) ⟨#[]⟩ ta false 0 0 from (h.block _ hl).trans hb)
  have HF2 := Lib.hid (fun (W : World) (h : Below w.heap.size w W) => xfail_any W px s at_ 0 0 0 false ⟨#[]⟩ ⟨#[]⟩ (.slice none 0 0) ⟨#[]⟩ ta false 0 0 (HK.out W h))
  have HKW := Lib.hid (keyword_any w d)
  have HNM := Lib.hid (fun (W : World) (_ : Below w.heap.size w W) => name_any W d)
  have hB0 := Below.refl w.heap.size w
  clear hb
  have s1 : (d.toList == [116, 114, 117, 101]) = decide (d.data.toList = [116, 114, 117, 101]) := by rw [Lib.toList_data]; exact beq_dec _ _
  have s2 : (d.toList == [102, 97, 108, 115, 101]) = decide (d.data.toList = [102, 97, 108, 115, 101]) := by rw [Lib.toList_data]; exact beq_dec _ _
  by_cases h1 : d.data.toList = [116, 114, 117, 101]
  · have HW : Hid (∀ W, LxN W px s at_ (litN (trV true)) ⟨#[]⟩ ta false 0 0 → wordR W px s at_ ta d) := Lib.hid (fun W h => by unfold wordR; rw [if_pos h1]; exact h)
    rw [decide_eq_true h1] at s1
    clear h1 s2
    have hb5 := HK.out w hB0
    have f5 := free_of_block hb5; have k2 : w.cell? ⟨px, 2, none⟩ = some (.int .u8 0) := cell_of_block hb5 2; have k3 : w.cell? ⟨px, 3, none⟩ = some (.int .u8 0) := cell_of_block hb5 3; have k4 : w.cell? ⟨px, 4, none⟩ = some (.int .i64 0) := cell_of_block hb5 4; have k5 : w.cell? ⟨px, 5, none⟩ = some (.bool false) := cell_of_block hb5 5; have k6 : w.cell? ⟨px, 6, none⟩ = some (.string ⟨#[]⟩) := cell_of_block hb5 6; have k7 : w.cell? ⟨px, 7, none⟩ = some (.string ⟨#[]⟩) := cell_of_block hb5 7; have k8 : w.cell? ⟨px, 8, none⟩ = some (.slice none 0 0) := cell_of_block hb5 8
    have HB5 := Lib.hid hb5
    clear hb5
    go_enter Tryz.func76, Tryz.ntmps76
    go_wp2_with fail
    refine bodyPost_end (results_none rfl _ _ _) rfl ?_
    have hz := lx_node HB5.out 1 2 0 true ⟨#[]⟩ ⟨#[]⟩ (.slice none 0 0)
    refine ⟨rfl, ?_, HW.out _ hz⟩
    exact ((((((((Frm.refl _ _).setL _ (by simp)).setL _ (by simp)).setL _ (by simp)).setL _ (by simp)).setL _ (by simp)).setL _ (by simp)).setL _ (by simp))
  · by_cases h2 : d.data.toList = [102, 97, 108, 115, 101]
    · have HW : Hid (∀ W, LxN W px s at_ (litN (trV false)) ⟨#[]⟩ ta false 0 0 → wordR W px s at_ ta d) := Lib.hid (fun W h => by unfold wordR; rw [if_neg h1, if_pos h2]; exact h)
      rw [decide_eq_false h1] at s1
      rw [decide_eq_true h2] at s2
      clear h1 h2
      have hb5 := HK.out w hB0
      have f5 := free_of_block hb5; have k2 : w.cell? ⟨px, 2, none⟩ = some (.int .u8 0) := cell_of_block hb5 2; have k3 : w.cell? ⟨px, 3, none⟩ = some (.int .u8 0) := cell_of_block hb5 3; have k4 : w.cell? ⟨px, 4, none⟩ = some (.int .i64 0) := cell_of_block hb5 4; have k5 : w.cell? ⟨px, 5, none⟩ = some (.bool false) := cell_of_block hb5 5; have k6 : w.cell? ⟨px, 6, none⟩ = some (.string ⟨#[]⟩) := cell_of_block hb5 6; have k7 : w.cell? ⟨px, 7, none⟩ = some (.string ⟨#[]⟩) := cell_of_block hb5 7; have k8 : w.cell? ⟨px, 8, none⟩ = some (.slice none 0 0) := cell_of_block hb5 8
      have HB5 := Lib.hid hb5
      clear hb5
      go_enter Tryz.func76, Tryz.ntmps76
      go_wp2_with fail
      refine bodyPost_end (results_none rfl _ _ _) rfl ?_
      have hz := lx_node HB5.out 1 2 0 false ⟨#[]⟩ ⟨#[]⟩ (.slice none 0 0)
      refine ⟨rfl, ?_, HW.out _ hz⟩
      exact ((((((((Frm.refl _ _).setL _ (by simp)).setL _ (by simp)).setL _ (by simp)).setL _ (by simp)).setL _ (by simp)).setL _ (by simp)).setL _ (by simp))
    · rw [decide_eq_false h1] at s1
      rw [decide_eq_false h2] at s2
      have HO : Hid (¬ d.data.toList = [116, 114, 117, 101] ∧ ¬ d.data.toList = [102, 97, 108, 115, 101]) := Lib.hid ⟨h1, h2⟩
      clear h1 h2
      cases hk : keyWord d with
      | true =>
        have HW : Hid (∀ W, LxN W px s at_ nilN d ta false 0 0 → wordR W px s at_ ta d) := Lib.hid (fun W h => by unfold wordR; rw [if_neg HO.out.1, if_neg HO.out.2, if_pos hk]; exact h)
        rw [hk] at HKW
        clear hk
        go_enter Tryz.func76, Tryz.ntmps76
        go_wp2_with (go_at_call 49; refine HKW.out.mono ?_; rintro e w3 ⟨rfl, hb2⟩; have hb5 := HK.out _ hb2; have f5 := free_of_block hb5; have k9 : w3.cell? ⟨px, 9, none⟩ = some (.string ⟨#[]⟩) := cell_of_block hb5 9; have HB5 := Lib.hid hb5; have HF5 : Hid (Frm [some px] w w3) := Lib.hid (Frm.ofBelow hb2); clear hb2 hb5)
        refine bodyPost_end (results_none rfl _ _ _) rfl ?_
        exact ⟨rfl, HF5.out.setL _ (by simp), HW.out _ (lx_s9 HB5.out _)⟩
      | false =>
        cases hn : nameB d with
        | true =>
          have HW : Hid (∀ W, LxN W px s at_ (varN d) ⟨#[]⟩ ta false 0 0 → wordR W px s at_ ta d) := Lib.hid (fun W h => by unfold wordR; rw [if_neg HO.out.1, if_neg HO.out.2, if_neg (by rw [hk]; decide), if_pos hn]; exact h)
          rw [hk] at HKW
          rw [hn] at HNM
          clear hk hn
          go_enter Tryz.func76, Tryz.ntmps76
          go_wp2_with (first
            | (go_at_call 49; refine HKW.out.mono ?_; rintro e w2 ⟨rfl, hb2⟩; have HB2 := Lib.hid hb2; clear hb2)
            | (go_at_call 48; refine (HNM.out _ HB2.out).mono ?_; rintro e w3 ⟨rfl, hb3⟩; have hb4 := HB2.out.trans (hb3.mono HB2.out.size); have hb5 := HK.out _ hb4; have f5 := free_of_block hb5; have k2 : w3.cell? ⟨px, 2, none⟩ = some (.int .u8 0) := cell_of_block hb5 2; have k3 : w3.cell? ⟨px, 3, none⟩ = some (.int .u8 0) := cell_of_block hb5 3; have k4 : w3.cell? ⟨px, 4, none⟩ = some (.int .i64 0) := cell_of_block hb5 4; have k5 : w3.cell? ⟨px, 5, none⟩ = some (.bool false) := cell_of_block hb5 5; have k6 : w3.cell? ⟨px, 6, none⟩ = some (.string ⟨#[]⟩) := cell_of_block hb5 6; have k7 : w3.cell? ⟨px, 7, none⟩ = some (.string ⟨#[]⟩) := cell_of_block hb5 7; have k8 : w3.cell? ⟨px, 8, none⟩ = some (.slice none 0 0) := cell_of_block hb5 8; have HB5 := Lib.hid hb5; have HF5 : Hid (Frm [some px] w w3) := Lib.hid (Frm.ofBelow hb4); clear hb3 hb4 hb5))
          refine bodyPost_end (results_none rfl _ _ _) rfl ?_
          have hz := lx_node HB5.out 2 0 0 false ⟨#[]⟩ d (.slice none 0 0)
          refine ⟨rfl, ?_, HW.out _ hz⟩
          exact (((((((HF5.out.setL _ (by simp)).setL _ (by simp)).setL _ (by simp)).setL _ (by simp)).setL _ (by simp)).setL _ (by simp)).setL _ (by simp))
        | false =>
          have HW : Hid (∀ W, LxF W px s at_ ⟨#[]⟩ 4 at_ → wordR W px s at_ ta d) := Lib.hid (fun W h => by unfold wordR; rw [if_neg HO.out.1, if_neg HO.out.2, if_neg (by rw [hk]; decide), if_neg (by rw [hn]; decide)]; exact h)
          rw [hk] at HKW
          rw [hn] at HNM
          clear hk hn
          go_enter Tryz.func76, Tryz.ntmps76
          go_wp2_with (first
            | (go_at_call 49; refine HKW.out.mono ?_; rintro e w2 ⟨rfl, hb2⟩; have HB2 := Lib.hid hb2; clear hb2)
            | (go_at_call 48; refine (HNM.out _ HB2.out).mono ?_; rintro e w3 ⟨rfl, hb3⟩; have hb4 := HB2.out.trans (hb3.mono HB2.out.size); have HF3 := Lib.hid (HF2.out _ hb4); have hb5 := HK.out _ hb4; have c1 : w3.cell? ⟨px, 1, none⟩ = some (.int .i64 at_) := cell_of_block hb5 1; have HF5 : Hid (Frm [some px] w w3) := Lib.hid (Frm.ofBelow hb4); clear hb3 hb4 hb5)
            | (go_at_call 39; refine (HF3.out _ _).mono ?_; rintro e w4 ⟨rfl, hF4, hb4⟩; have HB4 := Lib.hid (And.intro hF4 hb4); clear hF4 hb4))
          refine bodyPost_end (results_none rfl _ _ _) rfl ?_
          refine ⟨rfl, HF5.out.trans HB4.out.1 (by intro r hr; exact .inl hr), HW.out _ ?_⟩
          have hb5 : LxB w4 px s at_ 0 0 0 false ⟨#[]⟩ ⟨#[]⟩ (.slice none 0 0) ⟨#[]⟩ ta false 4 at_ := by simpa using HB4.out.2
          exact ⟨_, _, _, _, _, _, _, _, _, hb5⟩
end Go.Proofs.YtbephgifbghilaaGreatDoor
