/- The document's Words (seat wire). -/
import Derived.Test.YtlgfhbfdjckdnaaDoorWireAns
import Derived.Test.YtlgfhbfdjckdnaaDoorWireToldP
set_option maxRecDepth 100000
namespace Go.Proofs.YtlgfhbfdjckdnaaDoor
open Go.RowKit

def wdsV : Array Value := #[.string ⟨#[79, 75]⟩, .string ⟨#[67, 114, 101, 97, 116, 101, 100]⟩, .string ⟨#[66, 97, 100, 32, 82, 101, 113, 117, 101, 115, 116]⟩, .string ⟨#[78, 111, 116, 32, 70, 111, 117, 110, 100]⟩, .string ⟨#[77, 101, 116, 104, 111, 100, 32, 78, 111, 116, 32, 65, 108, 108, 111, 119, 101, 100]⟩, .string ⟨#[67, 111, 110, 102, 108, 105, 99, 116]⟩, .string ⟨#[67, 111, 110, 116, 101, 110, 116, 32, 84, 111, 111, 32, 76, 97, 114, 103, 101]⟩, .string ⟨#[85, 110, 112, 114, 111, 99, 101, 115, 115, 97, 98, 108, 101, 32, 67, 111, 110, 116, 101, 110, 116]⟩, .string ⟨#[82, 101, 113, 117, 101, 115, 116, 32, 72, 101, 97, 100, 101, 114, 32, 70, 105, 101, 108, 100, 115, 32, 84, 111, 111, 32, 76, 97, 114, 103, 101]⟩, .string ⟨#[73, 110, 116, 101, 114, 110, 97, 108, 32, 83, 101, 114, 118, 101, 114, 32, 69, 114, 114, 111, 114]⟩, .string ⟨#[78, 111, 116, 32, 73, 109, 112, 108, 101, 109, 101, 110, 116, 101, 100]⟩, .string ⟨#[83, 101, 114, 118, 105, 99, 101, 32, 85, 110, 97, 118, 97, 105, 108, 97, 98, 108, 101]⟩, .string ⟨#[72, 84, 84, 80, 32, 86, 101, 114, 115, 105, 111, 110, 32, 78, 111, 116, 32, 83, 117, 112, 112, 111, 114, 116, 101, 100]⟩, .string ⟨#[73, 110, 115, 117, 102, 102, 105, 99, 105, 101, 110, 116, 32, 83, 116, 111, 114, 97, 103, 101]⟩]
theorem wdsV_eq : wdsV = (stsL.map (fun s => Value.string (wordB s))).toArray := by rfl
theorem wdsV_at {i : Nat} {x : Int} (h : stsL[i]? = some x) : wdsV[i]? = some (.string (wordB x)) := by
  rw [wdsV_eq, List.getElem?_toArray, List.getElem?_map, h]
  rfl
theorem wordB_none {st : Int} (h : st ∉ stsL) : wordB st = ⟨#[]⟩ := by
  by_cases hw : wordL st = []
  · unfold wordB; rw [hw]
  · exact absurd (sts_of_word hw) h
theorem sts_get {i : Nat} (h : i < 14) : ∃ x, stsL[i]? = some x ∧ (Lit.int .i64 x).wf = true ∧ -9223372036854775808 ≤ x ∧ x ≤ 9223372036854775807 := by
  have hl : stsL.length = 14 := rfl
  refine ⟨stsL[i]'(by omega), List.getElem?_eq_getElem _, ?_⟩
  have := stsL_rng _ (List.getElem_mem (show i < stsL.length by omega))
  exact ⟨WalkArith.wf_i64 (by omega), by omega, by omega⟩

set_option maxHeartbeats 2000000 in
theorem rwords_any (w : World) (st : Int) : Calls Tryd.prog 20 #[.int .i64 st] w fun e w' => e = .returned (.string (wordB st)) ∧ Below w.heap.size w w' := by
  obtain ⟨W1, hW1⟩ : ∃ W1, w.alloc (.cells wdsV 9) = W1 := ⟨_, rfl⟩
  have hblk : W1.heap[w.heap.size]? = some (.cells wdsV 9) := by rw [← hW1]; exact (MapKept.heap_alloc w _).1
  have BW : Hid (Below w.heap.size w W1) := by refine Lib.hid ?_; rw [← hW1]; exact (Below.refl _ _).alloc (Nat.le_refl _) _
  have hlt := lt_of_block hblk
  have HB := Lib.hid hblk
  unfold wdsV at hW1
  clear hblk
  go_enter Tryd.func20, Tryd.ntmps20
  go_wp2_with fail
  go_loopg [4] 14 (fun gh s4 wr => ∃ i : Nat, i + gh = 14 ∧ s4 = .int .i64 (i : Int) ∧ Below W1.heap.size W1 wr ∧ Hid (∀ j x, j < i → stsL[j]? = some x → x ≠ st))
  case atStart => exact ⟨0, by omega, rfl, Below.refl _ _, Lib.hid (fun j x hj => by omega)⟩
  case round =>
    obtain ⟨i, hig, rfl, hbel, hno⟩ := hrel
    by_cases hi : i < 14
    · obtain ⟨x, hx, hwf, _, _⟩ := sts_get hi
      have HC := Lib.hid (statuses_any wr)
      have HX := Lib.hid hx
      have d1 : decide ((i : Int) < 14) = true := decide_eq_true (by omega)
      have d1' : decide (i < 14) = true := decide_eq_true hi
      have hsz := hbel.size
      have hcx : ∀ o, (wr.alloc o).cell? ⟨w.heap.size, i, none⟩ = some (.string (wordB x)) := fun o => by
        have h2 := hbel.alloc hsz o
        rw [Below.cellB h2 hlt, cell_of_block HB.out i, wdsV_at HX.out]
      clear hx
      by_cases he : x = st
      · subst he
        have d2 : (x == x) = true := beq_self_eq_true x
        go_wp2_with (go_at_call 25; refine HC.out.mono ?_; rintro e w2 ⟨rfl, hw2⟩; have hcs : w2.cell? ⟨wr.heap.size, i, none⟩ = some (.int .i64 x) := (by rw [hw2, cell_of_block (MapKept.heap_alloc wr _).1 i, stsV_at HX.out]); have hcw : w2.cell? ⟨w.heap.size, i, none⟩ = some (.string (wordB x)) := (by rw [hw2]; exact hcx _); have hb2 : Below W1.heap.size W1 w2 := (by rw [hw2]; exact hbel.alloc hsz _); clear hw2 hcx)
        go_ret
        exact ⟨rfl, BW.out.trans (hb2.mono BW.out.size)⟩
      · have d2 : (x == st) = false := beq_eq_false_iff_ne.2 he
        have hn : Hid (∀ j x, j < i + 1 → stsL[j]? = some x → x ≠ st) := Lib.hid (fun j y hj hy => by
          by_cases e : j = i
          · subst e
            rw [HX.out] at hy
            injection hy with hy
            rw [← hy]; exact he
          · exact hno.out j y (by omega) hy)
        clear he
        go_wp2_with (go_at_call 25; refine HC.out.mono ?_; rintro e w2 ⟨rfl, hw2⟩; have hcs : w2.cell? ⟨wr.heap.size, i, none⟩ = some (.int .i64 x) := (by rw [hw2, cell_of_block (MapKept.heap_alloc wr _).1 i, stsV_at HX.out]); have hb2 : Below W1.heap.size W1 w2 := (by rw [hw2]; exact hbel.alloc hsz _); clear hw2 hcx)
        go_roundg (14 - (i + 1))
        case measure => omega
        case rel => exact ⟨i + 1, by omega, by go_num, hb2, hn⟩
    · have hf : Hid (ByteArray.mk #[] = wordB st) := by
        refine Lib.hid (wordB_none (fun hm => ?_)).symm
        obtain ⟨j, hj, rfl⟩ := List.getElem_of_mem hm
        have hl : stsL.length = 14 := rfl
        exact hno.out j _ (by omega) (List.getElem?_eq_getElem hj) rfl
      have d1 : decide ((i : Int) < 14) = false := decide_eq_false (by omega)
      have d1' : decide (i < 14) = false := decide_eq_false hi
      go_wp2_with fail
      go_ret
      exact ⟨congrArg (fun x => Ending.returned (Value.string x)) hf.out, BW.out.trans (hbel.mono BW.out.size)⟩
end Go.Proofs.YtlgfhbfdjckdnaaDoor
