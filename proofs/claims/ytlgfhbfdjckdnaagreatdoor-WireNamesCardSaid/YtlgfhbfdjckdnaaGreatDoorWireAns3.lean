/- wire.Answer and the document's Answer (seat wire). -/
import Derived.Test.YtlgfhbfdjckdnaaGreatDoorWireAns
set_option maxRecDepth 100000
namespace Go.Proofs.YtlgfhbfdjckdnaaGreatDoor
open Go.RowKit

def answerB (st : Int) (b : ByteArray) : ByteArray := aheadB st b.size ++ b
def ansV (st : Int) (b : ByteArray) (yes no : Value) : Value := if decide ((wordB st).size ≠ 0) then .tuple #[.string (answerB st b), yes] else .tuple #[.string ⟨#[]⟩, no]
theorem aheadB_size (st n : Int) (hs : I64n st) (hn : I64n n) : (aheadB st n).size ≤ 200 := by
  have h1 := itoa_len hs
  have h2 := itoa_len hn
  have h3 := wordL_le st
  have e : (aheadB st n).size = (aheadL st n).length := by unfold aheadB; exact List.size_toArray
  rw [e]
  unfold aheadL leadL
  simp only [List.length_append, List.length_cons]
  have e1 : httpL.length = 9 := rfl
  have e2 : clenL.length = 18 := rfl
  have e3 : ctypL.length = 36 := rfl
  omega

set_option maxHeartbeats 4000000 in
theorem answer_any (w : World) (hg : Gnd w) (st : Int) (hwf : (Lit.int .i64 st).wf = true) (hst : I64n st) (b : ByteArray) (hb : b.size ≤ 300000) :
    Calls Tryz.prog 17 #[.agg #[.int .i64 st, .string b]] w fun e w' => e = .returned (ansV st b (.int .i64 0) (.int .i64 1)) ∧ Below w.heap.size w w' := by
  have HA : Hid (∀ W, Below w.heap.size w W → Calls Tryz.prog 28 #[.int .i64 st, .string (wordB st), .int .i64 (b.size : Int)] W fun e w' => e = .returned (.string (aheadB st b.size)) ∧ Below W.heap.size W w') := Lib.hid (fun W hW => ahead_any W (hg.up hW) st b.size hst (by unfold I64n; omega))
  have hax := aheadB_size st b.size hst (by unfold I64n; omega)
  have HF : Hid (Hid (∀ c, aheadB st b.size ++ b = c → ansV st b (.int .i64 0) (.int .i64 1) = if decide ((wordB st).size ≠ 0) then .tuple #[.string c, .int .i64 0] else .tuple #[.string ⟨#[]⟩, .int .i64 1])) := Lib.hid (Lib.hid (fun c hc => by unfold ansV answerB; rw [hc]))
  have HW := Lib.hid (fun W : World => words_any W)
  obtain ⟨xa, hxa⟩ : ∃ x, aheadB st b.size = x := ⟨_, rfl⟩
  rw [hxa] at HA hax HF
  obtain ⟨xw, hxw⟩ : ∃ x, wordB st = x := ⟨_, rfl⟩
  rw [hxw] at HA HF
  obtain ⟨ok, hok⟩ : ∃ ok : Bool, decide (xw.size ≠ 0) = ok := ⟨_, rfl⟩
  rw [hok] at HF
  obtain ⟨W1, hW1⟩ : ∃ W1, w.alloc (.cells #[.int .i64 st, .string b] 46) = W1 := ⟨_, rfl⟩
  have BW : Hid (Below w.heap.size w W1) := by refine Lib.hid ?_; rw [← hW1]; exact (Below.refl _ _).alloc (Nat.le_refl _) _
  have hblk : W1.heap[w.heap.size]? = some (.cells #[.int .i64 st, .string b] 46) := by rw [← hW1]; exact (MapKept.heap_alloc w _).1
  have c0 : W1.cell? ⟨w.heap.size, 0, none⟩ = some (.int .i64 st) := cell_of_block hblk 0
  have c1 : W1.cell? ⟨w.heap.size, 1, none⟩ = some (.string b) := cell_of_block hblk 1
  have hlt := lt_of_block hblk
  have HLK : Hid (∀ (W : World) (bm : Nat), WdM W bm 14 wordB → (Instr.lookup 67 (.map (some bm)) (.int .i64 st) true).run Tryz.prog W = .ok (.tuple #[.string xw, .bool ok]) W) := Lib.hid (fun W bm hM => by
    rw [hM.look_ok (zero_str _) st hwf, hxw, hok])
  obtain ⟨xc, ec, zc, qc⟩ := cat_run xa b (by omega)
  have hF := Lib.hid (HF.out.out xc ec.out)
  clear hxa hxw hok hg hst hwf HF ec hblk
  have cur : Below W1.heap.size W1 W1 := Below.refl _ _
  go_enter Tryz.func17, Tryz.ntmps17
  go_upto_region 1 with fail
  go_cut [4, 5] (fun s4 s5 wx => ∃ w9, w9 = wx ∧ s4 = .string xw ∧ s5 = .bool ok ∧ Below W1.heap.size W1 w9)
  case first =>
    go_region_held3 (fun w' => w'.cell? ⟨w.heap.size, 0, none⟩ = some (.int .i64 st))
      (first | go_keep | (rw [Below.cellB cur1 hlt]; assumption))
      (first | (go_at_call 27; refine (HW.out _).mono ?_; rintro e w9 ⟨bm, rfl, hM, hb9⟩; have cur1 : Below W1.heap.size W1 w9 := (by first | exact hb9 | exact (Below.refl _ _).drew.trans hb9); have hlk := HLK.out w9 bm hM))
    go_wp2_with fail
    go_meet
    case rel => exact ⟨_, rfl, rfl, rfl, cur1⟩
  case rest =>
    obtain ⟨w9, rfl, rfl, rfl, hb9⟩ := hcut
    have k0 : w9.cell? ⟨w.heap.size, 0, none⟩ = some (.int .i64 st) := by rw [Below.cellB hb9 hlt]; exact c0
    have k1 : w9.cell? ⟨w.heap.size, 1, none⟩ = some (.string b) := by rw [Below.cellB hb9 hlt]; exact c1
    cases ok
    · go_wp2_with fail
      go_ret2
      exact ⟨congrArg Ending.returned hF.out.symm, BW.out.trans (hb9.mono BW.out.size)⟩
    · go_upto_region 4 with fail
      go_cut [2, 3] (fun s2 s3 wx => ∃ w7, w7 = wx ∧ s2 = .string xc ∧ s3 = .int .i64 0 ∧ Below w.heap.size w w7)
      case first =>
        have cur9 : Below w9.heap.size w9 w9 := Below.refl _ _
        have cw9 : Below w.heap.size w w9 := BW.out.trans (hb9.mono BW.out.size)
        have hlt9 : w.heap.size < w9.heap.size := by have := hb9.size; omega
        go_region_held3 (fun w' => w'.cell? ⟨w.heap.size, 0, none⟩ = some (.int .i64 st) ∧ w'.cell? ⟨w.heap.size, 1, none⟩ = some (.string b))
          (first | go_keep | (refine ⟨?_, ?_⟩ <;> (rw [Below.cellB cur7 hlt9]; assumption)))
          (first | (go_at_call 28; refine (HA.out _ (by first | exact cw9 | exact cw9.drew)).mono ?_; rintro e w7 ⟨rfl, hb7⟩; have cur7 : Below w9.heap.size w9 w7 := (by first | exact hb7 | exact (Below.refl _ _).drew.trans hb7)))
        go_wp2_with fail
        go_meet
        case rel => exact ⟨_, rfl, rfl, rfl, cw9.trans (cur7.mono cw9.size)⟩
      case rest =>
        obtain ⟨w7, rfl, rfl, rfl, hb7⟩ := hcut
        go_wp2_with fail
        go_ret2
        exact ⟨congrArg Ending.returned hF.out.symm, hb7⟩

end Go.Proofs.YtlgfhbfdjckdnaaGreatDoor
