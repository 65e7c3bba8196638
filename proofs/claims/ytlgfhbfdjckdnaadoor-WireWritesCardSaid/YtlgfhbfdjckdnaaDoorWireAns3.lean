/- wire.Answer and the document's Answer (seat wire). -/
import Derived.Test.YtlgfhbfdjckdnaaDoorWireAns2
set_option maxRecDepth 100000
namespace Go.Proofs.YtlgfhbfdjckdnaaDoor
open Go.RowKit

def answerB (st : Int) (b : ByteArray) : ByteArray := aheadB st b.size ++ b
def ansV (st : Int) (b : ByteArray) (yes no : Value) : Value := if decide ((wordB st).size ≠ 0) then .tuple #[.string (answerB st b), yes] else .tuple #[.string ⟨#[]⟩, no]
theorem aheadB_size (st n : Int) (hs : I64n st) (hn : I64n n) : (aheadB st n).size ≤ 200 := by
  have h1 := itoa_len hs
  have h2 := itoa_len hn
  have h3 := wordL_le st
  have e : (aheadB st n).size = (aheadL st n).length := by unfold aheadB; exact List.size_toArray
  rw [e]
  unfold aheadL leadL
  simp only [List.length_append, List.length_cons]
  have e1 : httpL.length = 9 := rfl
  have e2 : clenL.length = 18 := rfl
  have e3 : ctypL.length = 36 := rfl
  omega

set_option maxHeartbeats 4000000 in
theorem answer_any (w : World) (hg : Gnd w) (st : Int) (hwf : (Lit.int .i64 st).wf = true) (hst : I64n st) (b : ByteArray) (hb : b.size ≤ 200000) :
    Calls Tryd.prog 6 #[.agg #[.int .i64 st, .string b]] w fun e w' => e = .returned (ansV st b (.int .i64 0) (.int .i64 1)) ∧ Below w.heap.size w w' := by
  have HA : Hid (∀ W, Below w.heap.size w W → Calls Tryd.prog 19 #[.int .i64 st, .string (wordB st), .int .i64 (b.size : Int)] W fun e w' => e = .returned (.string (aheadB st b.size)) ∧ Below W.heap.size W w') := Lib.hid (fun W hW => ahead_any W (hg.up hW) st b.size hst (by unfold I64n; omega))
  have hax := aheadB_size st b.size hst (by unfold I64n; omega)
  have HF : Hid (Hid (∀ c, aheadB st b.size ++ b = c → ansV st b (.int .i64 0) (.int .i64 1) = if decide ((wordB st).size ≠ 0) then .tuple #[.string c, .int .i64 0] else .tuple #[.string ⟨#[]⟩, .int .i64 1])) := Lib.hid (Lib.hid (fun c hc => by unfold ansV answerB; rw [hc]))
  have HW := Lib.hid (fun W : World => words_any W)
  obtain ⟨xa, hxa⟩ : ∃ x, aheadB st b.size = x := ⟨_, rfl⟩
  rw [hxa] at HA hax HF
  obtain ⟨xw, hxw⟩ : ∃ x, wordB st = x := ⟨_, rfl⟩
  rw [hxw] at HA HF
  obtain ⟨ok, hok⟩ : ∃ ok : Bool, decide (xw.size ≠ 0) = ok := ⟨_, rfl⟩
  rw [hok] at HF
  obtain ⟨W1, hW1⟩ : ∃ W1, w.alloc (.cells #[.int .i64 st, .string b] 25) = W1 := ⟨_, rfl⟩
  have BW : Hid (Below w.heap.size w W1) := by refine Lib.hid ?_; rw [← hW1]; exact (Below.refl _ _).alloc (Nat.le_refl _) _
  have hblk : W1.heap[w.heap.size]? = some (.cells #[.int .i64 st, .string b] 25) := by rw [← hW1]; exact (MapKept.heap_alloc w _).1
  have c0 : W1.cell? ⟨w.heap.size, 0, none⟩ = some (.int .i64 st) := cell_of_block hblk 0
  have c1 : W1.cell? ⟨w.heap.size, 1, none⟩ = some (.string b) := cell_of_block hblk 1
  have hlt := lt_of_block hblk
  have HLK : Hid (∀ (W : World) (bm : Nat), WdM W bm 14 wordB → (Instr.lookup 41 (.map (some bm)) (.int .i64 st) true).run Tryd.prog W = .ok (.tuple #[.string xw, .bool ok]) W) := Lib.hid (fun W bm hM => by
    rw [hM.look_ok (zero_str _) st hwf, hxw, hok])
  obtain ⟨xc, ec, zc, qc⟩ := cat_run xa b (by omega)
  have hF := Lib.hid (HF.out.out xc ec.out)
  clear hxa hxw hok hg hst hwf HF ec hblk
  have cur : Below W1.heap.size W1 W1 := Below.refl _ _
  go_enter Tryd.func6, Tryd.ntmps6
  go_upto_region 1 with fail
  go_cut [4, 5] (fun s4 s5 wx => ∃ w9, w9 = wx ∧ s4 = .string xw ∧ s5 = .bool ok ∧ Below W1.heap.size W1 w9)
  case first =>
    go_region_held3 (fun w' => w'.cell? ⟨w.heap.size, 0, none⟩ = some (.int .i64 st))
      (first | go_keep | (rw [Below.cellB cur1 hlt]; assumption))
      (first | (go_at_call 18; refine (HW.out _).mono ?_; rintro e w9 ⟨bm, rfl, hM, hb9⟩; have cur1 : Below W1.heap.size W1 w9 := (by first | exact hb9 | exact (Below.refl _ _).drew.trans hb9); have hlk := HLK.out w9 bm hM))
    go_wp2_with fail
    go_meet
    case rel => exact ⟨_, rfl, rfl, rfl, cur1⟩
  case rest =>
    obtain ⟨w9, rfl, rfl, rfl, hb9⟩ := hcut
    have k0 : w9.cell? ⟨w.heap.size, 0, none⟩ = some (.int .i64 st) := by rw [Below.cellB hb9 hlt]; exact c0
    have k1 : w9.cell? ⟨w.heap.size, 1, none⟩ = some (.string b) := by rw [Below.cellB hb9 hlt]; exact c1
    cases ok
    · go_wp2_with fail
      go_ret2
      exact ⟨congrArg Ending.returned hF.out.symm, BW.out.trans (hb9.mono BW.out.size)⟩
    · go_upto_region 4 with fail
      go_cut [2, 3] (fun s2 s3 wx => ∃ w7, w7 = wx ∧ s2 = .string xc ∧ s3 = .int .i64 0 ∧ Below w.heap.size w w7)
      case first =>
        have cur9 : Below w9.heap.size w9 w9 := Below.refl _ _
        have cw9 : Below w.heap.size w w9 := BW.out.trans (hb9.mono BW.out.size)
        have hlt9 : w.heap.size < w9.heap.size := by have := hb9.size; omega
        go_region_held3 (fun w' => w'.cell? ⟨w.heap.size, 0, none⟩ = some (.int .i64 st) ∧ w'.cell? ⟨w.heap.size, 1, none⟩ = some (.string b))
          (first | go_keep | (refine ⟨?_, ?_⟩ <;> (rw [Below.cellB cur7 hlt9]; assumption)))
          (first | (go_at_call 19; refine (HA.out _ (by first | exact cw9 | exact cw9.drew)).mono ?_; rintro e w7 ⟨rfl, hb7⟩; have cur7 : Below w9.heap.size w9 w7 := (by first | exact hb7 | exact (Below.refl _ _).drew.trans hb7)))
        go_wp2_with fail
        go_meet
        case rel => exact ⟨_, rfl, rfl, rfl, cw9.trans (cur7.mono cw9.size)⟩
      case rest =>
        obtain ⟨w7, rfl, rfl, rfl, hb7⟩ := hcut
        go_wp2_with fail
        go_ret2
        exact ⟨congrArg Ending.returned hF.out.symm, hb7⟩

/-- One of two numbers, with its text. -/
def NX (a b : Int) (x y : ByteArray) (n : Int) (z : ByteArray) : Prop := (n = a ∧ z = x) ∨ (n = b ∧ z = y)
set_option maxHeartbeats 4000000 in
theorem ranswer_any (w : World) (st : Int) (hst : I64n st) (b : ByteArray) (hb : b.size ≤ 200000) :
    Calls Tryd.prog 7 #[.agg #[.int .i64 st, .string b]] w fun e w' => e = .returned (ansV st b (.bool true) (.bool false)) ∧ Below w.heap.size w w' := by
  have h1 := hst
  unfold I64n at h1
  have HW := Lib.hid (fun W : World => rwords_any W st)
  have HN : Hid (∀ (W : World) (n : Int) (x : ByteArray), NX st b.size (numB st) (numB b.size) n x → Calls Tryd.prog 17 #[.int .i64 n] W fun e w' => e = .returned (.string x) ∧ Below W.heap.size W w') := Lib.hid (fun W n x h => by
    rcases h with ⟨rfl, rfl⟩ | ⟨rfl, rfl⟩
    · exact rnumber_any W n h1.1 h1.2
    · exact rnumber_any W b.size (by omega) (by omega))
  have nx1 : NX st b.size (numB st) (numB b.size) st (numB st) := .inl ⟨rfl, rfl⟩
  have nx2 : NX st b.size (numB st) (numB b.size) b.size (numB b.size) := .inr ⟨rfl, rfl⟩
  have y1 := numB_size st hst
  have y2 := numB_size b.size (by unfold I64n; omega)
  have y3 : (wordB st).size ≤ 31 := by rw [wordB_size]; exact wordL_le st
  have f1 := Lib.hid (numB_list st)
  have f2 := Lib.hid (numB_list b.size)
  have f3 := Lib.hid (wordB_list st)
  have HF : Hid (Hid (∀ c, aheadB st b.size ++ b = c → ansV st b (.bool true) (.bool false) = if decide ((wordB st).size ≠ 0) then .tuple #[.string c, .bool true] else .tuple #[.string ⟨#[]⟩, .bool false])) := Lib.hid (Lib.hid (fun c hc => by unfold ansV answerB; rw [hc]))
  obtain ⟨x1, hx1⟩ : ∃ x, numB st = x := ⟨_, rfl⟩
  obtain ⟨x2, hx2⟩ : ∃ x, numB b.size = x := ⟨_, rfl⟩
  obtain ⟨x3, hx3⟩ : ∃ x, wordB st = x := ⟨_, rfl⟩
  rw [hx1] at HN nx1 nx2 y1 f1
  rw [hx2] at HN nx1 nx2 y2 f2
  rw [hx3] at y3 f3 HW HF
  obtain ⟨W1, hW1⟩ : ∃ W1, w.alloc (.cells #[.int .i64 st, .string b] 25) = W1 := ⟨_, rfl⟩
  have BW : Hid (Below w.heap.size w W1) := by refine Lib.hid ?_; rw [← hW1]; exact (Below.refl _ _).alloc (Nat.le_refl _) _
  have hblk : W1.heap[w.heap.size]? = some (.cells #[.int .i64 st, .string b] 25) := by rw [← hW1]; exact (MapKept.heap_alloc w _).1
  have c0 : W1.cell? ⟨w.heap.size, 0, none⟩ = some (.int .i64 st) := cell_of_block hblk 0
  have c1 : W1.cell? ⟨w.heap.size, 1, none⟩ = some (.string b) := cell_of_block hblk 1
  have hlt := lt_of_block hblk
  clear hx1 hx2 hx3 h1 hst hblk
  by_cases h0 : x3.size = 0
  · have d0 := nonempty_size x3 h0
    have hF : Hid (ansV st b (.bool true) (.bool false) = .tuple #[.string ⟨#[]⟩, .bool false]) := by
      refine Lib.hid ?_
      rw [HF.out.out _ rfl, decide_eq_false (by omega)]; rfl
    clear HF
    go_enter Tryd.func7, Tryd.ntmps7
    go_wp2_with (go_at_call 20; refine (HW.out _).mono ?_; rintro e w9 ⟨rfl, hb9⟩)
    go_ret2
    exact ⟨congrArg Ending.returned hF.out.symm, BW.out.trans (hb9.mono BW.out.size)⟩
  · have d0 := nonempty_size' x3 h0
    obtain ⟨a1, e1, z1, q1⟩ := cat_run ⟨#[72, 84, 84, 80, 47, 49, 46, 49, 32]⟩ x1 (by show 9 + x1.size ≤ _; omega)
    have z1' : a1.size = 9 + x1.size := z1
    obtain ⟨a2, e2, z2, q2⟩ := cat_run a1 ⟨#[32]⟩ (by show a1.size + 1 ≤ _; omega)
    have z2' : a2.size = a1.size + 1 := z2
    obtain ⟨a3, e3, z3, q3⟩ := cat_run a2 x3 (by omega)
    obtain ⟨a4, e4, z4, q4⟩ := cat_run a3 ⟨#[13, 10, 99, 111, 110, 116, 101, 110, 116, 45, 108, 101, 110, 103, 116, 104, 58, 32]⟩ (by show a3.size + 18 ≤ _; omega)
    have z4' : a4.size = a3.size + 18 := z4
    obtain ⟨a5, e5, z5, q5⟩ := cat_run a4 x2 (by omega)
    obtain ⟨a6, e6, z6, q6⟩ := cat_run a5 ⟨#[13, 10, 99, 111, 110, 116, 101, 110, 116, 45, 116, 121, 112, 101, 58, 32, 97, 112, 112, 108, 105, 99, 97, 116, 105, 111, 110, 47, 106, 115, 111, 110, 13, 10, 13, 10]⟩ (by show a5.size + 36 ≤ _; omega)
    have z6' : a6.size = a5.size + 36 := z6
    obtain ⟨a7, e7, z7, q7⟩ := cat_run a6 b (by omega)
    have hF : Hid (ansV st b (.bool true) (.bool false) = .tuple #[.string a7, .bool true]) := by
      refine Lib.hid ?_
      rw [HF.out.out a7 ?_, decide_eq_true h0]; rfl
      refine bytes_ext ?_
      rw [← e7.out, ← e6.out, ← e5.out, ← e4.out, ← e3.out, ← e2.out, ← e1.out]
      simp only [app_list, f1.out, f2.out, f3.out]
      unfold aheadB aheadL leadL
      simp [httpL, clenL, ctypL]
    clear HF z1 z2 z4 z6 e1 e2 e3 e4 e5 e6 e7 f1 f2 f3
    go_enter Tryd.func7, Tryd.ntmps7
    go_upto_region 3 with (go_at_call 20; refine (HW.out _).mono ?_; rintro e w9 ⟨rfl, hb9⟩)
    have k0 : w9.cell? ⟨w.heap.size, 0, none⟩ = some (.int .i64 st) := by rw [Below.cellB hb9 hlt]; exact c0
    have k1 : w9.cell? ⟨w.heap.size, 1, none⟩ = some (.string b) := by rw [Below.cellB hb9 hlt]; exact c1
    have hlt9 : w.heap.size < w9.heap.size := by have := hb9.size; omega
    have cw9 : Below w.heap.size w w9 := BW.out.trans (hb9.mono BW.out.size)
    have cur : Below w9.heap.size w9 w9.drew := (Below.refl _ _).drew
    go_cut [2, 3] (fun s2 s3 wx => ∃ w7, w7 = wx ∧ s2 = .string a7 ∧ s3 = .bool true ∧ Below w.heap.size w w7)
    case first =>
      go_region_held3 (fun w' => w'.cell? ⟨w.heap.size, 0, none⟩ = some (.int .i64 st) ∧ w'.cell? ⟨w.heap.size, 1, none⟩ = some (.string b))
        (first | go_keep | (refine ⟨?_, ?_⟩ <;> (rw [Below.cellB cur hlt9]; assumption)))
        (first
          | (go_at_call 20; refine (HW.out _).mono ?_; rintro e w7 ⟨rfl, hb7⟩; have cur := cur.trans (hb7.mono cur.size))
          | (go_at_call 17; refine (HN.out _ _ _ (by assumption)).mono ?_; rintro e w7 ⟨rfl, hb7⟩; have cur := cur.trans (hb7.mono cur.size)))
      all_goals
        go_wp2_with fail
        go_meet
        case rel => exact ⟨_, rfl, rfl, rfl, cw9.trans (cur.mono cw9.size)⟩
    case rest =>
      obtain ⟨w7, rfl, rfl, rfl, hb7⟩ := hcut
      go_wp2_with fail
      go_ret2
      exact ⟨congrArg Ending.returned hF.out.symm, hb7⟩
end Go.Proofs.YtlgfhbfdjckdnaaDoor
