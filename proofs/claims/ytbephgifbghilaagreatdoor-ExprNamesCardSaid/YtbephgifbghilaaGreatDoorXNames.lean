/- Texts fused by fuse.py: ExprTryP, ExprAwake, LExprNames. -/
import Derived.Test.YtbephgifbghilaaGreatDoorExprParseP
import Derived.KernelRfl
import Derived.Test.YtbephgifbghilaaGreatDoorXPars
import Derived.Test.YtbephgifbghilaaGreatDoorXPrint
import Derived.Test.YtbephgifbghilaaGreatDoorXTyp
import Derived.Laws.MakeOwn
import Derived.Laws.BytesArg
/- Conditions that are read, and refused: the closed examples (plain). -/
set_option maxRecDepth 100000
namespace Go.Proofs.YtbephgifbghilaaGreatDoor
open Go.Lib

theorem awake_parse : parseE [97, 61, 49, 32, 111, 114, 32, 110, 111, 116, 32, 98, 32, 97, 110, 100, 32, 99] = .ok (twoN 6 (twoN 7 (varN ⟨#[97]⟩) (litN (numV 1))) (twoN 5 (oneN 3 (varN ⟨#[98]⟩)) (varN ⟨#[99]⟩))) := by kernel_rfl
theorem exn_0 : parseE [97, 32, 60, 32, 98, 32, 60, 32, 99] = .error (4, 6) := by kernel_rfl
theorem exn_1 : parseE [97, 32, 43] = .error (4, 3) := by kernel_rfl
theorem exn_2 : parseE [39, 120] = .error (4, 0) := by kernel_rfl
theorem exn_3 : parseE [48, 49] = .error (4, 0) := by kernel_rfl
theorem exn_4 : parseE [57, 50, 50, 51, 51, 55, 50, 48, 51, 54, 56, 53, 52, 55, 55, 53, 56, 48, 56] = .error (91, 0) := by kernel_rfl
theorem exn_5 : parseE [] = .error (4, 0) := by kernel_rfl
theorem exn_6 : parseE [97, 32, 33, 32, 98] = .error (4, 2) := by kernel_rfl
theorem exn_7 : parseE [40, 97] = .error (4, 2) := by kernel_rfl
theorem exn_8 : parseE [97, 32, 98] = .error (4, 2) := by kernel_rfl
theorem exn_9 : parseE [97, 32, 61, 32, 110, 111, 116, 32, 98] = .error (4, 4) := by kernel_rfl
theorem exn_max : parseE [57, 50, 50, 51, 51, 55, 50, 48, 51, 54, 56, 53, 52, 55, 55, 53, 56, 48, 55] = .ok (litN (numV 9223372036854775807)) := by kernel_rfl
end Go.Proofs.YtbephgifbghilaaGreatDoor

/- The law's awake: a condition is read, typed, written (seat expr). -/
set_option maxRecDepth 100000
namespace Go.Proofs.YtbephgifbghilaaGreatDoor
open Go.RowKit

/-- What the library's variables hold: all that these laws' walks ask for. -/
structure Gx (w : World) : Prop where
  ga : GA w.heap.size w
  gp : Gp w
theorem Gx.up {w w' : World} (h : Gx w) (hb : Below w.heap.size w w') : Gx w' := ⟨fun W hW => h.ga W (hb.trans (hW.mono hb.size)), h.gp.up hb⟩
theorem Gx.t8 {w : World} (h : Gx w) : Tabs8 w := h.ga.now.t8
def awN : Nd := twoN 6 (twoN 7 (varN ⟨#[97]⟩) (litN (numV 1))) (twoN 5 (oneN 3 (varN ⟨#[98]⟩)) (varN ⟨#[99]⟩))
def awB : List Bd := [⟨⟨#[97]⟩, ⟨1, 0, false, ⟨#[]⟩⟩⟩, ⟨⟨#[98]⟩, ⟨2, 0, false, ⟨#[]⟩⟩⟩, ⟨⟨#[99]⟩, ⟨2, 0, false, ⟨#[]⟩⟩⟩]
def awT : List UInt8 := [97, 32, 61, 32, 49, 32, 111, 114, 32, 110, 111, 116, 32, 98, 32, 97, 110, 100, 32, 99]
theorem aw_spell : spellE awN 1 = awT := by kernel_rfl
theorem aw_print : printE awN = (awT, 0) := by kernel_rfl
theorem aw_type : tyE awB awN = (2, 0) := by kernel_rfl
theorem bds_3 {w : World} {p : Nat} {x y z : Bd} {t : TypeId} {fr : Nat × Nat} (h : w.heap[p]? = some (.cells (cellBd x ++ cellBd y ++ cellBd z).toArray t fr)) (hx : VlW x.val ∧ x.name.size ≤ 140737488355328) (hy : VlW y.val ∧ y.name.size ≤ 140737488355328) (hz : VlW z.val ∧ z.name.size ≤ 140737488355328) : BdsR w w.heap.size (.slice (some ⟨p, 0, none⟩) 3 3) [x, y, z] := by
  refine ⟨_, 3, rfl, by simp, by simp, fun i hi => ?_, ?_⟩
  · refine ⟨p, 0, rfl, lt_of_block h, fun j hj => ?_⟩
    rw [cell_of_block h]
    obtain rfl | rfl | rfl : i = 0 ∨ i = 1 ∨ i = 2 := by simp at hi; omega
    · obtain rfl | rfl | rfl | rfl | rfl : j = 0 ∨ j = 1 ∨ j = 2 ∨ j = 3 ∨ j = 4 := by omega
      all_goals rfl
    · obtain rfl | rfl | rfl | rfl | rfl : j = 0 ∨ j = 1 ∨ j = 2 ∨ j = 3 ∨ j = 4 := by omega
      all_goals rfl
    · obtain rfl | rfl | rfl | rfl | rfl : j = 0 ∨ j = 1 ∨ j = 2 ∨ j = 3 ∨ j = 4 := by omega
      all_goals rfl
  · intro b hb
    simp only [List.mem_cons, List.not_mem_nil, or_false] at hb
    rcases hb with rfl | rfl | rfl
    · exact hx
    · exact hy
    · exact hz
theorem aw_vl (k : Int) (h0 : 0 ≤ k) (h1 : k ≤ 255) : VlW ⟨k, 0, false, ⟨#[]⟩⟩ := ⟨h0, h1, by show _ ≤ (0 : Int); omega, by show (0 : Int) ≤ _; omega, by show 0 ≤ _; omega⟩
set_option maxHeartbeats 4000000 in
theorem awake10_any (w : World) (hg : Gx w) : Calls Tryz.prog 10 #[] w fun e w' => e = .returned (.bool true) ∧ Below w.heap.size w w' := by
  obtain ⟨S, hS⟩ : ∃ S : ByteArray, (⟨#[97, 61, 49, 32, 111, 114, 32, 110, 111, 116, 32, 98, 32, 97, 110, 100, 32, 99]⟩ : ByteArray) = S := ⟨_, rfl⟩
  have HPA : Hid (Calls Tryz.prog 9 #[.string ⟨#[97, 61, 49, 32, 111, 114, 32, 110, 111, 116, 32, 98, 32, 97, 110, 100, 32, 99]⟩] w (ParseC w (.ok awN))) := Lib.hid (by
    have h := parse_any w hg.ga ⟨#[97, 61, 49, 32, 111, 114, 32, 110, 111, 116, 32, 98, 32, 97, 110, 100, 32, 99]⟩ (by show 18 ≤ _; omega)
    have e := awake_parse
    exact e ▸ h)
  have hop : Hid (awN.op = 6) := Lib.hid rfl
  have HSP : Hid ((spellE awN 1).length ≤ 1000000000) := Lib.hid (by rw [aw_spell]; decide)
  have HPR : Hid (printE awN = (awT, 0)) := Lib.hid aw_print
  have HTY : Hid (tyE awB awN = (2, 0)) := Lib.hid aw_type
  obtain ⟨N, hN⟩ : ∃ N, awN = N := ⟨_, rfl⟩
  rw [hN] at HPA hop HSP HPR HTY
  have e6 : (N.op == 6) = true := beq_iff_eq.2 hop.out
  have eT : ((⟨awT.toArray⟩ : ByteArray).toList == [97, 32, 61, 32, 49, 32, 111, 114, 32, 110, 111, 116, 32, 98, 32, 97, 110, 100, 32, 99]) = true := by rw [Lib.toList_data]; rfl
  obtain ⟨T, hT⟩ : ∃ T : ByteArray, (⟨awT.toArray⟩ : ByteArray) = T := ⟨_, rfl⟩
  rw [hT] at eT
  have HT := Lib.hid hT
  have HG := Lib.hid hg
  clear hS hN hT hop hg
  go_enter Tryz.func10, Tryz.ntmps10
  go_wp2_with (first
    | (go_at_call 9; refine HPA.out.mono ?_; rintro e w2 ⟨n, a, c, d, pos, err, rfl, hb2, rfl, rfl, rfl, hH, hK⟩; obtain ⟨w3, p3, hp3, hw3, l3, n3, b3⟩ := box_new w2 (.cells #[.int .u8 n.op, .int .u8 n.v.kind, .int .i64 n.v.num, .bool n.v.tr, .string n.v.text, .string n.name, .slice a c d] 29); obtain ⟨g0, g1, g2, g3, g4, g5, g6, gf⟩ := n7_cells n3; have HB3 := Lib.hid (hb2.trans (b3.mono hb2.size)); have HK3 := Lib.hid (And.intro hH (hK.mono b3 b3.size)); clear hb2 hH hK n3 b3)
    | (go_at_call 13; refine (print_any w3 (HG.out.up HB3.out).gp (HG.out.up HB3.out).t8 n a c d HK3.out.2 HK3.out.1 (fun _ => HSP.out)).mono ?_; rintro e w4 ⟨rfl, hb4⟩; refine Hid.out ?_))
  refine Lib.hid ?_
  rw [HPR.out]
  simp only
  rw [HT.out]
  have HB4 := Lib.hid (HB3.out.trans (hb4.mono HB3.out.size))
  have HK4 := Lib.hid (And.intro HK3.out.1 (HK3.out.2.mono hb4 hb4.size))
  obtain ⟨x0, x1, x2, x3, x4, x5, x6⟩ : w4.cell? ⟨p3, 0, none⟩ = some (.int .u8 n.op) ∧ w4.cell? ⟨p3, 1, none⟩ = some (.int .u8 n.v.kind) ∧ w4.cell? ⟨p3, 2, none⟩ = some (.int .i64 n.v.num) ∧ w4.cell? ⟨p3, 3, none⟩ = some (.bool n.v.tr) ∧ w4.cell? ⟨p3, 4, none⟩ = some (.string n.v.text) ∧ w4.cell? ⟨p3, 5, none⟩ = some (.string n.name) ∧ w4.cell? ⟨p3, 6, none⟩ = some (.slice a c d) := (⟨(Below.cellB hb4 l3).trans g0, (Below.cellB hb4 l3).trans g1, (Below.cellB hb4 l3).trans g2, (Below.cellB hb4 l3).trans g3, (Below.cellB hb4 l3).trans g4, (Below.cellB hb4 l3).trans g5, (Below.cellB hb4 l3).trans g6⟩)
  have l34 : p3 < w4.heap.size := by have := hb4.size; omega
  obtain ⟨w5, p5, hp5, hw5, l5, n5, b5⟩ := box_new w4 (.cells #[.string ⟨#[97]⟩, .int .u8 1, .int .i64 0, .bool false, .string ⟨#[]⟩, .string ⟨#[98]⟩, .int .u8 2, .int .i64 0, .bool false, .string ⟨#[]⟩, .string ⟨#[99]⟩, .int .u8 2, .int .i64 0, .bool false, .string ⟨#[]⟩] 55)
  have hbd : BdsR w5 w5.heap.size (.slice (some ⟨p5, 0, none⟩) 3 3) awB := bds_3 (x := ⟨⟨#[97]⟩, ⟨1, 0, false, ⟨#[]⟩⟩⟩) (y := ⟨⟨#[98]⟩, ⟨2, 0, false, ⟨#[]⟩⟩⟩) (z := ⟨⟨#[99]⟩, ⟨2, 0, false, ⟨#[]⟩⟩⟩) n5 ⟨aw_vl 1 (by omega) (by omega), by show 1 ≤ _; omega⟩ ⟨aw_vl 2 (by omega) (by omega), by show 1 ≤ _; omega⟩ ⟨aw_vl 2 (by omega) (by omega), by show 1 ≤ _; omega⟩
  have HB5 := Lib.hid (HB4.out.trans (b5.mono HB4.out.size))
  have HTP := Lib.hid (typ_any w5 n (.slice a c d) (.slice (some ⟨p5, 0, none⟩) 3 3) awB ⟨HK4.out.1, HK4.out.2.mono b5 b5.size⟩ hbd (HG.out.up HB5.out).t8)
  have y0 : w5.cell? ⟨p3, 0, none⟩ = some (.int .u8 n.op) := (Below.cellB b5 l34).trans x0
  have l35 : p3 < w5.heap.size := by have := b5.size; omega
  clear g0 g1 g2 g3 g4 g5 g6 gf hb4 hbd n5 b5
  go_wp2_with (go_at_call 28; refine HTP.out.mono ?_; rintro e w6 ⟨rfl, hb6⟩; refine Hid.out ?_)
  refine Lib.hid ?_
  rw [HTY.out]
  simp only
  have z0 : w6.cell? ⟨p3, 0, none⟩ = some (.int .u8 n.op) := (Below.cellB hb6 l35).trans y0
  have HB6 := Lib.hid (HB5.out.trans (hb6.mono HB5.out.size))
  clear hb6
  go_wp2_with fail
  go_ret
  exact ⟨rfl, HB6.out⟩
end Go.Proofs.YtbephgifbghilaaGreatDoor

/- The law ExprNames: the numbers of nodes; the examples (the walk). -/
set_option maxRecDepth 100000
namespace Go.Proofs.YtbephgifbghilaaGreatDoor
open Go.RowKit

theorem x_back (w : World) (b n cap : Nat) (hc : ∀ j, j < n → w.cell? ⟨b, j, none⟩ = some (.int .u8 0)) : (convert 32 9 (.slice (some ⟨b, 0, none⟩) n cap)).run Tryz.prog w = .ok (.string (strOfNums (List.replicate n 0))) w :=
  run_convert_bytes_arg (P := Tryz.prog) w 32 5 Tryz.underlying32 Tryz.underlying5 b 0 n cap (List.replicate n 0) (by simp) (fun i hi => by
    rw [Nat.zero_add, hc i hi, List.getD_eq_getElem?_getD, List.getElem?_replicate, if_pos hi]; rfl) 9 Tryz.underlying9
theorem x_make (w : World) (n : Nat) (hn : n ≤ 1000) : (Instr.makeSlice 32 (.int .i64 (n : Int)) (.int .i64 (n : Int))).run Tryz.prog w = .ok (.slice (some ⟨w.heap.size, 0, none⟩) n n) (w.alloc (.cells (madeCells #[.int .u8 0] n) 5)) := by
  obtain ⟨i0, hi, hz0, hz1, hz2⟩ := info_parts bu_byte
  have hb : (i0.bytes : Int) * (n : Int) ≤ 281474976710656 := by rw [hz2]; omega
  have hr := run_make (P := Tryz.prog) w 32 5 i0 (.int .u8 0) Tryz.underlying32 hi hz0 .i64 .i64 n n (by omega) (by omega) hb (by omega)
  simp only [Int.toNat_natCast, hz1, Nat.mul_one] at hr
  exact hr
def exTab : List (ByteArray × Nat × Int) := [(⟨#[97, 32, 60, 32, 98, 32, 60, 32, 99]⟩, 6, 4), (⟨#[97, 32, 43]⟩, 3, 4), (⟨#[39, 120]⟩, 0, 4), (⟨#[48, 49]⟩, 0, 4), (⟨#[57, 50, 50, 51, 51, 55, 50, 48, 51, 54, 56, 53, 52, 55, 55, 53, 56, 48, 56]⟩, 0, 91), (⟨#[]⟩, 0, 4), (⟨#[97, 32, 33, 32, 98]⟩, 2, 4), (⟨#[40, 97]⟩, 2, 4), (⟨#[97, 32, 98]⟩, 2, 4), (⟨#[97, 32, 61, 32, 110, 111, 116, 32, 98]⟩, 4, 4)]
def exCells : Array Value := (exTab.flatMap fun p => [.string p.1, .int .i64 (p.2.1 : Int), .int .i64 p.2.2]).toArray
theorem ex_at {w : World} {p : Nat} {t : TypeId} {fr : Nat × Nat} (h : w.heap[p]? = some (.cells exCells t fr)) (k : Nat) (hk : k < 10) : ∃ (S : ByteArray) (P : Nat) (E : Int), S.size ≤ 1000 ∧ parseE S.data.toList = .error (E, P) ∧ w.cell? ⟨p, k * 3, none⟩ = some (.string S) ∧ w.cell? ⟨p, k * 3 + 1, none⟩ = some (.int .i64 (P : Int)) ∧ w.cell? ⟨p, k * 3 + 2, none⟩ = some (.int .i64 E) := by
  obtain rfl | rfl | rfl | rfl | rfl | rfl | rfl | rfl | rfl | rfl : k = 0 ∨ k = 1 ∨ k = 2 ∨ k = 3 ∨ k = 4 ∨ k = 5 ∨ k = 6 ∨ k = 7 ∨ k = 8 ∨ k = 9 := by omega
  · exact ⟨_, _, _, by decide, exn_0, cell_of_block h 0, cell_of_block h 1, cell_of_block h 2⟩
  · exact ⟨_, _, _, by decide, exn_1, cell_of_block h 3, cell_of_block h 4, cell_of_block h 5⟩
  · exact ⟨_, _, _, by decide, exn_2, cell_of_block h 6, cell_of_block h 7, cell_of_block h 8⟩
  · exact ⟨_, _, _, by decide, exn_3, cell_of_block h 9, cell_of_block h 10, cell_of_block h 11⟩
  · exact ⟨_, _, _, by decide, exn_4, cell_of_block h 12, cell_of_block h 13, cell_of_block h 14⟩
  · exact ⟨_, _, _, by decide, exn_5, cell_of_block h 15, cell_of_block h 16, cell_of_block h 17⟩
  · exact ⟨_, _, _, by decide, exn_6, cell_of_block h 18, cell_of_block h 19, cell_of_block h 20⟩
  · exact ⟨_, _, _, by decide, exn_7, cell_of_block h 21, cell_of_block h 22, cell_of_block h 23⟩
  · exact ⟨_, _, _, by decide, exn_8, cell_of_block h 24, cell_of_block h 25, cell_of_block h 26⟩
  · exact ⟨_, _, _, by decide, exn_9, cell_of_block h 27, cell_of_block h 28, cell_of_block h 29⟩

def maxN : Nd := litN (numV 9223372036854775807)
set_option maxHeartbeats 8000000 in
theorem exprNames_walk (w : World) (hg : Gx w) : Calls Tryz.prog 3 #[] w fun e w' => e = .returned (.bool true) ∧ Below w.heap.size w w' := by
  obtain ⟨w1, p1, hp1, hw1, l1, n1, b1⟩ := box_new w (.cells #[.string ⟨#[97, 32, 60, 32, 98, 32, 60, 32, 99]⟩, .int .i64 6, .int .i64 4, .string ⟨#[97, 32, 43]⟩, .int .i64 3, .int .i64 4, .string ⟨#[39, 120]⟩, .int .i64 0, .int .i64 4, .string ⟨#[48, 49]⟩, .int .i64 0, .int .i64 4, .string ⟨#[57, 50, 50, 51, 51, 55, 50, 48, 51, 54, 56, 53, 52, 55, 55, 53, 56, 48, 56]⟩, .int .i64 0, .int .i64 91, .string ⟨#[]⟩, .int .i64 0, .int .i64 4, .string ⟨#[97, 32, 33, 32, 98]⟩, .int .i64 2, .int .i64 4, .string ⟨#[40, 97]⟩, .int .i64 2, .int .i64 4, .string ⟨#[97, 32, 98]⟩, .int .i64 2, .int .i64 4, .string ⟨#[97, 32, 61, 32, 110, 111, 116, 32, 98]⟩, .int .i64 4, .int .i64 4] 23)
  have n1' : w1.heap[p1]? = some (.cells exCells 23 (0, 0)) := n1
  have HN1 := Lib.hid n1'
  have HB1 := Lib.hid b1
  have HG := Lib.hid hg
  have hz1 := b1.size
  clear n1 n1' b1 hg
  go_enter Tryz.func3, Tryz.ntmps3
  go_wp2_with fail
  go_loopg [24] 10 (fun gh s24 wr => ∃ k : Nat, k ≤ 10 ∧ k + gh = 10 ∧ s24 = .int .i64 (k : Int) ∧ Hid (Below w1.heap.size w1 wr))
  case atStart => exact ⟨0, by omega, by omega, rfl, Lib.hid (Below.refl _ _)⟩
  case round =>
    obtain ⟨k, hk, hkg, rfl, hbel⟩ := hrel
    have hzr := hbel.out.size
    have HBr := Lib.hid (HB1.out.trans (hbel.out.mono hz1))
    by_cases hlt : k < 10
    · have u1 : decide ((k : Int) < 10) = true := decide_eq_true (by omega)
      have u1' : decide (k < 10) = true := decide_eq_true hlt
      obtain ⟨S, P, E, hSz, hpe, c0, c1, c2⟩ := ex_at ((hbel.out.block p1 l1).trans HN1.out) k hlt
      obtain ⟨w2, p2, hp2, hw2, l2, n2, b2⟩ := box_new wr (.cells #[.string S, .int .i64 (P : Int), .int .i64 E] 23)
      have k0 : w2.cell? ⟨p2, 0, none⟩ = some (.string S) := cell_of_block n2 0
      have k1 : w2.cell? ⟨p2, 1, none⟩ = some (.int .i64 (P : Int)) := cell_of_block n2 1
      have k2 : w2.cell? ⟨p2, 2, none⟩ = some (.int .i64 E) := cell_of_block n2 2
      have HB2 := Lib.hid (HBr.out.trans (b2.mono HBr.out.size))
      have HB12 := Lib.hid (hbel.out.trans (b2.mono hbel.out.size))
      have HPA : Hid (Calls Tryz.prog 9 #[.string S] w2 (ParseC w2 (.error (E, P)))) := Lib.hid (by
        have h := parse_any w2 (HG.out.up HB2.out).ga S (by omega)
        rw [hpe] at h
        exact h)
      clear hpe n2 b2
      go_wp2_with (go_at_call 9; refine HPA.out.mono ?_; rintro e w3 ⟨n, a, c, d, pos, err, rfl, hb3, rfl, hvk, rfl, rfl, hE⟩; have x1 : w3.cell? ⟨p2, 1, none⟩ = some (.int .i64 (P : Int)) := (Below.cellB hb3 l2).trans k1; have x2 : w3.cell? ⟨p2, 2, none⟩ = some (.int .i64 err) := (Below.cellB hb3 l2).trans k2; have hz3 := hb3.size; have l23 : p2 < w3.heap.size := (by omega); have HB3 := Lib.hid hb3; clear hb3 hvk hE)
      all_goals
        go_roundg (gk - 1)
        case measure => omega
        case rel => exact ⟨k + 1, by omega, by omega, by go_num, Lib.hid (HB12.out.trans ((HB3.out.alloc HB3.out.size _).mono HB12.out.size))⟩
    · have u1 : decide ((k : Int) < 10) = false := decide_eq_false (by omega)
      have u1' : decide (k < 10) = false := decide_eq_false hlt
      obtain ⟨mz, hmz⟩ : ∃ m, madeCells #[Value.int .u8 0] 257 = m := ⟨_, rfl⟩
      have hmk : (Instr.makeSlice 32 (.int .i64 257) (.int .i64 257)).run Tryz.prog wr = .ok (.slice (some ⟨wr.heap.size, 0, none⟩) 257 257) (wr.alloc (.cells mz 5)) := by rw [← hmz]; exact x_make wr 257 (by omega)
      have hz : Hid (∀ k, k < 257 → mz[k]? = some (.int .u8 0)) := Lib.hid (fun k hk => by
        rw [← hmz]
        unfold madeCells
        rw [Array.getElem?_map]
        simp [hk, Nat.mod_one])
      obtain ⟨w2, p2, hp2, hw2, l2, n2, b2⟩ := box_new wr (.cells mz 5)
      obtain ⟨Z, hZ⟩ : ∃ Z, strOfNums (List.replicate 257 0) = Z := ⟨_, rfl⟩
      have hcv : (convert 32 9 (.slice (some ⟨p2, 0, none⟩) 257 257)).run Tryz.prog w2 = .ok (.string Z) w2 := by
        rw [← hZ]
        exact x_back w2 p2 257 257 (fun j hj => by rw [cell_of_block n2, hz.out j hj])
      have hZs : Z.size = 257 := by rw [← hZ, strOfNums_size]; simp
      have HB2 := Lib.hid (HBr.out.trans (b2.mono HBr.out.size))
      have HPZ : Hid (Calls Tryz.prog 9 #[.string Z] w2 (ParseC w2 (.error (3, 0)))) := Lib.hid (by
        have h := parse_any w2 (HG.out.up HB2.out).ga Z (by omega)
        rw [parseE_long (by rw [sl_len]; omega)] at h
        exact h)
      have HPM : Hid (∀ W, Below w2.heap.size w2 W → Calls Tryz.prog 9 #[.string ⟨#[57, 50, 50, 51, 51, 55, 50, 48, 51, 54, 56, 53, 52, 55, 55, 53, 56, 48, 55]⟩] W fun e w' => ∃ a c d, e = .returned (.tuple #[.agg #[.int .u8 1, .int .u8 1, .int .i64 9223372036854775807, .bool false, .string ⟨#[]⟩, .string ⟨#[]⟩, .slice a c d], .int .i64 0, .int .i64 0]) ∧ Below W.heap.size W w') := Lib.hid (fun W hW => by
        have h := parse_any W ((HG.out.up HB2.out).up hW).ga ⟨#[57, 50, 50, 51, 51, 55, 50, 48, 51, 54, 56, 53, 52, 55, 55, 53, 56, 48, 55]⟩ (by show 19 ≤ _; omega)
        have e := exn_max
        have h2 : Calls Tryz.prog 9 #[.string ⟨#[57, 50, 50, 51, 51, 55, 50, 48, 51, 54, 56, 53, 52, 55, 55, 53, 56, 48, 55]⟩] W (ParseC W (.ok (litN (numV 9223372036854775807)))) := e ▸ h
        refine h2.mono ?_
        rintro e w' ⟨n, a, c, d, pos, err, rfl, hb, rfl, rfl, rfl, _, _⟩
        exact ⟨a, c, d, rfl, hb⟩)
      have HAW := Lib.hid (fun (W : World) (h : Below w.heap.size w W) => awake10_any W (HG.out.up h))
      clear hmz hz hZ hZs n2 b2
      go_wp2_with (first
        | (go_at_call 9; (with_reducible refine HPZ.out.mono ?_); rintro e w3 ⟨n, a, c, d, pos, err, rfl, hb3, rfl, hvk, rfl, rfl, hE⟩; obtain ⟨w4, p4, hp4, hw4, l4, n4, b4⟩ := box_new w3 (.cells #[.int .u8 nilN.op, .int .u8 nilN.v.kind, .int .i64 nilN.v.num, .bool nilN.v.tr, .string nilN.v.text, .string nilN.name, .slice a c d] 29); have HB4 := Lib.hid (hb3.trans (b4.mono hb3.size)); clear hb3 hvk hE n4 b4)
        | (go_at_call 9; (with_reducible refine (HPM.out _ HB4.out).mono ?_); rintro e w5 ⟨a', c', d', rfl, hb5⟩; have HB5 := Lib.hid (HB4.out.trans (hb5.mono HB4.out.size)); clear hb5)
        | (go_at_call 10; refine (HAW.out _ (HB2.out.trans ((HB5.out.alloc HB5.out.size _).mono HB2.out.size))).mono ?_; rintro e w7 ⟨rfl, hb7⟩; have HB7 := Lib.hid ((HB2.out.trans ((HB5.out.alloc HB5.out.size _).mono HB2.out.size)).trans (hb7.mono (HB2.out.trans ((HB5.out.alloc HB5.out.size _).mono HB2.out.size)).size)); clear hb7))
      go_ret
      exact ⟨rfl, HB7.out⟩
end Go.Proofs.YtbephgifbghilaaGreatDoor
