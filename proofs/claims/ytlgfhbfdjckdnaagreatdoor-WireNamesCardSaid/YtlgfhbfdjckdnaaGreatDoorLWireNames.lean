/- The law 'WireNames' (seat wirez). -/
import Derived.Test.YtlgfhbfdjckdnaaGreatDoorWireRefused
import Derived.Test.YtlgfhbfdjckdnaaGreatDoorWireNamesP
import Derived.Test.YtlgfhbfdjckdnaaGreatDoorWireWorks
import Derived.Test.YtlgfhbfdjckdnaaGreatDoorWireTold
import Derived.Test.YtlgfhbfdjckdnaaGreatDoorWireWrite
import Derived.Test.YtlgfhbfdjckdnaaGreatDoorWireAns3
import Derived.Laws.IdiomStrings
set_option maxRecDepth 100000
namespace Go.Proofs.YtlgfhbfdjckdnaaGreatDoor
open Go.RowKit

theorem str_back2 (w : World) (b cap : Nat) (s : ByteArray) (h : ∀ j, j < s.size → w.cell? ⟨b, j, none⟩ = some (.int .u8 (s.data.toList.getD j 0).toNat)) : (convert 27 9 (.slice (some ⟨b, 0, none⟩) s.size cap)).run Tryz.prog w = .ok (.string s) w := by
  have h2 := run_convert_bytes_back (P := Tryz.prog) w 27 9 5 ⟨b, 0, none⟩ cap s.data.toList Tryz.underlying27 Tryz.underlying5 Tryz.underlying9 (fun j hj => by
    have hj2 : j < s.size := by rw [← dat_len]; exact hj
    have := h j hj2
    rw [List.getD_eq_getElem?_getD, List.getElem?_eq_getElem hj] at this
    rw [add_addr, Nat.zero_add]
    exact this)
  rw [dat_len] at h2
  exact h2
theorem many (n : Nat) (c : UInt8) : ∃ s : ByteArray, s.data.toList = List.replicate n c ∧ s.size = n := ⟨⟨(List.replicate n c).toArray⟩, by simp, by show (List.replicate n c).toArray.size = n; simp⟩
theorem told_not : ∀ st n, ¬ ToldIs [72, 84, 84, 80, 47, 49, 46, 49, 32, 50, 48, 48, 32, 79, 75, 13, 10] st n := fun st n h => by
  have h2 := told_all h (by decide)
  have h3 : Lib.index [72, 84, 84, 80, 47, 49, 46, 49, 32, 50, 48, 48, 32, 79, 75, 13, 10] clenL = -1 := by kernel_rfl
  omega
def sevB : ByteArray := (⟨#[65, 66, 67, 68, 69, 70, 71, 72, 73, 74, 75, 76, 77, 78, 79, 80, 81, 32, 47, 32, 72, 84, 84, 80, 47, 49, 46, 49]⟩ : ByteArray) ++ (⟨#[13, 10, 104, 111, 115, 116, 58, 32, 97]⟩ : ByteArray) ++ (⟨#[13, 10, 13, 10]⟩ : ByteArray)
def sixB : ByteArray := (⟨#[65, 66, 67, 68, 69, 70, 71, 72, 73, 74, 75, 76, 77, 78, 79, 80, 32, 47, 32, 72, 84, 84, 80, 47, 49, 46, 49]⟩ : ByteArray) ++ (⟨#[13, 10, 104, 111, 115, 116, 58, 32, 97]⟩ : ByteArray) ++ (⟨#[13, 10, 13, 10]⟩ : ByteArray)
theorem six_row (W' : World) (base : Nat) (v : Value) (h : OwnF fG 39 5 W' base v (feedS sixB.data.toList).1) : ∃ g c, v = .slice (some ⟨g, 0, none⟩) 1 c ∧ 1 ≤ c ∧ base ≤ g ∧ g < W'.heap.size ∧ W'.cell? ⟨g, 4, none⟩ = some (.int .i64 0) := by
  have hm : (feedS sixB.data.toList).1.map (·.st) = [0] := by kernel_rfl
  obtain ⟨A, hA⟩ : ∃ A, (feedS sixB.data.toList).1 = A := ⟨_, rfl⟩
  rw [hA] at h hm
  match A, hm, h with
  | [x], hm, h =>
    rcases h.val with ⟨_, h0⟩ | ⟨g, c, rfl, h1, h2⟩
    · cases h0
    · have h4 := OwnF.at fG_len h (i := 0) (j := 4) (by simp) (by omega)
      have hx : x.st = 0 := by simpa using hm
      refine ⟨g, c, rfl, h.cap, h1, h2, ?_⟩
      rw [show 0 * 5 + 4 = 4 by omega] at h4
      rw [h4]
      show some (Value.int .i64 x.st) = _
      rw [hx]

set_option maxHeartbeats 16000000 in
theorem wireNames_walk (W : World) (hg : Gnd W) :
    Calls Tryz.prog 7 #[] W fun e w' => e = .returned (.bool true) ∧ Below W.heap.size W w' := by
  have HG := Lib.hid hg
  have HRf := Lib.hid (fun (W' : World) (h : Below W.heap.size W W') (s : ByteArray) (hs : s.size ≤ 300000) (st : Int) (hF : feedS s.data.toList = ([refG st], [], true)) => lrefused_any W' (hg.up h) s hs st hF)
  have HRd := Lib.hid (fun (W' : World) (h : Below W.heap.size W W') (s : ByteArray) (hs : s.size ≤ 300000) => lread_any W' (hg.up h) s hs)
  clear hg
  have cur : Below W.heap.size W W := Below.refl _ _
  go_enter Tryz.func7, Tryz.ntmps7
  go_upto_region 4 with (go_at_call 14; refine (works_any _ HG.out).mono ?_; rintro e w2 ⟨rfl, hb2⟩; have cur := cur.trans (hb2.mono cur.size))
  have HC2 := Lib.hid cur
  have hc2s := cur.size
  clear hb2 cur
  go_wp2_with fail
  go_loopg [158] 23 (fun gh s158 wx => ∃ i : Nat, i + gh = 23 ∧ s158 = .int .i64 (i : Int) ∧ Below W.heap.size W wx ∧ Hid (wx.heap[w2.heap.size]? = some (.cells namesV 52)))
  case atStart => exact ⟨0, by omega, rfl, HC2.out.alloc hc2s _, Lib.hid (MapKept.heap_alloc w2 _).1⟩
  case round =>
    obtain ⟨i, hig, rfl, hbel, hblk⟩ := hrel
    have hbz := hbel.size
    have HBel := Lib.hid hbel
    have hl2 := lt_of_block hblk.out
    clear hbel
    by_cases hi : i < 23
    · obtain ⟨t, st, h1, h2, h3, h4⟩ := names_at hi
      have u1 : decide ((i : Int) < 23) = true := decide_eq_true (by omega)
      have u1' : decide (i < 23) = true := decide_eq_true hi
      have c0 : wr.cell? ⟨w2.heap.size, i * 2, none⟩ = some (.string t) := (cell_of_block hblk.out _).trans h1
      have c1 : wr.cell? ⟨w2.heap.size, i * 2 + 1, none⟩ = some (.int .i64 st) := (cell_of_block hblk.out _).trans h2
      have HR1 := Lib.hid (fun (W' : World) (h : Below W.heap.size W W') => HRf.out W' h t h4 st h3)
      clear h1 h2 h3 h4
      go_wp2_with (go_at_call 19; refine (HR1.out _ (HBel.out.alloc hbz _)).mono ?_; rintro e w5 ⟨rfl, hb5⟩)
      go_roundg (23 - (i + 1))
      case measure => omega
      case rel =>
        have hb6 := (HBel.out.alloc hbz _).trans (hb5.mono (Nat.le_trans hbz (by simp)))
        exact ⟨i + 1, by omega, by go_num, hb6, Lib.hid (((hb5.block _ (by simp; omega)).trans (Below.block ((Below.refl _ _).alloc (Nat.le_refl _) _) _ hl2)).trans hblk.out)⟩
    · have u1 : decide ((i : Int) < 23) = false := decide_eq_false (by omega)
      have u1' : decide (i < 23) = false := decide_eq_false hi
      have hmk : (Instr.makeSlice 27 (.int .i64 4096) (.int .i64 4096)).run Tryz.prog wr = .ok (.slice (some ⟨wr.heap.size, 0, none⟩) 4096 4096) (wr.alloc (.cells (madeCells #[.int .u8 0] 4096) 5)) := run_make_row' (P := Tryz.prog) 27 5 (.int .u8 0) 1 Tryz.underlying27 info_u8F rfl .i64 .i64 4096 (by omega) (by omega) wr
      have hmz : Hid ((madeCells #[.int .u8 0] 4096).size = 4096) := Lib.hid (size_madeCells _ _)
      obtain ⟨mz, hmz2⟩ : ∃ m, madeCells #[Value.int .u8 0] 4096 = m := ⟨_, rfl⟩
      rw [hmz2] at hmk hmz
      clear hmz2
      have HBl := Lib.hid hblk
      obtain ⟨Wb, rfl⟩ : ∃ Wb : World, Wb = wr := ⟨_, rfl⟩
      go_wp2_with fail
      go_loopg [6] 4096 (fun gh s6 wx => ∃ (j : Nat) (cur : Array Value), j + gh = 4096 ∧ s6 = .int .i64 (j : Int) ∧ Below W.heap.size W wx ∧ Wb.heap.size < wx.heap.size ∧ Hid (wx.heap[Wb.heap.size]? = some (.cells cur 5) ∧ cur.size = 4096 ∧ ∀ k, k < j → cur[k]? = some (.int .u8 97)))
      case atStart => exact ⟨0, mz, by omega, rfl, HBel.out.alloc hbz _, by simp, Lib.hid ⟨(MapKept.heap_alloc Wb _).1, hmz.out, fun k h => by omega⟩⟩
      case round =>
        obtain ⟨j, cur, hjg, rfl, hbel, hlt, hrow⟩ := hrel
        have hbxz := hbel.size
        have HBx := Lib.hid hbel
        clear hbel
        by_cases hj : j < 4096
        · have y1 : decide ((j : Int) < 4096) = true := decide_eq_true (by omega)
          have y1' : decide (j < 4096) = true := decide_eq_true hj
          have hcs := hrow.out.2.1
          have hc : wr.cell? ⟨Wb.heap.size, j, none⟩ = some (cur[j]'(by omega)) := by rw [cell_of_block hrow.out.1, Array.getElem?_eq_getElem (by omega)]
          have hfz := free_of_block hrow.out.1 j
          obtain ⟨cj, hcj⟩ : ∃ x, cur[j]'(by omega) = x := ⟨_, rfl⟩
          rw [hcj] at hc
          clear hcj hcs
          go_wp2_with fail
          go_roundg (4096 - (j + 1))
          case measure => omega
          case rel =>
            refine ⟨j + 1, cur.setIfInBounds j (.int .u8 97), by omega, by go_num, HBx.out.setCell hbz _, by simpa using hlt, Lib.hid ⟨set_selfR _ hrow.out.1, by rw [Array.size_setIfInBounds]; exact hrow.out.2.1, fun k hk => ?_⟩⟩
            rw [Array.getElem?_setIfInBounds]
            by_cases hkj : j = k
            · rw [if_pos hkj, if_pos (by rw [hrow.out.2.1]; omega)]
            · rw [if_neg hkj]; exact hrow.out.2.2 k (by omega)
        · have y1 : decide ((j : Int) < 4096) = false := decide_eq_false (by omega)
          have y1' : decide (j < 4096) = false := decide_eq_false hj
          obtain ⟨Wc, rfl⟩ : ∃ Wc : World, Wc = wr := ⟨_, rfl⟩
          have hcell : ∀ k, k < 4096 → Wc.cell? ⟨Wb.heap.size, k, none⟩ = some (.int .u8 97) := fun k hk => (cell_of_block hrow.out.1 k).trans (hrow.out.2.2 k (by omega))
          obtain ⟨lg, hlgd, hlgz⟩ := many 4096 97
          have HLG := Lib.hid hlgd
          have HCell := Lib.hid hcell
          have HCVl := Lib.hid (fun (W' : World) (h : Below Wc.heap.size Wc W') => show (convert 27 9 (.slice (some ⟨Wb.heap.size, 0, none⟩) 4096 4096)).run Tryz.prog W' = .ok (.string lg) W' from by
            have := str_back2 W' Wb.heap.size 4096 lg (fun j hj => by
              rw [Below.cellB h hlt, hcell j (by omega), hlgd, List.getD_eq_getElem?_getD, List.getElem?_replicate, if_pos (by omega)]; rfl)
            rw [hlgz] at this
            exact this)
          have hlg1 : lg.size ≤ 4096 := by omega
          have HA := Lib.hid (fun (W' : World) (h : Below Wc.heap.size Wc W') => HRf.out W' (HBx.out.trans (h.mono hbxz)) ((⟨#[65, 66, 67, 68, 69, 70, 71, 72, 73, 74, 75, 76, 77, 78, 79, 80, 81, 32, 47, 32, 72, 84, 84, 80, 47, 49, 46, 49]⟩ : ByteArray) ++ (⟨#[13, 10, 104, 111, 115, 116, 58, 32, 97]⟩ : ByteArray) ++ (⟨#[13, 10, 13, 10]⟩ : ByteArray)) (of_decide_eq_true (by kernel_rfl)) 400 (by kernel_rfl))
          have HB : Hid (∀ W', Below Wc.heap.size Wc W' → Calls Tryz.prog 16 #[.string ((⟨#[65, 66, 67, 68, 69, 70, 71, 72, 73, 74, 75, 76, 77, 78, 79, 80, 32, 47, 32, 72, 84, 84, 80, 47, 49, 46, 49]⟩ : ByteArray) ++ (⟨#[13, 10, 104, 111, 115, 116, 58, 32, 97]⟩ : ByteArray) ++ (⟨#[13, 10, 13, 10]⟩ : ByteArray))] W' fun e w' => ∃ g c, e = .returned (.slice (some ⟨g, 0, none⟩) 1 c) ∧ 1 ≤ c ∧ W'.heap.size ≤ g ∧ g < w'.heap.size ∧ w'.cell? ⟨g, 4, none⟩ = some (.int .i64 0) ∧ Below W'.heap.size W' w') := by
            refine Lib.hid (fun W' h => (HRd.out W' (HBx.out.trans (h.mono hbxz)) ((⟨#[65, 66, 67, 68, 69, 70, 71, 72, 73, 74, 75, 76, 77, 78, 79, 80, 32, 47, 32, 72, 84, 84, 80, 47, 49, 46, 49]⟩ : ByteArray) ++ (⟨#[13, 10, 104, 111, 115, 116, 58, 32, 97]⟩ : ByteArray) ++ (⟨#[13, 10, 13, 10]⟩ : ByteArray)) (of_decide_eq_true (by kernel_rfl))).mono ?_)
            rintro e w' ⟨v, rfl, hO, hb⟩
            obtain ⟨g, c, rfl, h1, h2, h3, h4⟩ := six_row w' _ v hO
            exact ⟨g, c, rfl, h1, h2, h3, h4, hb⟩
          have HX := Lib.hid (fun (W' : World) (h : Below Wc.heap.size Wc W') => HRf.out W' (HBx.out.trans (h.mono hbxz)) ((⟨#[71, 69, 84, 32, 47, 32, 72, 84, 84, 80, 47, 49, 46, 49]⟩ : ByteArray) ++ (⟨#[13, 10, 104, 111, 115, 116, 58, 32, 97]⟩ : ByteArray) ++ (⟨#[13, 10, 120, 58, 32]⟩ : ByteArray) ++ lg ++ (⟨#[13, 10, 13, 10]⟩ : ByteArray)) (by simp only [ByteArray.size_append]; rw [hlgz]; decide) 431 (by
            have e : ((⟨#[71, 69, 84, 32, 47, 32, 72, 84, 84, 80, 47, 49, 46, 49]⟩ : ByteArray) ++ (⟨#[13, 10, 104, 111, 115, 116, 58, 32, 97]⟩ : ByteArray) ++ (⟨#[13, 10, 120, 58, 32]⟩ : ByteArray) ++ lg ++ (⟨#[13, 10, 13, 10]⟩ : ByteArray)).data.toList = xLead ++ List.replicate 4096 97 ++ [13, 10, 13, 10] := by
              simp only [app_list]
              rw [hlgd]
              rfl
            rw [e]
            exact feed_x _))
          have HL := Lib.hid (fun (W' : World) (h : Below Wc.heap.size Wc W') => HRf.out W' (HBx.out.trans (h.mono hbxz)) lg (by omega) 431 (by rw [hlgd]; exact feed_many))
          clear hcell hlgd hlgz
          have cur : Below Wc.heap.size Wc Wc := Below.refl _ _
          have hcv := HCVl.out _ cur
          go_upto_region 18 with (first
            | (have _ := hq2; go_at_call 19; refine (HX.out _ cur).mono ?_; rintro e w5 ⟨rfl, hb5⟩; have cur := cur.trans (hb5.mono cur.size); have hcv := HCVl.out _ cur)
            | (go_at_call 16; refine (HB.out _ cur).mono ?_; rintro e w6 ⟨g6, c6, rfl, hc6, -, -, -, hb6⟩; have cur := cur.trans (hb6.mono cur.size); have hcv := HCVl.out _ cur; have hq2 := True.intro)
            | (go_at_call 19; refine (HA.out _ cur).mono ?_; rintro e w5 ⟨rfl, hb5⟩; have cur := cur.trans (hb5.mono cur.size); have hcv := HCVl.out _ cur))
          go_upto_region 21 with (go_at_call 16; refine (HB.out _ cur).mono ?_; rintro e w7 ⟨g7, c7, rfl, hc7, hg71, hg72, k4, hb7⟩; have cur := cur.trans (hb7.mono cur.size); have hcv := HCVl.out _ cur)
          have HCur := Lib.hid cur
          have hWcW := HBx.out
          have hcw := cur.size
          clear hcv cur
          go_upto_region 22 with (go_at_call 8; refine (new_any _).mono ?_; rintro e w8 ⟨p1, rfl, hR1, hp1, hb8⟩; have HB8 := Lib.hid (HCur.out.trans (hb8.mono HCur.out.size)); have HR1 := Lib.hid hR1; have hWp : W.heap.size ≤ p1 := (by have := HCur.out.size; omega); have hWpb : Wc.heap.size ≤ p1 := (by have := HCur.out.size; omega); clear hR1 hp1 hb8)
          have hp1w : p1 < w8.heap.size := by obtain ⟨_, q, _⟩ := HR1.out; exact lt_of_block q
          have HCF : Hid (ColF fU 1 w8 w8.heap.size (some ⟨Wb.heap.size, 0, none⟩) (List.replicate 4095 97)) := by
            refine Lib.hid (fun i hi => ?_)
            rw [List.length_replicate] at hi
            refine ⟨Wb.heap.size, 0, rfl, by have := HB8.out.size; omega, fun j hj => ?_⟩
            obtain rfl : j = 0 := by omega
            rw [show 0 + i * 1 + 0 = i by omega, Below.cellB HB8.out hlt, HCell.out i (by omega), List.getElem_replicate]
            rfl
          have HFd : Hid (∀ cap, Calls Tryz.prog 9 #[.pointer (some ⟨p1, 0, none⟩), .slice (some ⟨Wb.heap.size, 0, none⟩) 4095 cap] w8 fun e w' => ∃ v, e = .returned v ∧ OwnF fG 39 5 w' w8.heap.size v [] ∧ RdR w' w8.heap.size p1 (List.replicate 4095 97) false ∧ Frm [some p1] w8 w') := by
            refine Lib.hid (fun cap => ?_)
            have h := feed_any W.heap.size w8 ((HG.out.toB).up (hWcW.trans (HB8.out.mono hbxz))) p1 (p1 + 1) hWp (by omega) [] HR1.out (by simp) (some ⟨Wb.heap.size, 0, none⟩) (List.replicate 4095 97) cap HCF.out (by rw [List.length_replicate]; omega)
            rw [List.length_replicate] at h
            refine h.mono ?_
            rintro e w' ⟨v, rfl, hO, hR, hF⟩
            rw [List.nil_append, feed_less] at hO hR
            exact ⟨v, rfl, hO, hR, hF⟩
          go_upto_region 24 with (first
            | (go_at_call 9; refine (HFd.out _).mono ?_; rintro e w9 ⟨v9, rfl, hO9, hR9, hF9⟩; obtain ⟨a9, c9, rfl⟩ := hO9.shape; have HR9 := Lib.hid hR9; have hB9 : Below Wc.heap.size Wc w9 := HB8.out.trans (hF9.toBelow HB8.out.size (by intro r hr j hj; simp only [List.mem_singleton] at hr; subst hr; injection hj with hj; omega)); have hcv := HCVl.out _ hB9; have HB9 := Lib.hid hB9; clear hO9 hR9 hF9 hB9)
            | (go_at_call 12; refine (rest_any _ _ _ _ _ HR9.out).mono ?_; rintro e w7 ⟨rfl, rfl⟩)
            | (go_at_call 13; refine (closed_any _ _ _ _ _ HR9.out).mono ?_; rintro e w7 ⟨rfl, rfl⟩)
            | (go_at_call 19; refine (HL.out _ HB9.out).mono ?_; rintro e w10 ⟨rfl, hb10⟩; have HB10 := Lib.hid (HB9.out.trans (hb10.mono HB9.out.size)); clear hb10))
          have HGc := Lib.hid (fun (W' : World) (h : Below Wc.heap.size Wc W') => HG.out.up (hWcW.trans (h.mono hbxz)))
          have HW1 := Lib.hid (fun (W' : World) (h : Below Wc.heap.size Wc W') => (show Calls Tryz.prog 15 #[.agg #[.string ⟨#[103, 101, 116]⟩, .string ⟨#[47]⟩, .string ⟨#[]⟩, .string ⟨#[]⟩]] W' fun e w' => e = .returned (.tuple #[.string ⟨#[]⟩, .int .i64 1]) ∧ Below W'.heap.size W' w' from (write_any W' (HGc.out W' h) _ _ _ _ (of_decide_eq_true (by kernel_rfl)) (of_decide_eq_true (by kernel_rfl)) (of_decide_eq_true (by kernel_rfl)) (of_decide_eq_true (by kernel_rfl))).mono (by rintro e w' ⟨rfl, hb⟩; exact ⟨rfl, hb⟩)))
          have HW2 := Lib.hid (fun (W' : World) (h : Below Wc.heap.size Wc W') => (show Calls Tryz.prog 15 #[.agg #[.string ⟨#[71, 69, 84]⟩, .string ⟨#[47]⟩, .string ⟨#[97, 32, 98]⟩, .string ⟨#[]⟩]] W' fun e w' => e = .returned (.tuple #[.string ⟨#[]⟩, .int .i64 1]) ∧ Below W'.heap.size W' w' from (write_any W' (HGc.out W' h) _ _ _ _ (of_decide_eq_true (by kernel_rfl)) (of_decide_eq_true (by kernel_rfl)) (of_decide_eq_true (by kernel_rfl)) (of_decide_eq_true (by kernel_rfl))).mono (by rintro e w' ⟨rfl, hb⟩; exact ⟨rfl, hb⟩)))
          obtain ⟨zb, hzbd, hzbz⟩ := many 65537 0
          have HW3 := Lib.hid (fun (W' : World) (h : Below Wc.heap.size Wc W') => (show Calls Tryz.prog 15 #[.agg #[.string ⟨#[71, 69, 84]⟩, .string ⟨#[47]⟩, .string ⟨#[]⟩, .string zb]] W' fun e w' => e = .returned (.tuple #[.string ⟨#[]⟩, .int .i64 1]) ∧ Below W'.heap.size W' w' from (write_any W' (HGc.out W' h) _ _ _ _ (of_decide_eq_true (by kernel_rfl)) (of_decide_eq_true (by kernel_rfl)) (of_decide_eq_true (by kernel_rfl)) (by omega)).mono (by
            rintro e w' ⟨rfl, hb⟩
            refine ⟨?_, hb⟩
            unfold mayB
            rw [decide_eq_false (show ¬ zb.size ≤ 65536 by omega), Bool.and_false]
            rfl)))
          have HAn := Lib.hid (fun (W' : World) (h : Below Wc.heap.size Wc W') => (show Calls Tryz.prog 17 #[.agg #[.int .i64 299, .string ⟨#[]⟩]] W' fun e w' => e = .returned (.tuple #[.string ⟨#[]⟩, .int .i64 1]) ∧ Below W'.heap.size W' w' from (answer_any W' (HGc.out W' h) 299 (by decide) (by unfold I64n; decide) ⟨#[]⟩ (by decide)).mono (by rintro e w' ⟨rfl, hb⟩; exact ⟨rfl, hb⟩)))
          have HTo := Lib.hid (fun (W' : World) (h : Below Wc.heap.size Wc W') => (show Calls Tryz.prog 18 #[.string ⟨#[72, 84, 84, 80, 47, 49, 46, 49, 32, 50, 48, 48, 32, 79, 75, 13, 10]⟩] W' fun e w' => e = .returned (.tuple #[.agg #[.int .i64 0, .string ⟨#[]⟩], .int .i64 0, .int .i64 4]) ∧ Below W'.heap.size W' w' from (told_any W' (HGc.out W' h) _ (of_decide_eq_true (by kernel_rfl))).mono (by
            rintro e w' ⟨r, rfl, hv, hb⟩
            refine ⟨?_, hb⟩
            rcases hv with ⟨st, n, hI, _⟩ | ⟨_, rfl⟩
            · exact absurd hI (told_not _ _)
            · rfl)))
          have HMk := Lib.hid (fun (W' : World) => (show (Instr.makeSlice 27 (.int .i64 65537) (.int .i64 65537)).run Tryz.prog W' = .ok (.slice (some ⟨W'.heap.size, 0, none⟩) 65537 65537) (W'.alloc (.cells (madeCells #[.int .u8 0] 65537) 5)) from run_make_row' (P := Tryz.prog) 27 5 (.int .u8 0) 1 Tryz.underlying27 info_u8F rfl .i64 .i64 65537 (by omega) (by omega) W'))
          have HMz : Hid (∀ k, k < 65537 → (madeCells #[Value.int .u8 0] 65537)[k]? = some (.int .u8 0)) := Lib.hid (fun k hk => by
            unfold madeCells
            rw [Array.getElem?_map]
            simp [hk, Nat.mod_one])
          obtain ⟨mz2, hmz2⟩ : ∃ m, madeCells #[Value.int .u8 0] 65537 = m := ⟨_, rfl⟩
          rw [hmz2] at HMk HMz
          have HCz := Lib.hid (fun (W' : World) => (show (convert 27 9 (.slice (some ⟨W'.heap.size, 0, none⟩) 65537 65537)).run Tryz.prog (W'.alloc (.cells mz2 5)) = .ok (.string zb) (W'.alloc (.cells mz2 5)) from by
            have := str_back2 (W'.alloc (.cells mz2 5)) W'.heap.size 65537 zb (fun j hj => by
              rw [cell_of_block (MapKept.heap_alloc W' _).1, HMz.out j (by omega), hzbd, List.getD_eq_getElem?_getD, List.getElem?_replicate, if_pos (by omega)]; rfl)
            rw [hzbz] at this
            exact this))
          have cur := HB10.out
          have hmk := HMk.out
          have hcz := HCz.out
          clear hmz2 hzbd hzbz
          go_upto_region 26 with (go_at_call 15; refine (HW1.out _ cur).mono ?_; rintro e w11 ⟨rfl, hb11⟩; have cur := cur.trans (hb11.mono cur.size))
          go_upto_region 27 with (go_at_call 15; refine (HW2.out _ cur).mono ?_; rintro e w12 ⟨rfl, hb12⟩; have cur := cur.trans (hb12.mono cur.size))
          have hmk := HMk.out w12
          have hcz := HCz.out w12
          go_upto_region 30 with (first
            | (go_at_call 15; refine (HW3.out _ (cur.alloc cur.size _)).mono ?_; rintro e w13 ⟨rfl, hb13⟩; have cur := (cur.alloc cur.size _).trans (hb13.mono (Nat.le_trans cur.size (by simp))))
            | (go_at_call 17; refine (HAn.out _ cur).mono ?_; rintro e w14 ⟨rfl, hb14⟩; have cur := cur.trans (hb14.mono cur.size))
            | (go_at_call 18; refine (HTo.out _ cur).mono ?_; rintro e w15 ⟨rfl, hb15⟩; have cur := cur.trans (hb15.mono cur.size)))
          have hfin := hWcW.trans (cur.mono hbxz)
          have HFin := Lib.hid (hfin.alloc hfin.size (.cells #[.int .i64 0, .string ⟨#[]⟩] 46))
          go_wp2_with (first
            | (go_at_call 13; refine (closed_nil _).mono ?_; rintro e w7 ⟨rfl, rfl⟩)
            | (go_at_call 12; refine (rest_nil _).mono ?_; rintro e w7 ⟨rfl, rfl⟩)
            | (go_at_call 9; refine (feed_none _ _ _ _).mono ?_; rintro e w7 ⟨rfl, rfl⟩))
          go_ret
          exact ⟨rfl, HFin.out⟩
end Go.Proofs.YtlgfhbfdjckdnaaGreatDoor
