/- The law 'WireReads' (seat wirez). -/
import Derived.Test.YtlgfhbfdjckdnaaGreatDoorWireReadsQ
import Derived.Test.YtlgfhbfdjckdnaaGreatDoorWireWrite
set_option maxRecDepth 100000
namespace Go.Proofs.YtlgfhbfdjckdnaaGreatDoor
open Go.RowKit

theorem free_tail {w : World} {b n : Nat} {c : Array Value} {t : TypeId} (h : w.heap[b]? = some (.cells c t (n, n + 1))) {j : Nat} (hj : j < n) : w.frozen? ⟨b, j, none⟩ = false := by
  simp [World.frozen?, h]; omega
/-- What the reader has been told so far. -/
def SoFar (s z : ByteArray) (A : List Gp) (L : List UInt8) (cl : Bool) : Prop := ∃ P : List UInt8, s.data.toList = P ++ z.data.toList ∧ feedS P = (A, L, cl) ∧ P.length + z.size = s.size
theorem soFar_step {s z : ByteArray} {A : List Gp} {L : List UInt8} {cl : Bool} (h : SoFar s z A L cl) {k : Nat} (hk : k ≤ z.size) : SoFar s (z.extract k z.size) (A ++ (toldT L cl (z.extract 0 k).data.toList).1) (toldT L cl (z.extract 0 k).data.toList).2.1 (toldT L cl (z.extract 0 k).data.toList).2.2 ∧
    feedS (s.extract 0 (s.size - (z.extract k z.size).size)).data.toList = (A ++ (toldT L cl (z.extract 0 k).data.toList).1, (toldT L cl (z.extract 0 k).data.toList).2) := by
  obtain ⟨P, h1, h2, h3⟩ := h
  have h4 := feed_more (x := (z.extract 0 k).data.toList) h2
  have hz2 : (z.extract k z.size).size = z.size - k := by rw [ByteArray.size_extract]; omega
  have hsplit : z.data.toList = (z.extract 0 k).data.toList ++ (z.extract k z.size).data.toList := by rw [dat_take, dat_drop, List.take_append_drop]
  have hlen : (P ++ (z.extract 0 k).data.toList).length = P.length + k := by rw [List.length_append, dat_len, ByteArray.size_extract]; omega
  refine ⟨⟨P ++ (z.extract 0 k).data.toList, by rw [h1, List.append_assoc, ← hsplit], h4, by rw [hlen, hz2]; omega⟩, ?_⟩
  rw [dat_take, hz2, h1, hsplit, ← List.append_assoc]
  rw [show s.size - (z.size - k) = (P ++ (z.extract 0 k).data.toList).length by rw [hlen]; omega, List.take_left]
  exact h4
theorem own_u8 {w : World} {base b : Nat} {v : Value} {A : List Gp} {c : Array Value} {fr : Nat × Nat} (h : OwnF fG 39 5 w base v A) (h2 : w.heap[b]? = some (.cells c 5 fr)) : some b ≠ v.ownBlock := by
  rcases h.val with ⟨rfl, _⟩ | ⟨g2, cap, rfl, h3, _⟩
  · simp [Value.ownBlock]
  · intro e
    have e2 : b = g2 := by injection e
    subst e2
    obtain ⟨cur, hcur, _⟩ := h.block
    rw [hcur] at h2
    injection h2 with h2
    injection h2 with _ ht _
    exact absurd ht (by decide)
theorem own_u8row {w w' : World} {base b : Nat} {v : Value} {A : List Gp} {c : Array Value} {fr : Nat × Nat} (h : OwnF fG 39 5 w base v A) (h2 : w.heap[b]? = some (.cells c 5 fr)) (hF : Frm [some b] w w') : OwnF fG 39 5 w' base v A := by
  obtain ⟨h1, h3⟩ := (show w.ownsRow base 39 5 v A.length (cellsF fG A) from h)
  refine (show w'.ownsRow base 39 5 v A.length (cellsF fG A) from ⟨h1, ?_⟩)
  rcases h3 with h0 | ⟨g, cap, cur, hv, hbg, hblk, r⟩
  · exact .inl h0
  · refine .inr ⟨g, cap, cur, hv, hbg, hF.block hblk (fun r hr e => ?_), r⟩
    simp only [List.mem_singleton] at hr
    subst hr
    have e2 : b = g := by injection e
    subst e2
    rw [h2] at hblk
    injection hblk with hblk
    injection hblk with _ ht _
    exact absurd ht (by decide)
theorem cell_tail {w : World} {b : Nat} {c : Array Value} {t : TypeId} {fr : Nat × Nat} (h : w.heap[b]? = some (.cells c t fr)) (j : Nat) : w.cell? ⟨b, j, none⟩ = c[j]? := by simp [World.cell?, h]
theorem bcells_size (w : World) (e : TypeId) (s : ByteArray) : s.size ≤ (Lib.bytesCells w e s).size := by
  unfold Lib.bytesCells
  rw [Array.size_append, Array.size_map]
  exact Nat.le_add_right _ _
theorem str_back (w : World) (b cap : Nat) (s : ByteArray) (h : ∀ j, j < s.size → w.cell? ⟨b, j, none⟩ = some (.int .u8 (s.data.toList.getD j 0).toNat)) : (convert 27 9 (.slice (some ⟨b, 0, none⟩) s.size cap)).run Tryz.prog w = .ok (.string s) w := by
  have h2 := run_convert_bytes_back (P := Tryz.prog) w 27 9 5 ⟨b, 0, none⟩ cap s.data.toList Tryz.underlying27 Tryz.underlying5 Tryz.underlying9 (fun j hj => by
    have hj2 : j < s.size := by rw [← dat_len]; exact hj
    have := h j hj2
    rw [List.getD_eq_getElem?_getD, List.getElem?_eq_getElem hj] at this
    rw [add_addr, Nat.zero_add]
    exact this)
  rw [dat_len] at h2
  exact h2
theorem toldT_len (L : List UInt8) (cl : Bool) (x : List UInt8) : (toldT L cl x).2.1.length ≤ L.length + x.length ∧ (toldT L cl x).1.length ≤ L.length + x.length + 1 := by
  unfold toldT
  cases cl with
  | true => exact ⟨Nat.le_add_right _ _, Nat.zero_le _⟩
  | false =>
    have := feedS_len (L ++ x)
    rw [List.length_append] at this
    exact this

set_option maxHeartbeats 8000000 in
theorem wireReads_walk (W : World) (hg : Gnd W) (s : ByteArray) (hs : s.size ≤ 140737488355328) (vc : Value) (l : List Int) (hcuts : Ints W W.heap.size vc l) (_ : ∀ x ∈ l, (Lit.int .i64 x).wf = true) (more : ByteArray) (hm : more.size ≤ 140737488355328) :
    Calls Tryz.prog 3 #[.string s, vc, .string more] W fun e w' => e = .returned (.bool true) ∧ Below W.heap.size W w' := by
  obtain ⟨ac, cc, rfl⟩ := hcuts.val
  have hll := hcuts.len
  have HG := Lib.hid hg.toB
  clear hg
  have hmx : s.size ≤ 9223372036854775807 := by omega
  by_cases hbig : 200000 < s.size + more.size
  · have e1 : decide ((200000 : Int) < (s.size : Int) + (more.size : Int)) = true := decide_eq_true (by omega)
    go_enter Tryz.func3, Tryz.ntmps3
    go_wp2_with fail
    go_ret
    exact ⟨rfl, Below.refl _ _⟩
  · have e1 : decide ((200000 : Int) < (s.size : Int) + (more.size : Int)) = false := decide_eq_false (by omega)
    by_cases h40 : 40 < l.length
    · have e2 : decide ((40 : Int) < (l.length : Int)) = true := decide_eq_true (by omega)
      have e2' : decide (40 < l.length) = true := decide_eq_true h40
      go_enter Tryz.func3, Tryz.ntmps3
      go_wp2_with fail
      go_ret
      exact ⟨rfl, Below.refl _ _⟩
    · have e2 : decide ((40 : Int) < (l.length : Int)) = false := decide_eq_false (by omega)
      have e2' : decide (40 < l.length) = false := decide_eq_false h40
      go_enter Tryz.func3, Tryz.ntmps3
      go_wp2_with (go_at_call 8; refine (new_any _).mono ?_; rintro e w3 ⟨p1, rfl, hR1, hp1, hb3⟩; have HB3 := Lib.hid hb3; have HR1 := Lib.hid hR1; have hb3s := hb3.size; have hWp : W.heap.size ≤ p1 := (by omega); clear hR1 hp1 hb3)
      have hp1w : p1 < w3.heap.size := by obtain ⟨_, q, _⟩ := HR1.out; exact lt_of_block q
      have hsz2 : s.size + more.size ≤ 200000 := by omega
      clear e1 e2 e2' hbig
      obtain ⟨i1, gti, gz0, gz1, gz2⟩ := info_parts info_gotF
      go_loopg [8, 9, 10] (l.length + 1) (fun gh s8 s9 s10 wr => ∃ (i : Nat) (z : ByteArray) (A : List Gp) (v : Value) (L : List UInt8) (cl : Bool), i + gh = l.length + 1 ∧ v = s8 ∧ s9 = .string z ∧ s10 = .int .i64 (i : Int) ∧ OwnF fG 39 5 wr (p1 + 1) v A ∧ RdR wr (p1 + 1) p1 L cl ∧ Below W.heap.size W wr ∧ p1 < wr.heap.size ∧ z.size ≤ s.size ∧ L.length + z.size ≤ s.size ∧ A.length ≤ 200040 * i ∧ (l.length < i → z.size ≤ 0) ∧ Hid (SoFar s z A L cl))
      case atStart => exact ⟨0, s, [], _, [], false, by omega, rfl, rfl, rfl, OwnF.nil _ _, HR1.out, HB3.out, hp1w, Nat.le_refl _, by simp, by simp, by omega, Lib.hid ⟨[], rfl, feed_nil, by simp⟩⟩
      case round =>
        obtain ⟨i, z, A, v, L, cl, hig, rfl, rfl, rfl, hO, hR, hbel, hpr, hzs, hLz, hAz, hz0, hSF⟩ := hrel
        obtain ⟨av, cv, rfl⟩ := hO.shape
        have HO := Lib.hid hO
        have HR := Lib.hid hR
        have HBel := Lib.hid hbel
        have hbz := hbel.size
        by_cases hi : i ≤ l.length
        · have u1 : decide ((i : Int) ≤ (l.length : Int)) = true := decide_eq_true (by omega)
          have u1' : decide (i ≤ l.length) = true := decide_eq_true hi
          have hzI : z.size ≤ 300000 := by omega
          go_upto_if 44 with fail
          go_cut [11] (fun s11 wx => ∃ k : Nat, k ≤ z.size ∧ (l.length ≤ i → z.size ≤ k) ∧ s11 = .int .i64 (k : Int) ∧ wx = wr)
          case first =>
            by_cases hlt : i < l.length
            · have u2 : decide ((i : Int) < (l.length : Int)) = true := decide_eq_true (by omega)
              have u2' : decide (i < l.length) = true := decide_eq_true hlt
              obtain ⟨bm, om, rfl, hbm, hcm⟩ := hcuts.col i hlt
              rw [← Below.cellB HBel.out hbm] at hcm
              obtain ⟨x, hx⟩ : ∃ x, l[i] = x := ⟨_, rfl⟩
              rw [hx] at hcm
              obtain ⟨k, hk, hkx⟩ := cut_n x z.size hzI
              clear hx
              go_wp2_with fail
              go_meet
              case rel => exact ⟨k, hk, by omega, by rw [hkx], rfl⟩
            · have u2 : decide ((i : Int) < (l.length : Int)) = false := decide_eq_false (by omega)
              have u2' : decide (i < l.length) = false := decide_eq_false hlt
              go_wp2_with fail
              go_meet
              case rel => exact ⟨z.size, Nat.le_refl _, fun _ => Nat.le_refl _, rfl, rfl⟩
          case rest =>
            obtain ⟨k, hk, hkl, rfl, hw⟩ := hcut
            subst wc
            obtain ⟨Wb, rfl⟩ : ∃ Wb : World, Wb = wr := ⟨_, rfl⟩
            obtain ⟨hS1, hS2⟩ := soFar_step hSF.out hk
            obtain ⟨zk, hzk⟩ : ∃ x, z.extract 0 k = x := ⟨_, rfl⟩
            obtain ⟨zt, hzt⟩ : ∃ x, z.extract k z.size = x := ⟨_, rfl⟩
            obtain ⟨sp, hsp⟩ : ∃ x, s.extract 0 (s.size - zt.size) = x := ⟨_, rfl⟩
            rw [hzk, hzt] at hS1 hS2
            rw [hsp] at hS2
            have hzkz : zk.size ≤ k ∧ k ≤ zk.size := by rw [← hzk, ByteArray.size_extract]; omega
            have hztz : zt.size + k ≤ z.size ∧ z.size ≤ zt.size + k := by rw [← hzt, ByteArray.size_extract]; omega
            have hspz : sp.size ≤ 300000 := by rw [← hsp, ByteArray.size_extract]; omega
            have htl := toldT_len L cl zk.data.toList
            rw [dat_len] at htl
            have hcv := Lib.run_convert_string_bytes (P := Tryz.prog) Wb 9 27 5 zk Tryz.underlying9 Tryz.underlying27 Tryz.underlying5
            have HF := Lib.hid (fun cap => feed_three W.heap.size Wb (HG.out.up HBel.out) p1 (p1 + 1) hWp (by omega) hpr L cl HR.out (by omega) zk (by omega) cap)
            have HbW := Lib.hid (Lib.bytesWorld_below Wb 5 zk)
            have HbN := Lib.hid (Lib.bytesWorld_at_new Wb 5 zk)
            have HbC := Lib.hid (fun j hj => Lib.bytesWorld_cell Wb 5 zk j hj)
            have hbcz := bcells_size Wb 5 zk
            obtain ⟨A4, hA4⟩ : ∃ x, (toldT L cl zk.data.toList).1 = x := ⟨_, rfl⟩
            obtain ⟨L4, hL4⟩ : ∃ x, (toldT L cl zk.data.toList).2.1 = x := ⟨_, rfl⟩
            obtain ⟨cl4, hcl4⟩ : ∃ x, (toldT L cl zk.data.toList).2.2 = x := ⟨_, rfl⟩
            have hpair : (toldT L cl zk.data.toList).2 = (L4, cl4) := by rw [← hL4, ← hcl4]
            rw [hpair] at hS2
            rw [hA4, hL4, hcl4] at HF hS1
            rw [hA4] at htl hS2
            rw [hL4] at htl
            have HS1 := Lib.hid hS1
            have HS2 := Lib.hid hS2
            have hA4b : A4.length ≤ 700000 := by omega
            have hAb : A.length ≤ 9000000 := by omega
            have hzts : zt.size ≤ s.size := by omega
            have HTL := Lib.hid htl
            have HKL := Lib.hid hkl
            have HZ0 := Lib.hid hz0
            have HBCZ := Lib.hid hbcz
            have HZT := Lib.hid hztz
            clear hA4 hL4 hcl4 hpair hS1 hS2 hO hR hbel hSF htl hkl hz0 hbcz hztz
            go_upto_region 14 with (first
              | (go_at_call 9; refine (HF.out _).mono ?_; rintro e w4 ⟨v4, rfl, hO4, hR4, hF4⟩; obtain ⟨a4, c4, rfl⟩ := hO4.shape; have hO8 : OwnF fG 39 5 w4 (p1 + 1) (.slice av A.length cv) A := ownF_frm (HO.out.kept HbW.out) hF4 (by omega); have hC8 := OwnF.col fG_len hO4 (Nat.le_refl _); have HS8 := Lib.hid (show p1 + 1 ≤ w4.heap.size by have := HbW.out.size; have := hF4.size; omega); have HO8 := Lib.hid hO8; have HC8 := Lib.hid hC8; have HR4 := Lib.hid hR4; have HF4 := Lib.hid hF4; clear hO4 hR4 hF4 hO8 hC8)
              | (at_builtin; refine wpList_append_colF _ rfl _ _ 25 rfl fG_len fG_one (p1 + 1) 39 i1 _ 72 Tryz.underlying25 gti gz0 gz1 gz2 rfl (by decide) _ A.length (cellsF fG A) rfl HO8.out (l := A4) rfl HC8.out (by unfold maxLen; omega) (by omega) HS8.out ?_; intro v9 w9 hown9 hg9 hbl9; refine Hid.out ?_))
            refine Lib.hid ?_
            have hO9 : OwnF fG 39 5 w9 (p1 + 1) v9 (A ++ A4) := by unfold OwnF; rw [List.length_append, cellsG_app]; exact hown9
            have hne9 : Wb.heap.size ≠ p1 := by omega
            have hblk4 := HF4.out.block HbN.out (by intro r hr e; simp only [List.mem_singleton] at hr; subst hr; injection e with e; omega)
            have hblk9 := (hg9.block Wb.heap.size (lt_of_block hblk4) (own_u8 HO8.out hblk4)).trans hblk4
            have hR9 := rdA_grown HR4.out HO8.out hg9 (Nat.lt_succ_self _)
            have hbel4 : Below W.heap.size W w4 := (HBel.out.trans (HbW.out.mono HBel.out.size)).trans (HF4.out.toBelow (by have := HbW.out.size; omega) (by intro r hr j hj; simp only [List.mem_singleton] at hr; subst hr; injection hj with hj; omega))
            have hbel9 := hbel4.grown hg9 hbel4.size (fun q hq => by have := (World.ownsRow.lt (show w4.ownsRow (p1 + 1) 39 5 _ A.length (cellsF fG A) from HO8.out) q hq).1; omega)
            obtain ⟨a9, c9, rfl⟩ := hO9.shape
            have hcell : ∀ j, j < zk.size → w9.cell? ⟨Wb.heap.size, j, none⟩ = some (.int .u8 (zk.data.toList.getD j 0).toNat) := fun j hj => by
              rw [cell_tail hblk9, ← HbC.out j hj, cell_tail HbN.out]
            have HCV9 := Lib.hid (fun (W9 : World) (h9 : Below w9.heap.size w9 W9) (cap : Nat) => str_back W9 Wb.heap.size cap zk (fun j hj => (Below.cellB h9 (lt_of_block hblk9)).trans (hcell j hj)))
            have q0 : (zk.toList != zk.toList) = false := by simp
            have HO9 := Lib.hid hO9
            have HR9 := Lib.hid hR9
            have HBl9 := Lib.hid hblk9
            have HBel9 := Lib.hid hbel9
            have hl9 := lt_of_block hblk9
            have hp9 : p1 < w9.heap.size := by obtain ⟨_, q, _⟩ := hR9.rd; exact lt_of_block q
            have hcv9 := fun n => HCV9.out (w9.drewN n) (below_drewN (Below.refl _ _) n) (grownCap Wb zk.size 0 5)
            clear hO9 hblk4 hblk9 hR9 hbel4 hbel9 hcell hg9 hown9 hbl9 hcv HF
            go_upto_region 14 with fail
            go_quiet (fail)
            go_wp2_with fail
            have hzkb : zk.size ≤ 300000 := by omega
            go_loopg [13] (zk.size) (fun g2 s13 wx => ∃ (j : Nat) (cur : Array Value), j + g2 = zk.size ∧ s13 = .int .i64 (j : Int) ∧ Frm [some Wb.heap.size] w9 wx ∧ zk.size ≤ cur.size ∧ wx.heap[Wb.heap.size]? = some (.cells cur 5 ((Lib.bytesCells Wb 5 zk).size, (Lib.bytesCells Wb 5 zk).size + 1)))
            case atStart => exact ⟨0, _, by omega, rfl, Frm.ofBelow (below_drewN (Below.refl _ _) _), HBCZ.out, HBl9.out⟩
            case round =>
              obtain ⟨j, cur, hjg, rfl, hFx, hcz, hblk⟩ := hrel
              have HFx := Lib.hid hFx
              have HBk := Lib.hid hblk
              have hbcs := bcells_size Wb 5 zk
              clear hFx
              by_cases hj : j < zk.size
              · have y1 : decide ((j : Int) < (zk.size : Int)) = true := decide_eq_true (by omega)
                have y1' : decide (j < zk.size) = true := decide_eq_true hj
                have hc : wr.cell? ⟨Wb.heap.size, j, none⟩ = some cur[j] := by rw [cell_tail hblk, Array.getElem?_eq_getElem (by omega)]
                have hfz : wr.frozen? ⟨Wb.heap.size, j, none⟩ = false := free_tail hblk (by omega)
                obtain ⟨cj, hcj⟩ : ∃ x, cur[j] = x := ⟨_, rfl⟩
                rw [hcj] at hc
                clear hcj hblk
                go_wp2_with fail
                go_roundg (zk.size - (j + 1))
                case measure => omega
                case rel => exact ⟨j + 1, _, by omega, by go_num, HFx.out.set _ (by simp), by rw [Array.size_setIfInBounds]; exact hcz, set_selfR _ HBk.out⟩
              · have y1 : decide ((j : Int) < (zk.size : Int)) = false := decide_eq_false (by omega)
                have y1' : decide (j < zk.size) = false := decide_eq_false hj
                obtain ⟨Wc, rfl⟩ : ∃ Wc : World, Wc = wr := ⟨_, rfl⟩
                have HOc := Lib.hid (own_u8row HO9.out HBl9.out HFx.out)
                have HRc := Lib.hid (rdA_frm HR9.out HFx.out (by omega)).rd
                have hBc : Below W.heap.size W Wc := HBel9.out.trans (HFx.out.toBelow HBel9.out.size (by intro r hr q hq; simp only [List.mem_singleton] at hr; subst hr; injection hq with hq; omega))
                have HBc := Lib.hid hBc
                have hWcz := hBc.size
                have hpc : p1 < Wc.heap.size := by obtain ⟨_, q, _⟩ := HRc.out; exact lt_of_block q
                have HRa : Hid (Calls Tryz.prog 10 #[.string sp] Wc fun e w' => ∃ v5, e = .returned (.tuple #[v5, .int .i64 (L4.length : Int), .bool cl4]) ∧ OwnF fG 59 5 w' Wc.heap.size v5 (A ++ A4) ∧ Below Wc.heap.size Wc w') := Lib.hid ((rall_any Wc sp hspz).mono (by
                  rintro e w' ⟨⟨v5, rfl, h5⟩, hb⟩
                  rw [HS2.out] at h5 ⊢
                  exact ⟨v5, rfl, h5, hb⟩))
                have r1 : ((L4.length : Int) != (L4.length : Int)) = false := by simp
                have r2 : (L4.length != L4.length) = false := by simp
                have r3 : (cl4 != cl4) = false := by simp
                clear hblk hBc HFx HBk
                go_wp2_with (go_at_call 10; refine HRa.out.mono ?_; rintro e w5 ⟨v5, rfl, hO5, hb5⟩; refine Hid.out ?_)
                refine Lib.hid ?_
                have HB5 := Lib.hid (HBc.out.trans (hb5.mono HBc.out.size))
                have hW5z := HB5.out.size
                have HG5 := Lib.hid (fun n => (HOc.out.kept hb5).kept (below_drewN (Below.refl _ _) n))
                have HR5 := Lib.hid (rdR_below HRc.out hb5)
                have HGo := Lib.hid (got_same w5 (p1 + 1) Wc.heap.size _ _ (A ++ A4) (HOc.out.kept hb5) hO5 (by rw [List.length_append]; omega))
                obtain ⟨a5, c5, rfl⟩ := hO5.shape
                rw [List.length_append] at HGo
                clear hO5 hb5
                go_wp2_with (first
                  | (go_at_call 11; refine HGo.out.mono ?_; rintro e w6 ⟨rfl, n6, rfl⟩; have HR6 := Lib.hid (rdR_below HR5.out (below_drewN (Below.refl _ _) n6)))
                  | (go_at_call 12; refine (rest_any _ _ _ _ _ HR6.out).mono ?_; rintro e w7 ⟨rfl, rfl⟩)
                  | (go_at_call 13; refine (closed_any _ _ _ _ _ HR6.out).mono ?_; rintro e w8 ⟨rfl, rfl⟩))
                go_roundg (l.length - i)
                case measure => omega
                case rel =>
                  have htl2 := HTL.out
                  have hkl2 := HKL.out
                  have hzt2 := HZT.out
                  have hp6 : p1 < (w5.drewN n6).heap.size := by obtain ⟨_, q, _⟩ := HR6.out; exact lt_of_block q
                  exact ⟨i + 1, zt, A ++ A4, _, L4, cl4, by omega, rfl, rfl, by go_num, by rw [← List.length_append]; exact HG5.out n6, HR6.out, HB5.out.trans (below_drewN (Below.refl _ _) _), hp6, hzts, by omega, by rw [List.length_append]; omega, by omega, HS1⟩
        · have u1 : decide ((i : Int) ≤ (l.length : Int)) = false := decide_eq_false (by omega)
          have u1' : decide (i ≤ l.length) = false := decide_eq_false hi
          obtain ⟨P, hP1, hP2, hP3⟩ := hSF.out
          have hz00 : z.size = 0 := by have := hz0 (by omega); omega
          have hPs : P = s.data.toList := by
            have : z.data.toList = [] := List.eq_nil_of_length_eq_zero (by rw [dat_len]; exact hz00)
            rw [hP1, this, List.append_nil]
          rw [hPs] at hP2
          have hfm := feed_more (x := more.data.toList) hP2
          have htl := toldT_len L cl more.data.toList
          rw [dat_len] at htl
          obtain ⟨sm, HSM, hsmz, hcat⟩ := cat_run s more (by omega)
          have hsmd : sm.data.toList = s.data.toList ++ more.data.toList := by rw [← HSM.out, ByteArray.data_append, Array.toList_append]
          rw [← hsmd] at hfm
          have hcv := Lib.run_convert_string_bytes (P := Tryz.prog) wr 9 27 5 more Tryz.underlying9 Tryz.underlying27 Tryz.underlying5
          have HF := Lib.hid (fun cap => feed_three W.heap.size wr (HG.out.up HBel.out) p1 (p1 + 1) hWp (by omega) hpr L cl HR.out (by omega) more (by omega) cap)
          have HbW := Lib.hid (Lib.bytesWorld_below wr 5 more)
          obtain ⟨A4, hA4⟩ : ∃ x, (toldT L cl more.data.toList).1 = x := ⟨_, rfl⟩
          obtain ⟨L4, hL4⟩ : ∃ x, (toldT L cl more.data.toList).2.1 = x := ⟨_, rfl⟩
          obtain ⟨cl4, hcl4⟩ : ∃ x, (toldT L cl more.data.toList).2.2 = x := ⟨_, rfl⟩
          have hpair : (toldT L cl more.data.toList).2 = (L4, cl4) := by rw [← hL4, ← hcl4]
          rw [hpair, hA4] at hfm
          rw [hA4, hL4, hcl4] at HF
          rw [hA4, hL4] at htl
          have hA4b : A4.length ≤ 700000 := by omega
          have hAb : A.length ≤ 9000000 := by omega
          have hsm3 : sm.size ≤ 300000 := by omega
          have HFM := Lib.hid hfm
          have r1 : ((L4.length : Int) == (L4.length : Int)) = true := by simp
          have r2 : (L4.length == L4.length) = true := by simp
          have r3 : (cl4 == cl4) = true := by simp
          clear hA4 hL4 hcl4 hpair hfm htl hO hR hbel hSF hP1 hP2 hP3 hPs hsmd hz00 hsmz hz0
          go_upto_region 25 with (first
            | (go_at_call 9; refine (HF.out _).mono ?_; rintro e w4 ⟨v4, rfl, hO4, hR4, hF4⟩; obtain ⟨a4, c4, rfl⟩ := hO4.shape; have hO8 : OwnF fG 39 5 w4 (p1 + 1) (.slice av A.length cv) A := ownF_frm (HO.out.kept HbW.out) hF4 (by omega); have hC8 := OwnF.col fG_len hO4 (Nat.le_refl _); have HS8 := Lib.hid (show p1 + 1 ≤ w4.heap.size by have := HbW.out.size; have := hF4.size; omega); have HO8 := Lib.hid hO8; have HC8 := Lib.hid hC8; have HR4 := Lib.hid hR4; have HF4 := Lib.hid hF4; clear hO4 hR4 hF4 hO8 hC8)
            | (at_builtin; refine wpList_append_colF _ rfl _ _ 25 rfl fG_len fG_one (p1 + 1) 39 i1 _ 72 Tryz.underlying25 gti gz0 gz1 gz2 rfl (by decide) _ A.length (cellsF fG A) rfl HO8.out (l := A4) rfl HC8.out (by unfold maxLen; omega) (by omega) HS8.out ?_; intro v9 w9 hown9 hg9 hbl9; refine Hid.out ?_))
          refine Lib.hid ?_
          have hO9 : OwnF fG 39 5 w9 (p1 + 1) v9 (A ++ A4) := by unfold OwnF; rw [List.length_append, cellsG_app]; exact hown9
          have hR9 := (rdA_grown HR4.out HO8.out hg9 (Nat.lt_succ_self _)).rd
          have hbel4 : Below W.heap.size W w4 := (HBel.out.trans (HbW.out.mono HBel.out.size)).trans (HF4.out.toBelow (by have := HbW.out.size; omega) (by intro r hr j hj; simp only [List.mem_singleton] at hr; subst hr; injection hj with hj; omega))
          have hbel9 := hbel4.grown hg9 hbel4.size (fun q hq => by have := (World.ownsRow.lt (show w4.ownsRow (p1 + 1) 39 5 _ A.length (cellsF fG A) from HO8.out) q hq).1; omega)
          obtain ⟨a9, c9, rfl⟩ := hO9.shape
          have HRa : Hid (Calls Tryz.prog 10 #[.string sm] w9 fun e w' => ∃ v5, e = .returned (.tuple #[v5, .int .i64 (L4.length : Int), .bool cl4]) ∧ OwnF fG 59 5 w' w9.heap.size v5 (A ++ A4) ∧ Below w9.heap.size w9 w') := Lib.hid ((rall_any w9 sm hsm3).mono (by
            rintro e w' ⟨⟨v5, rfl, h5⟩, hb⟩
            rw [HFM.out] at h5 ⊢
            exact ⟨v5, rfl, h5, hb⟩))
          have HO9 := Lib.hid hO9
          have HR9 := Lib.hid hR9
          have HBel9 := Lib.hid hbel9
          clear hO9 hR9 hbel4 hbel9 hg9 hown9 hbl9 hcv HF
          go_wp2_with (go_at_call 10; refine HRa.out.mono ?_; rintro e w5 ⟨v5, rfl, hO5, hb5⟩; refine Hid.out ?_)
          refine Lib.hid ?_
          have HB5 := Lib.hid (HBel9.out.trans (hb5.mono HBel9.out.size))
          have HR5 := Lib.hid (rdR_below HR9.out hb5)
          have HGo := Lib.hid (got_same w5 (p1 + 1) w9.heap.size _ _ (A ++ A4) (HO9.out.kept hb5) hO5 (by rw [List.length_append]; omega))
          obtain ⟨a5, c5, rfl⟩ := hO5.shape
          rw [List.length_append] at HGo
          clear hO5 hb5
          go_wp2_with (first
            | (go_at_call 11; refine HGo.out.mono ?_; rintro e w6 ⟨rfl, n6, rfl⟩; have HR6 := Lib.hid (rdR_below HR5.out (below_drewN (Below.refl _ _) n6)))
            | (go_at_call 12; refine (rest_any _ _ _ _ _ HR6.out).mono ?_; rintro e w7 ⟨rfl, rfl⟩)
            | (go_at_call 13; refine (closed_any _ _ _ _ _ HR6.out).mono ?_; rintro e w8 ⟨rfl, rfl⟩))
          go_ret
          exact ⟨rfl, HB5.out.trans (below_drewN (Below.refl _ _) _)⟩
end Go.Proofs.YtlgfhbfdjckdnaaGreatDoor
