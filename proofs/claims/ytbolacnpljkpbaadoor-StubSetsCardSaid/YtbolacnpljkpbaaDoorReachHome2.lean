/- home: the markings that are reached from all. -/
import Derived.Test.YtbolacnpljkpbaaDoorReachHome
import Derived.StillTailTactics
set_option maxRecDepth 100000
namespace Go.Proofs.YtbolacnpljkpbaaDoor
open Go.RowKit Go.Maps Go.WideMaps

def mixB (left S : List Bool) (k : Nat) : List Bool := (List.range left.length).map fun j => if j < k then left.getD j false || S.getD j false else left.getD j false
theorem mixB_len (left S : List Bool) (k : Nat) : (mixB left S k).length = left.length := by simp [mixB]
theorem mixB_zero (left S : List Bool) : mixB left S 0 = left := by
  refine List.ext_getElem (by simp [mixB]) ?_
  intro j h1 h2
  simp [mixB, h2]
theorem mixB_at {left S : List Bool} {k j : Nat} (h : j < (mixB left S k).length) : (mixB left S k)[j] = if j < k then left.getD j false || S.getD j false else left.getD j false := by simp [mixB]
theorem mixB_set {left S : List Bool} {k : Nat} (x y : Bool) (hx : left.getD k false = x) (hy : S.getD k false = y) : (mixB left S k).set k (x || y) = mixB left S (k + 1) := by
  refine List.ext_getElem (by simp [mixB]) ?_
  intro j h1 h2
  rw [List.getElem_set, mixB_at, mixB_at]
  by_cases e : k = j
  · subst e
    rw [if_pos rfl, if_pos (by omega), hx, hy]
  · rw [if_neg e]
    by_cases h : j < k
    · rw [if_pos h, if_pos (by omega)]
    · rw [if_neg h, if_neg (by omega)]
theorem mixB_full {left S : List Bool} {n : Nat} (h : left.length = n) : mixB left S n = (List.range n).map fun j => left.getD j false || S.getD j false := by
  unfold mixB
  rw [h]
  refine List.map_congr_left fun j hj => ?_
  rw [if_pos (by simpa using hj)]

theorem run_before (b : Nat) (x : Value) (W : World) : (callFunc 62 (#[x] ++ #[.pointer (some ⟨b, 0, none⟩)])).run Tryd.prog W = .ok (.enter 62 (#[x] ++ #[.pointer (some ⟨b, 0, none⟩)])) W := by kernel_rfl
theorem run_forth (b : Nat) (x : Value) (W : World) : (callFunc 60 (#[x] ++ #[.pointer (some ⟨b, 0, none⟩)])).run Tryd.prog W = .ok (.enter 60 (#[x] ++ #[.pointer (some ⟨b, 0, none⟩)])) W := by kernel_rfl

theorem next_before {w : World} {base : Nat} {v : Value} {A : List (List Int × Value)} {E : List (List (Int × Int))} (hG : Grid cellI 3 1 26 w base v A) (hA : BackOk E E.length 0 A) (hE : EOk E) {bx : Nat} (hbx : w.cell? ⟨bx, 0, none⟩ = some v) (hlt : bx < w.heap.size) :
    NextOk w 62 #[.pointer (some ⟨bx, 0, none⟩)] E false := by
  intro W hb k hk
  have hkA : k < A.length := by rw [hA.len]; exact hk
  have hGW := hG.kept hb
  refine (before_any W base v A hGW (by rw [hA.len]; exact hE.len) bx (by rw [Below.cellB hb hlt]; exact hbx) k hkA).mono ?_
  rintro e W' ⟨rfl, rfl⟩
  have hsz := hA.sz k hkA
  have hel := hE.len
  have hown := own_cellI.1 (hGW.own _ (List.getElem_mem hkA))
  refine ⟨A[k].2, A[k].1, rfl, hown.col (by omega) (Nat.le_refl _), hA.all hkA, ?_, Below.refl _ _⟩
  intro a n c hv
  have := (hG.own _ (List.getElem_mem hkA))
  obtain ⟨⟨c', hc⟩, _⟩ := OwnF.ty this (q := a.block) (by rw [hv]; rfl)
  exact Or.inl (lt_of_block hc)
theorem next_forth {w : World} {B p : Nat} (hB : B ≤ w.heap.size) {E : List (List (Int × Int))} (h : GrE w B p E.length E) (hE : EOk E) {bx : Nat} (hbx : bx < w.heap.size) (hbc : w.cell? ⟨bx, 0, none⟩ = some (.pointer (some ⟨p, 0, none⟩))) :
    NextOk w 60 #[.pointer (some ⟨bx, 0, none⟩)] E true := by
  intro W hb k hk
  refine (forth_any W w.heap.size p hb.size E (h.mono (hb.mono hB) hB) hE bx (Nat.lt_of_lt_of_le hbx hb.size) (by rw [Below.cellB hb hbx]; exact hbc) k hk).mono ?_
  rintro e W' ⟨v, rfl, how, hb2⟩
  have hr := hE.row _ (List.getElem_mem hk)
  refine ⟨v, _, rfl, how.col (by simp; omega) (Nat.le_refl _), ?_, ?_, hb2⟩
  · intro x
    have hg : E.getD k [] = E[k] := by simp [hk]
    constructor
    · intro hx
      obtain ⟨e, he, rfl⟩ := List.mem_map.1 hx
      have h2 := hE.to_ _ (List.getElem_mem hk) e he
      obtain ⟨j, hj⟩ := Int.eq_ofNat_of_zero_le h2.1
      exact ⟨j, hj, e, by rw [hg]; exact he, hj⟩
    · rintro ⟨j, rfl, e, he, h2⟩
      rw [hg] at he
      exact List.mem_map.2 ⟨e, he, h2⟩
  · intro a n c hv
    subst hv
    obtain ⟨hlo, _⟩ := World.ownsRow.lt how a.block rfl
    exact Or.inr hlo

theorem made_row (w : World) (n : Nat) (hn : n ≤ 1024) : OwnF cellB 4 1 (w.alloc (.cells (madeCells #[Value.bool false] n) 4)) w.heap.size (.slice (some ⟨w.heap.size, 0, none⟩) n n) (List.replicate n false) := by
  have := World.ownsRow_lit (base := w.heap.size) (e := 4) (size := 1) w (madeCells #[Value.bool false] n) n (Nat.le_refl _) (by unfold maxLen; omega) (by simp [size_madeCells])
  rw [made_bools0] at this
  unfold OwnF
  rw [List.length_replicate]
  exact this

def HomePost (w : World) (E : List (List (Int × Int))) (e : Ending) (w' : World) : Prop := ∃ v, e = .returned v ∧ OwnI w' w.heap.size v (homesE E) ∧ Below w.heap.size w w'

set_option maxHeartbeats 2000000 in
theorem home_any (w : World) (B p : Nat) (hB : B ≤ w.heap.size) (E : List (List (Int × Int))) (h : GrE w B p E.length E) (hE : EOk E) (hpos : 0 < E.length) :
    Calls Tryd.prog 41 #[.pointer (some ⟨p, 0, none⟩)] w (HomePost w E) := by
  have hl := hE.len
  obtain ⟨i0, hti, hz0, hz1, hz2⟩ := info_parts info_int
  have hmk := run_make_row' (P := Tryd.prog) 36 4 (.bool false) 1 Tryd.underlying36 info_bool rfl .i64 .i64 E.length (by omega) (by omega)
  have hb1 := (Below.refl w.heap.size w).alloc (Nat.le_refl _) (.cells #[.pointer (some ⟨p, 0, none⟩)] 46)
  have hx1 := heap_alloc_new w (.cells #[.pointer (some ⟨p, 0, none⟩)] 46)
  obtain ⟨W1, hW1⟩ : ∃ W1, w.alloc (.cells #[.pointer (some ⟨p, 0, none⟩)] 46) = W1 := ⟨_, rfl⟩
  rw [hW1] at hb1 hx1
  have hz1 := hb1.size
  have hxl := lt_of_block hx1
  have h1 := h.mono (hb1.mono hB) (Nat.le_refl B)
  have HBk := Lib.hid (back_any W1 B p (by omega) E h1 hE)
  have kx1 : W1.cell? ⟨w.heap.size, 0, none⟩ = some (.pointer (some ⟨p, 0, none⟩)) := by rw [cell_of_block hx1]; rfl
  go_enter Tryd.func41, Tryd.ntmps41
  go_wp2_with (go_at_call 61; refine HBk.out.mono ?_; rintro e w2 ⟨v, A, rfl, hG, hA, hb2⟩; refine Hid.out ?_)
  refine Lib.hid ?_
  obtain ⟨aB, cB, rfl⟩ := OwnF.shape hG.row
  have hAl := Lib.hid hA.len
  have hx3 := heap_alloc_new w2 (.cells #[.slice aB A.length cB] 71)
  have hb3 := (Below.refl w2.heap.size w2).alloc (Nat.le_refl _) (.cells #[.slice aB A.length cB] 71)
  obtain ⟨W3, hW3⟩ : ∃ W3, w2.alloc (.cells #[.slice aB A.length cB] 71) = W3 := ⟨_, rfl⟩
  rw [hW3] at hx3 hb3
  have hz2 := hb2.size
  have hz3 := hb3.size
  have hb13 := hb2.trans (hb3.mono hz2)
  have hG3 := hG.kept hb3
  have h3 := h1.mono (hb13.mono (show B ≤ W1.heap.size by omega)) (Nat.le_refl B)
  have HG3 := Lib.hid hG3
  have HA := Lib.hid hA
  have hx1' := (hb13.block _ hxl).trans hx1
  have kx3 : W3.cell? ⟨w2.heap.size, 0, none⟩ = some (.slice aB A.length cB) := by rw [cell_of_block hx3]; rfl
  have kx1' : W3.cell? ⟨w.heap.size, 0, none⟩ = some (.pointer (some ⟨p, 0, none⟩)) := by rw [cell_of_block hx1']; rfl
  have hxl3 := lt_of_block hx3
  have hxl1 := lt_of_block hx1'
  have HX1 := Lib.hid hx1'
  have HX3 := Lib.hid hx3
  have HB13 := Lib.hid (hb1.trans (hb13.mono hz1))
  have H3 := Lib.hid h3
  obtain ⟨aM, cM, vE, k4, k6, hp, -⟩ := h3
  have hpw : p < W3.heap.size := by omega
  clear hG hA hG3 hx1 hx1' hx3 h1 hb2 hb3 hb1 hb13 kx1 h
  go_upto_region 5 with fail
  clear hW3
  go_cut [7, 8] (fun s7 s8 wx => ∃ w7 gl, w7 = wx ∧ s7 = .int .i64 0 ∧ s8 = .slice (some ⟨gl, 0, none⟩) E.length E.length ∧ OwnF cellB 4 1 w7 W3.heap.size (.slice (some ⟨gl, 0, none⟩) E.length E.length) (List.replicate E.length false) ∧ Below W3.heap.size W3 w7)
  case first =>
    go_region_law (fail)
    all_goals go_wp2_with fail
    all_goals go_meet
    all_goals exact ⟨_, _, rfl, rfl, rfl, OwnF.kept (made_row W3 E.length (by omega)) (Below.refl _ _).drew, ((Below.refl _ _).alloc (Nat.le_refl _) _).drew⟩
  case rest =>
    obtain ⟨w7, gl, rfl, rfl, rfl, hL7, hb7⟩ := hcut
    have hz7 := hb7.size
    rw [← Below.cellB hb7 hxl1] at kx1'
    rw [← Below.cellB hb7 hxl3] at kx3
    rw [← Below.cellB hb7 hpw] at k4 k6
    go_wp2_with fail
    go_loopg [7, 31] E.length (fun gh s7 s31 wr => ∃ (i last : Nat) (left : List Bool), i + gh = E.length ∧ s31 = .int .i64 (i : Int) ∧ s7 = .int .i64 (last : Int) ∧ last < E.length ∧ Hid (Cand E i last left) ∧ Hid (OwnF cellB 4 1 wr W3.heap.size (.slice (some ⟨gl, 0, none⟩) E.length E.length) left) ∧ Below W3.heap.size W3 wr)
    case atStart => exact ⟨0, 0, _, by omega, rfl, rfl, hpos, Cand.first E, hL7, hb7⟩
    case round =>
      rw [Below.cellB hb7 hxl1] at kx1'
      rw [Below.cellB hb7 hxl3] at kx3
      rw [Below.cellB hb7 hpw] at k4 k6
      clear hL7 hb7
      obtain ⟨i, last, left, hig, rfl, rfl, hlast, hC, hL, hbel⟩ := hrel
      have hz7 := hbel.size
      have KX1 := Lib.hid kx1'
      have KX3 := Lib.hid kx3
      rw [← Below.cellB hbel hxl1] at kx1'
      rw [← Below.cellB hbel hxl3] at kx3
      rw [← Below.cellB hbel hpw] at k4 k6
      have hr3 : GrE wr B p E.length E := H3.out.mono (hbel.mono (by omega)) (Nat.le_refl B)
      by_cases hi : i < E.length
      · have hll : left.length = E.length := hC.out.len
        have hil : i < left.length := by omega
        have hsc := OwnF.at cellB_len hL.out hil (j := 0) (by omega)
        rw [Nat.mul_one, Nat.add_zero] at hsc
        have hgd : left.getD i false = left[i] := by simp [hil]
        cases hsj : left[i] with
        | true =>
          rw [hsj] at hsc hgd
          have hsc' : wr.cell? ⟨gl, i, none⟩ = some (.bool true) := hsc
          have HG := Lib.hid hgd
          clear hsc hgd hsj hll hr3
          go_wp2_with fail
          go_roundg (gk - 1)
          case measure => omega
          case rel => exact ⟨i + 1, last, left, by omega, by go_num, rfl, hlast, Lib.hid (hC.out.skip hE.to_ HG.out hi), hL, hbel⟩
        | false =>
          rw [hsj] at hsc hgd
          have hsc' : wr.cell? ⟨gl, i, none⟩ = some (.bool false) := hsc
          have HG := Lib.hid hgd
          have HLL := Lib.hid hll
          have hN := next_before (w := wr) (HG3.out.kept hbel) HA.out hE (bx := w2.heap.size) kx3 (by omega)
          have HSp := Lib.hid (spread_any wr B p (by omega) E hr3 hE w.heap.size (by omega) kx1' false i hi 62 #[.pointer (some ⟨w2.heap.size, 0, none⟩)] (run_before _) hN)
          clear hsc hgd hsj hll hr3 hN
          go_wp2_with (go_at_call 59; refine HSp.out.mono ?_; rintro e w9 ⟨v9, rfl, hS9, hb9⟩; refine Hid.out ?_)
          refine Lib.hid ?_
          obtain ⟨S, hSS⟩ : ∃ S, (List.range E.length).map (ldsB E false i) = S := ⟨_, rfl⟩
          rw [hSS] at hS9
          have hSl : S.length = E.length := by rw [← hSS]; simp
          have HSS := Lib.hid hSS
          obtain ⟨a9, c9, rfl⟩ := OwnF.shape hS9
          obtain ⟨g9, rfl, -, hg9, -⟩ := OwnF.some hS9 (by omega)
          have hgl : gl < wr.heap.size := by
            obtain ⟨⟨c, hc⟩, _⟩ := OwnF.ty hL.out (q := gl) rfl
            exact lt_of_block hc
          have hL9 : Hid (OwnF cellB 4 1 w9 W3.heap.size (.slice (some ⟨gl, 0, none⟩) E.length E.length) (mixB left S 0)) := by
            refine Lib.hid ?_; rw [mixB_zero]; exact OwnF.kept hL.out hb9
          have HS9 := Lib.hid hS9
          have hB9 := hbel.trans (hb9.mono hz7)
          have hSN : S.length ≤ 1024 := by omega
          have HSl := Lib.hid hSl
          clear hSS hSl hS9 hL hb9 hsc'
          go_wp2_with fail
          go_loopg [45] S.length (fun gh s45 wx => ∃ k : Nat, k + gh = S.length ∧ s45 = .int .i64 (k : Int) ∧ Hid (OwnF cellB 4 1 wx W3.heap.size (.slice (some ⟨gl, 0, none⟩) E.length E.length) (mixB left S k)) ∧ Hid (OwnF cellB 4 1 wx wr.heap.size (.slice (some ⟨g9, 0, none⟩) S.length c9) S) ∧ Below W3.heap.size W3 wx)
          case atStart => exact ⟨0, by omega, rfl, hL9, HS9, hB9⟩
          case round =>
            clear hL9 HS9 hB9
            obtain ⟨k, hkg, rfl, hL, hS, hbel⟩ := hrel
            by_cases hk : k < S.length
            · have hml := mixB_len left S k
              have hkl : k < left.length := by have h1 := HLL.out; have h2 := HSl.out; omega
              have hkm : k < (mixB left S k).length := by omega
              have hkE : k < E.length := by have h2 := HSl.out; omega
              have hc1 := OwnF.at cellB_len hL.out hkm (j := 0) (by omega)
              rw [Nat.mul_one, Nat.add_zero, mixB_at, if_neg (by omega)] at hc1
              have hf1 := OwnF.free hL.out k
              have hc2 := OwnF.at cellB_len hS.out hk (j := 0) (by omega)
              rw [Nat.mul_one, Nat.add_zero] at hc2
              have hy : S.getD k false = S[k] := by simp [hk]
              have hat : (mixB left S k)[k] = left.getD k false := by rw [mixB_at, if_neg (by omega)]
              cases hx : left.getD k false with
              | true =>
                cases hz : S[k] with
                | true =>
                  rw [hx] at hc1
                  rw [hz] at hc2 hy
                  have hc1' : wr.cell? ⟨gl, k, none⟩ = some (.bool true) := hc1
                  have hc2' : wr.cell? ⟨g9, k, none⟩ = some (.bool true) := hc2
                  have HH := Lib.hid (And.intro hx hy)
                  clear hc1 hc2 hx hy hz hml hat
                  go_wp2_with fail
                  go_roundg (gk - 1)
                  case measure => omega
                  case rel =>
                    refine ⟨k + 1, by omega, by go_num, ?_, ?_, hbel.setCell (show W3.heap.size ≤ gl from (OwnF.ty hL.out (q := gl) rfl).2) _⟩
                    · refine Lib.hid ?_
                      rw [← mixB_set true true HH.out.1 HH.out.2]
                      have := OwnF.set cellB_len hL.out hkm (j := 0) (by omega) (.bool (true || true)) (true || true) rfl
                      rw [Nat.mul_one, Nat.add_zero] at this
                      exact this
                    · exact Lib.hid (OwnF.grown hS.out (grownBy_setCell _ _ _ _) (fun q hq e => by have := Option.some.inj hq; have := Option.some.inj e; simp at *; omega))
                | false =>
                  rw [hx] at hc1
                  rw [hz] at hc2 hy
                  have hc1' : wr.cell? ⟨gl, k, none⟩ = some (.bool true) := hc1
                  have hc2' : wr.cell? ⟨g9, k, none⟩ = some (.bool false) := hc2
                  have HH := Lib.hid (And.intro hx hy)
                  clear hc1 hc2 hx hy hz hml hat
                  go_wp2_with fail
                  go_roundg (gk - 1)
                  case measure => omega
                  case rel =>
                    refine ⟨k + 1, by omega, by go_num, ?_, ?_, hbel.setCell (show W3.heap.size ≤ gl from (OwnF.ty hL.out (q := gl) rfl).2) _⟩
                    · refine Lib.hid ?_
                      rw [← mixB_set true false HH.out.1 HH.out.2]
                      have := OwnF.set cellB_len hL.out hkm (j := 0) (by omega) (.bool (true || false)) (true || false) rfl
                      rw [Nat.mul_one, Nat.add_zero] at this
                      exact this
                    · exact Lib.hid (OwnF.grown hS.out (grownBy_setCell _ _ _ _) (fun q hq e => by have := Option.some.inj hq; have := Option.some.inj e; simp at *; omega))
              | false =>
                cases hz : S[k] with
                | true =>
                  rw [hx] at hc1
                  rw [hz] at hc2 hy
                  have hc1' : wr.cell? ⟨gl, k, none⟩ = some (.bool false) := hc1
                  have hc2' : wr.cell? ⟨g9, k, none⟩ = some (.bool true) := hc2
                  have HH := Lib.hid (And.intro hx hy)
                  clear hc1 hc2 hx hy hz hml hat
                  go_wp2_with fail
                  go_roundg (gk - 1)
                  case measure => omega
                  case rel =>
                    refine ⟨k + 1, by omega, by go_num, ?_, ?_, hbel.setCell (show W3.heap.size ≤ gl from (OwnF.ty hL.out (q := gl) rfl).2) _⟩
                    · refine Lib.hid ?_
                      rw [← mixB_set false true HH.out.1 HH.out.2]
                      have := OwnF.set cellB_len hL.out hkm (j := 0) (by omega) (.bool (false || true)) (false || true) rfl
                      rw [Nat.mul_one, Nat.add_zero] at this
                      exact this
                    · exact Lib.hid (OwnF.grown hS.out (grownBy_setCell _ _ _ _) (fun q hq e => by have := Option.some.inj hq; have := Option.some.inj e; simp at *; omega))
                | false =>
                  rw [hx] at hc1
                  rw [hz] at hc2 hy
                  have hc1' : wr.cell? ⟨gl, k, none⟩ = some (.bool false) := hc1
                  have hc2' : wr.cell? ⟨g9, k, none⟩ = some (.bool false) := hc2
                  have HH := Lib.hid (And.intro hx hy)
                  clear hc1 hc2 hx hy hz hml hat
                  go_wp2_with fail
                  go_roundg (gk - 1)
                  case measure => omega
                  case rel =>
                    refine ⟨k + 1, by omega, by go_num, ?_, ?_, hbel.setCell (show W3.heap.size ≤ gl from (OwnF.ty hL.out (q := gl) rfl).2) _⟩
                    · refine Lib.hid ?_
                      rw [← mixB_set false false HH.out.1 HH.out.2]
                      have := OwnF.set cellB_len hL.out hkm (j := 0) (by omega) (.bool (false || false)) (false || false) rfl
                      rw [Nat.mul_one, Nat.add_zero] at this
                      exact this
                    · exact Lib.hid (OwnF.grown hS.out (grownBy_setCell _ _ _ _) (fun q hq e => by have := Option.some.inj hq; have := Option.some.inj e; simp at *; omega))
            · have hk' : ¬ ((k : Int) < (S.length : Int)) := by omega
              have HC : Hid (Cand E (i + 1) i (mixB left S S.length)) := by
                refine Lib.hid ?_
                rw [HSl.out, mixB_full HLL.out]
                have := hC.out.take HG.out hi
                have e2 : ((List.range E.length).map fun j => left.getD j false || S.getD j false) = (List.range E.length).map (fun k => left.getD k false || ldsB E false i k) := by
                  refine List.map_congr_left fun j hj => ?_
                  have hj' : j < E.length := by simpa using hj
                  rw [← HSS.out]; simp [hj']
                rw [e2]; exact this
              obtain rfl : k = S.length := by omega
              go_wp2_with fail
              go_roundg (E.length - (i + 1))
              case measure => omega
              case rel => exact ⟨i + 1, i, _, by omega, by go_num, rfl, hi, HC, hL, hbel⟩
      · obtain rfl : i = E.length := by omega
        have hN := next_before (w := wr) (HG3.out.kept hbel) HA.out hE (bx := w2.heap.size) kx3 (by omega)
        have HSp := Lib.hid (spread_any wr B p (by omega) E hr3 hE w.heap.size (by omega) kx1' false last hlast 62 #[.pointer (some ⟨w2.heap.size, 0, none⟩)] (run_before _) hN)
        obtain ⟨S, hSS⟩ : ∃ S, (List.range E.length).map (ldsB E false last) = S := ⟨_, rfl⟩
        have hSl : S.length = E.length := by rw [← hSS]; simp
        have HSl := Lib.hid hSl
        have HSS := Lib.hid hSS
        unfold SpreadPost at HSp
        rw [hSS] at HSp
        clear hSS hSl hN
        have hSN : S.length ≤ 1024 := by rw [HSl.out]; exact hl
        by_cases hf : false ∈ S
        · have hcon : ∀ W (v : Value), Bools W W.heap.size v S → Calls Tryd.prog 63 #[v, .bool false] W fun e w' => e = .returned (.bool true) ∧ W = w' := by
            intro W v hv
            have := containsB_any W W.heap.size (Nat.le_refl _) v S hv false
            rw [show decide (false ∈ S) = true from decide_eq_true hf] at this
            exact this
          have HCon := Lib.hid hcon
          have HH : Hid (homesN E = []) := by refine Lib.hid (hC.out.homes_none ?_); rw [HSS.out]; exact hf
          clear hcon hf hr3 kx3 k4 k6
          go_wp2_with (first | (go_at_call 59; refine HSp.out.mono ?_; rintro e w9 ⟨v9, rfl, hS9, hb9⟩; refine Hid.out ?_))
          refine Lib.hid ?_
          have hv9 := Lib.hid (HCon.out w9 v9 (OwnF.bools hS9 (by omega) (Nat.le_refl _)))
          obtain ⟨a9, c9, rfl⟩ := OwnF.shape hS9
          have hB9 := hbel.trans (hb9.mono hz7)
          clear hS9 hb9
          go_wp2_with (first | (go_at_call 63; refine hv9.out.mono ?_; rintro e w10 ⟨rfl, rfl⟩; refine Hid.out ?_))
          refine Lib.hid ?_
          go_wp2_with fail
          go_ret
          exact ⟨_, rfl, by unfold homesE; rw [HH.out]; exact OwnI.nil _ _, HB13.out.trans (hB9.mono (Nat.le_of_lt hxl1))⟩
        · have hcon : ∀ W (v : Value), Bools W W.heap.size v S → Calls Tryd.prog 63 #[v, .bool false] W fun e w' => e = .returned (.bool false) ∧ W = w' := by
            intro W v hv
            have := containsB_any W W.heap.size (Nat.le_refl _) v S hv false
            rw [show decide (false ∈ S) = false from decide_eq_false hf] at this
            exact this
          have HCon := Lib.hid hcon
          have HH : Hid (homesN E = (List.range E.length).filter (ldsB E true last)) := by refine Lib.hid (Cand.homes_some ?_ hlast); rw [HSS.out]; exact hf
          clear hcon hf hr3 k4 k6
          go_wp2_with (first | (go_at_call 59; refine HSp.out.mono ?_; rintro e w9 ⟨v9, rfl, hS9, hb9⟩; refine Hid.out ?_))
          refine Lib.hid ?_
          have hv9 := Lib.hid (HCon.out w9 v9 (OwnF.bools hS9 (by omega) (Nat.le_refl _)))
          obtain ⟨a9, c9, rfl⟩ := OwnF.shape hS9
          have hB9 := hbel.trans (hb9.mono hz7)
          have hr9 : GrE w9 B p E.length E := H3.out.mono (hB9.mono (by omega)) (Nat.le_refl B)
          have hx9 : w9.cell? ⟨w.heap.size, 0, none⟩ = some (.pointer (some ⟨p, 0, none⟩)) := by rw [Below.cellB hB9 hxl1]; exact KX1.out
          have hz9 := hB9.size
          have HSq := Lib.hid (spread_any w9 B p (by omega) E hr9 hE w.heap.size (by omega) hx9 true last hlast 60 #[.pointer (some ⟨w.heap.size, 0, none⟩)] (run_forth _) (next_forth (by omega) hr9 hE (by omega) hx9))
          clear hS9 hb9 hr9
          go_wp2_with (first | (go_at_call 63; refine hv9.out.mono ?_; rintro e w10 ⟨rfl, rfl⟩; refine Hid.out ?_))
          refine Lib.hid ?_
          go_wp2_with (first | (go_at_call 59; refine HSq.out.mono ?_; rintro e w11 ⟨v11, rfl, hS11, hb11⟩; refine Hid.out ?_))
          refine Lib.hid ?_
          obtain ⟨T, hTT⟩ : ∃ T, (List.range E.length).map (ldsB E true last) = T := ⟨_, rfl⟩
          rw [hTT] at hS11
          have hTl : T.length = E.length := by rw [← hTT]; simp
          have hTN : T.length ≤ 1024 := by omega
          have HTT : Hid (∀ k (h : k < T.length), T[k] = ldsB E true last k) := by refine Lib.hid ?_; intro k h; subst hTT; simp
          have HTl := Lib.hid hTl
          have hcol := OwnF.bools hS11 (by omega) (Nat.le_refl _)
          have hB11 := hB9.trans (hb11.mono hz9)
          have hz11 := hB11.size
          obtain ⟨a11, c11, rfl⟩ := OwnF.shape hS11
          clear hTT hTl hS11 hb11
          go_wp2_with fail
          go_loopg [12, 72] T.length (fun gh s12 s72 wx => ∃ k : Nat, k + gh = T.length ∧ s72 = .int .i64 (k : Int) ∧ OwnI wx w11.heap.size s12 (((List.range k).filter (ldsB E true last)).map (fun k : Nat => (k : Int))) ∧ Below w11.heap.size w11 wx)
          case atStart => exact ⟨0, by omega, rfl, OwnI.nil _ _, Below.refl _ _⟩
          case round =>
            obtain ⟨k, hkg, rfl, hO, hb12⟩ := hrel
            by_cases hk : k < T.length
            · obtain ⟨b, o, rfl, hbw, hc⟩ := hcol.col k hk
              rw [← Below.cellB hb12 hbw] at hc
              have hkT := HTT.out k hk
              have hfl : ((List.range k).filter (ldsB E true last)).length ≤ k := by
                have := List.length_filter_le (ldsB E true last) (List.range k)
                simpa using this
              obtain ⟨l, hll⟩ : ∃ l, ((List.range k).filter (ldsB E true last)).map (fun k : Nat => (k : Int)) = l := ⟨_, rfl⟩
              have hln : l.length ≤ 1024 := by rw [← hll]; simp; omega
              have hsn : Hid (((List.range (k + 1)).filter (ldsB E true last)).map (fun k : Nat => (k : Int)) = if ldsB E true last k then l ++ [(k : Int)] else l) := by
                refine Lib.hid ?_
                rw [List.range_succ, List.filter_append, List.map_append, hll]
                cases e : ldsB E true last k <;> simp [e]
              rw [hll] at hO
              clear hll hfl
              obtain ⟨a12, c12, rfl⟩ := hO.shape
              cases hT : T[k] with
              | true =>
                rw [hT] at hc hkT
                rw [← hkT, if_pos rfl] at hsn
                have hx3 := (Below.refl wr.heap.size wr).alloc (Nat.le_refl _) (.cells #[.int .i64 (k : Int)] 3)
                have hT4 := hO.kept hx3 (Nat.le_refl _)
                have HX := Lib.hid (hb12.trans (hx3.mono hb12.size))
                have hws := hb12.size
                clear hx3 hT hkT
                go_wp2_with (at_builtin; refine wpList_append_own_at _ rfl _ _ 26 rfl w11.heap.size 3 i0 (.int .i64 0) 1 8 Tryd.underlying26 hti hz0 (by assumption) (by assumption) rfl (by decide) _ _ _ rfl hT4 ⟨wr.heap.size, 0, none⟩ 1 1 [.int .i64 (k : Int)] rfl rfl (cell_one_new _ _ _) (by intro u hu; simp at hu; subst hu; rfl) (by unfold maxLen; omega) (by omega) (by simp; omega) ?_; intro v6 w6 hown6 hg6 _ hat6)
                go_roundg (gk - 1)
                case measure => omega
                case rel => exact ⟨k + 1, by omega, by go_num, by rw [hsn.out]; unfold OwnI; simpa using hown6, HX.out.grown hg6 HX.out.size (fun k hk => (World.ownsRow.lt hT4 k hk).1)⟩
              | false =>
                rw [hT] at hc hkT
                rw [← hkT, if_neg (by simp)] at hsn
                clear hT hkT
                go_wp2_with fail
                go_roundg (gk - 1)
                case measure => omega
                case rel => exact ⟨k + 1, by omega, by go_num, by rw [hsn.out]; exact hO, hb12⟩
            · have hk' : ¬ ((k : Int) < (T.length : Int)) := by omega
              have hkE : Hid (k = E.length) := by have := HTl.out; refine Lib.hid ?_; omega
              go_wp2_with fail
              go_ret
              refine ⟨_, rfl, ?_, HB13.out.trans ((hB11.mono (Nat.le_of_lt hxl1)).trans (hb12.mono (by omega)))⟩
              unfold homesE
              rw [HH.out, ← hkE.out]
              exact hO.lower (by omega)

end Go.Proofs.YtbolacnpljkpbaaDoor
