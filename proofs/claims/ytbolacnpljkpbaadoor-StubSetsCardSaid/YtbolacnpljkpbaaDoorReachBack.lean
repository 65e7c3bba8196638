/- back: for each marking, those from which an edge leads to it. -/
import Derived.Test.YtbolacnpljkpbaaDoorReachRead
import Derived.Test.YtbolacnpljkpbaaDoorReachBackP
import Derived.Test.YtbolacnpljkpbaaDoorGridF
import Derived.Test.YtbolacnpljkpbaaDoorRPut
import Derived.Deep.RegionLaw
set_option maxRecDepth 100000
namespace Go.Proofs.YtbolacnpljkpbaaDoor
open Go.RowKit Go.Maps Go.WideMaps

/-- The edges of a graph that stands. -/
def GrE (w : World) (B p N : Nat) (E : List (List (Int × Int))) : Prop := ∃ aM cM vE, w.cell? ⟨p, 4, none⟩ = some (.slice aM N cM) ∧ w.cell? ⟨p, 6, none⟩ = some vE ∧ p < B ∧ VCol Prs w B vE E
theorem GrE.mono {w w' : World} {B B' p N : Nat} {E : List (List (Int × Int))} (h : GrE w B p N E) (hb : Below B w w') (hB : B ≤ B') : GrE w' B' p N E := by
  obtain ⟨aM, cM, vE, h1, h2, h3, h4⟩ := h
  exact ⟨aM, cM, vE, by rw [Below.cellB hb h3]; exact h1, by rw [Below.cellB hb h3]; exact h2, by omega, VCol.mono (R := Prs) (fun a b c => Prs.mono a b c) h4 hb hB⟩

/-- Edges as they are kept. -/
structure EOk (E : List (List (Int × Int))) : Prop where
  to_ : EdgeOk E
  len : E.length ≤ 1024
  row : ∀ l ∈ E, l.length ≤ 8192
theorem edge_num {E : List (List (Int × Int))} (h : EOk E) {i q : Nat} (hi : i < E.length) (hq : q < E[i].length) : ∃ j : Nat, E[i][q].2 = (j : Int) ∧ j < E.length := by
  have := h.to_ _ (List.getElem_mem hi) _ (List.getElem_mem hq)
  obtain ⟨j, hj⟩ := Int.eq_ofNat_of_zero_le this.1
  exact ⟨j, hj, by omega⟩
theorem box2 {w : World} {b : Nat} {v0 v1 : Value} {t : TypeId} {fr : Nat × Nat} (h : w.heap[b]? = some (.cells #[v0, v1] t fr)) : w.cell? ⟨b, 0, none⟩ = some v0 ∧ w.cell? ⟨b, 1, none⟩ = some v1 := by
  refine ⟨?_, ?_⟩ <;> (rw [cell_of_block h]; rfl)

def BackPost (w : World) (E : List (List (Int × Int))) (e : Ending) (w' : World) : Prop :=
  ∃ v A, e = .returned v ∧ Grid cellI 3 1 26 w' w.heap.size v A ∧ BackOk E E.length 0 A ∧ Below w.heap.size w w'

set_option maxHeartbeats 1000000 in
theorem back_any (w : World) (B p : Nat) (hB : B ≤ w.heap.size) (E : List (List (Int × Int))) (h : GrE w B p E.length E) (hE : EOk E) :
    Calls Tryd.prog 61 #[.pointer (some ⟨p, 0, none⟩)] w (BackPost w E) := by
  obtain ⟨aM, cM, vE, k4, k6, hp, hv⟩ := h
  obtain ⟨aE, cE, rfl⟩ := hv.val
  have hl := hE.len
  obtain ⟨i0, hti, hz0, hz1, hz2⟩ := info_parts info_int
  have hmk := run_make_row' (P := Tryd.prog) 71 26 (.slice none 0 0) 24 Tryd.underlying71 info_sl rfl .i64 .i64 E.length (by omega) (by omega)
  have hpw : p < w.heap.size := by omega
  have hG := Grid.made (α := Int) (f := cellI) (e := 3) (k := 1) (rt := 26) (base := w.heap.size) w E.length (by unfold maxLen; omega) (Nat.le_refl _)
  have hF := BackOk.first E (.slice none 0 0)
  have hb0 : Below w.heap.size w (w.alloc (.cells (madeCells #[Value.slice none 0 0] E.length) 26)) := (Below.refl _ _).alloc (Nat.le_refl _) _
  obtain ⟨W1, hW1⟩ : ∃ W1, w.alloc (.cells (madeCells #[Value.slice none 0 0] E.length) 26) = W1 := ⟨_, rfl⟩
  rw [hW1] at hb0
  have k6' := k6
  rw [← Below.cellB hb0 hpw] at k6'
  have HG : Hid (∃ A, Grid cellI 3 1 26 W1 w.heap.size (.slice (some ⟨w.heap.size, 0, none⟩) E.length E.length) A ∧ BackOk E 0 0 A) := by rw [← hW1]; exact ⟨_, hG, hF⟩
  clear hG hF
  go_enter Tryd.func61, Tryd.ntmps61
  go_wp2_with fail
  clear hW1
  go_loopg [19] E.length (fun gh s19 wr => ∃ i : Nat, i + gh = E.length ∧ s19 = .int .i64 (i : Int) ∧ Hid (∃ A, Grid cellI 3 1 26 wr w.heap.size (.slice (some ⟨w.heap.size, 0, none⟩) E.length E.length) A ∧ BackOk E i 0 A) ∧ Below w.heap.size w wr)
  case atStart => exact ⟨0, by omega, rfl, HG, hb0⟩
  case round =>
    clear HG hb0
    obtain ⟨i, hig, rfl, hG, hbel⟩ := hrel
    by_cases hi : i < E.length
    · obtain ⟨bE, oE, u, rfl, hbE, hcu, hu⟩ := hv.at i hi
      rw [← Below.cellB hbel (by omega)] at hcu
      have hrow := hE.row _ (List.getElem_mem hi)
      have hnum := fun q hq => edge_num hE hi (q := q) hq
      have hgd : Hid (E.getD i [] = E[i]) := by refine Lib.hid ?_; simp [hi]
      obtain ⟨row, hrw⟩ : ∃ row, E[i] = row := ⟨_, rfl⟩
      have hgd : Hid (E.getD i [] = row) := by refine Lib.hid ?_; rw [← hrw]; exact hgd.out
      rw [hrw] at hu hrow
      have HN : Hid (∀ q (hq : q < row.length), ∃ j : Nat, row[q].2 = (j : Int) ∧ j < E.length) := by subst hrw; exact hnum
      clear hnum hrw
      obtain ⟨au, cu, rfl⟩ := hu.val
      go_wp2_with fail
      go_loopg [26] row.length (fun gh s26 wr => ∃ q : Nat, q + gh = row.length ∧ s26 = .int .i64 (q : Int) ∧ Hid (∃ A, Grid cellI 3 1 26 wr w.heap.size (.slice (some ⟨w.heap.size, 0, none⟩) E.length E.length) A ∧ BackOk E i q A) ∧ Below w.heap.size w wr)
      case atStart => exact ⟨0, by omega, rfl, hG, hbel⟩
      case round =>
        clear hG hbel hcu
        obtain ⟨q, hqg, rfl, hG, hbel⟩ := hrel
        by_cases hq : q < row.length
        · obtain ⟨be, oe, rfl, hbe, h0, h1⟩ := hu.at hq
          rw [← Below.cellB hbel (by omega)] at h0 h1
          obtain ⟨j, hj, hjl⟩ := HN.out q hq
          rw [hj] at h1
          have HJ := Lib.hid hj
          clear hj
          go_upto_region 8 with fail
          obtain ⟨W5, hW5⟩ : ∃ W5, wr.alloc (.cells #[.int .i64 row[q].1, .int .i64 (j : Int)] 79) = W5 := ⟨_, rfl⟩
          have hX5 : W5.heap[wr.heap.size]? = some (.cells #[.int .i64 row[q].1, .int .i64 (j : Int)] 79) := by rw [← hW5]; exact heap_alloc_new _ _
          have hb5 : Below wr.heap.size wr W5 := by rw [← hW5]; exact (Below.refl _ _).alloc (Nat.le_refl _) _
          have hz5 : wr.heap.size + 1 ≤ W5.heap.size := by rw [← hW5]; simp
          rw [hW5]
          clear hW5
          obtain ⟨A, hA, hK⟩ := hG.out
          have hjA : j < A.length := by rw [hK.len]; exact hjl
          have hA5 := hA.kept hb5
          obtain ⟨g, cap, hgv, hgb, hgc, ⟨cur, hgh⟩, hgo⟩ := hA5.at hjA
          obtain rfl : w.heap.size = g := by injection hgv with e1; injection e1 with e1; injection e1
          have hsz := hK.sz j hjA
          have HA := Lib.hid hA5
          have HK := Lib.hid hK
          obtain ⟨aj, cj, hvj⟩ := OwnF.shape hgo
          obtain ⟨l, hl2⟩ : ∃ l, A[j].1 = l := ⟨_, rfl⟩
          rw [hl2] at hvj hgo hsz
          rw [hvj] at hgc hgo
          have HL := Lib.hid hl2
          have HV := Lib.hid hvj
          obtain ⟨-, x1⟩ := box2 hX5
          have gf := free_of_block hgh j
          have hlE : i * 8192 + q ≤ 1024 * 8192 + 8192 := by
            have : i * 8192 ≤ 1024 * 8192 := Nat.mul_le_mul_right _ (by omega)
            omega
          clear hA hA5 hK hvj hl2 hgv
          have hwr := hbel.size
          have hbW := ((Below.refl W5.heap.size W5).alloc (Nat.le_refl _) (.cells #[.int .i64 (i : Int)] 3)).drew
          have hgoW := OwnF.kept hgo hbW
          have hghW := (hbW.block _ (lt_of_block hgh)).trans hgh
          have hXW := (hbW.block _ (lt_of_block hX5)).trans hX5
          have hcur : Hid (cur[j]? = some (.slice aj l.length cj)) := by rw [← cell_of_block hgh]; exact hgc
          have HBW := Lib.hid hbW
          have hgl : w.heap.size < W5.heap.size := lt_of_block hgh
          have hxl : wr.heap.size < W5.heap.size := hz5
          clear hbW
          go_region_law (first
              | (refine step_append_own _ (by rfl) (.tmp 37) (.tmp 39) 26 (by rfl) w.heap.size 3 i0 (.int .i64 0) 1 8 Tryd.underlying26 hti hz0 hz1 hz2 rfl (by decide) (.slice aj l.length cj) l.length (cellsF cellI l) (by rfl) hgoW _ 1 1 [.int .i64 (i : Int)] (by rfl) rfl (cells_new _ _ _) (by intro u hu; simp at hu; subst hu; rfl) (by unfold maxLen; omega) (by omega) (by simp; omega) ?_; intro v6 w6 hown6 hg6 hat6
                 have hR6 := OwnF.newer (f := cellI) (x := (i : Int)) hown6; obtain ⟨a6, c6, rfl⟩ := OwnF.shape1 hR6; have hq6 := lit_other hghW hgoW (by decide) hg6; have hc6 := (cell_of_block hq6 j).trans hcur.out; have gf6 := free_of_block hq6 j; have hX6 := lit_other hXW hgoW (by decide) hg6; obtain ⟨-, y1⟩ := box2 hX6))
          all_goals go_wp2_with fail
          all_goals go_roundg (gk - 1)
          all_goals first
            | omega
            | exact ⟨q + 1, by omega, by go_num, Lib.hid ⟨A.set j (A[j].1 ++ [(i : Int)], .slice a6 (l.length + 1) c6), Grid.push (HA.out.kept HBW.out) hjA (by decide) (by rw [HV.out]; exact hg6) (by rw [HL.out]; exact hR6) (by rw [HV.out]; exact hat6.imp id (fun e => ⟨_, e, by simp⟩)), HK.out.push (by rw [hgd.out]; exact hq) hjA (by simp only [hgd.out]; exact HJ.out) _⟩,
                ((hbel.trans ((hb5.trans (HBW.out.mono hb5.size)).mono hwr)).grown hg6 (by simp; omega) (fun k hk => (OwnF.ty hgoW hk).2)).setCell (Nat.le_refl _) _⟩
        · have hq' : ¬ ((q : Int) < (row.length : Int)) := by omega
          go_wp2_with fail
          go_roundg (E.length - (i + 1))
          case measure => omega
          case rel =>
            obtain ⟨A, hA1, hA2⟩ := hG.out
            exact ⟨i + 1, by omega, by go_num, Lib.hid ⟨A, hA1, hA2.next (by rw [hgd.out]; omega) (by omega)⟩, hbel⟩
    · have hi' : ¬ ((i : Int) < (E.length : Int)) := by omega
      go_wp2_with fail
      go_ret
      obtain ⟨A, hA1, hA2⟩ := hG.out
      obtain rfl : i = E.length := by omega
      exact ⟨_, A, rfl, hA1, hA2, hbel⟩

end Go.Proofs.YtbolacnpljkpbaaDoor
