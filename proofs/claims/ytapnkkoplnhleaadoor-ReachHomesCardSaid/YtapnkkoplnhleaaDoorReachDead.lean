/- Dead: the transitions that are enabled nowhere. -/
import Derived.Test.YtapnkkoplnhleaaDoorReachRead3
set_option maxRecDepth 100000
namespace Go.Proofs.YtapnkkoplnhleaaDoor
open Go.RowKit Go.Maps Go.WideMaps

/-- Has a transition been met, among the first rows, and the first of the next one? -/
def usedB (E : List (List (Int × Int))) (i q : Nat) (t : Nat) : Bool := (E.take i).any (fun l => l.any (fun e => e.1 == (t : Int))) || ((E.getD i []).take q).any (fun e => e.1 == (t : Int))
def usedL (E : List (List (Int × Int))) (nt i q : Nat) : List Bool := (List.range nt).map (usedB E i q)
theorem usedL_len (E : List (List (Int × Int))) (nt i q : Nat) : (usedL E nt i q).length = nt := by simp [usedL]
theorem usedL_zero (E : List (List (Int × Int))) (nt : Nat) : usedL E nt 0 0 = List.replicate nt false := by
  unfold usedL usedB
  refine List.ext_getElem (by simp) ?_
  intro j h1 h2
  simp
theorem usedL_next {E : List (List (Int × Int))} {nt i q : Nat} (hi : i < E.length) (hq : (E.getD i []).length ≤ q) : usedL E nt (i + 1) 0 = usedL E nt i q := by
  unfold usedL
  refine List.map_congr_left fun t _ => ?_
  unfold usedB
  have e : E.getD i [] = E[i] := by simp [hi]
  rw [List.take_of_length_le hq, List.take_succ_eq_append_getElem hi, List.any_append, e]
  simp
theorem usedL_set {E : List (List (Int × Int))} {nt i q t : Nat} (hq : q < (E.getD i []).length) (ht : (E.getD i [])[q].1 = (t : Int)) (_hn : t < nt) : (usedL E nt i q).set t true = usedL E nt i (q + 1) := by
  refine List.ext_getElem (by simp [usedL]) ?_
  intro j h1 h2
  simp only [List.length_set, usedL_len] at h1
  rw [List.getElem_set]
  have hg : ∀ q' (h : j < (usedL E nt i q').length), (usedL E nt i q')[j] = usedB E i q' j := by intro q' h; simp [usedL]
  rw [hg, hg]
  unfold usedB
  rw [List.take_succ_eq_append_getElem hq, List.any_append]
  simp only [List.any_cons, List.any_nil, Bool.or_false, ht]
  by_cases e : t = j
  · subst e; simp
  · have : ((t : Int) == (j : Int)) = false := by rw [beq_eq_false_iff_ne]; omega
    rw [if_neg e, this]
    simp
def deadTTo (E : List (List (Int × Int))) (_nt k : Nat) : List Int := ((List.range k).filter (fun t => !usedB E E.length 0 t)).map (fun t : Nat => (t : Int))
def deadTE (E : List (List (Int × Int))) (nt : Nat) : List Int := deadTTo E nt nt
theorem deadTTo_len (E : List (List (Int × Int))) (nt k : Nat) : (deadTTo E nt k).length ≤ k := by
  have := List.length_filter_le (fun t => !usedB E E.length 0 t) (List.range k)
  unfold deadTTo
  simpa using this
theorem deadTTo_succ {E : List (List (Int × Int))} {nt k : Nat} : deadTTo E nt (k + 1) = if usedB E E.length 0 k then deadTTo E nt k else deadTTo E nt k ++ [(k : Int)] := by
  unfold deadTTo
  rw [List.range_succ, List.filter_append, List.map_append, List.filter_cons, List.filter_nil]
  cases usedB E E.length 0 k <;> simp

theorem gdead_nil (w : World) : Calls Tryd.prog 27 #[.pointer none] w fun e w' => ∃ v, e = .returned v ∧ OwnI w' w.heap.size v [] ∧ Below w.heap.size w w' := by
  go_enter Tryd.func27, Tryd.ntmps27
  go_wp2_with fail
  go_ret
  exact ⟨_, rfl, OwnI.nil _ _, Below.refl _ _⟩
theorem made_row' (w : World) (n : Nat) (hn : n ≤ 8192) : OwnF cellB 4 1 (w.alloc (.cells (madeCells #[Value.bool false] n) 4)) w.heap.size (.slice (some ⟨w.heap.size, 0, none⟩) n n) (List.replicate n false) := by
  have := World.ownsRow_lit (base := w.heap.size) (e := 4) (size := 1) w (madeCells #[Value.bool false] n) n (Nat.le_refl _) (by unfold maxLen; omega) (by simp [size_madeCells])
  rw [made_bools0] at this
  unfold OwnF
  rw [List.length_replicate]
  exact this
set_option maxHeartbeats 1000000 in
theorem gdead_any (w : World) (B p nt : Nat) (g : Gr) (hs : List Int) (h : GrR w B p nt g hs) (hB : B ≤ w.heap.size) (hE : EOk g.edges) (hT : ∀ l ∈ g.edges, ∀ e ∈ l, 0 ≤ e.1 ∧ e.1 < (nt : Int)) :
    Calls Tryd.prog 27 #[.pointer (some ⟨p, 0, none⟩)] w fun e w' => ∃ v, e = .returned v ∧ OwnI w' w.heap.size v (deadTE g.edges nt) ∧ Below w.heap.size w w' := by
  obtain ⟨v0, a1, c1, x, y, vM, mp, vE, vF, vH, h1, h2, h3, h4, h5, h6, h7, h8, h10⟩ := h
  obtain ⟨k1, k4, k5, k6, k7, k8⟩ := gbox h1
  obtain ⟨aE, cE, rfl⟩ := h4.val
  obtain ⟨i0, hti, hz0, hz1, hz2⟩ := info_parts info_int
  have hl := hE.len
  have HV := Lib.hid h4
  have HT := Lib.hid hT
  unfold deadTE
  obtain ⟨E, hEE⟩ : ∃ E, g.edges = E := ⟨_, rfl⟩
  rw [hEE] at hl HV hE k6 HT ⊢
  have hmk := run_make_row' (P := Tryd.prog) 62 4 (.bool false) 1 Tryd.underlying62 info_bool rfl .i64 .i64 nt (by omega) (by omega)
  have hL0 := made_row' w nt h10
  have hb0 : Below w.heap.size w (w.alloc (.cells (madeCells #[Value.bool false] nt) 4)) := (Below.refl _ _).alloc (Nat.le_refl _) _
  obtain ⟨W1, hW1⟩ : ∃ W1, w.alloc (.cells (madeCells #[Value.bool false] nt) 4) = W1 := ⟨_, rfl⟩
  rw [hW1] at hL0 hb0
  have hplt : p < w.heap.size := by omega
  have k6' := k6
  rw [← Below.cellB hb0 hplt] at k6'
  have HL : Hid (OwnF cellB 4 1 W1 w.heap.size (.slice (some ⟨w.heap.size, 0, none⟩) nt nt) (usedL E nt 0 0)) := by rw [usedL_zero]; exact hL0
  clear h1 h8 h3 h4 h5 h6 hEE hT hL0
  go_enter Tryd.func27, Tryd.ntmps27
  go_wp2_with fail
  clear hW1
  go_loopg [25] E.length (fun gh s25 wr => ∃ i : Nat, i + gh = E.length ∧ s25 = .int .i64 (i : Int) ∧ Hid (OwnF cellB 4 1 wr w.heap.size (.slice (some ⟨w.heap.size, 0, none⟩) nt nt) (usedL E nt i 0)) ∧ Below w.heap.size w wr)
  case atStart => exact ⟨0, by omega, rfl, HL, hb0⟩
  case round =>
    clear HL hb0 k6'
    obtain ⟨i, hig, rfl, hL, hbel⟩ := hrel
    by_cases hi : i < E.length
    · obtain ⟨bE, oE, u, rfl, hbE, hcu, hu⟩ := HV.out.at i hi
      rw [← Below.cellB hbel (by omega)] at hcu
      have hrow := hE.row _ (List.getElem_mem hi)
      have hnum : ∀ q (hq : q < E[i].length), ∃ t : Nat, E[i][q].1 = (t : Int) ∧ t < nt := by
        intro q hq
        have := HT.out _ (List.getElem_mem hi) _ (List.getElem_mem hq)
        obtain ⟨t, ht⟩ := Int.eq_ofNat_of_zero_le this.1
        exact ⟨t, ht, by omega⟩
      have hgd : Hid (E.getD i [] = E[i]) := by refine Lib.hid ?_; simp [hi]
      obtain ⟨row, hrw⟩ : ∃ row, E[i] = row := ⟨_, rfl⟩
      have hgd : Hid (E.getD i [] = row) := by refine Lib.hid ?_; rw [← hrw]; exact hgd.out
      rw [hrw] at hu hrow
      have HN : Hid (∀ q (hq : q < row.length), ∃ t : Nat, row[q].1 = (t : Int) ∧ t < nt) := by subst hrw; exact hnum
      clear hnum hrw
      obtain ⟨au, cu, rfl⟩ := hu.val
      go_wp2_with fail
      go_loopg [31] row.length (fun gh s31 wr => ∃ q : Nat, q + gh = row.length ∧ s31 = .int .i64 (q : Int) ∧ Hid (OwnF cellB 4 1 wr w.heap.size (.slice (some ⟨w.heap.size, 0, none⟩) nt nt) (usedL E nt i q)) ∧ Below w.heap.size w wr)
      case atStart => exact ⟨0, by omega, rfl, hL, hbel⟩
      case round =>
        clear hL hbel hcu
        obtain ⟨q, hqg, rfl, hL, hbel⟩ := hrel
        by_cases hq : q < row.length
        · obtain ⟨be, oe, rfl, hbe, h0, h1⟩ := hu.at hq
          rw [← Below.cellB hbel (by omega)] at h0 h1
          obtain ⟨t, ht, htn⟩ := HN.out q hq
          rw [ht] at h0
          have HT2 := Lib.hid ht
          have hx3 := (Below.refl wr.heap.size wr).alloc (Nat.le_refl _) (.cells #[.int .i64 (t : Int), .int .i64 row[q].2] 55)
          have hL3 := Lib.hid (OwnF.kept hL.out hx3)
          have hul := usedL_len E nt i q
          have htl : t < (usedL E nt i q).length := by omega
          have hsc := OwnF.at cellB_len hL.out htl (j := 0) (by omega)
          rw [Nat.mul_one, Nat.add_zero] at hsc
          obtain ⟨xb, hxb⟩ : ∃ xb, (usedL E nt i q)[t] = xb := ⟨_, rfl⟩
          rw [hxb] at hsc
          have hsc' : wr.cell? ⟨w.heap.size, t, none⟩ = some (.bool xb) := hsc
          have hsf := OwnF.free hL.out t
          have hwl : w.heap.size < wr.heap.size := by
            obtain ⟨⟨c, hc⟩, _⟩ := OwnF.ty hL.out (q := w.heap.size) rfl
            exact lt_of_block hc
          have hwr := hbel.size
          have HX := Lib.hid (hbel.trans (hx3.mono hbel.size))
          clear ht hx3 hul hsc hxb
          go_wp2_with fail
          go_roundg (gk - 1)
          case measure => omega
          case rel =>
            have hset := OwnF.set cellB_len hL.out htl (j := 0) (by omega) (.bool true) true rfl
            rw [Nat.mul_one, Nat.add_zero, usedL_set (by rw [hgd.out]; exact hq) (by simp only [hgd.out]; exact HT2.out) htn] at hset
            exact ⟨q + 1, by omega, by go_num, Lib.hid (OwnF.kept hset ((Below.refl _ _).alloc (Nat.le_refl _) _)), (hbel.setCell (Nat.le_refl _) _).alloc (by simp; omega) _⟩
        · have hq' : ¬ ((q : Int) < (row.length : Int)) := by omega
          go_wp2_with fail
          go_roundg (E.length - (i + 1))
          case measure => omega
          case rel => exact ⟨i + 1, by omega, by go_num, by rw [usedL_next (q := q) hi (by rw [hgd.out]; omega)]; exact hL, hbel⟩
    · have hi' : ¬ ((i : Int) < (E.length : Int)) := by omega
      obtain rfl : i = E.length := by omega
      clear hi'
      have hcol := OwnF.bools hL.out (by rw [usedL_len]; omega) (Nat.le_refl _)
      have hUL := usedL_len E nt E.length 0
      have HU : Hid (∀ k (h : k < (usedL E nt E.length 0).length), (usedL E nt E.length 0)[k] = usedB E E.length 0 k) := by refine Lib.hid ?_; intro k h; simp [usedL]
      obtain ⟨T, hTT⟩ : ∃ T, usedL E nt E.length 0 = T := ⟨_, rfl⟩
      rw [hTT] at hcol hUL HU
      have HUL := Lib.hid hUL
      have hTN : T.length ≤ 8192 := by omega
      have hz := hbel.size
      clear hTT hUL hL
      go_wp2_with fail
      go_loopg [8, 43] T.length (fun gh s8 s43 wx => ∃ k : Nat, k + gh = T.length ∧ s43 = .int .i64 (k : Int) ∧ OwnI wx wr.heap.size s8 (deadTTo E nt k) ∧ Below wr.heap.size wr wx)
      case atStart => exact ⟨0, by omega, rfl, OwnI.nil _ _, Below.refl _ _⟩
      case round =>
        obtain ⟨k, hkg, rfl, hO, hb12⟩ := hrel
        by_cases hk : k < T.length
        · obtain ⟨b, o, hbo, hbw, hc⟩ := hcol.col k hk
          obtain ⟨rfl, rfl⟩ : w.heap.size = b ∧ 0 = o := by injection hbo with e; injection e with e1 e2; exact ⟨e1, e2⟩
          rw [← Below.cellB hb12 hbw] at hc
          have hkn : k < nt := by have := HUL.out; omega
          have hkT := HU.out k hk
          have hdl := deadTTo_len E nt k
          have hsn := Lib.hid (deadTTo_succ (E := E) (nt := nt) (k := k))
          obtain ⟨l, hll⟩ : ∃ l, deadTTo E nt k = l := ⟨_, rfl⟩
          rw [hll] at hO hsn hdl
          clear hll hbo
          obtain ⟨a12, c12, rfl⟩ := hO.shape
          cases hT : T[k] with
          | false =>
            rw [hT] at hc hkT
            rw [← hkT, if_neg (by simp)] at hsn
            have hc' : wr.cell? ⟨w.heap.size, k, none⟩ = some (.bool false) := by rw [Nat.zero_add] at hc; exact hc
            have hx3 := (Below.refl wr.heap.size wr).alloc (Nat.le_refl _) (.cells #[.int .i64 (k : Int)] 3)
            have hT4 := hO.kept hx3 (Nat.le_refl _)
            have HX := Lib.hid (hb12.trans (hx3.mono hb12.size))
            have hws := hb12.size
            clear hx3 hT hkT hc
            go_wp2_with (at_builtin; refine wpList_append_own_at _ rfl _ _ 26 rfl _ 3 i0 (.int .i64 0) 1 8 Tryd.underlying26 hti hz0 hz1 hz2 rfl (by decide) _ _ _ rfl hT4 ⟨wr.heap.size, 0, none⟩ 1 1 [.int .i64 (k : Int)] rfl rfl (cell_one_new _ _ _) (by intro u hu; simp at hu; subst hu; rfl) (by unfold maxLen; omega) (by omega) (by simp; omega) ?_; intro v6 w6 hown6 hg6 _ hat6)
            go_roundg (gk - 1)
            case measure => omega
            case rel => exact ⟨k + 1, by omega, by go_num, by rw [hsn.out]; unfold OwnI; simpa using hown6, HX.out.grown hg6 HX.out.size (fun k hk => (World.ownsRow.lt hT4 k hk).1)⟩
          | true =>
            rw [hT] at hc hkT
            rw [← hkT, if_pos rfl] at hsn
            have hc' : wr.cell? ⟨w.heap.size, k, none⟩ = some (.bool true) := by rw [Nat.zero_add] at hc; exact hc
            clear hT hkT hc
            go_wp2_with fail
            go_roundg (gk - 1)
            case measure => omega
            case rel => exact ⟨k + 1, by omega, by go_num, by rw [hsn.out]; exact hO, hb12⟩
        · have hk' : ¬ ((k : Int) < (nt : Int)) := by have := HUL.out; omega
          have hkE : Hid (k = nt) := by have := HUL.out; refine Lib.hid ?_; omega
          have HB := Lib.hid hbel
          clear hbel
          go_wp2_with fail
          go_ret
          refine ⟨_, rfl, ?_, HB.out.trans (hb12.mono hz)⟩
          rw [← hkE.out]
          rw [hkE.out] at hO ⊢
          exact hO.lower hz

end Go.Proofs.YtapnkkoplnhleaaDoor
