/- job.twins: the walk. -/
import Derived.Test.YtggnheekkbideaaJobTwin3
set_option maxRecDepth 100000
namespace Go.Proofs.Ytggnheekkbideaa
open Go.RowKit

theorem cloneT_at (wb : World) {s n : Nat} (v : Value) (l : List Tok) (hs : wb.heap.size = s) (hn : l.length = n) (h : TsR wb s v l) (hl : l.length ≤ 1048576) (S : World → Prop) (hS : ∀ W, Below s wb W → S W) :
    ∀ W, Below s wb W → Calls Try.prog 49 #[v] W fun e w' => ∃ ta tc, e = .returned (.slice ta n tc) ∧ Hid (RowT w' s (.slice ta n tc) l) ∧ Hid (Below W.heap.size W w') ∧ Hid (Below s wb w') ∧ S w' := by
  intro W hW
  have hz : s ≤ W.heap.size := by rw [← hs]; exact hW.size
  refine (cloneT_any W v l ((h.mono hW (Nat.le_refl _)).mono (Below.refl _ _) hz) hl).mono ?_
  rintro e w' ⟨vo, rfl, hR, hb⟩
  obtain ⟨ta, tc, rfl⟩ := OwnF.shape hR
  subst hn
  have hB := hW.trans (hb.mono hz)
  exact ⟨ta, tc, rfl, Lib.hid (OwnF.lower hR hz), Lib.hid hb, Lib.hid hB, hS _ hB⟩
theorem cloneB_at (wb : World) {s n : Nat} (v : Value) (l : List Bnd) (hs : wb.heap.size = s) (hn : l.length = n) (h : BsR wb s v l) (hl : l.length ≤ 1048576) (S : World → Prop) (hS : ∀ W, Below s wb W → S W) :
    ∀ W, Below s wb W → Calls Try.prog 50 #[v] W fun e w' => ∃ ta tc, e = .returned (.slice ta n tc) ∧ Hid (RowB w' s (.slice ta n tc) l) ∧ Hid (Below W.heap.size W w') ∧ Hid (Below s wb w') ∧ S w' := by
  intro W hW
  have hz : s ≤ W.heap.size := by rw [← hs]; exact hW.size
  refine (cloneB_any W v l ((h.mono hW (Nat.le_refl _)).mono (Below.refl _ _) hz) hl).mono ?_
  rintro e w' ⟨vo, rfl, hR, hb⟩
  obtain ⟨ta, tc, rfl⟩ := OwnF.shape hR
  subst hn
  have hB := hW.trans (hb.mono hz)
  exact ⟨ta, tc, rfl, Lib.hid (OwnF.lower hR hz), Lib.hid hb, Lib.hid hB, hS _ hB⟩

theorem list_set_mid {D R0 : List Ih} {i : Nat} {y1 y2 : Ih} (hD : D.length = i) (hi : i < R0.length) : ((D ++ R0.drop i).set i y1).set i y2 = (D ++ [y2]) ++ R0.drop (i + 1) := by
  rw [List.set_set, List.set_append, if_neg (by omega), hD, Nat.sub_self, List.drop_eq_getElem_cons hi, List.set_cons_zero, List.append_assoc]
  rfl
theorem own_mid {D R0 : List Ih} {i : Nat} (hD : D.length = i) (hi : i < R0.length) (h : i < (D ++ R0.drop i).length) : (D ++ R0.drop i)[i] = R0[i] := by
  rw [List.getElem_append_right (by omega)]
  simp [hD]
/-- The two stores, in either order. -/
theorem tw4_end {w wo wb W : World} {p po s n i : Nat} {D R0 : List Ih} {y : Ih} {va ta : Option Addr} {vc tc nv nt : Nat} (hnv : y.x.vars.length = nv) (hnt : y.x.toks.length = nt) (hrow : RowI wo p (.slice (some ⟨p, 0, none⟩) n n) (D ++ R0.drop i)) (hown : OwnH wo p D) (hB : Below p w wo) (hpo : wo.heap.size = po) (hb0 : Below po wo wb) (hps : po ≤ s) (hpp : p ≤ po)
    (hD : D.length = i) (hi : i < R0.length) (hy : R0[i] = y) (hbW : Below s wb W) (hT : RowT W s (.slice ta nt tc) y.x.toks) (hV : RowB W s (.slice va nv vc) y.x.vars) :
    (RowI ((W.setCell ⟨p, i * 5 + 4, none⟩ (.slice ta nt tc)).setCell ⟨p, i * 5 + 3, none⟩ (.slice va nv vc)) p (.slice (some ⟨p, 0, none⟩) n n) ((D ++ [⟨y.x, va, vc, ta, tc⟩]) ++ R0.drop (i + 1)) ∧
      OwnH ((W.setCell ⟨p, i * 5 + 4, none⟩ (.slice ta nt tc)).setCell ⟨p, i * 5 + 3, none⟩ (.slice va nv vc)) p (D ++ [⟨y.x, va, vc, ta, tc⟩]) ∧ Below p w ((W.setCell ⟨p, i * 5 + 4, none⟩ (.slice ta nt tc)).setCell ⟨p, i * 5 + 3, none⟩ (.slice va nv vc))) ∧
    (RowI ((W.setCell ⟨p, i * 5 + 3, none⟩ (.slice va nv vc)).setCell ⟨p, i * 5 + 4, none⟩ (.slice ta nt tc)) p (.slice (some ⟨p, 0, none⟩) n n) ((D ++ [⟨y.x, va, vc, ta, tc⟩]) ++ R0.drop (i + 1)) ∧
      OwnH ((W.setCell ⟨p, i * 5 + 3, none⟩ (.slice va nv vc)).setCell ⟨p, i * 5 + 4, none⟩ (.slice ta nt tc)) p (D ++ [⟨y.x, va, vc, ta, tc⟩]) ∧ Below p w ((W.setCell ⟨p, i * 5 + 3, none⟩ (.slice va nv vc)).setCell ⟨p, i * 5 + 4, none⟩ (.slice ta nt tc))) := by
  subst hnv hnt
  have hW : Below po wo W := hb0.trans (hbW.mono hps)
  have hW' : Below wo.heap.size wo W := by rw [hpo]; exact hW
  have hrW := OwnF.kept hrow hW'
  have hoW := hown.kept hW'
  have hlen : (D ++ R0.drop i).length = R0.length := by simp [hD]; omega
  have hil : i < (D ++ R0.drop i).length := by omega
  have hat := own_mid hD hi hil
  rw [hy] at hat
  have ge : ∀ x ∈ D, ∀ g, (tvI x).ownBlock = some g → (tvI ⟨y.x, va, vc, ta, tc⟩).ownBlock ≠ some g := fun x hx g h1 h2 => by
    have a := (OwnF.lt (hown.toks x hx) g h1).2
    have b := (OwnF.lt hT g h2).1
    omega
  obtain ⟨cur, hcur, _, _⟩ := OwnF.block hrW
  have two : ∀ a1 v1 a2 v2, OwnH ((W.setCell ⟨p, a1, none⟩ v1).setCell ⟨p, a2, none⟩ v2) p (D ++ [⟨y.x, va, vc, ta, tc⟩]) := fun a1 v1 a2 v2 => by
    have g1 := grownBy_setCell W p a1 v1
    have c1 := heap_setCell_self (w := W) (b := p) (i := a1) v1 hcur
    have g2 := grownBy_setCell (W.setCell ⟨p, a1, none⟩ v1) p a2 v2
    have o : OwnH W p (D ++ [⟨y.x, va, vc, ta, tc⟩]) := hoW.snoc (OwnF.lower hV (by omega)) (OwnF.lower hT (by omega)) ge
    exact (o.grown g1 hcur (by decide) (by decide)).grown g2 c1 (by decide) (by decide)
  have bel : ∀ a1 v1 a2 v2, Below p w ((W.setCell ⟨p, a1, none⟩ v1).setCell ⟨p, a2, none⟩ v2) := fun a1 v1 a2 v2 =>
    ((hB.trans (hW.mono hpp)).setCell (p := ⟨p, a1, none⟩) (Nat.le_refl _) v1).setCell (p := ⟨p, a2, none⟩) (Nat.le_refl _) v2
  refine ⟨⟨?_, two _ _ _ _, bel _ _ _ _⟩, ⟨?_, two _ _ _ _, bel _ _ _ _⟩⟩
  · have s1 := OwnF.set cellI_len hrW hil (j := 4) (by omega) (.slice ta y.x.toks.length tc) ⟨y.x, y.va, y.vc, ta, tc⟩ (by rw [hat]; rfl)
    have s2 := OwnF.set cellI_len s1 (i := i) (by rw [List.length_set]; exact hil) (j := 3) (by omega) (.slice va y.x.vars.length vc) ⟨y.x, va, vc, ta, tc⟩ (by rw [List.getElem_set_self]; rfl)
    rw [list_set_mid hD hi] at s2
    exact s2
  · have s1 := OwnF.set cellI_len hrW hil (j := 3) (by omega) (.slice va y.x.vars.length vc) ⟨y.x, va, vc, y.ta, y.tc⟩ (by rw [hat]; rfl)
    have s2 := OwnF.set cellI_len s1 (i := i) (by rw [List.length_set]; exact hil) (j := 4) (by omega) (.slice ta y.x.toks.length tc) ⟨y.x, va, vc, ta, tc⟩ (by rw [List.getElem_set_self]; rfl)
    rw [list_set_mid hD hi] at s2
    exact s2

set_option maxHeartbeats 8000000 in
theorem twins_any (w : World) (v : Value) (l : List Ins) (hI : InsR w w.heap.size v l) (hS : SmL l) :
    Calls Try.prog 34 #[v] w fun e w' => ∃ vo R, e = .returned vo ∧ InsO w' w.heap.size vo R ∧ R.map (·.x) = l ∧ Below w.heap.size w w' := by
  obtain ⟨i0, hti, hz0, hz1, hz2⟩ := info_parts (show (Try.prog.info? 45).map (fun i => (i.zero, i.size, i.bytes)) = some (some (.agg #[.int .i64 0, .string default, .int .u8 0, .slice none 0 0, .slice none 0 0]), 5, 80) by kernel_rfl)
  obtain ⟨R0, hR0, hSl, hRd⟩ := hI.rows
  obtain ⟨a, c, rfl⟩ := hI.val
  obtain ⟨n, hn⟩ : ∃ n, l.length = n := ⟨_, rfl⟩
  have hRn : R0.length = n := by rw [← hn, ← hR0, List.length_map]
  have hS1 : n ≤ 1048576 := by rw [← hn]; exact hS.1
  rw [hn] at hSl ⊢
  obtain ⟨p, hp⟩ : ∃ p, w.heap.size = p := ⟨_, rfl⟩
  -- make, copy
  have hmk := run_make (P := Try.prog) w 22 45 i0 _ Try.underlying22 hti hz0 .i64 .i64 (n : Int) (n : Int) (by omega) (by omega) (by rw [hz2]; omega) (by omega)
  rw [hz1, Int.toNat_natCast, hp] at hmk
  obtain ⟨hrow, hbel⟩ := own_copied (w := w) (R := R0) (n := n) (z := .agg #[.int .i64 0, .string default, .int .u8 0, .slice none 0 0, .slice none 0 0]) hRn (by unfold maxLen; omega) rfl
  have hb1 := (Below.refl w.heap.size w).alloc (Nat.le_refl _) (.cells (madeCells (Value.agg #[.int .i64 0, .string default, .int .u8 0, .slice none 0 0, .slice none 0 0]).cells (n * 5)) 45)
  have hcp := run_copy_slF (P := Try.prog) (ty := 3) (w.alloc (.cells (madeCells (Value.agg #[.int .i64 0, .string default, .int .u8 0, .slice none 0 0, .slice none 0 0]).cells (n * 5)) 45)) cellI_len cellI_one (g := w.heap.size) (n := n) (by omega) Try.underlying22 (by kernel_rfl) (hSl.mono hb1 (Nat.le_refl _)) hRn (fun j hj => made_cell hj) (fun j => free_of_block (heap_alloc_new w _) j)
  rw [hp] at hrow hbel hcp
  obtain ⟨w1, hw1⟩ : ∃ w1, w.alloc (.cells (madeCells (Value.agg #[.int .i64 0, .string default, .int .u8 0, .slice none 0 0, .slice none 0 0]).cells (n * 5)) 45) = w1 := ⟨_, rfl⟩
  rw [hw1] at hmk hrow hbel hcp
  obtain ⟨w2, hw2⟩ : ∃ w2, w1.setCells p 0 (cellsF cellI R0) = w2 := ⟨_, rfl⟩
  rw [hw2] at hrow hbel hcp
  have HROW := Lib.hid hrow
  have HBEL := Lib.hid hbel
  have HL := Lib.hid hR0
  have HRd := Lib.hid hRd
  have HS := Lib.hid hS
  have Hn := Lib.hid hn
  have HP := Lib.hid hp
  have HRn := Lib.hid hRn
  clear hI hSl hrow hbel hw1 hw2 hb1 hRd hR0 hS hn hp hRn hti hz0 hz1 hz2
  go_enter Try.func34, Try.ntmps34
  go_wp2_with fail
  clear hmk hcp
  go_loopg [14] n (fun gh s14 wx => ∃ i : Nat, i + gh = n ∧ s14 = .int .i64 (i : Int) ∧ ∃ D, Hid (D.map (·.x) = l.take i) ∧ RowI wx p (.slice (some ⟨p, 0, none⟩) n n) (D ++ R0.drop i) ∧ Hid (OwnH wx p D) ∧ Below p w wx)
  case atStart => exact ⟨0, by omega, rfl, [], Lib.hid (by simp), HROW.out, Lib.hid OwnH.nil, HBEL.out⟩
  case round =>
    obtain ⟨i, hig, rfl, D, hD, hrow, HOW, hB⟩ := hrel
    obtain ⟨wo, rfl⟩ : ∃ wo : World, wo = wr := ⟨_, rfl⟩
    have HB := Lib.hid hB
    by_cases hi : i < n
    · have hDl : D.length = i := by have := congrArg List.length hD.out; simp [Hn.out, Nat.min_eq_left (Nat.le_of_lt hi)] at this; omega
      have hi0 : i < R0.length := by rw [HRn.out]; exact hi
      obtain ⟨y, hy⟩ : ∃ y, R0[i] = y := ⟨_, rfl⟩
      have hym : y ∈ R0 := by rw [← hy]; exact List.getElem_mem _
      have hil : i < (D ++ R0.drop i).length := by simp [hDl]; omega
      have hat : ∀ j, j < 5 → wo.cell? ⟨p, i * 5 + j, none⟩ = (cellI y)[j]? := fun j hj => by
        have := OwnF.at cellI_len hrow hil (j := j) hj
        rwa [own_mid hDl hi0 hil, hy] at this
      have q0 : wo.cell? ⟨p, i * 5, none⟩ = some (.int .i64 y.x.id) := hat 0 (by omega)
      have q1 : wo.cell? ⟨p, i * 5 + 1, none⟩ = some (.string y.x.model) := hat 1 (by omega)
      have q2 : wo.cell? ⟨p, i * 5 + 2, none⟩ = some (.int .u8 y.x.state) := hat 2 (by omega)
      have q3 : wo.cell? ⟨p, i * 5 + 3, none⟩ = some (.slice y.va y.x.vars.length y.vc) := hat 3 (by omega)
      have q4 : wo.cell? ⟨p, i * 5 + 4, none⟩ = some (.slice y.ta y.x.toks.length y.tc) := hat 4 (by omega)
      have f3 := OwnF.free hrow (i * 5 + 3)
      have f4 := OwnF.free hrow (i * 5 + 4)
      have hplt := (OwnF.lt hrow p rfl).2
      obtain ⟨po, hpo⟩ : ∃ po, wo.heap.size = po := ⟨_, rfl⟩
      obtain ⟨wb, s, hwb, hs, es, hb0, hn0⟩ := alloc_named wo (.cells #[.int .i64 y.x.id, .string y.x.model, .int .u8 y.x.state, .slice y.va y.x.vars.length y.vc, .slice y.ta y.x.toks.length y.tc] 45) hpo
      have l0 : p < s := by omega
      have l1 : po < s := by omega
      have lp : p ≤ po := by omega
      have hne : ¬ p = po := by omega
      have hne' : ¬ po = p := by omega
      clear es
      have hT0 := (HRd.out y hym).2
      have hV0 := (HRd.out y hym).1
      have hwwb : Below w.heap.size w wb := by rw [HP.out]; exact HB.out.trans (hb0.mono lp)
      have HT0 := Lib.hid (hT0.mono hwwb (show w.heap.size ≤ s by rw [HP.out]; omega))
      have HV0 := Lib.hid (hV0.mono hwwb (show w.heap.size ≤ s by rw [HP.out]; omega))
      obtain ⟨hS2, hS3⟩ := HS.out.2 y.x (by have := HL.out; rw [← this]; exact List.mem_map_of_mem hym)
      obtain ⟨nv, hnv⟩ : ∃ nv, y.x.vars.length = nv := ⟨_, rfl⟩
      obtain ⟨nt, hnt⟩ : ∃ nt, y.x.toks.length = nt := ⟨_, rfl⟩
      have hkeep : ∀ W, Below s wb W → W.cell? ⟨po, 4, none⟩ = some (.slice y.ta nt y.tc) ∧ W.cell? ⟨po, 3, none⟩ = some (.slice y.va nv y.vc) ∧ W.cell? ⟨p, i * 5 + 4, none⟩ = some (.slice y.ta nt y.tc) ∧ W.cell? ⟨p, i * 5 + 3, none⟩ = some (.slice y.va nv y.vc) ∧ W.frozen? ⟨p, i * 5 + 4, none⟩ = false ∧ W.frozen? ⟨p, i * 5 + 3, none⟩ = false := by
        intro W hW
        have hn1 := (hW.block po l1).trans hn0
        have hbp : W.heap[p]? = wo.heap[p]? := (hW.block p l0).trans (hb0.block p (by omega))
        rw [← hnv, ← hnt]
        refine ⟨(cell_of_block hn1 4).trans rfl, (cell_of_block hn1 3).trans rfl, ?_, ?_, ?_, ?_⟩
        · rw [← q4]; unfold World.cell?; rw [hbp]
        · rw [← q3]; unfold World.cell?; rw [hbp]
        · rw [← f4]; unfold World.frozen?; rw [hbp]
        · rw [← f3]; unfold World.frozen?; rw [hbp]
      obtain ⟨k0, k1, k2, k3, k4, k5⟩ := hkeep wb (Below.refl _ _)
      have HKEEP := Lib.hid hkeep
      have HF := Lib.hid (fun (W : World) va vc ta tc (hT : RowT W s (.slice ta nt tc) y.x.toks) (hV : RowB W s (.slice va nv vc) y.x.vars) (hbW : Below s wb W) => tw4_end (va := va) (vc := vc) (ta := ta) (tc := tc) hnv hnt hrow HOW.out HB.out hpo hb0 (by omega) lp hDl hi0 hy hbW hT hV)
      have CT := Lib.hid (cloneT_at wb (.slice y.ta nt y.tc) y.x.toks hs hnt (by rw [← hnt]; exact HT0.out) hS3 _ HKEEP.out)
      have CV := Lib.hid (cloneB_at wb (.slice y.va nv y.vc) y.x.vars hs hnv (by rw [← hnv]; exact HV0.out) hS2 _ HKEEP.out)
      have HN := Lib.hid hnv
      have HN2 := Lib.hid hnt
      have HX : Hid (∀ va vc ta tc, (D ++ [(⟨y.x, va, vc, ta, tc⟩ : Ih)]).map (·.x) = l.take (i + 1)) := Lib.hid (fun va vc ta tc => map_take_snoc (h := ⟨y.x, va, vc, ta, tc⟩) (by rw [Hn.out]; exact hi) hD.out (by
        have := HL.out
        subst this
        rw [List.getElem_map, hy]))
      rw [hnv] at q3
      rw [hnt] at q4
      have hwb : wo.alloc (.cells #[.int .i64 y.x.id, .string y.x.model, .int .u8 y.x.state, .slice y.va nv y.vc, .slice y.ta nt y.tc] 45) = wb := by rw [← hnv, ← hnt]; exact hwb
      clear hat hil hym hy hrow hB hb0 hn0 hT0 hV0 hwwb hkeep hnv hnt
      go_wp2_with fail
      clear q0 q1 q2 q3 q4 f3 f4
      go_region_held3 (fun w' => w'.cell? ⟨po, 4, none⟩ = some (.slice y.ta nt y.tc) ∧ w'.cell? ⟨po, 3, none⟩ = some (.slice y.va nv y.vc)) (go_keep)
        (first
          | (go_at_call 49; refine (CT.out _ ?_).mono ?_; (focus (first | exact hbV.out.drew | exact hbV.out | exact (Below.refl _ _).drew | exact Below.refl _ _)); rintro e wT ⟨ta, tc, rfl, hRT, hcT, hbT, s0, s1, s2, s3, s4, s5⟩)
          | (go_at_call 50; refine (CV.out _ ?_).mono ?_; (focus (first | exact hbT.out.drew | exact hbT.out | exact (Below.refl _ _).drew | exact Below.refl _ _)); rintro e wV ⟨va, vc, rfl, hRV, hcV, hbV, z0, z1, z2, z3, z4, z5⟩))
      have HT2 := Lib.hid (OwnF.kept hRT.out hcV.out)
      have HE := Lib.hid (HF.out wV va vc ta tc HT2.out hRV.out hbV.out).1
      clear s0 s1 s2 s3 s4 s5 z0 z1 z2 z3 z4 z5 k0 k1 k2 k3 k4 k5
      go_wp2_with fail
      go_roundg (n - (i + 1))
      case measure => omega
      case rel => exact ⟨i + 1, by omega, by go_num, _, HX.out _ _ _ _, HE.out.1, Lib.hid HE.out.2.1, HE.out.2.2⟩
    · have e : i = n := by omega
      subst e
      have hDl : D.map (·.x) = l := by rw [hD.out, List.take_of_length_le (by rw [Hn.out]; omega)]
      have hrow' : RowI wo p (.slice (some ⟨p, 0, none⟩) i i) D := by rwa [List.drop_of_length_le (by rw [HRn.out]; omega), List.append_nil] at hrow
      have HR2 := Lib.hid hrow'
      have HD2 := Lib.hid hDl
      clear hrow hB hrow' hDl
      go_wp2_with fail
      go_ret
      refine ⟨_, D, rfl, ?_, HD2.out, ?_⟩
      · rw [HP.out]; exact ⟨HR2.out, HOW.out⟩
      · rw [HP.out]; exact HB.out

end Go.Proofs.Ytggnheekkbideaa
