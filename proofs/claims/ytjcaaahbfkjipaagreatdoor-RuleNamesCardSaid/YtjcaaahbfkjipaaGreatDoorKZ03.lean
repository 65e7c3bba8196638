/- Texts fused by fuse.py: KEvalVal2. -/
import Derived.Test.YtjcaaahbfkjipaaGreatDoorKZ01
import Derived.Test.YtjcaaahbfkjipaaGreatDoorKZ02
/- Of EvalVal2: what FRuleNames uses (shake.py). -/
set_option maxRecDepth 100000
/- value.Check. -/
namespace Go.Proofs.YtjcaaahbfkjipaaGreatDoor
open Go.RowKit
abbrev Tabs8 (w : World) : Prop := Lib.Utf8Tabs 0 1 w
theorem utf8_any (w : World) (s : ByteArray) (hs : s.size ≤ 140737488355328) (hT : Tabs8 w) : Calls Tryz.prog 102 #[.string s] w fun e w' => e = .returned (.bool (Lib.validD s.data.toList)) ∧ Below w.heap.size w w' := by
  have C := Lib.hid (Any.utf8_ValidString Tryz.laysValid s w (by omega) hT)
  go_enter Tryz.func102, Tryz.ntmps102
  go_wp2_with (go_at_call 124; refine C.out.mono ?_; rintro e w1 ⟨rfl, hb⟩)
  go_ret
  exact ⟨rfl, hb⟩
theorem v_cells {w : World} {p : Nat} {v : Vl} {t : TypeId} {fr : Nat × Nat} (h : w.heap[p]? = some (.cells #[.int .u8 v.kind, .int .i64 v.num, .bool v.tr, .string v.text] t fr)) :
    w.cell? ⟨p, 0, none⟩ = some (.int .u8 v.kind) ∧ w.cell? ⟨p, 1, none⟩ = some (.int .i64 v.num) ∧ w.cell? ⟨p, 2, none⟩ = some (.bool v.tr) ∧ w.cell? ⟨p, 3, none⟩ = some (.string v.text) :=
  ⟨(cell_of_block h 0).trans rfl, (cell_of_block h 1).trans rfl, (cell_of_block h 2).trans rfl, (cell_of_block h 3).trans rfl⟩
/-- A block of the call's own: what it is, what stands below it. -/
theorem box_new (w : World) (o : Obj) : ∃ (w1 : World) (p0 : Nat), w.heap.size = p0 ∧ w.alloc o = w1 ∧ p0 < w1.heap.size ∧ w1.heap[p0]? = some o ∧ Below w.heap.size w w1 :=
  ⟨_, _, rfl, rfl, by rw [World.size_alloc]; omega, heap_alloc_new w o, (Below.refl _ _).alloc (Nat.le_refl _) o⟩
set_option maxHeartbeats 4000000 in
theorem vcheck_any (w : World) (v : Vl) (hw : VlW v) (hT : Tabs8 w) : Calls Tryz.prog 63 #[valV v] w fun e w' => e = .returned (.int .i64 (checkE v)) ∧ Below w.heap.size w w' := by
  obtain ⟨w1, p0, hp0, hw1, hlt, hn, hb⟩ := box_new w (.cells #[.int .u8 v.kind, .int .i64 v.num, .bool v.tr, .string v.text] 58)
  have hT1 := Utf8Tabs_below hT hb
  have HW := Lib.hid hw
  have HB : Hid (Below p0 w w1) := Lib.hid (by rw [← hp0]; exact hb)
  have HT := Lib.hid hT1
  obtain ⟨n0, n1, n2, n3⟩ := v_cells hn
  have hkeep : ∀ W, Below w1.heap.size w1 W → (fun w' => w'.cell? ⟨p0, 0, none⟩ = some (.int .u8 v.kind) ∧ w'.cell? ⟨p0, 1, none⟩ = some (.int .i64 v.num) ∧ w'.cell? ⟨p0, 2, none⟩ = some (.bool v.tr) ∧ w'.cell? ⟨p0, 3, none⟩ = some (.string v.text)) W := fun W h => v_cells ((h.block p0 hlt).trans hn)
  have HK := Lib.hid hkeep
  have hsz : v.text.size ≤ 140737488355328 := hw.t
  have ktx := hw.k0
  have kty := hw.k1
  have cur : Below w1.heap.size w1 w1.drew := (Below.refl _ _).drew
  clear hw hn hb hT hT1 hkeep
  by_cases k1 : v.kind = 1
  · have e1 : (v.kind == 1) = true := by simpa using k1
    have hE : Hid (checkE v = if vlEq v (numV v.num) then 0 else 1) := Lib.hid (by unfold checkE checkB; rw [if_pos k1])
    have hq := run_eql_val
    obtain ⟨r, hr⟩ : ∃ r, vlEq v (numV v.num) = r := ⟨_, rfl⟩
    have hq1 : ∀ W : World, (binOp .eql 58 (valV v) (valV (numV v.num))).run Tryz.prog W = .ok (.bool r) W := fun W => by rw [hq, hr]
    rw [hr] at hE
    clear k1 hr hq
    go_enter Tryz.func63, Tryz.ntmps63
    go_wp2_with fail
    go_region_held3 (fun w' => w'.cell? ⟨p0, 0, none⟩ = some (.int .u8 v.kind) ∧ w'.cell? ⟨p0, 1, none⟩ = some (.int .i64 v.num) ∧ w'.cell? ⟨p0, 2, none⟩ = some (.bool v.tr) ∧ w'.cell? ⟨p0, 3, none⟩ = some (.string v.text)) (first | exact HK.out _ (Below.refl _ _).drew | exact HK.out _ cur | go_keep) (first | (go_at_call 106; refine (number_any _ v.num).mono ?_; rintro e wz ⟨rfl, hbz⟩; have cur := cur.trans (hbz.mono cur.size)))
    all_goals
      cases r
      all_goals
        go_wp2_with fail
        go_ret
        exact ⟨by rw [hE.out]; rfl, by first | exact HB.out.trans (cur.mono (by omega)) | (rw [hp0]; exact HB.out.trans (cur.mono (by omega)))⟩
  · have e1 : (v.kind == 1) = false := by simpa using k1
    by_cases k2 : v.kind = 2
    · have e2 : (v.kind == 2) = true := by simpa using k2
      have hE : Hid (checkE v = if vlEq v (trV v.tr) then 0 else 1) := Lib.hid (by unfold checkE checkB; rw [if_neg k1, if_pos k2])
      have hq := run_eql_val
      obtain ⟨r, hr⟩ : ∃ r, vlEq v (trV v.tr) = r := ⟨_, rfl⟩
      have hq1 : ∀ W : World, (binOp .eql 58 (valV v) (valV (trV v.tr))).run Tryz.prog W = .ok (.bool r) W := fun W => by rw [hq, hr]
      rw [hr] at hE
      clear k1 k2 hr hq
      go_enter Tryz.func63, Tryz.ntmps63
      go_wp2_with fail
      go_region_held3 (fun w' => w'.cell? ⟨p0, 0, none⟩ = some (.int .u8 v.kind) ∧ w'.cell? ⟨p0, 1, none⟩ = some (.int .i64 v.num) ∧ w'.cell? ⟨p0, 2, none⟩ = some (.bool v.tr) ∧ w'.cell? ⟨p0, 3, none⟩ = some (.string v.text)) (first | exact HK.out _ (Below.refl _ _).drew | exact HK.out _ cur | go_keep) (first | (go_at_call 107; refine (truthV_any _ v.tr).mono ?_; rintro e wz ⟨rfl, hbz⟩; have cur := cur.trans (hbz.mono cur.size)))
      all_goals
        cases r
        all_goals
          go_wp2_with fail
          go_ret
          exact ⟨by rw [hE.out]; rfl, by first | exact HB.out.trans (cur.mono (by omega)) | (rw [hp0]; exact HB.out.trans (cur.mono (by omega)))⟩
    · have e2 : (v.kind == 2) = false := by simpa using k2
      by_cases k3 : v.kind = 3
      · have e3 : (v.kind == 3) = true := by simpa using k3
        have hE : Hid (checkE v = if vlEq v (txV v.text) && (decide (v.text.size ≤ 1024) && Lib.validD v.text.data.toList) then 0 else 1) := Lib.hid (by unfold checkE checkB; rw [if_neg k1, if_neg k2, if_pos k3])
        have hq := run_eql_val
        obtain ⟨r, hr⟩ : ∃ r, vlEq v (txV v.text) = r := ⟨_, rfl⟩
        have hq1 : ∀ W : World, (binOp .eql 58 (valV v) (valV (txV v.text))).run Tryz.prog W = .ok (.bool r) W := fun W => by rw [hq, hr]
        have HU := Lib.hid (fun (W : World) (h : Below w1.heap.size w1 W) => utf8_any W v.text hsz (Utf8Tabs_below HT.out h))
        obtain ⟨u, hu⟩ : ∃ u, Lib.validD v.text.data.toList = u := ⟨_, rfl⟩
        rw [hu] at HU
        rw [hr, hu] at hE
        clear k1 k2 k3 hr hq hu
        cases r with
        | false =>
          go_enter Tryz.func63, Tryz.ntmps63
          go_wp2_with fail
          refine wp_region_held_drew (S := (fun w' => w'.cell? ⟨p0, 0, none⟩ = some (.int .u8 v.kind) ∧ w'.cell? ⟨p0, 1, none⟩ = some (.int .i64 v.num) ∧ w'.cell? ⟨p0, 2, none⟩ = some (.bool v.tr) ∧ w'.cell? ⟨p0, 3, none⟩ = some (.string v.text))) (by kernel_rfl) ?hSA (fun hHeld => ?hRA)
          case hSA => exact HK.out _ (Below.refl _ _).drew
          case' hRA => skip
          refine wpAnyH_take (i := 0) (v := ?vA0) rfl (by kernel_rfl) (by kernel_rfl) (by kernel_rfl) (fun _ _ _ h => h) (Or.inl ⟨by rfl, ?hyA0⟩) (by assumption) ?restA0
          case hyA0 => ((intro w hSw; (try dsimp only at hSw); go_simp); try with_reducible rfl)
          try simp only [Act.put, List.setIfInBounds_toArray, List.set_cons_zero, List.set_cons_succ, List.getElem_toArray, List.getElem_cons_zero]
          refine wpAnyH_take (i := 1) (v := ?vA1) rfl (by kernel_rfl) (by kernel_rfl) (by kernel_rfl) (fun _ _ _ h => h) (Or.inl ⟨by rfl, ?hyA1⟩) (by assumption) ?restA1
          case hyA1 => ((intro w hSw; (try dsimp only at hSw); go_simp); try with_reducible rfl)
          try simp only [Act.put, List.setIfInBounds_toArray, List.set_cons_zero, List.set_cons_succ, List.getElem_toArray, List.getElem_cons_succ, List.getElem_cons_zero]
          refine wpAnyH_take (i := 2) (v := ?vA2) rfl (by kernel_rfl) (by kernel_rfl) (by kernel_rfl) (fun _ _ _ h => h) (Or.inl ⟨by rfl, ?hyA2⟩) (by assumption) ?restA2
          case hyA2 => ((intro w hSw; (try dsimp only at hSw); go_simp); try with_reducible rfl)
          try simp only [Act.put, List.setIfInBounds_toArray, List.set_cons_zero, List.set_cons_succ, List.getElem_toArray, List.getElem_cons_succ, List.getElem_cons_zero]
          refine wpAnyH_ready (rs := [3]) (by kernel_rfl) (by simp) ?_
          refine AllReadyH.cons rfl (fun K hK => ?_) AllReadyH.nil
          try simp only [List.getElem_toArray, List.getElem_cons_succ, List.getElem_cons_zero]
          go_simp
          (with_reducible refine (words_any _ v.text).mono ?_)
          rintro e wz ⟨rfl, hbz⟩
          have cur := cur.trans (hbz.mono cur.size)
          refine hK.out _ _ ?hSA3 (fun hHeld => ?hRA3)
          case hSA3 => (first | exact HK.out _ cur | go_keep)
          case' hRA3 => clear hK K
          try simp only [Act.put, List.setIfInBounds_toArray, List.set_cons_zero, List.set_cons_succ, List.getElem_toArray, List.getElem_cons_succ, List.getElem_cons_zero]
          refine wpAnyH_take (i := 4) (v := ?vA4) rfl (by kernel_rfl) (by kernel_rfl) (by kernel_rfl) (fun _ _ _ h => h) (Or.inl ⟨by rfl, ?hyA4⟩) (by assumption) ?restA4
          case hyA4 => ((intro w hSw; (try dsimp only at hSw); go_simp); try with_reducible rfl)
          try simp only [Act.put, List.setIfInBounds_toArray, List.set_cons_zero, List.set_cons_succ, List.getElem_toArray, List.getElem_cons_succ, List.getElem_cons_zero]
          refine wpAnyH_take (i := 5) (v := ?vA5) rfl (by kernel_rfl) (by kernel_rfl) (by kernel_rfl) (fun _ _ _ h => h) (Or.inl ⟨by rfl, ?hyA5⟩) (by assumption) ?restA5
          case hyA5 => ((intro w hSw; (try dsimp only at hSw); go_simp); try with_reducible rfl)
          try simp only [Act.put, List.setIfInBounds_toArray, List.set_cons_zero, List.set_cons_succ, List.getElem_toArray, List.getElem_cons_succ, List.getElem_cons_zero]
          refine wpAnyH_take (i := 6) (v := undef) rfl (by kernel_rfl) (by kernel_rfl) (by kernel_rfl) (fun _ _ _ h => h) (Or.inr ⟨by rfl, rfl⟩) (by assumption) ?_
          try simp only [Act.put, List.setIfInBounds_toArray, List.set_cons_zero, List.set_cons_succ, List.getElem_toArray, List.getElem_cons_succ, List.getElem_cons_zero]
          refine wpAnyH_take (i := 7) (v := undef) rfl (by kernel_rfl) (by kernel_rfl) (by kernel_rfl) (fun _ _ _ h => h) (Or.inr ⟨by rfl, rfl⟩) (by assumption) ?_
          try simp only [Act.put, List.setIfInBounds_toArray, List.set_cons_zero, List.set_cons_succ, List.getElem_toArray, List.getElem_cons_succ, List.getElem_cons_zero]
          refine wpAnyH_take (i := 8) (v := undef) rfl (by kernel_rfl) (by kernel_rfl) (by kernel_rfl) (fun _ _ _ h => h) (Or.inr ⟨by rfl, rfl⟩) (by assumption) ?_
          try simp only [Act.put, List.setIfInBounds_toArray, List.set_cons_zero, List.set_cons_succ, List.getElem_toArray, List.getElem_cons_succ, List.getElem_cons_zero]
          refine wpAnyH_take (i := 9) (v := undef) rfl (by kernel_rfl) (by kernel_rfl) (by kernel_rfl) (fun _ _ _ h => h) (Or.inr ⟨by rfl, rfl⟩) (by assumption) ?_
          try simp only [Act.put, List.setIfInBounds_toArray, List.set_cons_zero, List.set_cons_succ, List.getElem_toArray, List.getElem_cons_succ, List.getElem_cons_zero]
          refine wpAnyH_take (i := 10) (v := ?vA10) rfl (by kernel_rfl) (by kernel_rfl) (by kernel_rfl) (fun _ _ _ h => h) (Or.inl ⟨by rfl, ?hyA10⟩) (by assumption) ?restA10
          case hyA10 => ((intro w hSw; (try dsimp only at hSw); go_simp); try with_reducible rfl)
          try simp only [Act.put, List.setIfInBounds_toArray, List.set_cons_zero, List.set_cons_succ, List.getElem_toArray, List.getElem_cons_succ, List.getElem_cons_zero]
          refine wpAnyH_take (i := 11) (v := ?vA11) rfl (by kernel_rfl) (by kernel_rfl) (by kernel_rfl) (fun _ _ _ h => h) (Or.inl ⟨by rfl, ?hyA11⟩) (by assumption) ?restA11
          case hyA11 => ((intro w hSw; (try dsimp only at hSw); go_simp); try with_reducible rfl)
          try simp only [Act.put, List.setIfInBounds_toArray, List.set_cons_zero, List.set_cons_succ, List.getElem_toArray, List.getElem_cons_succ, List.getElem_cons_zero]
          refine wpAnyH_take (i := 12) (v := undef) rfl (by kernel_rfl) (by kernel_rfl) (by kernel_rfl) (fun _ _ _ h => h) (Or.inr ⟨by rfl, rfl⟩) (by assumption) ?_
          try simp only [Act.put, List.setIfInBounds_toArray, List.set_cons_zero, List.set_cons_succ, List.getElem_toArray, List.getElem_cons_succ, List.getElem_cons_zero]
          refine wpAnyH_take (i := 13) (v := undef) rfl (by kernel_rfl) (by kernel_rfl) (by kernel_rfl) (fun _ _ _ h => h) (Or.inr ⟨by rfl, rfl⟩) (by assumption) ?_
          try simp only [Act.put, List.setIfInBounds_toArray, List.set_cons_zero, List.set_cons_succ, List.getElem_toArray, List.getElem_cons_succ, List.getElem_cons_zero]
          refine wpAnyH_take (i := 14) (v := undef) rfl (by kernel_rfl) (by kernel_rfl) (by kernel_rfl) (fun _ _ _ h => h) (Or.inr ⟨by rfl, rfl⟩) (by assumption) ?_
          try simp only [Act.put, List.setIfInBounds_toArray, List.set_cons_zero, List.set_cons_succ, List.getElem_toArray, List.getElem_cons_succ, List.getElem_cons_zero]
          refine wpAnyH_take (i := 15) (v := ?vA15) rfl (by kernel_rfl) (by kernel_rfl) (by kernel_rfl) (fun _ _ _ h => h) (Or.inl ⟨by rfl, ?hyA15⟩) (by assumption) ?restA15
          case hyA15 => ((intro w hSw; (try dsimp only at hSw); go_simp); try with_reducible rfl)
          try simp only [Act.put, List.setIfInBounds_toArray, List.set_cons_zero, List.set_cons_succ, List.getElem_toArray, List.getElem_cons_succ, List.getElem_cons_zero]
          refine wpAnyH_take (i := 16) (v := ?vA16) rfl (by kernel_rfl) (by kernel_rfl) (by kernel_rfl) (fun _ _ _ h => h) (Or.inl ⟨by rfl, ?hyA16⟩) (by assumption) ?restA16
          case hyA16 => ((intro w hSw; (try dsimp only at hSw); go_simp); try with_reducible rfl)
          try simp only [Act.put, List.setIfInBounds_toArray, List.set_cons_zero, List.set_cons_succ, List.getElem_toArray, List.getElem_cons_succ, List.getElem_cons_zero]
          refine wpAnyH_done (by kernel_rfl) ?_ _
          go_wp2_with fail
          go_ret
          exact ⟨by rw [hE.out]; rfl, by first | exact HB.out.trans (cur.mono (by omega)) | (rw [hp0]; exact HB.out.trans (cur.mono (by omega)))⟩
        | true =>
          by_cases hl : v.text.size ≤ 1024
          · have dl : decide ((v.text.size : Int) ≤ 1024) = true := decide_eq_true (by omega)
            have dl2 : decide (v.text.size ≤ 1024) = true := decide_eq_true hl
            rw [dl2] at hE
            clear hl
            go_enter Tryz.func63, Tryz.ntmps63
            go_wp2_with fail
            go_region_held3 (fun w' => w'.cell? ⟨p0, 0, none⟩ = some (.int .u8 v.kind) ∧ w'.cell? ⟨p0, 1, none⟩ = some (.int .i64 v.num) ∧ w'.cell? ⟨p0, 2, none⟩ = some (.bool v.tr) ∧ w'.cell? ⟨p0, 3, none⟩ = some (.string v.text)) (first | exact HK.out _ (Below.refl _ _).drew | exact HK.out _ cur | go_keep) (first | (go_at_call 108; refine (words_any _ v.text).mono ?_; rintro e wz ⟨rfl, hbz⟩; have cur := cur.trans (hbz.mono cur.size)) | (go_at_call 102; refine (HU.out _ cur).mono ?_; rintro e wz ⟨rfl, hbz⟩; have cur := cur.trans (hbz.mono cur.size)))
            all_goals
              cases u
              all_goals
                go_wp2_with fail
                go_ret
                exact ⟨by rw [hE.out]; rfl, by first | exact HB.out.trans (cur.mono (by omega)) | (rw [hp0]; exact HB.out.trans (cur.mono (by omega)))⟩
          · have dl : decide ((v.text.size : Int) ≤ 1024) = false := decide_eq_false (by omega)
            have dl2 : decide (v.text.size ≤ 1024) = false := decide_eq_false hl
            rw [dl2] at hE
            clear hl
            go_enter Tryz.func63, Tryz.ntmps63
            go_wp2_with fail
            refine wp_region_held_drew (S := (fun w' => w'.cell? ⟨p0, 0, none⟩ = some (.int .u8 v.kind) ∧ w'.cell? ⟨p0, 1, none⟩ = some (.int .i64 v.num) ∧ w'.cell? ⟨p0, 2, none⟩ = some (.bool v.tr) ∧ w'.cell? ⟨p0, 3, none⟩ = some (.string v.text))) (by kernel_rfl) ?hSB (fun hHeld => ?hRB)
            case hSB => exact HK.out _ (Below.refl _ _).drew
            case' hRB => skip
            refine wpAnyH_take (i := 0) (v := ?vB0) rfl (by kernel_rfl) (by kernel_rfl) (by kernel_rfl) (fun _ _ _ h => h) (Or.inl ⟨by rfl, ?hyB0⟩) (by assumption) ?restB0
            case hyB0 => ((intro w hSw; (try dsimp only at hSw); go_simp); try with_reducible rfl)
            try simp only [Act.put, List.setIfInBounds_toArray, List.set_cons_zero, List.set_cons_succ, List.getElem_toArray, List.getElem_cons_zero]
            refine wpAnyH_take (i := 1) (v := ?vB1) rfl (by kernel_rfl) (by kernel_rfl) (by kernel_rfl) (fun _ _ _ h => h) (Or.inl ⟨by rfl, ?hyB1⟩) (by assumption) ?restB1
            case hyB1 => ((intro w hSw; (try dsimp only at hSw); go_simp); try with_reducible rfl)
            try simp only [Act.put, List.setIfInBounds_toArray, List.set_cons_zero, List.set_cons_succ, List.getElem_toArray, List.getElem_cons_succ, List.getElem_cons_zero]
            refine wpAnyH_take (i := 2) (v := ?vB2) rfl (by kernel_rfl) (by kernel_rfl) (by kernel_rfl) (fun _ _ _ h => h) (Or.inl ⟨by rfl, ?hyB2⟩) (by assumption) ?restB2
            case hyB2 => ((intro w hSw; (try dsimp only at hSw); go_simp); try with_reducible rfl)
            try simp only [Act.put, List.setIfInBounds_toArray, List.set_cons_zero, List.set_cons_succ, List.getElem_toArray, List.getElem_cons_succ, List.getElem_cons_zero]
            refine wpAnyH_ready (rs := [3]) (by kernel_rfl) (by simp) ?_
            refine AllReadyH.cons rfl (fun K hK => ?_) AllReadyH.nil
            try simp only [List.getElem_toArray, List.getElem_cons_succ, List.getElem_cons_zero]
            go_simp
            (with_reducible refine (words_any _ v.text).mono ?_)
            rintro e wz ⟨rfl, hbz⟩
            have cur := cur.trans (hbz.mono cur.size)
            refine hK.out _ _ ?hSB3 (fun hHeld => ?hRB3)
            case hSB3 => (first | exact HK.out _ cur | go_keep)
            case' hRB3 => clear hK K
            try simp only [Act.put, List.setIfInBounds_toArray, List.set_cons_zero, List.set_cons_succ, List.getElem_toArray, List.getElem_cons_succ, List.getElem_cons_zero]
            refine wpAnyH_take (i := 4) (v := ?vB4) rfl (by kernel_rfl) (by kernel_rfl) (by kernel_rfl) (fun _ _ _ h => h) (Or.inl ⟨by rfl, ?hyB4⟩) (by assumption) ?restB4
            case hyB4 => ((intro w hSw; (try dsimp only at hSw); go_simp); try with_reducible rfl)
            try simp only [Act.put, List.setIfInBounds_toArray, List.set_cons_zero, List.set_cons_succ, List.getElem_toArray, List.getElem_cons_succ, List.getElem_cons_zero]
            refine wpAnyH_take (i := 5) (v := ?vB5) rfl (by kernel_rfl) (by kernel_rfl) (by kernel_rfl) (fun _ _ _ h => h) (Or.inl ⟨by rfl, ?hyB5⟩) (by assumption) ?restB5
            case hyB5 => ((intro w hSw; (try dsimp only at hSw); go_simp); try with_reducible rfl)
            try simp only [Act.put, List.setIfInBounds_toArray, List.set_cons_zero, List.set_cons_succ, List.getElem_toArray, List.getElem_cons_succ, List.getElem_cons_zero]
            refine wpAnyH_take (i := 6) (v := ?vB6) rfl (by kernel_rfl) (by kernel_rfl) (by kernel_rfl) (fun _ _ _ h => h) (Or.inl ⟨by rfl, ?hyB6⟩) (by assumption) ?restB6
            case hyB6 => ((intro w hSw; (try dsimp only at hSw); go_simp); try with_reducible rfl)
            try simp only [Act.put, List.setIfInBounds_toArray, List.set_cons_zero, List.set_cons_succ, List.getElem_toArray, List.getElem_cons_succ, List.getElem_cons_zero]
            refine wpAnyH_take (i := 7) (v := ?vB7) rfl (by kernel_rfl) (by kernel_rfl) (by kernel_rfl) (fun _ _ _ h => h) (Or.inl ⟨by rfl, ?hyB7⟩) (by assumption) ?restB7
            case hyB7 => ((intro w hSw; (try dsimp only at hSw); go_simp); try with_reducible rfl)
            try simp only [Act.put, List.setIfInBounds_toArray, List.set_cons_zero, List.set_cons_succ, List.getElem_toArray, List.getElem_cons_succ, List.getElem_cons_zero]
            refine wpAnyH_take (i := 8) (v := ?vB8) rfl (by kernel_rfl) (by kernel_rfl) (by kernel_rfl) (fun _ _ _ h => h) (Or.inl ⟨by rfl, ?hyB8⟩) (by assumption) ?restB8
            case hyB8 => ((intro w hSw; (try dsimp only at hSw); go_simp); try with_reducible rfl)
            try simp only [Act.put, List.setIfInBounds_toArray, List.set_cons_zero, List.set_cons_succ, List.getElem_toArray, List.getElem_cons_succ, List.getElem_cons_zero]
            refine wpAnyH_take (i := 9) (v := ?vB9) rfl (by kernel_rfl) (by kernel_rfl) (by kernel_rfl) (fun _ _ _ h => h) (Or.inl ⟨by rfl, ?hyB9⟩) (by assumption) ?restB9
            case hyB9 => ((intro w hSw; (try dsimp only at hSw); go_simp); try with_reducible rfl)
            try simp only [Act.put, List.setIfInBounds_toArray, List.set_cons_zero, List.set_cons_succ, List.getElem_toArray, List.getElem_cons_succ, List.getElem_cons_zero]
            refine wpAnyH_take (i := 10) (v := ?vB10) rfl (by kernel_rfl) (by kernel_rfl) (by kernel_rfl) (fun _ _ _ h => h) (Or.inl ⟨by rfl, ?hyB10⟩) (by assumption) ?restB10
            case hyB10 => ((intro w hSw; (try dsimp only at hSw); go_simp); try with_reducible rfl)
            try simp only [Act.put, List.setIfInBounds_toArray, List.set_cons_zero, List.set_cons_succ, List.getElem_toArray, List.getElem_cons_succ, List.getElem_cons_zero]
            refine wpAnyH_take (i := 11) (v := ?vB11) rfl (by kernel_rfl) (by kernel_rfl) (by kernel_rfl) (fun _ _ _ h => h) (Or.inl ⟨by rfl, ?hyB11⟩) (by assumption) ?restB11
            case hyB11 => ((intro w hSw; (try dsimp only at hSw); go_simp); try with_reducible rfl)
            try simp only [Act.put, List.setIfInBounds_toArray, List.set_cons_zero, List.set_cons_succ, List.getElem_toArray, List.getElem_cons_succ, List.getElem_cons_zero]
            refine wpAnyH_take (i := 12) (v := undef) rfl (by kernel_rfl) (by kernel_rfl) (by kernel_rfl) (fun _ _ _ h => h) (Or.inr ⟨by rfl, rfl⟩) (by assumption) ?_
            try simp only [Act.put, List.setIfInBounds_toArray, List.set_cons_zero, List.set_cons_succ, List.getElem_toArray, List.getElem_cons_succ, List.getElem_cons_zero]
            refine wpAnyH_take (i := 13) (v := undef) rfl (by kernel_rfl) (by kernel_rfl) (by kernel_rfl) (fun _ _ _ h => h) (Or.inr ⟨by rfl, rfl⟩) (by assumption) ?_
            try simp only [Act.put, List.setIfInBounds_toArray, List.set_cons_zero, List.set_cons_succ, List.getElem_toArray, List.getElem_cons_succ, List.getElem_cons_zero]
            refine wpAnyH_take (i := 14) (v := undef) rfl (by kernel_rfl) (by kernel_rfl) (by kernel_rfl) (fun _ _ _ h => h) (Or.inr ⟨by rfl, rfl⟩) (by assumption) ?_
            try simp only [Act.put, List.setIfInBounds_toArray, List.set_cons_zero, List.set_cons_succ, List.getElem_toArray, List.getElem_cons_succ, List.getElem_cons_zero]
            refine wpAnyH_take (i := 15) (v := ?vB15) rfl (by kernel_rfl) (by kernel_rfl) (by kernel_rfl) (fun _ _ _ h => h) (Or.inl ⟨by rfl, ?hyB15⟩) (by assumption) ?restB15
            case hyB15 => ((intro w hSw; (try dsimp only at hSw); go_simp); try with_reducible rfl)
            try simp only [Act.put, List.setIfInBounds_toArray, List.set_cons_zero, List.set_cons_succ, List.getElem_toArray, List.getElem_cons_succ, List.getElem_cons_zero]
            refine wpAnyH_take (i := 16) (v := ?vB16) rfl (by kernel_rfl) (by kernel_rfl) (by kernel_rfl) (fun _ _ _ h => h) (Or.inl ⟨by rfl, ?hyB16⟩) (by assumption) ?restB16
            case hyB16 => ((intro w hSw; (try dsimp only at hSw); go_simp); try with_reducible rfl)
            try simp only [Act.put, List.setIfInBounds_toArray, List.set_cons_zero, List.set_cons_succ, List.getElem_toArray, List.getElem_cons_succ, List.getElem_cons_zero]
            refine wpAnyH_done (by kernel_rfl) ?_ _
            go_wp2_with fail
            go_ret
            exact ⟨by rw [hE.out]; rfl, by first | exact HB.out.trans (cur.mono (by omega)) | (rw [hp0]; exact HB.out.trans (cur.mono (by omega)))⟩
      · have e3 : (v.kind == 3) = false := by simpa using k3
        have hE : Hid (checkE v = 1) := Lib.hid (by unfold checkE checkB; rw [if_neg k1, if_neg k2, if_neg k3]; rfl)
        clear k1 k2 k3
        go_enter Tryz.func63, Tryz.ntmps63
        go_wp2_with fail
        go_ret
        exact ⟨by rw [hE.out]; rfl, by first | exact HB.out | (rw [hp0]; exact HB.out)⟩
end Go.Proofs.YtjcaaahbfkjipaaGreatDoor
