/- Of WordTable: what XFAs uses (shake.py). -/
import Derived.Test.YtbephgifbghilaaGreatDoorKBase
import Derived.Deep.WholeRow
/- word.table: which bytes may stand in a name; word.Name and the document's Name. -/
set_option maxRecDepth 100000
namespace Go.Proofs.YtbephgifbghilaaGreatDoor
open Go.RowKit
/-- How a byte may stand in a name: 2 first, 1 behind. -/
def clsW (j : Nat) : Int := if (97 ≤ j ∧ j < 123) ∨ (65 ≤ j ∧ j < 91) then 2 else if (48 ≤ j ∧ j < 58) ∨ j = 45 ∨ j = 95 ∨ j = 46 then 1 else 0
def letW (i j : Nat) : Int := if (97 ≤ j ∧ j < 97 + i) ∨ (65 ≤ j ∧ j < 65 + i) then 2 else 0
def digW (i j : Nat) : Int := if (97 ≤ j ∧ j < 123) ∨ (65 ≤ j ∧ j < 91) then 2 else if 48 ≤ j ∧ j < 48 + i then 1 else 0
/-- A block of 256 numbers. -/
structure TabW (c : Array Value) (f : Nat → Int) : Prop where
  size : c.size = 256
  at' : ∀ j, j < 256 → c[j]? = some (.int .u8 (f j))
theorem TabW.set {c : Array Value} {f g : Nat → Int} (h : TabW c f) {k : Nat} {v : Int} (hk : k < 256) (hg : ∀ j, j < 256 → g j = if j = k then v else f j) : TabW (c.setIfInBounds k (.int .u8 v)) g := by
  refine ⟨by simpa using h.size, fun j hj => ?_⟩
  rw [hg j hj, Array.getElem?_setIfInBounds]
  by_cases e : k = j
  · subst e
    rw [if_pos rfl, if_pos (by rw [h.size]; exact hk), if_pos rfl]
  · rw [if_neg e, if_neg (Ne.symm e)]
    exact h.at' j hj
theorem TabW.one {c : Array Value} {f : Nat → Int} (h : TabW c f) : c.all (·.oneCell') = true := by
  rw [Array.all_eq_true]
  intro i hi
  have := h.at' i (by rw [← h.size]; exact hi)
  rw [Array.getElem?_eq_getElem hi] at this
  injection this with this
  rw [this]; rfl
theorem tab_zero : ∃ c0 : Array Value, (∀ w, (zeroValue 117).run Tryz.prog w = .ok (.agg c0) w) ∧ TabW c0 (letW 0) ∧ (Tryz.prog.info? 117).map (·.size) = some 256 := by
  obtain ⟨h1, h2⟩ := zero_of_info (P := Tryz.prog) (t := 117) (v := .agg (Array.replicate 256 (.int .u8 0))) (n := 256) (by kernel_rfl)
  refine ⟨_, h1, ⟨by simp, fun j hj => ?_⟩, h2⟩
  have e : letW 0 j = 0 := by unfold letW; rw [if_neg (by omega)]
  rw [e]
  rw [Array.getElem?_replicate, if_pos hj]
theorem wpList_load_run {P : Program} {ops : Array Oper} {rest : List Oper} {o : Oper} {a : Act} {w : World} {Q : Exit → Act → World → Prop} (hgd : o.guard = none) (ty : TypeId) (x : Operand) (ho : o.op = .load ty x) (p v : Value) (hx : a.eval x = p) (hld : (Instr.loadAt ty p).run P w = .ok v w) (h : wpList P ops Q rest (a.put o.dst v) w) : wpList P ops Q (o :: rest) a w := by
  refine wpList_plain hgd fun K hK => ?_
  unfold Oper.wp execOp
  simp only [ho, hx, hld, Sem.run_bind, Sem.run_pure, Result.andThen_ok]
  exact hK _ _ h
theorem wpList_store_run {P : Program} {ops : Array Oper} {rest : List Oper} {o : Oper} {a : Act} {w w' : World} {Q : Exit → Act → World → Prop} (hgd : o.guard = none) (ty : TypeId) (x y : Operand) (ho : o.op = .store ty x y) (p v : Value) (hx : a.eval x = p) (hy : a.eval y = v) (hst : (Instr.storeAt ty p v).run P w = .ok () w') (h : wpList P ops Q rest (a.put o.dst undef) w') : wpList P ops Q (o :: rest) a w := by
  refine wpList_plain hgd fun K hK => ?_
  unfold Oper.wp execOp
  simp only [ho, hx, hy, hst, Sem.run_bind, Sem.run_pure, Result.andThen_ok]
  exact hK _ _ h
theorem results_cell_one {fn : Func} {p : Tmp} {ty : TypeId} (h : fn.results = #[.cell p ty]) (tmps : Array Value) (P : Program) (w : World) :
    (results fn tmps).run P w = ((asAddr (tmps.getD p undef)).run P w).andThen fun a w₁ => (loadVar ty a).run P w₁ := by
  simp only [results, h]
  simp [Sem.run_bind, Result.andThen]
set_option maxHeartbeats 2000000 in
theorem table_any (w : World) : Calls Tryz.prog 83 #[] w fun e w' => ∃ c, e = .returned (.agg c) ∧ TabW c clsW ∧ Below w.heap.size w w' := by
  obtain ⟨c0, hz, hT, hi⟩ := tab_zero
  have HT := Lib.hid hT
  have HI := Lib.hid hi
  clear hT hi
  go_enter Tryz.func83, Tryz.ntmps83
  go_wp2_with fail
  go_loopg [3] 26 (fun gh s3 wx => ∃ (i : Nat) (c : Array Value), i + gh = 26 ∧ s3 = .int .i64 (i : Int) ∧ wx = w.alloc (.cells c 117) ∧ Hid (TabW c (letW i)))
  case atStart => exact ⟨0, c0, by omega, rfl, rfl, Lib.hid HT.out⟩
  case round =>
    obtain ⟨i, c, hig, rfl, rfl, hc⟩ := hrel
    by_cases hi : i < 26
    · have hc1 : TabW (c.setIfInBounds (97 + i) (.int .u8 2)) (fun j => if j = 97 + i then 2 else letW i j) := hc.out.set (by omega) (fun j _ => rfl)
      have hc2 : Hid (TabW ((c.setIfInBounds (97 + i) (.int .u8 2)).setIfInBounds (65 + i) (.int .u8 2)) (letW (i + 1))) := Lib.hid (hc1.set (by omega) (fun j _ => by
        unfold letW
        by_cases e1 : j = 65 + i
        · rw [if_pos e1, if_pos (by omega)]
        · rw [if_neg e1]
          by_cases e2 : j = 97 + i
          · rw [if_pos e2, if_pos (by omega)]
          · rw [if_neg e2]
            by_cases e3 : (97 ≤ j ∧ j < 97 + i) ∨ (65 ≤ j ∧ j < 65 + i)
            · rw [if_pos e3, if_pos (by omega)]
            · rw [if_neg e3, if_neg (by omega)]))
      obtain ⟨x1, a1⟩ : ∃ x, c[97 + i]? = some x := ⟨_, hc.out.at' _ (by omega)⟩
      obtain ⟨x2, a2⟩ : ∃ x, (c.setIfInBounds (97 + i) (.int .u8 2))[65 + i]? = some x := ⟨_, hc1.at' _ (by omega)⟩
      clear hc1
      go_wp2_with fail
      go_roundg (26 - (i + 1))
      case measure => omega
      case rel => exact ⟨i + 1, _, by omega, by go_num, rfl, hc2⟩
    · have e : i = 26 := by omega
      subst e
      have hd : Hid (TabW c (digW 0)) := Lib.hid ⟨hc.out.size, fun j hj => by
        rw [hc.out.at' j hj]
        unfold letW digW
        by_cases e3 : (97 ≤ j ∧ j < 123) ∨ (65 ≤ j ∧ j < 91)
        · rw [if_pos e3, if_pos e3]
        · rw [if_neg e3, if_neg e3, if_neg (by omega)]⟩
      clear hc
      go_wp2_with fail
      go_loopg [13] 10 (fun gh s3 wx => ∃ (i : Nat) (c : Array Value), i + gh = 10 ∧ s3 = .int .i64 (i : Int) ∧ wx = w.alloc (.cells c 117) ∧ Hid (TabW c (digW i)))
      case atStart => exact ⟨0, c, by omega, rfl, rfl, hd⟩
      case round =>
        obtain ⟨i, c, hig, rfl, rfl, hc⟩ := hrel
        by_cases hi : i < 10
        · have hc2 : Hid (TabW (c.setIfInBounds (48 + i) (.int .u8 1)) (digW (i + 1))) := Lib.hid (hc.out.set (by omega) (fun j _ => by
            unfold digW
            by_cases e3 : (97 ≤ j ∧ j < 123) ∨ (65 ≤ j ∧ j < 91)
            · rw [if_pos e3, if_neg (by omega), if_pos e3]
            · rw [if_neg e3, if_neg e3]
              by_cases e1 : j = 48 + i
              · rw [if_pos e1, if_pos (by omega)]
              · rw [if_neg e1]
                by_cases e2 : 48 ≤ j ∧ j < 48 + i
                · rw [if_pos e2, if_pos (by omega)]
                · rw [if_neg e2, if_neg (by omega)]))
          obtain ⟨x1, a1⟩ : ∃ x, c[48 + i]? = some x := ⟨_, hc.out.at' _ (by omega)⟩
          go_wp2_with fail
          go_roundg (10 - (i + 1))
          case measure => omega
          case rel => exact ⟨i + 1, _, by omega, by go_num, rfl, hc2⟩
        · have e : i = 10 := by omega
          subst e
          have h1 := hc.out.set (k := 45) (v := 1) (g := fun j => if j = 45 then 1 else digW 10 j) (by omega) (fun j _ => rfl)
          have h2 := h1.set (k := 95) (v := 1) (g := fun j => if j = 95 then 1 else if j = 45 then 1 else digW 10 j) (by omega) (fun j _ => rfl)
          have h3 := h2.set (k := 46) (v := 1) (g := clsW) (by omega) (fun j _ => by
            unfold clsW digW
            by_cases e1 : j = 46
            · subst e1; rfl
            · rw [if_neg e1]
              by_cases e2 : j = 95
              · subst e2; rfl
              · rw [if_neg e2]
                by_cases e3 : j = 45
                · subst e3; rfl
                · rw [if_neg e3]
                  by_cases e4 : (97 ≤ j ∧ j < 123) ∨ (65 ≤ j ∧ j < 91)
                  · rw [if_pos e4, if_pos e4]
                  · rw [if_neg e4, if_neg e4]
                    by_cases e5 : 48 ≤ j ∧ j < 58
                    · rw [if_pos (by omega), if_pos (by omega)]
                    · rw [if_neg (by omega), if_neg (by omega)])
          obtain ⟨x1, a1⟩ : ∃ x, c[45]? = some x := ⟨_, hc.out.at' _ (by omega)⟩
          obtain ⟨x2, a2⟩ : ∃ x, (c.setIfInBounds 45 (.int .u8 1))[95]? = some x := ⟨_, h1.at' _ (by omega)⟩
          obtain ⟨x3, a3⟩ : ∃ x, ((c.setIfInBounds 45 (.int .u8 1)).setIfInBounds 95 (.int .u8 1))[46]? = some x := ⟨_, h2.at' _ (by omega)⟩
          have h3s := h3.size
          obtain ⟨c3, hc3⟩ : ∃ c3, ((c.setIfInBounds 45 (.int .u8 1)).setIfInBounds 95 (.int .u8 1)).setIfInBounds 46 (.int .u8 1) = c3 := ⟨_, rfl⟩
          rw [hc3] at h3 h3s
          have hld := run_loadAt_new (P := Tryz.prog) w 117 c3 256 5 Tryz.underlying117 (by rw [h3s]; exact HI.out)
          have hst := run_storeAt_new (P := Tryz.prog) w 117 c3 c3 (by rw [h3s]; exact HI.out) rfl h3.one
          have H3 := Lib.hid h3
          have HLD := Lib.hid hld
          have HST := Lib.hid hst
          clear h1 h2 h3 h3s hld hst
          go_wp2_with (first
            | (refine wpList_load_run rfl 117 (.tmp 0) (by rfl) _ _ (by rfl) HLD.out ?_)
            | (refine wpList_store_run rfl 117 (.tmp 0) (.tmp 23) (by rfl) _ _ (by rfl) (by rfl) HST.out ?_))
          have hlv := run_loadVar_new (P := Tryz.prog) w 117 c3 256 5 Tryz.underlying117 (by rw [H3.out.size]; exact HI.out)
          refine bodyPost_ret (v := .agg c3) (by rw [results_cell_one Tryz.results83]; simp [Act.put, asAddr, Result.andThen, hlv]) rfl ⟨c3, rfl, H3.out, (Below.refl _ _).alloc (Nat.le_refl _) _⟩
end Go.Proofs.YtbephgifbghilaaGreatDoor
