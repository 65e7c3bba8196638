/- The law 'WireBack' (seat wirez). -/
import Derived.Test.YtlgfhbfdjckdnaaGreatDoorWireBackQ
import Derived.Test.YtlgfhbfdjckdnaaGreatDoorWireWorks
set_option maxRecDepth 100000
namespace Go.Proofs.YtlgfhbfdjckdnaaGreatDoor
open Go.RowKit

set_option maxHeartbeats 8000000 in
theorem wireBack_walk (W : World) (hg : Gnd W) (m p k b : ByteArray) (hm : m.size ≤ 140737488355328 ∧ p.size ≤ 140737488355328 ∧ k.size ≤ 140737488355328 ∧ b.size ≤ 140737488355328) (m' p' k' b' : ByteArray) (hm' : m'.size ≤ 140737488355328 ∧ p'.size ≤ 140737488355328 ∧ k'.size ≤ 140737488355328 ∧ b'.size ≤ 140737488355328) (st : Int) (xb : ByteArray) (hst : (Lit.int .i64 st).wf = true ∧ I64n st ∧ xb.size ≤ 140737488355328) (tail : ByteArray) (ht : tail.size ≤ 140737488355328) :
    Calls Tryz.prog 6 #[.agg #[.string m, .string p, .string k, .string b], .agg #[.string m', .string p', .string k', .string b'], .agg #[.int .i64 st, .string xb], .string tail] W fun e w' => e = .returned (.bool true) ∧ Below W.heap.size W w' := by
  obtain ⟨hm, hp, hk, hb⟩ := hm
  obtain ⟨hm', hp', hk', hb'⟩ := hm'
  obtain ⟨hwf, hst, hxb⟩ := hst
  obtain ⟨W1, hW1⟩ : ∃ W1, ((W.alloc (.cells #[.string m, .string p, .string k, .string b] 37)).alloc (.cells #[.string m', .string p', .string k', .string b'] 37)).alloc (.cells #[.int .i64 st, .string xb] 46) = W1 := ⟨_, rfl⟩
  have BW : Hid (Below W.heap.size W W1) := by refine Lib.hid ?_; rw [← hW1]; exact (((Below.refl _ _).alloc (Nat.le_refl _) _).alloc (by simp) _).alloc (by simp; omega) _
  have hx0 : W1.heap[W.heap.size]? = some (.cells #[.string m, .string p, .string k, .string b] 37) := by
    rw [← hW1]; exact (Below.block ((Below.refl _ _).alloc (Nat.le_refl _) _) _ (by simp; omega)).trans (heap_alloc2_old _ _ _)
  have hx1 : W1.heap[W.heap.size + 1]? = some (.cells #[.string m', .string p', .string k', .string b'] 37) := by
    rw [← hW1]; exact (Below.block ((Below.refl _ _).alloc (Nat.le_refl _) _) _ (by simp)).trans (heap_alloc2_new _ _ _)
  have hx2 : W1.heap[W.heap.size + 2]? = some (.cells #[.int .i64 st, .string xb] 46) := by
    rw [← hW1]
    have := (MapKept.heap_alloc ((W.alloc (.cells #[.string m, .string p, .string k, .string b] 37)).alloc (.cells #[.string m', .string p', .string k', .string b'] 37)) (.cells #[.int .i64 st, .string xb] 46)).1
    simpa using this
  have l0 := lt_of_block hx0
  have l1 := lt_of_block hx1
  have l2 := lt_of_block hx2
  have hcells : Hid (∀ W', Below W1.heap.size W1 W' → (W'.cell? ⟨W.heap.size, 0, none⟩ = some (.string m) ∧ W'.cell? ⟨W.heap.size, 1, none⟩ = some (.string p) ∧ W'.cell? ⟨W.heap.size, 2, none⟩ = some (.string k) ∧ W'.cell? ⟨W.heap.size, 3, none⟩ = some (.string b)) ∧
      (W'.cell? ⟨W.heap.size + 1, 0, none⟩ = some (.string m') ∧ W'.cell? ⟨W.heap.size + 1, 1, none⟩ = some (.string p') ∧ W'.cell? ⟨W.heap.size + 1, 2, none⟩ = some (.string k') ∧ W'.cell? ⟨W.heap.size + 1, 3, none⟩ = some (.string b')) ∧
      (W'.cell? ⟨W.heap.size + 2, 0, none⟩ = some (.int .i64 st) ∧ W'.cell? ⟨W.heap.size + 2, 1, none⟩ = some (.string xb))) := by
    refine Lib.hid (fun W' h => ⟨⟨?_, ?_, ?_, ?_⟩, ⟨?_, ?_, ?_, ?_⟩, ?_, ?_⟩)
    · rw [Below.cellB h l0, cell_of_block hx0]; rfl
    · rw [Below.cellB h l0, cell_of_block hx0]; rfl
    · rw [Below.cellB h l0, cell_of_block hx0]; rfl
    · rw [Below.cellB h l0, cell_of_block hx0]; rfl
    · rw [Below.cellB h l1, cell_of_block hx1]; rfl
    · rw [Below.cellB h l1, cell_of_block hx1]; rfl
    · rw [Below.cellB h l1, cell_of_block hx1]; rfl
    · rw [Below.cellB h l1, cell_of_block hx1]; rfl
    · rw [Below.cellB h l2, cell_of_block hx2]; rfl
    · rw [Below.cellB h l2, cell_of_block hx2]; rfl
  have HG := Lib.hid (hg.up BW.out)
  have cur : Below W1.heap.size W1 W1 := Below.refl _ _
  obtain ⟨⟨c0, c1, c2, c3⟩, ⟨d0, d1, d2, d3⟩, x0, x1⟩ := hcells.out _ cur
  have HWk : Hid (∀ W', Below W1.heap.size W1 W' → Calls Tryz.prog 14 #[] W' fun e w' => e = .returned (.bool true) ∧ Below W'.heap.size W' w') := Lib.hid (fun W' h => works_any W' (HG.out.up h))
  clear hx0 hx1 hx2 hg
  by_cases hbig : 200000 < b.size + b'.size + xb.size + tail.size
  · have e1 : decide ((200000 : Int) < (b.size : Int) + (b'.size : Int) + (xb.size : Int) + (tail.size : Int)) = true := decide_eq_true (by omega)
    go_enter Tryz.func6, Tryz.ntmps6
    go_wp2_with (go_at_call 14; refine (HWk.out _ cur).mono ?_; rintro e w5 ⟨rfl, hb5⟩; have cur := cur.trans (hb5.mono cur.size); obtain ⟨⟨c0, c1, c2, c3⟩, ⟨d0, d1, d2, d3⟩, x0, x1⟩ := hcells.out _ cur)
    go_ret
    exact ⟨rfl, BW.out.trans (cur.mono BW.out.size)⟩
  · have e1 : decide ((200000 : Int) < (b.size : Int) + (b'.size : Int) + (xb.size : Int) + (tail.size : Int)) = false := decide_eq_false (by omega)
    have HW1 : Hid (∀ W', Below W1.heap.size W1 W' → Calls Tryz.prog 15 #[.agg #[.string m, .string p, .string k, .string b]] W' fun e w' => e = .returned (if mayB m p k b then .tuple #[.string (writeB m p k b), .int .i64 0] else .tuple #[.string ⟨#[]⟩, .int .i64 1]) ∧ Below W'.heap.size W' w') := Lib.hid (fun W' h => write_any W' (HG.out.up h) m p k b hm hp hk (by omega))
    have HW2 : Hid (∀ W', Below W1.heap.size W1 W' → Calls Tryz.prog 15 #[.agg #[.string m', .string p', .string k', .string b']] W' fun e w' => e = .returned (if mayB m' p' k' b' then .tuple #[.string (writeB m' p' k' b'), .int .i64 0] else .tuple #[.string ⟨#[]⟩, .int .i64 1]) ∧ Below W'.heap.size W' w') := Lib.hid (fun W' h => write_any W' (HG.out.up h) m' p' k' b' hm' hp' hk' (by omega))
    obtain ⟨ma, hma⟩ : ∃ q, mayB m p k b = q := ⟨_, rfl⟩
    obtain ⟨mb, hmb⟩ : ∃ q, mayB m' p' k' b' = q := ⟨_, rfl⟩
    obtain ⟨t1, ht1⟩ : ∃ q, (if ma then writeB m p k b else ⟨#[]⟩) = q := ⟨_, rfl⟩
    obtain ⟨t2, ht2⟩ : ∃ q, (if mb then writeB m' p' k' b' else ⟨#[]⟩) = q := ⟨_, rfl⟩
    have HW1 : Hid (∀ W', Below W1.heap.size W1 W' → Calls Tryz.prog 15 #[.agg #[.string m, .string p, .string k, .string b]] W' fun e w' => e = .returned (.tuple #[.string t1, .int .i64 (if ma then 0 else 1)]) ∧ Below W'.heap.size W' w') := Lib.hid (fun W' h => (HW1.out W' h).mono (by rintro e w' ⟨rfl, hb⟩; refine ⟨?_, hb⟩; rw [hma, ← ht1]; cases ma <;> rfl))
    have HW2 : Hid (∀ W', Below W1.heap.size W1 W' → Calls Tryz.prog 15 #[.agg #[.string m', .string p', .string k', .string b']] W' fun e w' => e = .returned (.tuple #[.string t2, .int .i64 (if mb then 0 else 1)]) ∧ Below W'.heap.size W' w') := Lib.hid (fun W' h => (HW2.out W' h).mono (by rintro e w' ⟨rfl, hb⟩; refine ⟨?_, hb⟩; rw [hmb, ← ht2]; cases mb <;> rfl))
    have HMA := Lib.hid (And.intro hma ht1)
    have HMB := Lib.hid (And.intro hmb ht2)
    have hbs : b.size + b'.size + xb.size + tail.size ≤ 200000 := by omega
    clear hma hmb ht1 ht2 hbig
    go_enter Tryz.func6, Tryz.ntmps6
    go_upto_region 4 with (first
      | (go_at_call 14; refine (HWk.out _ cur).mono ?_; rintro e w5 ⟨rfl, hb5⟩; have cur := cur.trans (hb5.mono cur.size); obtain ⟨⟨c0, c1, c2, c3⟩, ⟨d0, d1, d2, d3⟩, x0, x1⟩ := hcells.out _ cur)
      | (go_at_call 15; refine (HW1.out _ cur).mono ?_; rintro e w6 ⟨rfl, hb6⟩; have cur := cur.trans (hb6.mono cur.size); obtain ⟨⟨c0, c1, c2, c3⟩, ⟨d0, d1, d2, d3⟩, x0, x1⟩ := hcells.out _ cur))
    go_upto_region 5 with (go_at_call 15; refine (HW2.out _ cur).mono ?_; rintro e w7 ⟨rfl, hb7⟩; have cur := cur.trans (hb7.mono cur.size); obtain ⟨⟨c0, c1, c2, c3⟩, ⟨d0, d1, d2, d3⟩, x0, x1⟩ := hcells.out _ cur)
    have HAn := Lib.hid (fun W' (h : Below W1.heap.size W1 W') => answer_any W' (HG.out.up h) st hwf hst xb (by omega))
    have hw0 : decide ((wordB st).size ≠ 0) = false ∨ (decide ((wordB st).size ≠ 0) = true ∧ wordL st ≠ []) := by
      by_cases h : (wordB st).size = 0
      · exact .inl (by simp [h])
      · exact .inr ⟨by simp [h], fun e => h (by rw [← siz_dat, wordB_list, e]; rfl)⟩
    have hor : (ma = false ∧ mb = false) ∨ (ma = false ∧ mb = true) ∨ (ma = true ∧ mb = false) ∨ (ma = true ∧ mb = true) := by cases ma <;> cases mb <;> simp
    rcases hor with ⟨rfl, rfl⟩ | ⟨rfl, rfl⟩ | ⟨rfl, rfl⟩ | ⟨rfl, rfl⟩
    · go_upto_region 9 with fail
      obtain ⟨w9, hw9⟩ : ∃ w9 : World, w9 = w7 := ⟨_, rfl⟩
      rw [← hw9] at cur c0 c1 c2 c3 d0 d1 d2 d3 x0 x1 ⊢
      clear hw9
      rcases hw0 with hw0 | ⟨hw0, hword⟩
      · have HA1 : Hid (Calls Tryz.prog 17 #[.agg #[.int .i64 st, .string xb]] w9 fun e w' => e = .returned (.tuple #[.string ⟨#[]⟩, .int .i64 1]) ∧ Below w9.heap.size w9 w') := Lib.hid ((HAn.out _ cur).mono (by rintro e w' ⟨rfl, hb⟩; refine ⟨?_, hb⟩; unfold ansV; rw [hw0]; rfl))
        clear hw0 HAn
        go_wp2_with (go_at_call 17; refine HA1.out.mono ?_; rintro e w10 ⟨rfl, hb10⟩)
        go_ret
        exact ⟨rfl, BW.out.trans ((cur.trans (hb10.mono cur.size)).mono BW.out.size)⟩
      · have hus := aheadB_size st xb.size hst (by unfold I64n; omega)
        have huz : (answerB st xb).size = (aheadB st xb.size).size + xb.size := by unfold answerB; rw [ByteArray.size_append]
        have hup : 0 < (answerB st xb).size := by
          rw [← siz_dat, answerB_list]
          unfold aheadL leadL
          simp [httpL]
        have hyes := fun (c : ByteArray) (yes no r : Value) (h : ToldV c yes no r) (hc : c.data.toList = (answerB st xb).data.toList ++ tail.data.toList) => told_yes (st := st) (b := xb) (t := tail.data.toList) h (by rw [hc, answerB_list]) hword
        have hnon := fun (c : ByteArray) (yes no r : Value) (h : ToldV c yes no r) (hc : c.data.toList = (answerB st xb).data.toList.take ((answerB st xb).size - 1)) => told_non (st := st) (b := xb) h hc hword
        have HA1 : Hid (Calls Tryz.prog 17 #[.agg #[.int .i64 st, .string xb]] w9 fun e w' => e = .returned (.tuple #[.string (answerB st xb), .int .i64 0]) ∧ Below w9.heap.size w9 w') := Lib.hid ((HAn.out _ cur).mono (by rintro e w' ⟨rfl, hb⟩; refine ⟨?_, hb⟩; unfold ansV; rw [hw0]; rfl))
        obtain ⟨u, hu⟩ : ∃ q, answerB st xb = q := ⟨_, rfl⟩
        rw [hu] at HA1 huz hup hyes hnon
        obtain ⟨c3s, HC3, hc3z, hcat3⟩ := cat_run u tail (by omega)
        have hc3d : c3s.data.toList = u.data.toList ++ tail.data.toList := by rw [← HC3.out, app_list]
        obtain ⟨su, hsu⟩ : ∃ q, u.extract 0 (u.size - 1) = q := ⟨_, rfl⟩
        have hsud : su.data.toList = u.data.toList.take (u.size - 1) := by rw [← hsu, Lib.extract_from_zero]
        have hsuz : su.size ≤ 300000 := by rw [← hsu, ByteArray.size_extract]; omega
        have hc3z3 : c3s.size ≤ 300000 := by omega
        have HT1 : Hid (∀ W', Below W1.heap.size W1 W' → Calls Tryz.prog 18 #[.string c3s] W' fun e w' => e = .returned (.tuple #[.agg #[.int .i64 st, .string xb], .int .i64 (u.size : Int), .int .i64 0]) ∧ Below W'.heap.size W' w') := Lib.hid (fun W' h => (told_any W' (HG.out.up h) c3s hc3z3).mono (by rintro e w' ⟨r, rfl, hv, hb⟩; rw [hyes _ _ _ _ hv hc3d]; exact ⟨rfl, hb⟩))
        have HT2 : Hid (∀ W', Below W1.heap.size W1 W' → Calls Tryz.prog 18 #[.string su] W' fun e w' => e = .returned (.tuple #[.agg #[.int .i64 0, .string ⟨#[]⟩], .int .i64 0, .int .i64 4]) ∧ Below W'.heap.size W' w') := Lib.hid (fun W' h => (told_any W' (HG.out.up h) su hsuz).mono (by rintro e w' ⟨r, rfl, hv, hb⟩; rw [hnon _ _ _ _ hv hsud]; exact ⟨rfl, hb⟩))
        have z1 : (st == st) = true := beq_self_eq_true _
        have z2 : (xb.toList == xb.toList) = true := beq_self_eq_true _
        have z3 : ((u.size : Int) == (u.size : Int)) = true := beq_self_eq_true _
        have z3' : (u.size == u.size) = true := beq_self_eq_true _
        have hub : u.size ≤ 300000 := by omega
        clear hu huz hyes hnon hc3d hsud hw0 hword HAn hc3z hus
        go_upto_region 13 with (first
          | (go_at_call 17; refine HA1.out.mono ?_; rintro e w10 ⟨rfl, hb10⟩; have cur := cur.trans (hb10.mono cur.size); obtain ⟨⟨c0, c1, c2, c3⟩, ⟨d0, d1, d2, d3⟩, x0, x1⟩ := hcells.out _ cur)
          | (go_at_call 18; refine (HT1.out _ cur).mono ?_; rintro e w11 ⟨rfl, hb11⟩; have cur := cur.trans (hb11.mono cur.size); obtain ⟨W5, hW5⟩ : ∃ W5, w11.alloc (.cells #[.int .i64 st, .string xb] 46) = W5 := ⟨_, rfl⟩; have hB5 : Hid (W5.heap[w11.heap.size]? = some (.cells #[.int .i64 st, .string xb] 46)) := (by refine Lib.hid ?_; rw [← hW5]; exact (MapKept.heap_alloc w11 _).1); have hl5 := lt_of_block hB5.out; have curT : Below W1.heap.size W1 W5 := (by rw [← hW5]; exact cur.alloc cur.size _)))
        go_upto_region 14 with (go_at_call 18; refine (HT2.out _ curT).mono ?_; rintro e w12 ⟨rfl, hb12⟩; have curE := curT.trans (hb12.mono curT.size); have r0 : w12.cell? ⟨w11.heap.size, 0, none⟩ = some (.int .i64 st) := (by rw [Below.cellB hb12 hl5, cell_of_block hB5.out]; rfl); have r1 : w12.cell? ⟨w11.heap.size, 1, none⟩ = some (.string xb) := (by rw [Below.cellB hb12 hl5, cell_of_block hB5.out]; rfl); have hl6 : w11.heap.size < w12.heap.size := Nat.lt_of_lt_of_le hl5 hb12.size; have hl2e : W.heap.size + 1 + 1 < w12.heap.size := Nat.lt_of_lt_of_le l2 curE.size; obtain ⟨⟨c0, c1, c2, c3⟩, ⟨d0, d1, d2, d3⟩, x0, x1⟩ := hcells.out _ curE)
        go_wp2_with fail
        go_ret
        exact ⟨rfl, (BW.out.trans (curE.mono BW.out.size)).alloc (Nat.le_trans BW.out.size curE.size) _⟩
    · go_upto_region 9 with fail
      obtain ⟨w9, hw9⟩ : ∃ w9 : World, w9 = w7 := ⟨_, rfl⟩
      rw [← hw9] at cur c0 c1 c2 c3 d0 d1 d2 d3 x0 x1 ⊢
      clear hw9
      rcases hw0 with hw0 | ⟨hw0, hword⟩
      · have HA1 : Hid (Calls Tryz.prog 17 #[.agg #[.int .i64 st, .string xb]] w9 fun e w' => e = .returned (.tuple #[.string ⟨#[]⟩, .int .i64 1]) ∧ Below w9.heap.size w9 w') := Lib.hid ((HAn.out _ cur).mono (by rintro e w' ⟨rfl, hb⟩; refine ⟨?_, hb⟩; unfold ansV; rw [hw0]; rfl))
        clear hw0 HAn
        go_wp2_with (go_at_call 17; refine HA1.out.mono ?_; rintro e w10 ⟨rfl, hb10⟩)
        go_ret
        exact ⟨rfl, BW.out.trans ((cur.trans (hb10.mono cur.size)).mono BW.out.size)⟩
      · have hus := aheadB_size st xb.size hst (by unfold I64n; omega)
        have huz : (answerB st xb).size = (aheadB st xb.size).size + xb.size := by unfold answerB; rw [ByteArray.size_append]
        have hup : 0 < (answerB st xb).size := by
          rw [← siz_dat, answerB_list]
          unfold aheadL leadL
          simp [httpL]
        have hyes := fun (c : ByteArray) (yes no r : Value) (h : ToldV c yes no r) (hc : c.data.toList = (answerB st xb).data.toList ++ tail.data.toList) => told_yes (st := st) (b := xb) (t := tail.data.toList) h (by rw [hc, answerB_list]) hword
        have hnon := fun (c : ByteArray) (yes no r : Value) (h : ToldV c yes no r) (hc : c.data.toList = (answerB st xb).data.toList.take ((answerB st xb).size - 1)) => told_non (st := st) (b := xb) h hc hword
        have HA1 : Hid (Calls Tryz.prog 17 #[.agg #[.int .i64 st, .string xb]] w9 fun e w' => e = .returned (.tuple #[.string (answerB st xb), .int .i64 0]) ∧ Below w9.heap.size w9 w') := Lib.hid ((HAn.out _ cur).mono (by rintro e w' ⟨rfl, hb⟩; refine ⟨?_, hb⟩; unfold ansV; rw [hw0]; rfl))
        obtain ⟨u, hu⟩ : ∃ q, answerB st xb = q := ⟨_, rfl⟩
        rw [hu] at HA1 huz hup hyes hnon
        obtain ⟨c3s, HC3, hc3z, hcat3⟩ := cat_run u tail (by omega)
        have hc3d : c3s.data.toList = u.data.toList ++ tail.data.toList := by rw [← HC3.out, app_list]
        obtain ⟨su, hsu⟩ : ∃ q, u.extract 0 (u.size - 1) = q := ⟨_, rfl⟩
        have hsud : su.data.toList = u.data.toList.take (u.size - 1) := by rw [← hsu, Lib.extract_from_zero]
        have hsuz : su.size ≤ 300000 := by rw [← hsu, ByteArray.size_extract]; omega
        have hc3z3 : c3s.size ≤ 300000 := by omega
        have HT1 : Hid (∀ W', Below W1.heap.size W1 W' → Calls Tryz.prog 18 #[.string c3s] W' fun e w' => e = .returned (.tuple #[.agg #[.int .i64 st, .string xb], .int .i64 (u.size : Int), .int .i64 0]) ∧ Below W'.heap.size W' w') := Lib.hid (fun W' h => (told_any W' (HG.out.up h) c3s hc3z3).mono (by rintro e w' ⟨r, rfl, hv, hb⟩; rw [hyes _ _ _ _ hv hc3d]; exact ⟨rfl, hb⟩))
        have HT2 : Hid (∀ W', Below W1.heap.size W1 W' → Calls Tryz.prog 18 #[.string su] W' fun e w' => e = .returned (.tuple #[.agg #[.int .i64 0, .string ⟨#[]⟩], .int .i64 0, .int .i64 4]) ∧ Below W'.heap.size W' w') := Lib.hid (fun W' h => (told_any W' (HG.out.up h) su hsuz).mono (by rintro e w' ⟨r, rfl, hv, hb⟩; rw [hnon _ _ _ _ hv hsud]; exact ⟨rfl, hb⟩))
        have z1 : (st == st) = true := beq_self_eq_true _
        have z2 : (xb.toList == xb.toList) = true := beq_self_eq_true _
        have z3 : ((u.size : Int) == (u.size : Int)) = true := beq_self_eq_true _
        have z3' : (u.size == u.size) = true := beq_self_eq_true _
        have hub : u.size ≤ 300000 := by omega
        clear hu huz hyes hnon hc3d hsud hw0 hword HAn hc3z hus
        go_upto_region 13 with (first
          | (go_at_call 17; refine HA1.out.mono ?_; rintro e w10 ⟨rfl, hb10⟩; have cur := cur.trans (hb10.mono cur.size); obtain ⟨⟨c0, c1, c2, c3⟩, ⟨d0, d1, d2, d3⟩, x0, x1⟩ := hcells.out _ cur)
          | (go_at_call 18; refine (HT1.out _ cur).mono ?_; rintro e w11 ⟨rfl, hb11⟩; have cur := cur.trans (hb11.mono cur.size); obtain ⟨W5, hW5⟩ : ∃ W5, w11.alloc (.cells #[.int .i64 st, .string xb] 46) = W5 := ⟨_, rfl⟩; have hB5 : Hid (W5.heap[w11.heap.size]? = some (.cells #[.int .i64 st, .string xb] 46)) := (by refine Lib.hid ?_; rw [← hW5]; exact (MapKept.heap_alloc w11 _).1); have hl5 := lt_of_block hB5.out; have curT : Below W1.heap.size W1 W5 := (by rw [← hW5]; exact cur.alloc cur.size _)))
        go_upto_region 14 with (go_at_call 18; refine (HT2.out _ curT).mono ?_; rintro e w12 ⟨rfl, hb12⟩; have curE := curT.trans (hb12.mono curT.size); have r0 : w12.cell? ⟨w11.heap.size, 0, none⟩ = some (.int .i64 st) := (by rw [Below.cellB hb12 hl5, cell_of_block hB5.out]; rfl); have r1 : w12.cell? ⟨w11.heap.size, 1, none⟩ = some (.string xb) := (by rw [Below.cellB hb12 hl5, cell_of_block hB5.out]; rfl); have hl6 : w11.heap.size < w12.heap.size := Nat.lt_of_lt_of_le hl5 hb12.size; have hl2e : W.heap.size + 1 + 1 < w12.heap.size := Nat.lt_of_lt_of_le l2 curE.size; obtain ⟨⟨c0, c1, c2, c3⟩, ⟨d0, d1, d2, d3⟩, x0, x1⟩ := hcells.out _ curE)
        go_wp2_with fail
        go_ret
        exact ⟨rfl, (BW.out.trans (curE.mono BW.out.size)).alloc (Nat.le_trans BW.out.size curE.size) _⟩
    · go_upto_region 9 with fail
      obtain ⟨w9, hw9⟩ : ∃ w9 : World, w9 = w7 := ⟨_, rfl⟩
      rw [← hw9] at cur c0 c1 c2 c3 d0 d1 d2 d3 x0 x1 ⊢
      clear hw9
      rcases hw0 with hw0 | ⟨hw0, hword⟩
      · have HA1 : Hid (Calls Tryz.prog 17 #[.agg #[.int .i64 st, .string xb]] w9 fun e w' => e = .returned (.tuple #[.string ⟨#[]⟩, .int .i64 1]) ∧ Below w9.heap.size w9 w') := Lib.hid ((HAn.out _ cur).mono (by rintro e w' ⟨rfl, hb⟩; refine ⟨?_, hb⟩; unfold ansV; rw [hw0]; rfl))
        clear hw0 HAn
        go_wp2_with (go_at_call 17; refine HA1.out.mono ?_; rintro e w10 ⟨rfl, hb10⟩)
        go_ret
        exact ⟨rfl, BW.out.trans ((cur.trans (hb10.mono cur.size)).mono BW.out.size)⟩
      · have hus := aheadB_size st xb.size hst (by unfold I64n; omega)
        have huz : (answerB st xb).size = (aheadB st xb.size).size + xb.size := by unfold answerB; rw [ByteArray.size_append]
        have hup : 0 < (answerB st xb).size := by
          rw [← siz_dat, answerB_list]
          unfold aheadL leadL
          simp [httpL]
        have hyes := fun (c : ByteArray) (yes no r : Value) (h : ToldV c yes no r) (hc : c.data.toList = (answerB st xb).data.toList ++ tail.data.toList) => told_yes (st := st) (b := xb) (t := tail.data.toList) h (by rw [hc, answerB_list]) hword
        have hnon := fun (c : ByteArray) (yes no r : Value) (h : ToldV c yes no r) (hc : c.data.toList = (answerB st xb).data.toList.take ((answerB st xb).size - 1)) => told_non (st := st) (b := xb) h hc hword
        have HA1 : Hid (Calls Tryz.prog 17 #[.agg #[.int .i64 st, .string xb]] w9 fun e w' => e = .returned (.tuple #[.string (answerB st xb), .int .i64 0]) ∧ Below w9.heap.size w9 w') := Lib.hid ((HAn.out _ cur).mono (by rintro e w' ⟨rfl, hb⟩; refine ⟨?_, hb⟩; unfold ansV; rw [hw0]; rfl))
        obtain ⟨u, hu⟩ : ∃ q, answerB st xb = q := ⟨_, rfl⟩
        rw [hu] at HA1 huz hup hyes hnon
        obtain ⟨c3s, HC3, hc3z, hcat3⟩ := cat_run u tail (by omega)
        have hc3d : c3s.data.toList = u.data.toList ++ tail.data.toList := by rw [← HC3.out, app_list]
        obtain ⟨su, hsu⟩ : ∃ q, u.extract 0 (u.size - 1) = q := ⟨_, rfl⟩
        have hsud : su.data.toList = u.data.toList.take (u.size - 1) := by rw [← hsu, Lib.extract_from_zero]
        have hsuz : su.size ≤ 300000 := by rw [← hsu, ByteArray.size_extract]; omega
        have hc3z3 : c3s.size ≤ 300000 := by omega
        have HT1 : Hid (∀ W', Below W1.heap.size W1 W' → Calls Tryz.prog 18 #[.string c3s] W' fun e w' => e = .returned (.tuple #[.agg #[.int .i64 st, .string xb], .int .i64 (u.size : Int), .int .i64 0]) ∧ Below W'.heap.size W' w') := Lib.hid (fun W' h => (told_any W' (HG.out.up h) c3s hc3z3).mono (by rintro e w' ⟨r, rfl, hv, hb⟩; rw [hyes _ _ _ _ hv hc3d]; exact ⟨rfl, hb⟩))
        have HT2 : Hid (∀ W', Below W1.heap.size W1 W' → Calls Tryz.prog 18 #[.string su] W' fun e w' => e = .returned (.tuple #[.agg #[.int .i64 0, .string ⟨#[]⟩], .int .i64 0, .int .i64 4]) ∧ Below W'.heap.size W' w') := Lib.hid (fun W' h => (told_any W' (HG.out.up h) su hsuz).mono (by rintro e w' ⟨r, rfl, hv, hb⟩; rw [hnon _ _ _ _ hv hsud]; exact ⟨rfl, hb⟩))
        have z1 : (st == st) = true := beq_self_eq_true _
        have z2 : (xb.toList == xb.toList) = true := beq_self_eq_true _
        have z3 : ((u.size : Int) == (u.size : Int)) = true := beq_self_eq_true _
        have z3' : (u.size == u.size) = true := beq_self_eq_true _
        have hub : u.size ≤ 300000 := by omega
        clear hu huz hyes hnon hc3d hsud hw0 hword HAn hc3z hus
        go_upto_region 13 with (first
          | (go_at_call 17; refine HA1.out.mono ?_; rintro e w10 ⟨rfl, hb10⟩; have cur := cur.trans (hb10.mono cur.size); obtain ⟨⟨c0, c1, c2, c3⟩, ⟨d0, d1, d2, d3⟩, x0, x1⟩ := hcells.out _ cur)
          | (go_at_call 18; refine (HT1.out _ cur).mono ?_; rintro e w11 ⟨rfl, hb11⟩; have cur := cur.trans (hb11.mono cur.size); obtain ⟨W5, hW5⟩ : ∃ W5, w11.alloc (.cells #[.int .i64 st, .string xb] 46) = W5 := ⟨_, rfl⟩; have hB5 : Hid (W5.heap[w11.heap.size]? = some (.cells #[.int .i64 st, .string xb] 46)) := (by refine Lib.hid ?_; rw [← hW5]; exact (MapKept.heap_alloc w11 _).1); have hl5 := lt_of_block hB5.out; have curT : Below W1.heap.size W1 W5 := (by rw [← hW5]; exact cur.alloc cur.size _)))
        go_upto_region 14 with (go_at_call 18; refine (HT2.out _ curT).mono ?_; rintro e w12 ⟨rfl, hb12⟩; have curE := curT.trans (hb12.mono curT.size); have r0 : w12.cell? ⟨w11.heap.size, 0, none⟩ = some (.int .i64 st) := (by rw [Below.cellB hb12 hl5, cell_of_block hB5.out]; rfl); have r1 : w12.cell? ⟨w11.heap.size, 1, none⟩ = some (.string xb) := (by rw [Below.cellB hb12 hl5, cell_of_block hB5.out]; rfl); have hl6 : w11.heap.size < w12.heap.size := Nat.lt_of_lt_of_le hl5 hb12.size; have hl2e : W.heap.size + 1 + 1 < w12.heap.size := Nat.lt_of_lt_of_le l2 curE.size; obtain ⟨⟨c0, c1, c2, c3⟩, ⟨d0, d1, d2, d3⟩, x0, x1⟩ := hcells.out _ curE)
        go_wp2_with fail
        go_ret
        exact ⟨rfl, (BW.out.trans (curE.mono BW.out.size)).alloc (Nat.le_trans BW.out.size curE.size) _⟩
    · have hpa := may_parts HMA.out.1
      have hpb := may_parts HMB.out.1
      have ht1 : writeB m p k b = t1 := HMA.out.2
      have ht2 : writeB m' p' k' b' = t2 := HMB.out.2
      obtain ⟨a1, a2, a3, a4, a5⟩ := hpa
      obtain ⟨b1, b2, b3, b4, b5⟩ := hpb
      rw [ht1] at a5
      rw [ht2] at b5
      obtain ⟨s1, HS1, hs1z, hcat1⟩ := cat_run t1 t2 (by omega)
      obtain ⟨s2, HS2, hs2z, hcat2⟩ := cat_run s1 tail (by omega)
      have hs2d : s2.data.toList = writeL m.data.toList p.data.toList k.data.toList b.data.toList ++ writeL m'.data.toList p'.data.toList k'.data.toList b'.data.toList ++ tail.data.toList := by
        rw [← HS2.out, app_list, ← HS1.out, app_list, ← ht1, ← ht2, writeB_list, writeB_list]
      obtain ⟨A, hA⟩ := feed_writes tail.data.toList a1 a2 a3 a4 b1 b2 b3 b4
      rw [← hs2d] at hA
      simp only [bytesL_data] at hA
      have hs2z3 : s2.size ≤ 300000 := by omega
      have HRe : Hid (Calls Tryz.prog 16 #[.string s2] w7 fun e w' => ∃ g N c, e = .returned (.slice (some ⟨g, 0, none⟩) N c) ∧ 2 ≤ N ∧ N ≤ c ∧ w7.heap.size ≤ g ∧ g < w'.heap.size ∧ N ≤ 300001 ∧ (w'.cell? ⟨g, 0, none⟩ = some (.string m) ∧ w'.cell? ⟨g, 1, none⟩ = some (.string p) ∧ w'.cell? ⟨g, 2, none⟩ = some (.string k) ∧ w'.cell? ⟨g, 3, none⟩ = some (.string b) ∧ w'.cell? ⟨g, 4, none⟩ = some (.int .i64 0)) ∧
          (w'.cell? ⟨g, 5, none⟩ = some (.string m') ∧ w'.cell? ⟨g, 6, none⟩ = some (.string p') ∧ w'.cell? ⟨g, 7, none⟩ = some (.string k') ∧ w'.cell? ⟨g, 8, none⟩ = some (.string b') ∧ w'.cell? ⟨g, 9, none⟩ = some (.int .i64 0)) ∧ Below w7.heap.size w7 w') := by
        refine Lib.hid ((lread_any w7 (HG.out.up cur) s2 hs2z3).mono ?_)
        rintro e w' ⟨v, rfl, hO, hb⟩
        have hln := (feedS_len s2.data.toList).2
        rw [hA] at hO
        rw [hA, siz_dat] at hln
        rcases hO.val with ⟨_, hA0⟩ | ⟨g, c, rfl, h1, h2⟩
        · cases hA0
        · have at' := fun i j (hi : i < 2) (hj : j < 5) => OwnF.at fG_len hO (i := i) (j := j) (by simp; omega) hj
          exact ⟨g, _, c, rfl, by simp, hO.cap, h1, h2, by omega, ⟨at' 0 0 (by omega) (by omega), at' 0 1 (by omega) (by omega), at' 0 2 (by omega) (by omega), at' 0 3 (by omega) (by omega), at' 0 4 (by omega) (by omega)⟩, ⟨at' 1 0 (by omega) (by omega), at' 1 1 (by omega) (by omega), at' 1 2 (by omega) (by omega), at' 1 3 (by omega) (by omega), at' 1 4 (by omega) (by omega)⟩, hb⟩
      have y0 : (m.toList == m.toList) = true := beq_self_eq_true _
      have y1 : (p.toList == p.toList) = true := beq_self_eq_true _
      have y2 : (k.toList == k.toList) = true := beq_self_eq_true _
      have y3 : (b.toList == b.toList) = true := beq_self_eq_true _
      have y4 : (m'.toList == m'.toList) = true := beq_self_eq_true _
      have y5 : (p'.toList == p'.toList) = true := beq_self_eq_true _
      have y6 : (k'.toList == k'.toList) = true := beq_self_eq_true _
      have y7 : (b'.toList == b'.toList) = true := beq_self_eq_true _
      clear hA hs2d ht1 ht2 a1 a2 a3 a4 a5 b1 b2 b3 b4 b5 hs1z hs2z
      go_upto_region 7 with (go_at_call 16; refine HRe.out.mono ?_; rintro e w8 ⟨g, N, c, rfl, hN2, hNc, hg1, hg2, hN3, ⟨k0, k1, k2, k3, k4⟩, ⟨j0, j1, j2, j3, j4⟩, hb8⟩; have cur := cur.trans (hb8.mono cur.size); obtain ⟨⟨c0, c1, c2, c3⟩, ⟨d0, d1, d2, d3⟩, x0, x1⟩ := hcells.out _ cur; have y8 : decide ((N : Int) < 2) = false := decide_eq_false (by omega); have y8' : decide (N < 2) = false := decide_eq_false (by omega))
      go_quiet (fail)
      rename_i nq
      have cur := cur.trans (below_drewN (Below.refl _ _) nq |>.mono cur.size)
      obtain ⟨⟨c0, c1, c2, c3⟩, ⟨d0, d1, d2, d3⟩, x0, x1⟩ := hcells.out _ cur
      go_upto_region 9 with fail
      obtain ⟨w9, hw9⟩ : ∃ w9 : World, w9 = w8.drewN nq := ⟨_, rfl⟩
      rw [← hw9] at cur c0 c1 c2 c3 d0 d1 d2 d3 x0 x1 ⊢
      clear hw9
      rcases hw0 with hw0 | ⟨hw0, hword⟩
      · have HA1 : Hid (Calls Tryz.prog 17 #[.agg #[.int .i64 st, .string xb]] w9 fun e w' => e = .returned (.tuple #[.string ⟨#[]⟩, .int .i64 1]) ∧ Below w9.heap.size w9 w') := Lib.hid ((HAn.out _ cur).mono (by rintro e w' ⟨rfl, hb⟩; refine ⟨?_, hb⟩; unfold ansV; rw [hw0]; rfl))
        clear hw0 HAn
        go_wp2_with (go_at_call 17; refine HA1.out.mono ?_; rintro e w10 ⟨rfl, hb10⟩)
        go_ret
        exact ⟨rfl, BW.out.trans ((cur.trans (hb10.mono cur.size)).mono BW.out.size)⟩
      · have hus := aheadB_size st xb.size hst (by unfold I64n; omega)
        have huz : (answerB st xb).size = (aheadB st xb.size).size + xb.size := by unfold answerB; rw [ByteArray.size_append]
        have hup : 0 < (answerB st xb).size := by
          rw [← siz_dat, answerB_list]
          unfold aheadL leadL
          simp [httpL]
        have hyes := fun (c : ByteArray) (yes no r : Value) (h : ToldV c yes no r) (hc : c.data.toList = (answerB st xb).data.toList ++ tail.data.toList) => told_yes (st := st) (b := xb) (t := tail.data.toList) h (by rw [hc, answerB_list]) hword
        have hnon := fun (c : ByteArray) (yes no r : Value) (h : ToldV c yes no r) (hc : c.data.toList = (answerB st xb).data.toList.take ((answerB st xb).size - 1)) => told_non (st := st) (b := xb) h hc hword
        have HA1 : Hid (Calls Tryz.prog 17 #[.agg #[.int .i64 st, .string xb]] w9 fun e w' => e = .returned (.tuple #[.string (answerB st xb), .int .i64 0]) ∧ Below w9.heap.size w9 w') := Lib.hid ((HAn.out _ cur).mono (by rintro e w' ⟨rfl, hb⟩; refine ⟨?_, hb⟩; unfold ansV; rw [hw0]; rfl))
        obtain ⟨u, hu⟩ : ∃ q, answerB st xb = q := ⟨_, rfl⟩
        rw [hu] at HA1 huz hup hyes hnon
        obtain ⟨c3s, HC3, hc3z, hcat3⟩ := cat_run u tail (by omega)
        have hc3d : c3s.data.toList = u.data.toList ++ tail.data.toList := by rw [← HC3.out, app_list]
        obtain ⟨su, hsu⟩ : ∃ q, u.extract 0 (u.size - 1) = q := ⟨_, rfl⟩
        have hsud : su.data.toList = u.data.toList.take (u.size - 1) := by rw [← hsu, Lib.extract_from_zero]
        have hsuz : su.size ≤ 300000 := by rw [← hsu, ByteArray.size_extract]; omega
        have hc3z3 : c3s.size ≤ 300000 := by omega
        have HT1 : Hid (∀ W', Below W1.heap.size W1 W' → Calls Tryz.prog 18 #[.string c3s] W' fun e w' => e = .returned (.tuple #[.agg #[.int .i64 st, .string xb], .int .i64 (u.size : Int), .int .i64 0]) ∧ Below W'.heap.size W' w') := Lib.hid (fun W' h => (told_any W' (HG.out.up h) c3s hc3z3).mono (by rintro e w' ⟨r, rfl, hv, hb⟩; rw [hyes _ _ _ _ hv hc3d]; exact ⟨rfl, hb⟩))
        have HT2 : Hid (∀ W', Below W1.heap.size W1 W' → Calls Tryz.prog 18 #[.string su] W' fun e w' => e = .returned (.tuple #[.agg #[.int .i64 0, .string ⟨#[]⟩], .int .i64 0, .int .i64 4]) ∧ Below W'.heap.size W' w') := Lib.hid (fun W' h => (told_any W' (HG.out.up h) su hsuz).mono (by rintro e w' ⟨r, rfl, hv, hb⟩; rw [hnon _ _ _ _ hv hsud]; exact ⟨rfl, hb⟩))
        have z1 : (st == st) = true := beq_self_eq_true _
        have z2 : (xb.toList == xb.toList) = true := beq_self_eq_true _
        have z3 : ((u.size : Int) == (u.size : Int)) = true := beq_self_eq_true _
        have z3' : (u.size == u.size) = true := beq_self_eq_true _
        have hub : u.size ≤ 300000 := by omega
        clear hu huz hyes hnon hc3d hsud hw0 hword HAn hc3z hus
        go_upto_region 13 with (first
          | (go_at_call 17; refine HA1.out.mono ?_; rintro e w10 ⟨rfl, hb10⟩; have cur := cur.trans (hb10.mono cur.size); obtain ⟨⟨c0, c1, c2, c3⟩, ⟨d0, d1, d2, d3⟩, x0, x1⟩ := hcells.out _ cur)
          | (go_at_call 18; refine (HT1.out _ cur).mono ?_; rintro e w11 ⟨rfl, hb11⟩; have cur := cur.trans (hb11.mono cur.size); obtain ⟨W5, hW5⟩ : ∃ W5, w11.alloc (.cells #[.int .i64 st, .string xb] 46) = W5 := ⟨_, rfl⟩; have hB5 : Hid (W5.heap[w11.heap.size]? = some (.cells #[.int .i64 st, .string xb] 46)) := (by refine Lib.hid ?_; rw [← hW5]; exact (MapKept.heap_alloc w11 _).1); have hl5 := lt_of_block hB5.out; have curT : Below W1.heap.size W1 W5 := (by rw [← hW5]; exact cur.alloc cur.size _)))
        go_upto_region 14 with (go_at_call 18; refine (HT2.out _ curT).mono ?_; rintro e w12 ⟨rfl, hb12⟩; have curE := curT.trans (hb12.mono curT.size); have r0 : w12.cell? ⟨w11.heap.size, 0, none⟩ = some (.int .i64 st) := (by rw [Below.cellB hb12 hl5, cell_of_block hB5.out]; rfl); have r1 : w12.cell? ⟨w11.heap.size, 1, none⟩ = some (.string xb) := (by rw [Below.cellB hb12 hl5, cell_of_block hB5.out]; rfl); have hl6 : w11.heap.size < w12.heap.size := Nat.lt_of_lt_of_le hl5 hb12.size; have hl2e : W.heap.size + 1 + 1 < w12.heap.size := Nat.lt_of_lt_of_le l2 curE.size; obtain ⟨⟨c0, c1, c2, c3⟩, ⟨d0, d1, d2, d3⟩, x0, x1⟩ := hcells.out _ curE)
        go_wp2_with fail
        go_ret
        exact ⟨rfl, (BW.out.trans (curE.mono BW.out.size)).alloc (Nat.le_trans BW.out.size curE.size) _⟩
end Go.Proofs.YtlgfhbfdjckdnaaGreatDoor
