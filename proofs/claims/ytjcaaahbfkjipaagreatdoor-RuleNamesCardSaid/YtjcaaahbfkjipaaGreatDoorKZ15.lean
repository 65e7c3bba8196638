/- Texts fused by fuse.py: KRuleEv. -/
import Derived.Test.YtjcaaahbfkjipaaGreatDoorKZ14
/- Of RuleEv: what FRuleNames uses (shake.py). -/
set_option maxRecDepth 100000
/- rule.event, rule.has: what an element must have. -/
namespace Go.Proofs.YtjcaaahbfkjipaaGreatDoor
open Go.RowKit
/-- What '==' makes of two elements. -/
def elEq (a b : El) : Bool := (a.id.toList == b.id.toList) && ((a.name.toList == b.name.toList) && ((a.kind == b.kind) && ((a.inn.toList == b.inn.toList) && ((a.dflt.toList == b.dflt.toList) && ((a.att.toList == b.att.toList) && ((a.event == b.event) && ((a.ref.toList == b.ref.toList) && ((a.key.toList == b.key.toList) && ((a.ticks == b.ticks) && (a.tries == b.tries))))))))))
theorem run_eql_el (w : World) (a b : El) : (binOp .eql 39 (valEl a) (valEl b)).run Tryz.prog w = .ok (.bool (elEq a b)) w := by
  have h : (Op.equalIn 10000 39 (valEl a) (valEl b)).run Tryz.prog w = .ok (elEq a b) w := by
    rw [show (10000 : Nat) = 9999 + 1 from rfl, run_equalIn_struct w 9999 39 _ _ (by kernel_rfl) (by kernel_rfl)]
    simp [go_sem, Op.eqFields]
    unfold elEq
    repeat' split
    all_goals simp_all
  rw [run_eql_struct, h]; rfl
section
variable {w : World}
set_option maxHeartbeats 4000000 in
theorem event_any (x : El) : Calls Tryz.prog 112 #[valEl x] w fun e w' => e = .returned (.bool (eventB x)) ∧ Below w.heap.size w w' := by
  obtain ⟨w1, p0, hp0, hw1, l1, n1, b1⟩ := box_new w (oEl x)
  have HB := Lib.hid b1
  have HK : Hid (∀ W, Below w1.heap.size w1 W → W.cell? ⟨p0, 7, none⟩ = some (.string x.ref) ∧ W.cell? ⟨p0, 8, none⟩ = some (.string x.key) ∧ W.cell? ⟨p0, 9, none⟩ = some (.int .i64 x.ticks)) := Lib.hid (fun W h => by
    obtain ⟨c0, c1, c2, c3, c4, c5, c6, c7, c8, c9, c10⟩ := boxEl ((h.block p0 l1).trans n1)
    exact ⟨c7, c8, c9⟩)
  obtain ⟨c0, c1, c2, c3, c4, c5, c6, c7, c8, c9, c10⟩ := boxEl n1
  have cur : Below w1.heap.size w1 w1 := Below.refl _ _
  obtain ⟨V, hV⟩ : ∃ V, x.event = V := ⟨_, rfl⟩
  rw [hV] at c6
  unfold eventB noS
  rw [hV]
  clear n1 b1 hV
  have hK : V = 1 ∨ V = 2 ∨ V = 3 ∨ (V ≠ 1 ∧ V ≠ 2 ∧ V ≠ 3) := by omega
  rcases hK with rfl | rfl | rfl | ⟨h1, h2, h3⟩
  · rw [if_pos rfl]
    obtain ⟨a, ha⟩ : ∃ a, decide (1 ≤ x.ticks) = a := ⟨_, rfl⟩
    obtain ⟨b, hb⟩ : ∃ a, decide (x.ticks ≤ 1048576) = a := ⟨_, rfl⟩
    obtain ⟨c, hc⟩ : ∃ a, x.ref.toList.isEmpty = a := ⟨_, rfl⟩
    rw [ha, hb, hc]
    cases a with
    | false => go_enter Tryz.func112, Tryz.ntmps112; go_wp2_with fail; go_ret; exact ⟨rfl, HB.out⟩
    | true =>
      cases b with
      | false => go_enter Tryz.func112, Tryz.ntmps112; go_wp2_with fail; go_ret; exact ⟨rfl, HB.out⟩
      | true => cases c <;> (go_enter Tryz.func112, Tryz.ntmps112; go_wp2_with fail; go_ret; exact ⟨rfl, HB.out⟩)
  · rw [if_neg (by omega), if_pos rfl]
    obtain ⟨a, ha⟩ : ∃ a, (x.ticks == 0) = a := ⟨_, rfl⟩
    obtain ⟨b, hb⟩ : ∃ a, nameB x.ref = a := ⟨_, rfl⟩
    rw [ha, hb]
    cases a with
    | false => go_enter Tryz.func112, Tryz.ntmps112; go_wp2_with fail; go_ret; exact ⟨rfl, HB.out⟩
    | true =>
      cases b <;> (go_enter Tryz.func112, Tryz.ntmps112; go_wp2_with (go_at_call 57; refine (name_any _ _).mono ?_; rintro e wz ⟨rfl, hbz⟩; have cur := cur.trans (hbz.mono cur.size); obtain ⟨d7, d8, d9⟩ := HK.out wz cur; clear hbz); go_ret; exact ⟨rfl, HB.out.trans (cur.mono HB.out.size)⟩)
  · rw [if_neg (by omega), if_neg (by omega), if_pos rfl]
    obtain ⟨a, ha⟩ : ∃ a, (x.ticks == 0) = a := ⟨_, rfl⟩
    obtain ⟨b, hb⟩ : ∃ a, nameB x.ref = a := ⟨_, rfl⟩
    rw [ha, hb]
    cases a with
    | false => go_enter Tryz.func112, Tryz.ntmps112; go_wp2_with fail; go_ret; exact ⟨rfl, HB.out⟩
    | true =>
      cases b <;> (go_enter Tryz.func112, Tryz.ntmps112; go_wp2_with (go_at_call 57; refine (name_any _ _).mono ?_; rintro e wz ⟨rfl, hbz⟩; have cur := cur.trans (hbz.mono cur.size); obtain ⟨d7, d8, d9⟩ := HK.out wz cur; clear hbz); go_ret; exact ⟨rfl, HB.out.trans (cur.mono HB.out.size)⟩)
  · have t1 : (V == 1) = false := beq_eq_false_iff_ne.2 h1
    have t2 : (V == 2) = false := beq_eq_false_iff_ne.2 h2
    have t3 : (V == 3) = false := beq_eq_false_iff_ne.2 h3
    rw [if_neg h1, if_neg h2, if_neg h3]
    clear h1 h2 h3
    go_enter Tryz.func112, Tryz.ntmps112; go_wp2_with fail; go_ret; exact ⟨rfl, HB.out⟩
/-- The element without its id, name and place. -/
def bareE (x : El) : El := ⟨⟨#[]⟩, ⟨#[]⟩, x.kind, ⟨#[]⟩, x.dflt, x.att, x.event, x.ref, x.key, x.ticks, x.tries⟩
theorem nilB : (⟨#[]⟩ : ByteArray).toList = [] := by rw [Lib.toList_data]
theorem nilS' : noS (⟨#[]⟩ : ByteArray) = true := by unfold noS; rw [nilB]; rfl
theorem noS_eq (a : ByteArray) : (a.toList == (⟨#[]⟩ : ByteArray).toList) = noS a := by
  unfold noS
  rw [nilB]
  cases a.toList <;> rfl
theorem bare4 (x : El) : elEq (bareE x) ⟨⟨#[]⟩, ⟨#[]⟩, x.kind, ⟨#[]⟩, ⟨#[]⟩, ⟨#[]⟩, 0, ⟨#[]⟩, ⟨#[]⟩, 0, x.tries⟩ = (noS x.dflt && (noS x.att && ((x.event == 0) && (noS x.ref && (noS x.key && (x.ticks == 0)))))) := by
  unfold elEq bareE
  simp only [noS_eq]
  simp [nilS']
theorem bare5 (x : El) : elEq (bareE x) ⟨⟨#[]⟩, ⟨#[]⟩, x.kind, ⟨#[]⟩, x.dflt, ⟨#[]⟩, 0, ⟨#[]⟩, ⟨#[]⟩, 0, 0⟩ = (noS x.att && ((x.event == 0) && (noS x.ref && (noS x.key && ((x.ticks == 0) && (x.tries == 0)))))) := by
  unfold elEq bareE
  simp only [noS_eq]
  simp [nilS']
theorem bare0 (x : El) : elEq (bareE x) ⟨⟨#[]⟩, ⟨#[]⟩, x.kind, ⟨#[]⟩, ⟨#[]⟩, ⟨#[]⟩, 0, ⟨#[]⟩, ⟨#[]⟩, 0, 0⟩ = (noS x.dflt && (noS x.att && ((x.event == 0) && (noS x.ref && (noS x.key && ((x.ticks == 0) && (x.tries == 0))))))) := by
  unfold elEq bareE
  simp only [noS_eq]
  simp [nilS']
set_option maxHeartbeats 8000000 in
theorem has_any (x : El) : Calls Tryz.prog 71 #[valEl x] w fun e w' => e = .returned (.bool (hasB x)) ∧ Below w.heap.size w w' := by
  obtain ⟨id, name, K, inn, dflt, att, ev, ref, key, ticks, tries⟩ := x
  have HV : Hid (∀ W : World, Calls Tryz.prog 112 #[valEl ⟨id, name, K, inn, dflt, att, ev, ref, key, ticks, tries⟩] W fun e w' => e = .returned (.bool (eventB ⟨id, name, K, inn, dflt, att, ev, ref, key, ticks, tries⟩)) ∧ Below W.heap.size W w') := Lib.hid (fun W => event_any _)
  have q4 := fun W => run_eql_el W (bareE ⟨id, name, K, inn, dflt, att, ev, ref, key, ticks, tries⟩) ⟨⟨#[]⟩, ⟨#[]⟩, K, ⟨#[]⟩, ⟨#[]⟩, ⟨#[]⟩, 0, ⟨#[]⟩, ⟨#[]⟩, 0, tries⟩
  have q5 := fun W => run_eql_el W (bareE ⟨id, name, K, inn, dflt, att, ev, ref, key, ticks, tries⟩) ⟨⟨#[]⟩, ⟨#[]⟩, K, ⟨#[]⟩, dflt, ⟨#[]⟩, 0, ⟨#[]⟩, ⟨#[]⟩, 0, 0⟩
  have q0 := fun W => run_eql_el W (bareE ⟨id, name, K, inn, dflt, att, ev, ref, key, ticks, tries⟩) ⟨⟨#[]⟩, ⟨#[]⟩, K, ⟨#[]⟩, ⟨#[]⟩, ⟨#[]⟩, 0, ⟨#[]⟩, ⟨#[]⟩, 0, 0⟩
  have b4 := bare4 ⟨id, name, K, inn, dflt, att, ev, ref, key, ticks, tries⟩
  have b5 := bare5 ⟨id, name, K, inn, dflt, att, ev, ref, key, ticks, tries⟩
  have b0 := bare0 ⟨id, name, K, inn, dflt, att, ev, ref, key, ticks, tries⟩
  simp only at b4 b5 b0
  simp only [b4] at q4
  simp only [b5] at q5
  simp only [b0] at q0
  unfold hasB
  simp only
  obtain ⟨r4, h4⟩ : ∃ r, (noS dflt && (noS att && ((ev == 0) && (noS ref && (noS key && (ticks == 0)))))) = r := ⟨_, rfl⟩
  obtain ⟨r5, h5⟩ : ∃ r, (noS att && ((ev == 0) && (noS ref && (noS key && ((ticks == 0) && (tries == 0)))))) = r := ⟨_, rfl⟩
  obtain ⟨r0, h0⟩ : ∃ r, (noS dflt && (noS att && ((ev == 0) && (noS ref && (noS key && ((ticks == 0) && (tries == 0))))))) = r := ⟨_, rfl⟩
  obtain ⟨v, hv⟩ : ∃ r, eventB ⟨id, name, K, inn, dflt, att, ev, ref, key, ticks, tries⟩ = r := ⟨_, rfl⟩
  rw [h0, h5, h4, hv]
  rw [hv] at HV
  simp only [h4] at q4
  simp only [h5] at q5
  simp only [h0] at q0
  unfold bareE at q4 q5 q0
  have HE := Lib.hid (show ∀ o o2, Below w.heap.size w ((w.alloc o).alloc o2) from fun o o2 => ((Below.refl _ _).alloc (Nat.le_refl _) o).alloc (by simp) o2)
  clear h4 h5 h0 hv b4 b5 b0
  have hK : (K < 1 ∨ 10 < K) ∨ K = 4 ∨ K = 5 ∨ (K = 8 ∨ K = 9) ∨ (1 ≤ K ∧ K ≤ 10 ∧ K ≠ 4 ∧ K ≠ 5 ∧ K ≠ 8 ∧ K ≠ 9) := by omega
  rcases hK with (h | h) | rfl | rfl | h | ⟨h1, h2, h3, h4, h5, h6⟩
  · rw [if_pos (Or.inl h)]
    have t1 : decide (K < 1) = true := decide_eq_true h
    clear q4 q5 q0 h
    go_enter Tryz.func71, Tryz.ntmps71
    go_wp2_with fail
    go_ret
    exact ⟨rfl, HE.out _ _⟩
  · rw [if_pos (Or.inr h)]
    have t1 : decide (K < 1) = false := decide_eq_false (by omega)
    have t2 : decide (10 < K) = true := decide_eq_true h
    clear q4 q5 q0 h
    go_enter Tryz.func71, Tryz.ntmps71
    go_wp2_with fail
    go_ret
    exact ⟨rfl, HE.out _ _⟩
  · rw [if_neg (by omega), if_pos rfl]
    clear q5 q0
    obtain ⟨a, ha⟩ : ∃ a, decide (1 ≤ tries) = a := ⟨_, rfl⟩
    obtain ⟨b, hb⟩ : ∃ a, decide (tries ≤ 100) = a := ⟨_, rfl⟩
    rw [ha, hb]
    cases a with
    | false => go_enter Tryz.func71, Tryz.ntmps71; go_wp2_with fail; go_ret; exact ⟨rfl, HE.out _ _⟩
    | true => cases b <;> (go_enter Tryz.func71, Tryz.ntmps71; go_wp2_with fail; go_ret; exact ⟨rfl, HE.out _ _⟩)
  · rw [if_neg (by omega), if_neg (by omega), if_pos rfl]
    clear q4 q0
    go_enter Tryz.func71, Tryz.ntmps71
    go_wp2_with fail
    go_ret
    exact ⟨rfl, HE.out _ _⟩
  · rw [if_neg (by omega), if_neg (by omega), if_neg (by omega), if_pos h]
    clear q4 q5 q0
    unfold noS
    obtain ⟨w1, p0, hp0, hw1, l1, n1, b1⟩ := box_new w (oEl ⟨id, name, K, inn, dflt, att, ev, ref, key, ticks, tries⟩)
    obtain ⟨w2, p1, hp1, hw2, l2, n2, b2⟩ := box_new w1 (.cells #[.string ⟨#[]⟩, .string ⟨#[]⟩, .int .u8 K, .string ⟨#[]⟩, .string dflt, .string att, .int .u8 ev, .string ref, .string key, .int .i64 ticks, .int .i64 tries] 39)
    have HB := Lib.hid (b1.trans (b2.mono b1.size))
    have HK := Lib.hid (show ∀ W, Below w2.heap.size w2 W → _ from fun W h => boxEl (x := ⟨id, name, K, inn, dflt, att, ev, ref, key, ticks, tries⟩) ((h.block p0 (by omega)).trans ((b2.block p0 l1).trans n1)))
    simp only at HK
    obtain ⟨d0, d1, d2, d3, d4, d5, d6, d7, d8, d9, d10⟩ := HK.out w2 (Below.refl _ _)
    obtain ⟨c0, c1, c2, c3, c4, c5, c6, c7, c8, c9, c10⟩ := boxEl n1
    simp only at c0 c1 c2 c3 c4 c5 c6 c7 c8 c9 c10
    have cur : Below w2.heap.size w2 w2 := Below.refl _ _
    clear n1 b1 n2 b2 HE
    obtain ⟨t, ht⟩ : ∃ a, (tries == 0) = a := ⟨_, rfl⟩
    obtain ⟨dn, hd⟩ : ∃ a, dflt.toList.isEmpty = a := ⟨_, rfl⟩
    obtain ⟨an, hn⟩ : ∃ a, att.toList.isEmpty = a := ⟨_, rfl⟩
    rw [ht, hd, hn]
    rcases h with rfl | rfl
    · cases v <;> cases t <;> cases dn <;> (go_enter Tryz.func71, Tryz.ntmps71; go_wp2_with (go_at_call 112; refine (HV.out _).mono ?_; rintro e wz ⟨rfl, hbz⟩; have cur := cur.trans (hbz.mono cur.size); obtain ⟨d0, d1, d2, d3, d4, d5, d6, d7, d8, d9, d10⟩ := HK.out wz cur; clear hbz); go_ret; exact ⟨rfl, HB.out.trans (cur.mono HB.out.size)⟩)
    · cases v <;> cases t <;> cases dn <;> (go_enter Tryz.func71, Tryz.ntmps71; go_wp2_with (go_at_call 112; refine (HV.out _).mono ?_; rintro e wz ⟨rfl, hbz⟩; have cur := cur.trans (hbz.mono cur.size); obtain ⟨d0, d1, d2, d3, d4, d5, d6, d7, d8, d9, d10⟩ := HK.out wz cur; clear hbz); go_ret; exact ⟨rfl, HB.out.trans (cur.mono HB.out.size)⟩)
  · rw [if_neg (by omega), if_neg (by omega), if_neg (by omega), if_neg (by omega)]
    have t1 : decide (K < 1) = false := decide_eq_false (by omega)
    have t2 : decide (10 < K) = false := decide_eq_false (by omega)
    have t4 : (K == 4) = false := beq_eq_false_iff_ne.2 h3
    have t5 : (K == 5) = false := beq_eq_false_iff_ne.2 h4
    have t8 : (K == 8) = false := beq_eq_false_iff_ne.2 h5
    have t9 : (K == 9) = false := beq_eq_false_iff_ne.2 h6
    clear q4 q5 h1 h2 h3 h4 h5 h6
    go_enter Tryz.func71, Tryz.ntmps71
    go_wp2_with fail
    go_ret
    exact ⟨rfl, HE.out _ _⟩
end
end Go.Proofs.YtjcaaahbfkjipaaGreatDoor
