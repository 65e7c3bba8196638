/- Of WordName: what XFAs uses (shake.py). -/
import Derived.Test.YtbephgifbghilaaGreatDoorKWordTable
/- word.Name and the document's Name. -/
set_option maxRecDepth 100000
namespace Go.Proofs.YtbephgifbghilaaGreatDoor
open Go.RowKit
def nameL (l : List UInt8) : Bool := decide (1 ≤ l.length) && decide (l.length ≤ 32) && l.all (fun c => clsW c.toNat != 0) && (clsW ((l.getD 0 0).toNat) == 2)
def nameB (s : ByteArray) : Bool := nameL s.data.toList
set_option maxHeartbeats 2000000 in
theorem name_any (w : World) (s : ByteArray) : Calls Tryz.prog 48 #[.string s] w fun e w' => e = .returned (.bool (nameB s)) ∧ Below w.heap.size w w' := by
  have hsz : s.data.toList.length = s.size := rfl
  by_cases h0 : s.size = 0
  · have hf : Hid (nameB s = false) := Lib.hid (by unfold nameB nameL; rw [hsz, h0, decide_eq_false (p := 1 ≤ 0) (by omega)]; rfl)
    clear hsz
    go_enter Tryz.func48, Tryz.ntmps48
    go_wp2_with fail
    go_ret
    exact ⟨ret_bool hf.out.symm, Below.refl _ _⟩
  · by_cases h1 : 32 < s.size
    · have hf : Hid (nameB s = false) := Lib.hid (by unfold nameB nameL; rw [hsz, decide_eq_false (p := s.size ≤ 32) (by omega)]; simp)
      clear hsz
      go_enter Tryz.func48, Tryz.ntmps48
      go_wp2_with fail
      go_ret
      exact ⟨ret_bool hf.out.symm, Below.refl _ _⟩
    · obtain ⟨c0, hz, hT0, hi⟩ := tab_zero
      have HI := Lib.hid hi
      have HT0 := Lib.hid hT0
      have hd1 : ((s.size : Int) == 0) = false := beq_eq_false_iff_ne.2 (by omega)
      have hd2 : decide ((32 : Int) < (s.size : Int)) = false := decide_eq_false (by omega)
      have hle : s.size ≤ 32 := by omega
      have hge : 0 < s.size := by omega
      have hsz := Lib.hid hsz
      clear h0 hT0 hi h1
      go_enter Tryz.func48, Tryz.ntmps48
      go_wp2_with (first
        | (go_at_call 83; refine (table_any _).mono ?_; rintro e w1 ⟨c, rfl, hT, hb⟩; have HT := Lib.hid hT; clear hT; have HB := Lib.hid hb; clear hb; have HST := Lib.hid (run_storeAt_new (P := Tryz.prog) w1 117 c0 c (by rw [HT.out.size]; exact HI.out) (by rw [HT.out.size, HT0.out.size]) HT.out.one))
        | (refine wpList_store_run rfl 117 (.tmp 3) (.tmp 13) (by rfl) _ _ (by rfl) (by rfl) HST.out ?_))
      go_loop [16] (fun i => ∃ k : Nat, k ≤ s.size ∧ i = .int .i64 k ∧ Hid (∀ j (h : j < s.size), j < k → clsW s[j].toNat ≠ 0)) (fun i => s.size - (intOf i).toNat)
      case atStart => exact ⟨0, Nat.zero_le _, rfl, Lib.hid (fun j h hj => by omega)⟩
      case round =>
        obtain ⟨k, hk, rfl, hall⟩ := hrel
        by_cases hlt : k < s.size
        · have hx : s[k].toNat < 256 := s[k].toNat_lt
          have ha : c[s[k].toNat]? = some (.int .u8 (clsW s[k].toNat)) := HT.out.at' _ hx
          by_cases hc : clsW s[k].toNat = 0
          · have hf : Hid (nameB s = false) := Lib.hid (by
              unfold nameB nameL
              have : s.data.toList.all (fun c => clsW c.toNat != 0) = false := by
                rw [List.all_eq_false]
                exact ⟨s[k], List.mem_iff_getElem.2 ⟨k, hlt, rfl⟩, by simp [hc]⟩
              rw [this]; simp)
            have hc' : (clsW s[k].toNat == 0) = true := by simpa using hc
            clear hc
            go_wp2_with fail
            go_ret
            exact ⟨ret_bool hf.out.symm, HB.out.alloc HB.out.size _⟩
          · have hc' : (clsW s[k].toNat == 0) = false := by simpa using hc
            have hn : Hid (∀ j (h : j < s.size), j < k + 1 → clsW s[j].toNat ≠ 0) := Lib.hid (fun j h hj => by
              by_cases e : j = k
              · subst e; exact hc
              · exact hall.out j h (by omega))
            clear hc
            go_wp2_with fail
            go_round
            case rel => exact ⟨k + 1, by omega, by go_num, hn⟩
            case measure => simp [intOf]; omega
        · have hx : s[0].toNat < 256 := s[0].toNat_lt
          have ha : c[s[0].toNat]? = some (.int .u8 (clsW s[0].toNat)) := HT.out.at' _ hx
          have hf : Hid ((clsW s[0].toNat == 2) = nameB s) := Lib.hid (by
            unfold nameB nameL
            have h1 : s.data.toList.all (fun c => clsW c.toNat != 0) = true := by
              rw [List.all_eq_true]
              intro x hx
              obtain ⟨j, hj, rfl⟩ := List.mem_iff_getElem.1 hx
              have : clsW s[j].toNat ≠ 0 := hall.out j hj (by have : j < s.size := hj; omega)
              exact bne_iff_ne.2 this
            have h2 : s.data.toList.getD 0 0 = s[0] := by
              rw [List.getD_eq_getElem?_getD, List.getElem?_eq_getElem (show 0 < s.data.toList.length from hge)]
              rfl
            rw [h1, h2, hsz.out, decide_eq_true (p := 1 ≤ s.size) (by omega), decide_eq_true (p := s.size ≤ 32) (by omega)]
            simp)
          have hge' : (0 : Int) < (s.size : Int) := by omega
          go_wp2_with fail
          go_ret
          exact ⟨ret_bool hf.out, HB.out.alloc HB.out.size _⟩
set_option maxHeartbeats 2000000 in
theorem rname_any (w : World) (s : ByteArray) : Calls Tryz.prog 67 #[.string s] w fun e w' => e = .returned (.bool (nameB s)) ∧ w = w' := by
  have hsz : s.data.toList.length = s.size := rfl
  by_cases h0 : s.size = 0
  · have hf : Hid (nameB s = false) := Lib.hid (by unfold nameB nameL; rw [hsz, h0, decide_eq_false (p := 1 ≤ 0) (by omega)]; rfl)
    clear hsz
    go_enter Tryz.func67, Tryz.ntmps67
    go_wp2_with fail
    go_ret
    exact ⟨ret_bool hf.out.symm, rfl⟩
  · by_cases h1 : 32 < s.size
    · have hf : Hid (nameB s = false) := Lib.hid (by unfold nameB nameL; rw [hsz, decide_eq_false (p := s.size ≤ 32) (by omega)]; simp)
      clear hsz
      go_enter Tryz.func67, Tryz.ntmps67
      go_wp2_with fail
      go_ret
      exact ⟨ret_bool hf.out.symm, rfl⟩
    · have hd1 : decide ((s.size : Int) < 1) = false := decide_eq_false (by omega)
      have hd2 : decide ((32 : Int) < (s.size : Int)) = false := decide_eq_false (by omega)
      have hle : s.size ≤ 32 := by omega
      have hge : 0 < s.size := by omega
      have hsz := Lib.hid hsz
      clear h0 h1
      go_enter Tryz.func67, Tryz.ntmps67
      go_wp2_with fail
      go_loop [3] (fun i => ∃ k : Nat, k ≤ s.size ∧ i = .int .i64 k ∧ Hid (∀ j (h : j < s.size), j < k → clsW s[j].toNat ≠ 0) ∧ Hid (0 < k → clsW s[0].toNat = 2)) (fun i => s.size - (intOf i).toNat)
      case atStart => exact ⟨0, Nat.zero_le _, rfl, Lib.hid (fun j h hj => by omega), Lib.hid (by omega)⟩
      case round =>
        obtain ⟨k, hk, rfl, hall, hfst⟩ := hrel
        by_cases hlt : k < s.size
        · obtain ⟨x, hx⟩ : ∃ x, s[k].toNat = x := ⟨_, rfl⟩
          have hx256 : x < 256 := by rw [← hx]; exact s[k].toNat_lt
          have hmem : s[k] ∈ s.data.toList := List.mem_iff_getElem.2 ⟨k, hlt, rfl⟩
          have HBAD : Hid (clsW x = 0 ∨ (k = 0 ∧ clsW x ≠ 2) → nameB s = false) := Lib.hid (fun h => by
            unfold nameB nameL
            rcases h with h | ⟨rfl, h⟩
            · have : s.data.toList.all (fun c => clsW c.toNat != 0) = false := by
                rw [List.all_eq_false]
                exact ⟨s[k], hmem, by rw [hx, h]; decide⟩
              rw [this]; simp
            · have h2 : s.data.toList.getD 0 0 = s[0] := by
                rw [List.getD_eq_getElem?_getD, List.getElem?_eq_getElem (show 0 < s.data.toList.length from hge)]
                rfl
              rw [h2, hx, beq_eq_false_iff_ne.2 h, Bool.and_false])
          have HNO : Hid (clsW x ≠ 0 → Hid (∀ j (h : j < s.size), j < k + 1 → clsW s[j].toNat ≠ 0)) := Lib.hid (fun h => Lib.hid (fun j hj hjk => by
            by_cases e : j = k
            · subst e; rw [hx]; exact h
            · exact hall.out j hj (by omega)))
          have HFO : Hid (¬ k = 0 ∨ clsW x = 2 → Hid (0 < k + 1 → clsW s[0].toNat = 2)) := Lib.hid (fun h => Lib.hid (fun _ => by
            by_cases e : k = 0
            · subst e
              rcases h with h | h
              · exact absurd rfl h
              · rw [hx]; exact h
            · exact hfst.out (by omega)))
          clear hmem
          have hix : (0 ≤ x ∧ x ≤ 44) ∨ (45 ≤ x ∧ x ≤ 45) ∨ (46 ≤ x ∧ x ≤ 46) ∨ (47 ≤ x ∧ x ≤ 47) ∨ (48 ≤ x ∧ x ≤ 57) ∨ (58 ≤ x ∧ x ≤ 64) ∨ (65 ≤ x ∧ x ≤ 90) ∨ (91 ≤ x ∧ x ≤ 94) ∨ (95 ≤ x ∧ x ≤ 95) ∨ (96 ≤ x ∧ x ≤ 96) ∨ (97 ≤ x ∧ x ≤ 122) ∨ (123 ≤ x ∧ x ≤ 255) := by omega
          rcases hix with hix | hix | hix | hix | hix | hix | hix | hix | hix | hix | hix | hix
          · have hv : Hid (clsW x = 0) := Lib.hid (by unfold clsW; rw [if_neg (by omega), if_neg (by omega)])
            have t1 : ¬ (97 : Int) ≤ (x : Int) := by omega
            have t2 : (x : Int) ≤ 122 := by omega
            have t3 : ¬ (65 : Int) ≤ (x : Int) := by omega
            have t4 : (x : Int) ≤ 90 := by omega
            have t5 : ¬ (48 : Int) ≤ (x : Int) := by omega
            have t6 : (x : Int) ≤ 57 := by omega
            have t7 : ((x : Int) == 45) = false := beq_eq_false_iff_ne.2 (by omega)
            have t8 : ((x : Int) == 95) = false := beq_eq_false_iff_ne.2 (by omega)
            have t9 : ((x : Int) == 46) = false := beq_eq_false_iff_ne.2 (by omega)
            clear hix
            go_wp2_with fail
            go_ret
            exact ⟨ret_bool (HBAD.out (Or.inl hv.out)).symm, rfl⟩
          · have hv : Hid (clsW x = 1) := Lib.hid (by unfold clsW; rw [if_neg (by omega), if_pos (by omega)])
            have t1 : ¬ (97 : Int) ≤ (x : Int) := by omega
            have t2 : (x : Int) ≤ 122 := by omega
            have t3 : ¬ (65 : Int) ≤ (x : Int) := by omega
            have t4 : (x : Int) ≤ 90 := by omega
            have t5 : ¬ (48 : Int) ≤ (x : Int) := by omega
            have t6 : (x : Int) ≤ 57 := by omega
            have t7 : ((x : Int) == 45) = true := beq_iff_eq.2 (by omega)
            have t8 : ((x : Int) == 95) = false := beq_eq_false_iff_ne.2 (by omega)
            have t9 : ((x : Int) == 46) = false := beq_eq_false_iff_ne.2 (by omega)
            clear hix
            by_cases hk0 : k = 0
            · have hkb : ((k : Int) == 0) = true := beq_iff_eq.2 (by omega)
              have HK0 := Lib.hid hk0
              clear hk0
              go_wp2_with fail
              go_ret
              exact ⟨ret_bool (HBAD.out (Or.inr ⟨HK0.out, by rw [hv.out]; decide⟩)).symm, rfl⟩
            · have hkb : ((k : Int) == 0) = false := beq_eq_false_iff_ne.2 (by omega)
              go_wp2_with fail
              go_round
              case rel => exact ⟨k + 1, by omega, by go_num, HNO.out (by rw [hv.out]; decide), HFO.out (Or.inl hk0)⟩
              case measure => simp [intOf]; omega
          · have hv : Hid (clsW x = 1) := Lib.hid (by unfold clsW; rw [if_neg (by omega), if_pos (by omega)])
            have t1 : ¬ (97 : Int) ≤ (x : Int) := by omega
            have t2 : (x : Int) ≤ 122 := by omega
            have t3 : ¬ (65 : Int) ≤ (x : Int) := by omega
            have t4 : (x : Int) ≤ 90 := by omega
            have t5 : ¬ (48 : Int) ≤ (x : Int) := by omega
            have t6 : (x : Int) ≤ 57 := by omega
            have t7 : ((x : Int) == 45) = false := beq_eq_false_iff_ne.2 (by omega)
            have t8 : ((x : Int) == 95) = false := beq_eq_false_iff_ne.2 (by omega)
            have t9 : ((x : Int) == 46) = true := beq_iff_eq.2 (by omega)
            clear hix
            by_cases hk0 : k = 0
            · have hkb : ((k : Int) == 0) = true := beq_iff_eq.2 (by omega)
              have HK0 := Lib.hid hk0
              clear hk0
              go_wp2_with fail
              go_ret
              exact ⟨ret_bool (HBAD.out (Or.inr ⟨HK0.out, by rw [hv.out]; decide⟩)).symm, rfl⟩
            · have hkb : ((k : Int) == 0) = false := beq_eq_false_iff_ne.2 (by omega)
              go_wp2_with fail
              go_round
              case rel => exact ⟨k + 1, by omega, by go_num, HNO.out (by rw [hv.out]; decide), HFO.out (Or.inl hk0)⟩
              case measure => simp [intOf]; omega
          · have hv : Hid (clsW x = 0) := Lib.hid (by unfold clsW; rw [if_neg (by omega), if_neg (by omega)])
            have t1 : ¬ (97 : Int) ≤ (x : Int) := by omega
            have t2 : (x : Int) ≤ 122 := by omega
            have t3 : ¬ (65 : Int) ≤ (x : Int) := by omega
            have t4 : (x : Int) ≤ 90 := by omega
            have t5 : ¬ (48 : Int) ≤ (x : Int) := by omega
            have t6 : (x : Int) ≤ 57 := by omega
            have t7 : ((x : Int) == 45) = false := beq_eq_false_iff_ne.2 (by omega)
            have t8 : ((x : Int) == 95) = false := beq_eq_false_iff_ne.2 (by omega)
            have t9 : ((x : Int) == 46) = false := beq_eq_false_iff_ne.2 (by omega)
            clear hix
            go_wp2_with fail
            go_ret
            exact ⟨ret_bool (HBAD.out (Or.inl hv.out)).symm, rfl⟩
          · have hv : Hid (clsW x = 1) := Lib.hid (by unfold clsW; rw [if_neg (by omega), if_pos (by omega)])
            have t1 : ¬ (97 : Int) ≤ (x : Int) := by omega
            have t2 : (x : Int) ≤ 122 := by omega
            have t3 : ¬ (65 : Int) ≤ (x : Int) := by omega
            have t4 : (x : Int) ≤ 90 := by omega
            have t5 : (48 : Int) ≤ (x : Int) := by omega
            have t6 : (x : Int) ≤ 57 := by omega
            have t7 : ((x : Int) == 45) = false := beq_eq_false_iff_ne.2 (by omega)
            have t8 : ((x : Int) == 95) = false := beq_eq_false_iff_ne.2 (by omega)
            have t9 : ((x : Int) == 46) = false := beq_eq_false_iff_ne.2 (by omega)
            clear hix
            by_cases hk0 : k = 0
            · have hkb : ((k : Int) == 0) = true := beq_iff_eq.2 (by omega)
              have HK0 := Lib.hid hk0
              clear hk0
              go_wp2_with fail
              go_ret
              exact ⟨ret_bool (HBAD.out (Or.inr ⟨HK0.out, by rw [hv.out]; decide⟩)).symm, rfl⟩
            · have hkb : ((k : Int) == 0) = false := beq_eq_false_iff_ne.2 (by omega)
              go_wp2_with fail
              go_round
              case rel => exact ⟨k + 1, by omega, by go_num, HNO.out (by rw [hv.out]; decide), HFO.out (Or.inl hk0)⟩
              case measure => simp [intOf]; omega
          · have hv : Hid (clsW x = 0) := Lib.hid (by unfold clsW; rw [if_neg (by omega), if_neg (by omega)])
            have t1 : ¬ (97 : Int) ≤ (x : Int) := by omega
            have t2 : (x : Int) ≤ 122 := by omega
            have t3 : ¬ (65 : Int) ≤ (x : Int) := by omega
            have t4 : (x : Int) ≤ 90 := by omega
            have t5 : (48 : Int) ≤ (x : Int) := by omega
            have t6 : ¬ (x : Int) ≤ 57 := by omega
            have t7 : ((x : Int) == 45) = false := beq_eq_false_iff_ne.2 (by omega)
            have t8 : ((x : Int) == 95) = false := beq_eq_false_iff_ne.2 (by omega)
            have t9 : ((x : Int) == 46) = false := beq_eq_false_iff_ne.2 (by omega)
            clear hix
            go_wp2_with fail
            go_ret
            exact ⟨ret_bool (HBAD.out (Or.inl hv.out)).symm, rfl⟩
          · have hv : Hid (clsW x = 2) := Lib.hid (by unfold clsW; rw [if_pos (by omega)])
            have t1 : ¬ (97 : Int) ≤ (x : Int) := by omega
            have t2 : (x : Int) ≤ 122 := by omega
            have t3 : (65 : Int) ≤ (x : Int) := by omega
            have t4 : (x : Int) ≤ 90 := by omega
            have t5 : (48 : Int) ≤ (x : Int) := by omega
            have t6 : ¬ (x : Int) ≤ 57 := by omega
            have t7 : ((x : Int) == 45) = false := beq_eq_false_iff_ne.2 (by omega)
            have t8 : ((x : Int) == 95) = false := beq_eq_false_iff_ne.2 (by omega)
            have t9 : ((x : Int) == 46) = false := beq_eq_false_iff_ne.2 (by omega)
            clear hix
            go_wp2_with fail
            go_round
            case rel => exact ⟨k + 1, by omega, by go_num, HNO.out (by rw [hv.out]; decide), HFO.out (Or.inr hv.out)⟩
            case measure => simp [intOf]; omega
          · have hv : Hid (clsW x = 0) := Lib.hid (by unfold clsW; rw [if_neg (by omega), if_neg (by omega)])
            have t1 : ¬ (97 : Int) ≤ (x : Int) := by omega
            have t2 : (x : Int) ≤ 122 := by omega
            have t3 : (65 : Int) ≤ (x : Int) := by omega
            have t4 : ¬ (x : Int) ≤ 90 := by omega
            have t5 : (48 : Int) ≤ (x : Int) := by omega
            have t6 : ¬ (x : Int) ≤ 57 := by omega
            have t7 : ((x : Int) == 45) = false := beq_eq_false_iff_ne.2 (by omega)
            have t8 : ((x : Int) == 95) = false := beq_eq_false_iff_ne.2 (by omega)
            have t9 : ((x : Int) == 46) = false := beq_eq_false_iff_ne.2 (by omega)
            clear hix
            go_wp2_with fail
            go_ret
            exact ⟨ret_bool (HBAD.out (Or.inl hv.out)).symm, rfl⟩
          · have hv : Hid (clsW x = 1) := Lib.hid (by unfold clsW; rw [if_neg (by omega), if_pos (by omega)])
            have t1 : ¬ (97 : Int) ≤ (x : Int) := by omega
            have t2 : (x : Int) ≤ 122 := by omega
            have t3 : (65 : Int) ≤ (x : Int) := by omega
            have t4 : ¬ (x : Int) ≤ 90 := by omega
            have t5 : (48 : Int) ≤ (x : Int) := by omega
            have t6 : ¬ (x : Int) ≤ 57 := by omega
            have t7 : ((x : Int) == 45) = false := beq_eq_false_iff_ne.2 (by omega)
            have t8 : ((x : Int) == 95) = true := beq_iff_eq.2 (by omega)
            have t9 : ((x : Int) == 46) = false := beq_eq_false_iff_ne.2 (by omega)
            clear hix
            by_cases hk0 : k = 0
            · have hkb : ((k : Int) == 0) = true := beq_iff_eq.2 (by omega)
              have HK0 := Lib.hid hk0
              clear hk0
              go_wp2_with fail
              go_ret
              exact ⟨ret_bool (HBAD.out (Or.inr ⟨HK0.out, by rw [hv.out]; decide⟩)).symm, rfl⟩
            · have hkb : ((k : Int) == 0) = false := beq_eq_false_iff_ne.2 (by omega)
              go_wp2_with fail
              go_round
              case rel => exact ⟨k + 1, by omega, by go_num, HNO.out (by rw [hv.out]; decide), HFO.out (Or.inl hk0)⟩
              case measure => simp [intOf]; omega
          · have hv : Hid (clsW x = 0) := Lib.hid (by unfold clsW; rw [if_neg (by omega), if_neg (by omega)])
            have t1 : ¬ (97 : Int) ≤ (x : Int) := by omega
            have t2 : (x : Int) ≤ 122 := by omega
            have t3 : (65 : Int) ≤ (x : Int) := by omega
            have t4 : ¬ (x : Int) ≤ 90 := by omega
            have t5 : (48 : Int) ≤ (x : Int) := by omega
            have t6 : ¬ (x : Int) ≤ 57 := by omega
            have t7 : ((x : Int) == 45) = false := beq_eq_false_iff_ne.2 (by omega)
            have t8 : ((x : Int) == 95) = false := beq_eq_false_iff_ne.2 (by omega)
            have t9 : ((x : Int) == 46) = false := beq_eq_false_iff_ne.2 (by omega)
            clear hix
            go_wp2_with fail
            go_ret
            exact ⟨ret_bool (HBAD.out (Or.inl hv.out)).symm, rfl⟩
          · have hv : Hid (clsW x = 2) := Lib.hid (by unfold clsW; rw [if_pos (by omega)])
            have t1 : (97 : Int) ≤ (x : Int) := by omega
            have t2 : (x : Int) ≤ 122 := by omega
            have t3 : (65 : Int) ≤ (x : Int) := by omega
            have t4 : ¬ (x : Int) ≤ 90 := by omega
            have t5 : (48 : Int) ≤ (x : Int) := by omega
            have t6 : ¬ (x : Int) ≤ 57 := by omega
            have t7 : ((x : Int) == 45) = false := beq_eq_false_iff_ne.2 (by omega)
            have t8 : ((x : Int) == 95) = false := beq_eq_false_iff_ne.2 (by omega)
            have t9 : ((x : Int) == 46) = false := beq_eq_false_iff_ne.2 (by omega)
            clear hix
            go_wp2_with fail
            go_round
            case rel => exact ⟨k + 1, by omega, by go_num, HNO.out (by rw [hv.out]; decide), HFO.out (Or.inr hv.out)⟩
            case measure => simp [intOf]; omega
          · have hv : Hid (clsW x = 0) := Lib.hid (by unfold clsW; rw [if_neg (by omega), if_neg (by omega)])
            have t1 : (97 : Int) ≤ (x : Int) := by omega
            have t2 : ¬ (x : Int) ≤ 122 := by omega
            have t3 : (65 : Int) ≤ (x : Int) := by omega
            have t4 : ¬ (x : Int) ≤ 90 := by omega
            have t5 : (48 : Int) ≤ (x : Int) := by omega
            have t6 : ¬ (x : Int) ≤ 57 := by omega
            have t7 : ((x : Int) == 45) = false := beq_eq_false_iff_ne.2 (by omega)
            have t8 : ((x : Int) == 95) = false := beq_eq_false_iff_ne.2 (by omega)
            have t9 : ((x : Int) == 46) = false := beq_eq_false_iff_ne.2 (by omega)
            clear hix
            go_wp2_with fail
            go_ret
            exact ⟨ret_bool (HBAD.out (Or.inl hv.out)).symm, rfl⟩
        · have hk2 : k = s.size := by omega
          have hf : Hid (nameB s = true) := Lib.hid (by
            unfold nameB nameL
            have h1 : s.data.toList.all (fun c => clsW c.toNat != 0) = true := by
              rw [List.all_eq_true]
              intro x hx
              obtain ⟨j, hj, rfl⟩ := List.mem_iff_getElem.1 hx
              have : clsW s[j].toNat ≠ 0 := hall.out j hj (by have : j < s.size := hj; omega)
              exact bne_iff_ne.2 this
            have h2 : s.data.toList.getD 0 0 = s[0] := by
              rw [List.getD_eq_getElem?_getD, List.getElem?_eq_getElem (show 0 < s.data.toList.length from hge)]
              rfl
            rw [h1, h2, hsz.out, decide_eq_true (p := 1 ≤ s.size) (by omega), decide_eq_true (p := s.size ≤ 32) (by omega), hfst.out (by omega)]
            rfl)
          clear hk2
          go_wp2_with fail
          go_ret
          exact ⟨ret_bool hf.out.symm, rfl⟩
end Go.Proofs.YtbephgifbghilaaGreatDoor
