/- The document's Told (seat wire). -/
import Derived.Test.YtlgfhbfdjckdnaaDoorWireTold
import Derived.Test.YtlgfhbfdjckdnaaDoorWireRToldP
import Derived.Test.YtlgfhbfdjckdnaaDoorWireRParse
set_option maxRecDepth 100000
namespace Go.Proofs.YtlgfhbfdjckdnaaDoor
open Go.RowKit

theorem statuses_any2 (w : World) : Calls Tryd.prog 25 #[] w fun e w' => ∃ b, e = .returned (.slice (some ⟨b, 0, none⟩) 14 14) ∧ (∀ i x, stsL[i]? = some x → w'.cell? ⟨b, i, none⟩ = some (.int .i64 x)) ∧ Below w.heap.size w w' :=
  (statuses_any w).mono (by
    rintro e w2 ⟨rfl, rfl⟩
    exact ⟨_, rfl, fun i x h => by rw [cell_of_block (MapKept.heap_alloc w _).1 i, stsV_at h], (Below.refl _ _).alloc (Nat.le_refl _) _⟩)
theorem lead_cat (st : Int) (hst : I64n st) : ∃ x1 x3 a1 a2 a3 a4 : ByteArray, numB st = x1 ∧ wordB st = x3 ∧ a4.data.toList = leadL st ∧ a4.size ≤ 100 ∧
    (∀ W : World, (Op.stringOp .add ⟨#[72, 84, 84, 80, 47, 49, 46, 49, 32]⟩ x1).run Tryd.prog W = .ok (.string a1) W) ∧ (∀ W : World, (Op.stringOp .add a1 ⟨#[32]⟩).run Tryd.prog W = .ok (.string a2) W) ∧ (∀ W : World, (Op.stringOp .add a2 x3).run Tryd.prog W = .ok (.string a3) W) ∧
    (∀ W : World, (Op.stringOp .add a3 ⟨#[13, 10, 99, 111, 110, 116, 101, 110, 116, 45, 108, 101, 110, 103, 116, 104, 58, 32]⟩).run Tryd.prog W = .ok (.string a4) W) := by
  have y1 := numB_size st hst
  have y3 : (wordB st).size ≤ 31 := by rw [wordB_size]; exact wordL_le st
  have f1 := numB_list st
  have f3 := wordB_list st
  obtain ⟨a1, e1, z1, q1⟩ := cat_run ⟨#[72, 84, 84, 80, 47, 49, 46, 49, 32]⟩ (numB st) (by show 9 + (numB st).size ≤ _; omega)
  have z1' : a1.size = 9 + (numB st).size := z1
  obtain ⟨a2, e2, z2, q2⟩ := cat_run a1 ⟨#[32]⟩ (by show a1.size + 1 ≤ _; omega)
  have z2' : a2.size = a1.size + 1 := z2
  obtain ⟨a3, e3, z3, q3⟩ := cat_run a2 (wordB st) (by omega)
  obtain ⟨a4, e4, z4, q4⟩ := cat_run a3 ⟨#[13, 10, 99, 111, 110, 116, 101, 110, 116, 45, 108, 101, 110, 103, 116, 104, 58, 32]⟩ (by show a3.size + 18 ≤ _; omega)
  have z4' : a4.size = a3.size + 18 := z4
  refine ⟨_, _, a1, a2, a3, a4, rfl, rfl, ?_, by omega, q1, q2, q3, q4⟩
  rw [← e4.out, ← e3.out, ← e2.out, ← e1.out]
  simp only [app_list, f1, f3]
  unfold leadL
  simp [httpL, clenL]
theorem prefix_test (s ld : ByteArray) : ((s.extract 0 ld.size).toList == ld.toList) = decide (ld.data.toList <+: s.data.toList) := by
  rw [ByteArray.toList_eq, ByteArray.toList_eq, extract_list, List.drop_zero, Nat.sub_zero]
  refine Bool.eq_iff_iff.2 ⟨fun h => decide_eq_true ?_, fun h => beq_iff_eq.2 ?_⟩
  · have h := beq_iff_eq.1 h
    rw [← h]
    exact List.take_prefix _ _
  · have h := of_decide_eq_true h
    have e := List.prefix_iff_eq_take.1 h
    have e2 : ld.data.toList.length = ld.size := rfl
    rw [e2] at e
    exact e.symm

set_option maxHeartbeats 4000000 in
theorem rtold_any (w : World) (s : ByteArray) (hs : s.size ≤ 200000) :
    Calls Tryd.prog 9 #[.string s] w fun e w' => ∃ r, e = .returned r ∧ ToldV s (.bool true) (.bool false) r ∧ Below w.heap.size w w' := by
  obtain ⟨W1, hW1⟩ : ∃ W1, w.alloc (.cells #[.int .i64 0, .string ⟨#[]⟩] 25) = W1 := ⟨_, rfl⟩
  have BW : Hid (Below w.heap.size w W1) := by refine Lib.hid ?_; rw [← hW1]; exact (Below.refl _ _).alloc (Nat.le_refl _) _
  have HB : Hid (W1.heap[w.heap.size]? = some (.cells #[.int .i64 0, .string ⟨#[]⟩] 25)) := by refine Lib.hid ?_; rw [← hW1]; exact (MapKept.heap_alloc w _).1
  have hlt := lt_of_block HB.out
  have HS := Lib.hid (fun W : World => statuses_any2 W)
  go_enter Tryd.func9, Tryd.ntmps9
  go_wp2_with fail
  go_loopg [5] 14 (fun gh s5 wr => ∃ i : Nat, i + gh = 14 ∧ s5 = .int .i64 (i : Int) ∧ Below W1.heap.size W1 wr ∧ Hid (∀ j x, j < i → stsL[j]? = some x → ¬ leadL x <+: s.data.toList))
  case atStart => exact ⟨0, by omega, rfl, Below.refl _ _, Lib.hid (fun j x hj => by omega)⟩
  case round =>
    obtain ⟨i, hig, rfl, cur, hno⟩ := hrel
    by_cases hi : i < 14
    · obtain ⟨x, hx, hwf, hx0, hx1⟩ := sts_get hi
      have HX := Lib.hid hx
      have hw : Hid (wordL x ≠ []) := Lib.hid (word_of_sts x (List.mem_of_getElem? hx))
      clear hx
      have d1 : decide ((i : Int) < 14) = true := decide_eq_true (by omega)
      have d1' : decide (i < 14) = true := decide_eq_true hi
      obtain ⟨x1, x3, a1, a2, a3, ld, e1, e3, hld, hlz, q1, q2, q3, q4⟩ := lead_cat x ⟨hx0, hx1⟩
      have HN := Lib.hid (fun W : World => rnumber_any W x hx0 hx1)
      have HW := Lib.hid (fun W : World => rwords_any W x)
      rw [e1] at HN
      rw [e3] at HW
      have hpt := prefix_test s ld
      rw [hld] at hpt
      have hls : ld.size = (leadL x).length := by rw [← hld]; rfl
      have HLS := Lib.hid (And.intro hld hls)
      clear e1 e3 hld hls
      by_cases hp : leadL x <+: s.data.toList
      · rw [decide_eq_true hp] at hpt
        have hle : ld.size ≤ s.size := by
          have := hp.length_le
          rw [← HLS.out.2, Array.length_toList] at this
          exact this
        have d2 : decide ((s.size : Int) < (ld.size : Int)) = false := decide_eq_false (by omega)
        have d2' : decide (s.size < ld.size) = false := decide_eq_false (by omega)
        have HPx := Lib.hid hp
        clear hp
        go_upto_region 8 with (first
          | (go_at_call 25; refine (HS.out _).mono ?_; rintro e w5 ⟨bs, rfl, hcs, hb5⟩; have hci := hcs i x HX.out; clear hcs; have cur := cur.trans (hb5.mono cur.size))
          | (go_at_call 17; refine (HN.out _).mono ?_; rintro e w5 ⟨rfl, hb5⟩; have cur := cur.trans (hb5.mono cur.size))
          | (go_at_call 20; refine (HW.out _).mono ?_; rintro e w5 ⟨rfl, hb5⟩; have cur := cur.trans (hb5.mono cur.size)))
        go_wp2_with fail
        obtain ⟨Wb, hWb⟩ : ∃ Wb : World, Wb = w5 := ⟨_, rfl⟩
        subst hWb
        have hlz2 := hle
        go_loopg [8, 9] (s.size - ld.size) (fun gh s8 s9 wx => ∃ (k : Nat) (acc : ByteArray), k + gh = s.size ∧ s9 = .int .i64 (k : Int) ∧ s8 = .string acc ∧ wx = Wb ∧ ld.size ≤ k ∧ ld.size + acc.size = k ∧ Hid (acc.data.toList = (s.data.toList.drop ld.size).take (k - ld.size) ∧ ∀ c ∈ acc.data.toList, isDig c))
        case atStart => exact ⟨ld.size, ⟨#[]⟩, by omega, rfl, rfl, rfl, Nat.le_refl _, rfl, Lib.hid ⟨by rw [Nat.sub_self]; rfl, fun c hc => by cases hc⟩⟩
        case round =>
          obtain ⟨k, acc, hkg, rfl, rfl, rfl, hkl, hka, hacc⟩ := hrel
          by_cases hdig : k < s.size ∧ 48 ≤ (s.data.toList.getD k 0).toNat ∧ (s.data.toList.getD k 0).toNat ≤ 57
          · obtain ⟨hlt2, hd1, hd2⟩ := hdig
            have hel : s.data.toList.getD k 0 = s[k] := by
              rw [List.getD_eq_getElem?_getD, List.getElem?_eq_getElem (by simpa using hlt2)]; simp; rfl
            rw [hel] at hd1 hd2
            have t1 : decide ((48 : Int) ≤ (s[k].toNat : Int)) = true := decide_eq_true (by omega)
            have t1' : decide (48 ≤ s[k].toNat) = true := decide_eq_true hd1
            have t2 : decide ((s[k].toNat : Int) ≤ 57) = true := decide_eq_true (by omega)
            have t2' : decide (s[k].toNat ≤ 57) = true := decide_eq_true hd2
            have t3 : decide ((k : Int) < (s.size : Int)) = true := decide_eq_true (by omega)
            have t3' : decide (k < s.size) = true := decide_eq_true hlt2
            have hez : (s.extract k (k + 1)).size = 1 := by rw [ByteArray.size_extract]; omega
            obtain ⟨acc2, g1, g2, g3⟩ := cat_run acc (s.extract k (k + 1)) (by omega)
            have hacc2 : Hid (acc2.data.toList = (s.data.toList.drop ld.size).take (k + 1 - ld.size) ∧ ∀ c ∈ acc2.data.toList, isDig c) := by
              refine Lib.hid ?_
              have e5 : (s.extract k (k + 1)).data.toList = [s[k]] := by
                rw [extract_list, Nat.add_sub_cancel_left, List.take_one, List.head?_drop, List.getElem?_eq_getElem (by simpa using hlt2)]
                simp; rfl
              have e6 : acc2.data.toList = acc.data.toList ++ [s[k]] := by rw [← g1.out, app_list, e5]
              refine ⟨?_, ?_⟩
              · rw [e6, hacc.out.1, show k + 1 - ld.size = (k - ld.size) + 1 by omega, List.take_add_one, List.getElem?_drop, show ld.size + (k - ld.size) = k by omega, List.getElem?_eq_getElem (by simpa using hlt2)]
                simp; rfl
              · rw [e6]
                intro c hc
                rcases List.mem_append.1 hc with hc | hc
                · exact hacc.out.2 c hc
                · rw [List.mem_singleton] at hc
                  subst hc
                  exact ⟨hd1, hd2⟩
            clear hel hacc
            go_wp2_with fail
            go_roundg (s.size - (k + 1))
            case measure => omega
            case rel => exact ⟨k + 1, acc2, by omega, by go_num, rfl, rfl, by omega, by omega, hacc2⟩
          · have hstop : Hid (∀ q : k - ld.size < (s.data.toList.drop ld.size).length, ¬ isDig (s.data.toList.drop ld.size)[k - ld.size]) := Lib.hid (fun q hq => by
              rw [List.getElem_drop] at hq
              rw [List.length_drop, Array.length_toList] at q
              have q2 : k < s.size := by have : s.data.size = s.size := rfl; omega
              refine hdig ⟨q2, ?_⟩
              rw [List.getD_eq_getElem?_getD, List.getElem?_eq_getElem (by simpa using q2)]
              have e7 : ld.size + (k - ld.size) = k := by omega
              unfold isDig at hq
              simp only [e7] at hq
              exact hq)
            have hka2 : ((ld.size : Int) + (acc.size : Int)) = (k : Int) := by omega
            have hkL : (leadL x).length + acc.data.toList.length = k := by
              rw [← HLS.out.2]; exact hka
            have hkd : k - ld.size = acc.data.toList.length := by
              have : acc.data.toList.length = acc.size := rfl
              omega
            have hks : k ≤ s.size := by omega
            obtain ⟨tl, htl⟩ : ∃ b, ((s.extract k (k + 36)).toList == [13, 10, 99, 111, 110, 116, 101, 110, 116, 45, 116, 121, 112, 101, 58, 32, 97, 112, 112, 108, 105, 99, 97, 116, 105, 111, 110, 47, 106, 115, 111, 110, 13, 10, 13, 10]) = b := ⟨_, rfl⟩
            have htl2 : tl = decide ((s.data.toList.drop k).take 36 = ctypL) := by
              rw [← htl, ByteArray.toList_eq, extract_list, Nat.add_sub_cancel_left]
              exact Bool.eq_iff_iff.2 ⟨fun h => decide_eq_true (beq_iff_eq.1 h), fun h => beq_iff_eq.2 (of_decide_eq_true h)⟩
            have htl3 : ((s.extract k (k + 36)).toList != [13, 10, 99, 111, 110, 116, 101, 110, 116, 45, 116, 121, 112, 101, 58, 32, 97, 112, 112, 108, 105, 99, 97, 116, 105, 111, 110, 47, 106, 115, 111, 110, 13, 10, 13, 10]) = !tl := by rw [bne, htl]
            obtain ⟨a, ha⟩ : ∃ a, (parseW acc.data.toList).getD 0 = a := ⟨_, rfl⟩
            obtain ⟨o, ho⟩ : ∃ o, (parseW acc.data.toList).isSome = o := ⟨_, rfl⟩
            have HPar : Hid (∀ W, Calls Tryd.prog 26 #[.string acc] W fun e w' => e = .returned (.tuple #[.int .i64 a, .bool o]) ∧ Below W.heap.size W w') := Lib.hid (fun W => by
              rw [← ha, ← ho]; exact rparse_any W acc (by omega))
            have hchk : Hid (∀ st n, ToldIs s.data.toList st n → o = true ∧ a = n ∧ 0 ≤ n ∧ n ≤ s.size ∧ k + 36 + n.toNat ≤ s.size ∧ tl = true) := Lib.hid (fun st n h => by
              have hd : acc.data.toList = (s.data.toList.drop (leadL x).length).take (k - ld.size) := by rw [← HLS.out.2]; exact hacc.out.1
              obtain ⟨q1, q2, q3, q4, q5⟩ := rtold_chk h (by simpa using hs) hw.out HPx.out hd (by rw [← hd]; exact hacc.out.2) (by rw [← HLS.out.2]; exact hstop.out)
              rw [q1] at ha ho
              rw [hkL] at q4 q5
              rw [Array.length_toList] at q3 q4
              exact ⟨ho.symm, ha.symm, q2, q3, q4, by rw [htl2]; exact decide_eq_true q5⟩)
            have hsucc : Hid (∀ n : Nat, o = true → a = n → k + 36 + n ≤ s.size → tl = true → ToldV s (.bool true) (.bool false) (.tuple #[.agg #[.int .i64 x, .string (s.extract (k + 36) (k + 36 + n))], .int .i64 ((k : Int) + 36 + (n : Int)), .bool true])) := Lib.hid (fun n q1 q2 q3 q4 => by
              have hpw : parseW acc.data.toList = some (n : Int) := by
                cases hq : parseW acc.data.toList with
                | none => rw [hq] at ho; rw [← ho] at q1; cases q1
                | some v => rw [hq] at ha; rw [← q2, ← ha]; rfl
              have hd : acc.data.toList = (s.data.toList.drop (leadL x).length).take acc.data.toList.length := by
                rw [← HLS.out.2, ← hkd]; exact hacc.out.1
              rw [htl2] at q4
              obtain ⟨r1, r2⟩ := rtold_succ (n := n) hw.out HPx.out hd hpw (by rw [hkL]; exact of_decide_eq_true q4) (by rw [hkL, Array.length_toList]; exact q3)
              rw [hkL] at r2
              refine .inl ⟨x, n, r1, ?_⟩
              rw [r2, Int.toNat_natCast, Int.natCast_add, Int.natCast_add]
              rfl)
            have hstp : (k < s.size ∧ (s.data.toList.getD k 0).toNat < 48) ∨ (k < s.size ∧ 48 ≤ (s.data.toList.getD k 0).toNat ∧ 57 < (s.data.toList.getD k 0).toNat) ∨ k = s.size := by
              by_cases h1 : k < s.size
              · by_cases h2 : (s.data.toList.getD k 0).toNat < 48
                · exact .inl ⟨h1, h2⟩
                · by_cases h3 : 57 < (s.data.toList.getD k 0).toNat
                  · exact .inr (.inl ⟨h1, by omega, h3⟩)
                  · exact absurd ⟨h1, by omega, by omega⟩ hdig
              · exact .inr (.inr (by omega))
            obtain ⟨T1, T2, T3, hT⟩ : ∃ T1 T2 T3 : Bool, Hid ((decide ((k : Int) < (s.size : Int)) = T1 ∧ decide (k < s.size) = T1) ∧ (∀ h : k < s.size, (decide ((48 : Int) ≤ (s[k].toNat : Int)) = T2 ∧ decide (48 ≤ s[k].toNat) = T2) ∧ decide ((s[k].toNat : Int) ≤ 57) = T3 ∧ decide (s[k].toNat ≤ 57) = T3) ∧ (T1 = false ∨ (T1 = true ∧ T2 = false) ∨ (T1 = true ∧ T2 = true ∧ T3 = false))) := by
              have hel : ∀ h : k < s.size, s.data.toList.getD k 0 = s[k] := fun h => by
                rw [List.getD_eq_getElem?_getD, List.getElem?_eq_getElem (by simpa using h)]; simp; rfl
              rcases hstp with ⟨h1, h2⟩ | ⟨h1, h2, h3⟩ | h1
              · rw [hel h1] at h2
                exact ⟨true, false, decide (((s.data.toList.getD k 0).toNat : Int) ≤ 57), Lib.hid ⟨⟨decide_eq_true (by omega), decide_eq_true (by omega)⟩, fun h => ⟨⟨decide_eq_false (by omega), decide_eq_false (by omega)⟩, by rw [hel h], by rw [hel h]; exact decide_eq_decide.2 (by omega)⟩, .inr (.inl ⟨rfl, rfl⟩)⟩⟩
              · rw [hel h1] at h2 h3
                exact ⟨true, true, false, Lib.hid ⟨⟨decide_eq_true (by omega), decide_eq_true (by omega)⟩, fun _ => ⟨⟨decide_eq_true (by omega), decide_eq_true (by omega)⟩, decide_eq_false (by omega), decide_eq_false (by omega)⟩, .inr (.inr ⟨rfl, rfl, rfl⟩)⟩⟩
              · exact ⟨false, false, false, Lib.hid ⟨⟨decide_eq_false (by omega), decide_eq_false (by omega)⟩, fun h => by omega, .inl rfl⟩⟩
            clear hstp hdig ha ho hkL hkd htl2 HPx HLS hstop hacc
            by_cases hgood : o = true ∧ 0 ≤ a ∧ k + 36 + a.toNat ≤ s.size ∧ tl = true
            · obtain ⟨rfl, h0, h1, rfl⟩ := hgood
              obtain ⟨n, rfl⟩ : ∃ n : Nat, a = n := ⟨a.toNat, by omega⟩
              rw [Int.toNat_natCast] at h1
              have hfin := Lib.hid (hsucc.out n rfl rfl h1 rfl)
              have d6 : decide ((s.size : Int) < (k : Int) + 36 + (n : Int)) = false := decide_eq_false (by omega)
              have d5 : decide ((s.size : Int) < (n : Int)) = false := decide_eq_false (by omega)
              have v1 : decide ((n : Int) < 0) = false := decide_eq_false (by omega)
              have v2 : decide (s.size < n) = false := decide_eq_false (by omega)
              have v3 : decide (s.size < k + 36 + n) = false := decide_eq_false (by omega)
              have v7 : (k : Int) + 36 ≤ (s.size : Int) := by omega
              clear hsucc hchk
              obtain ⟨⟨b1, b1'⟩, b2, hTc⟩ := hT.out
              clear hT
              rcases hTc with rfl | ⟨rfl, rfl⟩ | ⟨rfl, rfl, rfl⟩
              all_goals
                first
                  | (have hkk : k < s.size := by (have := of_decide_eq_true b1; omega)
                     obtain ⟨⟨b3, b3'⟩, b4, b4'⟩ := b2 hkk)
                  | skip
                clear b2
                go_upto_region 17 with (go_at_call 26; refine (HPar.out _).mono ?_; rintro e w6 ⟨rfl, hb6⟩; have cur := cur.trans (hb6.mono cur.size))
                have y := (cur.block _ hlt).trans HB.out
                have f0 := free_of_block y
                obtain ⟨e0, e1⟩ := box2 y
                have Y := Lib.hid y
                clear y
                go_wp2_with fail
                obtain ⟨p0, p1⟩ := box2 (two_sets Y.out (.int .i64 x) (.string (s.extract (k + 36) (k + 36 + n))))
                exact bodyPost_ret (v := .tuple #[.agg #[.int .i64 x, .string (s.extract (k + 36) (k + 36 + n))], .int .i64 ((k : Int) + 36 + (n : Int)), .bool true]) (by simp [results, Tryd.results9, go_sem, p0, p1]) rfl ⟨_, rfl, hfin.out, ((BW.out.trans (cur.mono BW.out.size)).setCell (by simp) _).setCell (by simp) _⟩
            · have hnone : Hid (∀ st n, ¬ ToldIs s.data.toList st n) := Lib.hid (fun st n h => by
                obtain ⟨q1, q2, q3, q4, q5, q6⟩ := hchk.out st n h
                exact hgood ⟨q1, by omega, by rw [q2]; exact q5, q6⟩)
              have hbad : o = false ∨ (o = true ∧ decide (a < 0) = true) ∨ (o = true ∧ decide (a < 0) = false ∧ decide ((s.size : Int) < a) = true) ∨ (o = true ∧ decide (a < 0) = false ∧ decide ((s.size : Int) < a) = false ∧ decide ((s.size : Int) < (k : Int) + 36 + a) = true ∧ 0 ≤ a ∧ a ≤ (s.size : Int)) ∨ (o = true ∧ decide (a < 0) = false ∧ decide ((s.size : Int) < a) = false ∧ decide ((s.size : Int) < (k : Int) + 36 + a) = false ∧ (k : Int) + 36 ≤ (s.size : Int) ∧ 0 ≤ a ∧ a ≤ (s.size : Int) ∧ tl = false) := by
                cases o
                · exact .inl rfl
                · by_cases q1 : a < 0
                  · exact .inr (.inl ⟨rfl, decide_eq_true q1⟩)
                  · by_cases q2 : (s.size : Int) < a
                    · exact .inr (.inr (.inl ⟨rfl, decide_eq_false q1, decide_eq_true q2⟩))
                    · by_cases q3 : (s.size : Int) < (k : Int) + 36 + a
                      · exact .inr (.inr (.inr (.inl ⟨rfl, decide_eq_false q1, decide_eq_false q2, decide_eq_true q3, by omega, by omega⟩)))
                      · cases tl
                        · exact .inr (.inr (.inr (.inr ⟨rfl, decide_eq_false q1, decide_eq_false q2, decide_eq_false q3, by omega, by omega, by omega, rfl⟩)))
                        · exact absurd ⟨rfl, by omega, by omega, rfl⟩ hgood
              clear hgood hchk hsucc
              obtain ⟨⟨b1, b1'⟩, b2, hTc⟩ := hT.out
              clear hT
              rcases hTc with rfl | ⟨rfl, rfl⟩ | ⟨rfl, rfl, rfl⟩
              all_goals
                first
                  | (have hkk : k < s.size := by (have := of_decide_eq_true b1; omega)
                     obtain ⟨⟨b3, b3'⟩, b4, b4'⟩ := b2 hkk)
                  | skip
                clear b2
                rcases hbad with rfl | ⟨rfl, h0⟩ | ⟨rfl, h0, h1⟩ | ⟨rfl, h0, h1, h2, h3, h4⟩ | ⟨rfl, h0, h1, h2, h3, h4, h5, rfl⟩
                all_goals
                  go_upto_region 16 with (go_at_call 26; refine (HPar.out _).mono ?_; rintro e w6 ⟨rfl, hb6⟩; have cur := cur.trans (hb6.mono cur.size))
                  have y := (cur.block _ hlt).trans HB.out
                  have f0 := free_of_block y
                  obtain ⟨e0, e1⟩ := box2 y
                  have Y := Lib.hid y
                  clear y
                  go_wp2_with fail
                  obtain ⟨p0, p1⟩ := box2 (two_sets Y.out (.int .i64 0) (.string ⟨#[]⟩))
                  exact bodyPost_ret (v := .tuple #[.agg #[.int .i64 0, .string ⟨#[]⟩], .int .i64 0, .bool false]) (by simp [results, Tryd.results9, go_sem, p0, p1]) rfl ⟨_, rfl, .inr ⟨hnone.out, rfl⟩, ((BW.out.trans (cur.mono BW.out.size)).setCell (by simp) _).setCell (by simp) _⟩
      · have hn : Hid (∀ j x, j < i + 1 → stsL[j]? = some x → ¬ leadL x <+: s.data.toList) := Lib.hid (fun j y hj hy => by
          by_cases e : j = i
          · subst e
            rw [HX.out] at hy
            injection hy with hy
            rw [← hy]; exact hp
          · exact hno.out j y (by omega) hy)
        rw [decide_eq_false hp] at hpt
        clear hp
        by_cases hsh : s.size < ld.size
        · have d2 : decide ((s.size : Int) < (ld.size : Int)) = true := decide_eq_true (by omega)
          have d2' : decide (s.size < ld.size) = true := decide_eq_true hsh
          go_wp2_with (first
            | (go_at_call 25; refine (HS.out _).mono ?_; rintro e w5 ⟨bs, rfl, hcs, hb5⟩; have hci := hcs i x HX.out; clear hcs; have cur := cur.trans (hb5.mono cur.size))
            | (go_at_call 17; refine (HN.out _).mono ?_; rintro e w5 ⟨rfl, hb5⟩; have cur := cur.trans (hb5.mono cur.size))
            | (go_at_call 20; refine (HW.out _).mono ?_; rintro e w5 ⟨rfl, hb5⟩; have cur := cur.trans (hb5.mono cur.size)))
          go_roundg (14 - (i + 1))
          case measure => omega
          case rel => exact ⟨i + 1, by omega, by go_num, cur, hn⟩
        · have d2 : decide ((s.size : Int) < (ld.size : Int)) = false := decide_eq_false (by omega)
          have d2' : decide (s.size < ld.size) = false := decide_eq_false hsh
          go_wp2_with (first
            | (go_at_call 25; refine (HS.out _).mono ?_; rintro e w5 ⟨bs, rfl, hcs, hb5⟩; have hci := hcs i x HX.out; clear hcs; have cur := cur.trans (hb5.mono cur.size))
            | (go_at_call 17; refine (HN.out _).mono ?_; rintro e w5 ⟨rfl, hb5⟩; have cur := cur.trans (hb5.mono cur.size))
            | (go_at_call 20; refine (HW.out _).mono ?_; rintro e w5 ⟨rfl, hb5⟩; have cur := cur.trans (hb5.mono cur.size)))
          go_roundg (14 - (i + 1))
          case measure => omega
          case rel => exact ⟨i + 1, by omega, by go_num, cur, hn⟩
    · have hnone : Hid (∀ st n, ¬ ToldIs s.data.toList st n) := Lib.hid (rtold_none (fun j x hj hx => hno.out j x (by omega) hx))
      have d1 : decide ((i : Int) < 14) = false := decide_eq_false (by omega)
      have d1' : decide (i < 14) = false := decide_eq_false hi
      go_upto_region 19 with (go_at_call 25; refine (HS.out _).mono ?_; rintro e w5 ⟨bs, rfl, hcs, hb5⟩; clear hcs; have cur := cur.trans (hb5.mono cur.size))
      have y := (cur.block _ hlt).trans HB.out
      have f0 := free_of_block y
      obtain ⟨e0, e1⟩ := box2 y
      have Y := Lib.hid y
      clear y
      go_wp2_with fail
      obtain ⟨p0, p1⟩ := box2 (two_sets Y.out (.int .i64 0) (.string ⟨#[]⟩))
      exact bodyPost_ret (v := .tuple #[.agg #[.int .i64 0, .string ⟨#[]⟩], .int .i64 0, .bool false]) (by simp [results, Tryd.results9, go_sem, p0, p1]) rfl ⟨_, rfl, .inr ⟨hnone.out, rfl⟩, ((BW.out.trans (cur.mono BW.out.size)).setCell (by simp) _).setCell (by simp) _⟩
end Go.Proofs.YtlgfhbfdjckdnaaDoor
