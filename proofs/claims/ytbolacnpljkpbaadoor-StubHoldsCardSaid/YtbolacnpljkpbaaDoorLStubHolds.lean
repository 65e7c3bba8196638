/- The walk of the law StubHolds. -/
import Derived.Test.YtbolacnpljkpbaaDoorStubRB
import Derived.Test.YtbolacnpljkpbaaDoorOpenNet
set_option maxRecDepth 100000
namespace Go.Proofs.YtbolacnpljkpbaaDoor
open Go.RowKit
open Classical

theorem u64_nn (x : Int) : ∃ u : Nat, IntKind.u64.wrap x = (u : Int) ∧ (u : Int) < 18446744073709551616 := by
  have h : 0 ≤ IntKind.u64.wrap x ∧ IntKind.u64.wrap x < 18446744073709551616 := by
    simp only [IntKind.wrap, IntKind.bits, IntKind.signed]
    simp
    exact ⟨Int.emod_nonneg _ (by decide), Int.emod_lt_of_pos _ (by decide)⟩
  obtain ⟨u, hu⟩ := Int.eq_ofNat_of_zero_le h.1
  exact ⟨u, hu, by rw [← hu]; exact h.2⟩
def outsE (S : List Int) (l : List Int) : List Int := l.filter (fun t => !S.contains t)
theorem outsE_snoc (S l : List Int) (x : Int) : outsE S (l ++ [x]) = outsE S l ++ (if S.contains x then [] else [x]) := by
  unfold outsE
  rw [List.filter_append]
  by_cases h : x ∈ S <;> simp [h]
theorem some_set {n : Nt} {m : List Int} : ((n.enE m).any fun t => (setL n m).contains t) = decide (0 < (n.enE m).length) := by
  by_cases h : n.enE m = []
  · rw [h]; rfl
  · obtain ⟨t, ht, he⟩ := setL_has h
    have h1 : ((n.enE m).any fun t => (setL n m).contains t) = true := by
      rw [List.any_eq_true]
      exact ⟨t, inT_enE (setL_inT ht) he, by rw [List.contains_iff_mem]; exact ht⟩
    rw [h1]
    exact (decide_eq_true (List.length_pos_iff.2 h)).symm

theorem fire_yes_no (w : World) (vp vt vm : Value) (n : Nt) (hok : n.okB = true) (a : List Int) (hM : n.Mark a) (t : Int) (ht : InT n t) (B : Nat) (hB : B ≤ w.heap.size) (hn : NtR w B vp vt n) (hm : Ints w B vm a) :
    Calls Tryd.prog 15 #[.agg #[vp, vt, .int .i64 n.init, .int .i64 n.final], vm, .int .i64 t] w fun e w' =>
      ∃ v c r, e = .returned (.tuple #[v, .int .i64 c]) ∧ OwnI w' w.heap.size v r ∧ Below w.heap.size w w' ∧ c = ((n.tr t).fireE a).1 ∧ (c = 0 → r = ((n.tr t).fireE a).2) := by
  refine (fireNet_any w vp vt vm n a t B hB hn hm).mono ?_
  rintro e w' ⟨v, rfl, how, hb⟩
  have hbad : [t].any n.badT = false := by simp [Nt.badT]; exact ht
  have hr : n.rowE a [t] = if ((n.tr t).fireE a).1 = 0 then (((n.tr t).fireE a).2, 1, 0) else ([], 0, ((n.tr t).fireE a).1) := by
    rw [rowE_3 (markB_of hok hM) hbad]
    simp only [rowGo]
    rfl
  by_cases h0 : ((n.tr t).fireE a).1 = 0
  · rw [if_pos h0] at hr
    rw [hr] at how ⊢
    exact ⟨v, 0, _, rfl, how, hb, h0.symm, fun _ => rfl⟩
  · rw [if_neg h0] at hr
    rw [hr] at how ⊢
    exact ⟨v, _, _, rfl, how, hb, rfl, fun h => absurd h h0⟩
set_option maxHeartbeats 4000000 in
theorem stubHolds_walk (W : World) (htab : Pow10 W.heap.size W) (vp vt : Value) (n : Nt) (hn : NtR W W.heap.size vp vt n) (_gn : NtI n) (vm : Value) (m : List Int) (hm : Ints W W.heap.size vm m) (_gm : I64s m) (vk : Value) (pk : List Int) (hk : Ints W W.heap.size vk pk) (_gk : I64s pk) :
    Calls Tryd.prog 4 #[.agg #[vp, vt, .int .i64 n.init, .int .i64 n.final], vm, vk] W fun e w' => e = .returned (.bool true) ∧ Below W.heap.size W w' := by
  have hbA := (Below.refl W.heap.size W).alloc (Nat.le_refl _) (.cells #[vp, vt, .int .i64 n.init, .int .i64 n.final] 25)
  have hbx := heap_alloc_new W (.cells #[vp, vt, .int .i64 n.init, .int .i64 n.final] 25)
  obtain ⟨W1, hW1⟩ : ∃ W1, W.alloc (.cells #[vp, vt, .int .i64 n.init, .int .i64 n.final] 25) = W1 := ⟨_, rfl⟩
  rw [hW1] at hbA hbx
  have hlt1 := lt_of_block hbx
  have hz1 := hbA.size
  have HN := Lib.hid hn
  have HM := Lib.hid hm
  have HK := Lib.hid hk
  have HBX := Lib.hid hbx
  have htl := hn.2.len
  have hn1 := hn.mono hbA (show W.heap.size ≤ W1.heap.size by omega)
  have HT1 := Lib.hid (tab_up (htab.on hbA) (show W.heap.size ≤ W1.heap.size by omega))
  obtain ⟨ap, cp, rfl⟩ := hn.1.val
  obtain ⟨at_, ct, rfl⟩ := hn.2.val
  obtain ⟨am, cm, rfl⟩ := hm.val
  obtain ⟨ak, ck, rfl⟩ := hk.val
  have hml := hm.len
  have hkl := hk.len
  obtain ⟨c0, c1, c2, c3⟩ := box4' hbx
  cases hlg : largeB n with
  | true =>
    have HLg := Lib.hid (large_is W1 _ _ n W1.heap.size (Nat.le_refl _) hn1 hlg)
    clear hlg hn hm hk hn1 hbx
    go_enter Tryd.func4, Tryd.ntmps4
    go_wp2_with (first | (go_at_call 7; refine HLg.out.mono ?_; rintro e w2 ⟨rfl, hb2⟩; refine Hid.out ?_))
    refine Lib.hid ?_
    have HA2 := Lib.hid (awake_any w2 w2.heap.size (Nat.le_refl _) (tab_up (HT1.out.on hb2) hb2.size))
    go_wp2_with (first | (go_at_call 8; refine HA2.out.mono ?_; rintro e w3 ⟨rfl, hb3⟩))
    go_ret
    exact ⟨rfl, hbA.trans ((hb2.trans (hb3.mono hb2.size)).mono hz1)⟩
  | false =>
    have HLg := Lib.hid (large_is W1 _ _ n W1.heap.size (Nat.le_refl _) hn1 hlg)
    clear hlg hn hm hk hn1 hbx
    go_enter Tryd.func4, Tryd.ntmps4
    go_wp2_with (first | (go_at_call 7; refine HLg.out.mono ?_; rintro e w2 ⟨rfl, hb2⟩; refine Hid.out ?_))
    refine Lib.hid ?_
    have HA2 := Lib.hid (awake_any w2 w2.heap.size (Nat.le_refl _) (tab_up (HT1.out.on hb2) hb2.size))
    go_wp2_with (first | (go_at_call 8; refine HA2.out.mono ?_; rintro e w3 ⟨rfl, hb3⟩; refine Hid.out ?_))
    refine Lib.hid ?_
    have hB3 := hb2.trans (hb3.mono hb2.size)
    have hz3 := hB3.size
    have hb03 := hbA.trans (hB3.mono hz1)
    obtain ⟨d0, d1, d2, d3⟩ := box4' (box_up HBX.out hB3)
    clear hW1 c0 c1 c2 c3
    have HS := Lib.hid (sset_any w3 _ _ _ n m W.heap.size hb03.size (HN.out.mono hb03 (Nat.le_refl _)) (HM.out.mono hb03 (Nat.le_refl _)))
    go_wp2_with (first | (go_at_call 11; refine HS.out.mono ?_; rintro e w4 ⟨vs, rfl, hos, hb4⟩; refine Hid.out ?_))
    refine Lib.hid ?_
    have hz4 := hb4.size
    have hB4 := hB3.trans (hb4.mono hz3)
    have hb04 := hbA.trans (hB4.mono hz1)
    obtain ⟨as_, cs_, rfl⟩ := hos.shape
    clear d0 d1 d2 d3
    obtain ⟨d0, d1, d2, d3⟩ := box4' (box_up HBX.out hB4)
    have HE := Lib.hid (enabledNet_any w4 _ _ _ n m W.heap.size hb04.size (HN.out.mono hb04 (Nat.le_refl _)) (HM.out.mono hb04 (Nat.le_refl _)))
    cases hmk : n.markB m with
    | false =>
      have hce : Hid (n.markE m = 1) := markE_no hmk
      rw [hce.out] at HE ⊢
      clear hmk
      go_wp2_with (first | (go_at_call 14; refine HE.out.mono ?_; rintro e w5 ⟨vl, rfl, hol, hb5⟩))
      go_ret
      exact ⟨rfl, hb04.trans (hb5.mono hb04.size)⟩
    | true =>
      have hok := markB_ok hmk
      have hMk := Nt.mark_of hmk
      have hce : Hid (n.markE m = 0) := markE_yes hmk
      have hse : Hid (n.setS m = setL n m ∧ n.enL m = n.enE m) := ⟨by simp [Nt.setS, hmk], by simp [Nt.enL, hmk]⟩
      rw [hce.out, hse.out.2] at HE
      rw [hce.out]
      rw [hse.out.1] at hos ⊢
      obtain ⟨S, hS⟩ : ∃ S, setL n m = S := ⟨_, rfl⟩
      obtain ⟨L, hL⟩ : ∃ L, n.enE m = L := ⟨_, rfl⟩
      have hsl : S.length ≤ n.trans.length := by rw [← hS]; exact setL_len n m
      have hll : L.length ≤ n.trans.length := by rw [← hL]; exact enGo_len _ _ _
      have hSs : Hid (S.Pairwise (· < ·)) := by rw [← hS]; exact setL_sorted n m
      have hSi : Hid (∀ x ∈ S, InT n x) := by rw [← hS]; exact fun x hx => setL_inT hx
      have hLi : Hid (∀ x ∈ L, InT n x) := by rw [← hL]; exact fun x hx => (enE_inT hx).1
      rw [hL] at HE
      rw [hS] at hos ⊢
      have HSe := Lib.hid hS
      have HLe := Lib.hid hL
      have HOM := Lib.hid (And.intro hok hMk)
      have ho := Nt.ok_of hok
      have hnt := ho.trans
      have HOS := Lib.hid hos
      clear hmk hok hMk hS hL ho hos
      go_wp2_with (first | (go_at_call 14; refine HE.out.mono ?_; rintro e w5 ⟨vl, rfl, hol, hb5⟩; refine Hid.out ?_))
      refine Lib.hid ?_
      have hz5 := hb5.size
      have hB5 := hB4.trans (hb5.mono hB4.size)
      have hb05 := hbA.trans (hB5.mono hz1)
      obtain ⟨al, cl, rfl⟩ := hol.shape
      have HSI := Lib.hid ((HOS.out.kept hb5 (Nat.le_refl _)).col (B := w5.heap.size) (by omega) (Nat.le_refl _))
      have HLI := Lib.hid (hol.col (B := w5.heap.size) (by omega) (Nat.le_refl _))
      clear d0 d1 d2 d3 hol
      obtain ⟨d0, d1, d2, d3⟩ := box4' (box_up HBX.out hB5)
      have HBX5 := Lib.hid (box_up HBX.out hB5)
      have hmk1 := run_make_row' (P := Tryd.prog) 36 4 (.bool false) 1 Tryd.underlying36 info_bool rfl .i64 .i64 n.trans.length (by omega) (by omega)
      have hRB := RB.made (w := w5) (N := n.trans.length) (by unfold maxLen; omega) (Nat.le_refl _)
      have hbR := (Below.refl w5.heap.size w5).alloc (Nat.le_refl _) (.cells (madeCells #[Value.bool false] n.trans.length) 4)
      obtain ⟨W6, hW6⟩ : ∃ W6, w5.alloc (.cells (madeCells #[Value.bool false] n.trans.length) 4) = W6 := ⟨_, rfl⟩
      rw [hW6] at hRB hbR
      have HRB := Lib.hid hRB
      have HBR := Lib.hid hbR
      clear hRB hbR
      go_wp2_with fail
      clear hW6 d0 d1 d2 d3
      go_loopg [12] S.length (fun gh s12 wr => ∃ i : Nat, i + gh = S.length ∧ s12 = .int .i64 (i : Int) ∧ Hid (RB wr w5.heap.size w5.heap.size n.trans.length (S.take i)) ∧ Below w5.heap.size w5 wr)
      case atStart => exact ⟨0, by omega, rfl, HRB, HBR.out⟩
      case round =>
        clear HRB HBR
        obtain ⟨i, hig, rfl, hRB, hbel⟩ := hrel
        have hwr := hbel.size
        by_cases hi : i < S.length
        · obtain ⟨bs, os, rfl, hbs, hcs⟩ := HSI.out.col i hi
          rw [← Below.cellB hbel hbs] at hcs
          have hxi := hSi.out _ (List.getElem_mem hi)
          have htk : Hid (S.take (i + 1) = S.take i ++ [S[i]]) := Lib.hid (take_snoc hi)
          obtain ⟨q, hq⟩ := Int.eq_ofNat_of_zero_le hxi.1
          have hqn : q < n.trans.length := by have := hxi.2; omega
          rw [hq] at hcs htk
          have d1 : decide (n.trans.length ≤ q) = false := decide_eq_false (by omega)
          have d1' : decide ((n.trans.length : Int) ≤ (q : Int)) = false := decide_eq_false (by omega)
          have d0 : decide ((q : Int) < 0) = false := decide_eq_false (by omega)
          have hqf := hRB.out.free q
          have hqc := hRB.out.at hqn
          have hRB2 := Lib.hid (hRB.out.set hqn)
          have hgl := hRB.out.lt
          by_cases h0 : i = 0
          · subst h0
            rw [Nat.add_zero] at hcs
            clear hq hxi
            go_upto_region 11 with fail
            go_quiet (fail)
            go_wp2_with fail
            go_roundg (gk - 1)
            case measure => omega
            case rel => exact ⟨0 + 1, by omega, by go_num, Lib.hid (by rw [htk.out]; exact (hRB.out.kept (below_drewN' _)).set hqn), (below_drewN hbel _).setCell hgl.1 _⟩
          · obtain ⟨p, rfl⟩ : ∃ p, i = p + 1 := ⟨i - 1, by omega⟩
            obtain ⟨b2, o2, e2, _, hcp⟩ := HSI.out.col p (by omega)
            obtain ⟨rfl, rfl⟩ : bs = b2 ∧ os = o2 := by injection e2 with e2; injection e2 with e2 e3; exact ⟨e2, e3⟩
            rw [← Below.cellB hbel hbs] at hcp
            have hlt := List.pairwise_iff_getElem.1 hSs.out p (p + 1) (by omega) hi (by omega)
            have hyi := hSi.out _ (List.getElem_mem (show p < S.length by omega))
            obtain ⟨y, hy⟩ := Int.eq_ofNat_of_zero_le hyi.1
            rw [hy] at hcp hlt
            rw [hq] at hlt
            have d2 : decide (q ≤ y) = false := decide_eq_false (by omega)
            have d2' : decide ((q : Int) ≤ (y : Int)) = false := decide_eq_false (by omega)
            have d3 : decide (0 < p + 1) = true := decide_eq_true (by omega)
            have d3' : decide (((0 : Nat) : Int) < ((p + 1 : Nat) : Int)) = true := decide_eq_true (by omega)
            have d3'' : decide ((0 : Int) < ((p + 1 : Nat) : Int)) = true := decide_eq_true (by omega)
            clear hq hxi hy hyi
            go_upto_region 11 with fail
            go_quiet (fail)
            go_wp2_with fail
            go_roundg (gk - 1)
            case measure => omega
            case rel => exact ⟨p + 1 + 1, by omega, by go_num, Lib.hid (by rw [htk.out]; exact (hRB.out.kept (below_drewN' _)).set hqn), (below_drewN hbel _).setCell hgl.1 _⟩
        · have hi' : ¬ ((i : Int) < (S.length : Int)) := by omega
          have HIN : Hid (RB wr w5.heap.size w5.heap.size n.trans.length S) := by have := hRB.out; rw [List.take_of_length_le (by omega)] at this; exact this
          have hb0r := hb05.trans (hbel.mono hb05.size)
          obtain ⟨d0, d1, d2, d3⟩ := box4' (box_up HBX5.out hbel)
          have hRB7 := RB.made (w := wr) (N := n.trans.length) (base := w5.heap.size) (by unfold maxLen; omega) hwr
          have hbR := (Below.refl wr.heap.size wr).alloc (Nat.le_refl _) (.cells (madeCells #[Value.bool false] n.trans.length) 4)
          have hIN7 := HIN.out.kept hbR
          obtain ⟨W7, hW7⟩ : ∃ W7, wr.alloc (.cells (madeCells #[Value.bool false] n.trans.length) 4) = W7 := ⟨_, rfl⟩
          have hne7 : w5.heap.size ≠ wr.heap.size := by have := HIN.out.lt; omega
          obtain ⟨g7, hg7⟩ : ∃ g7, wr.heap.size = g7 := ⟨_, rfl⟩
          rw [hW7] at hRB7 hbR hIN7
          rw [hg7] at hRB7 hne7
          have HRB7 := Lib.hid hRB7
          have HIN7 := Lib.hid hIN7
          have HB7 := Lib.hid (hbel.trans (hbR.mono hwr))
          have HS7 : Hid (((L.take 0).any fun t => S.contains t) = false) := rfl
          clear hRB7 hIN7 hbR hRB hbel HIN
          go_wp2_with fail
          clear hW7 d0 d1 d2 d3
          go_loopg [14, 15] L.length (fun gh s14 s15 wx => ∃ i : Nat, i + gh = L.length ∧ s15 = .int .i64 (i : Int) ∧ (∃ b, s14 = .bool b ∧ Hid (((L.take i).any fun t => S.contains t) = b)) ∧ Hid (RB wx w5.heap.size w5.heap.size n.trans.length S) ∧ Hid (RB wx w5.heap.size g7 n.trans.length (L.take i)) ∧ Below w5.heap.size w5 wx)
          case atStart => exact ⟨0, by omega, rfl, ⟨false, rfl, HS7⟩, HIN7, HRB7, HB7.out⟩
          case round =>
            clear HRB7 HIN7 HB7 HS7
            obtain ⟨i, hig, rfl, ⟨sm, rfl, hsm⟩, hIN, hWS, hbel⟩ := hrel
            have hwr2 := hbel.size
            by_cases hi : i < L.length
            · obtain ⟨bs, os, rfl, hbs, hcs⟩ := HLI.out.col i hi
              rw [← Below.cellB hbel hbs] at hcs
              have hxi := hLi.out _ (List.getElem_mem hi)
              have htk : Hid (L.take (i + 1) = L.take i ++ [L[i]]) := Lib.hid (take_snoc hi)
              obtain ⟨q, hq⟩ := Int.eq_ofNat_of_zero_le hxi.1
              have hqn : q < n.trans.length := by have := hxi.2; omega
              rw [hq] at hcs htk
              have hqf := hWS.out.free q
              have hqc := hWS.out.at hqn
              have hIN2 := Lib.hid (hIN.out.other (j := q) hWS.out hne7)
              have hWS2 := Lib.hid (hWS.out.set hqn)
              have hic := hIN2.out.at hqn
              have hgl := hWS.out.lt
              have hb2 : Below w5.heap.size w5 (wr.setCell ⟨g7, q, none⟩ (.bool true)) := hbel.setCell hgl.1 _
              obtain ⟨WX, hWX⟩ : ∃ WX, wr.setCell ⟨g7, q, none⟩ (.bool true) = WX := ⟨_, rfl⟩
              rw [hWX] at hIN2 hWS2 hic hb2
              have hcs2 : WX.cell? ⟨bs, os + i, none⟩ = some (.int .i64 (q : Int)) := by rw [Below.cellB hb2 hbs, ← Below.cellB hbel hbs]; exact hcs
              have hsm2 : Hid (((L.take (i + 1)).any fun t => S.contains t) = (sm || S.contains (q : Int))) := by rw [htk.out, List.any_append, hsm.out]; refine Lib.hid ?_; simp
              have HB2 := Lib.hid hb2
              clear hq hxi hb2 hIN hWS
              cases sm with
              | true =>
                go_wp2_with fail
                go_roundg (gk - 1)
                case measure => omega
                case rel => exact ⟨i + 1, by omega, by go_num, ⟨true, rfl, hsm2⟩, hIN2, by rw [htk.out]; exact hWS2, HB2.out⟩
              | false =>
                obtain ⟨sb, hsb⟩ : ∃ sb, S.contains (q : Int) = sb := ⟨_, rfl⟩
                rw [hsb] at hic hsm2
                clear hsb
                go_wp2_with fail
                go_roundg (gk - 1)
                case measure => omega
                case rel => exact ⟨i + 1, by omega, by go_num, ⟨sb, rfl, hsm2⟩, hIN2, by rw [htk.out]; exact hWS2, HB2.out⟩
            · have hi' : ¬ ((i : Int) < (L.length : Int)) := by omega
              have HWS : Hid (RB wr w5.heap.size g7 n.trans.length L) := by have := hWS.out; rw [List.take_of_length_le (by omega)] at this; exact this
              have hsmv : Hid (sm = decide (0 < L.length)) := by
                have := hsm.out
                rw [List.take_of_length_le (by omega)] at this
                rw [← this, ← HSe.out, ← HLe.out]
                exact some_set
              have hSL : L = [] → S = [] := by rw [← HSe.out, ← HLe.out]; exact setL_nil
              have HB8 := Lib.hid hbel
              have HIN := hIN
              clear hIN hWS hsm
              -- the marking at hand
              have hbm := (Below.refl wr.heap.size wr).alloc (Nat.le_refl _) (.cells #[] 3)
              have hemp : (wr.alloc (.cells #[] 3)).ownsRow wr.heap.size 3 1 (.slice (some ⟨wr.heap.size, 0, none⟩) 0 0) 0 [] := World.ownsRow_made wr #[] 0 (Nat.le_refl _) (by simp) (by simp)
              have hmI := (HM.out.mono (hb05.trans (hbel.mono hb05.size)) (show W.heap.size ≤ W.heap.size from Nat.le_refl _)).mono (hbm.mono (by have := hb05.size; omega)) (Nat.le_refl _)
              obtain ⟨i0, hti, hz0, hz1', hz2⟩ := info_parts info_int
              have HBm := Lib.hid hbm
              have HEN : Hid (decide (0 < L.length) = true ∧ decide (0 < S.length) = true ∨ L = [] ∧ S = []) := by
                by_cases h : L = []
                · exact Or.inr ⟨h, hSL h⟩
                · refine Or.inl ⟨decide_eq_true (List.length_pos_iff.2 h), decide_eq_true (List.length_pos_iff.2 fun hs => ?_)⟩
                  obtain ⟨t, ht, _⟩ := setL_has (n := n) (m := m) (by rw [HLe.out]; exact h)
                  rw [HSe.out, hs] at ht; cases ht
              clear hSL hbm
              go_upto_region 21 with fail
              go_cut [139] (fun s139 wx => ∃ w9, w9 = wx ∧ s139 = .bool false ∧ wr = w9)
              case first =>
                rcases HEN.out with ⟨e1, e2⟩ | ⟨rfl, rfl⟩
                · have hsm1 : sm = true := hsmv.out.trans e1
                  subst hsm1
                  have e1' : decide ((0 : Int) < (L.length : Int)) = true := decide_eq_true (by have := of_decide_eq_true e1; omega)
                  have e2' : decide ((0 : Int) < (S.length : Int)) = true := decide_eq_true (by have := of_decide_eq_true e2; omega)
                  have e3 : ((L.length : Int) == 0) = false := by have := of_decide_eq_true e1; simp; intro h; simp [h] at this
                  have e3' : decide (L.length = 0) = false := decide_eq_false (by have := of_decide_eq_true e1; omega)
                  clear HEN hsmv
                  go_wp2_with fail
                  go_meet
                  exact ⟨_, rfl, rfl, rfl⟩
                · have hsm1 : sm = false := hsmv.out
                  subst hsm1
                  clear HEN hsmv
                  go_wp2_with fail
                  go_meet
                  exact ⟨_, rfl, rfl, rfl⟩
              case rest =>
                obtain ⟨w9, rfl, rfl, rfl⟩ := hcut
                go_wp2_with (at_builtin; refine wpList_append_col (mk := Value.int .i64) _ rfl _ _ 26 rfl (fun _ => rfl) wr.heap.size 3 i0 (.int .i64 0) 8 Tryd.underlying26 hti hz0 hz1' hz2 rfl _ 0 [] rfl hemp 17592186044416 W.heap.size _ m rfl hmI (by unfold maxLen; omega) (by omega) (by simp) ?_; intro v1 w10 hown1 hg1; refine Hid.out ?_)
                refine Lib.hid ?_
                have hb10 : Below wr.heap.size wr w10 := HBm.out.grown hg1 (by simp) (fun j hj => by cases hj; exact Nat.le_refl _)
                have hat : OwnI w10 wr.heap.size v1 m := by unfold OwnI; simpa using hown1
                have HAT := Lib.hid (hat.col (B := w10.heap.size) (by omega) (Nat.le_refl _))
                obtain ⟨a1, k1, rfl⟩ := hat.shape
                have HIN10 := Lib.hid (HIN.out.kept hb10)
                have HWS10 := Lib.hid (HWS.out.kept hb10)
                have HB10 := Lib.hid (HB8.out.trans (hb10.mono hwr2))
                have HST : Hid (Stays n m m) := Stays.first HOM.out.2
                clear hown1 hg1 hat hemp hmI HEN hsmv hb10 HIN HWS HB8 hbel HBm
                go_wp2_with fail
                go_loopg [16, 17] pk.length (fun gh s16 s17 wx => ∃ (i : Nat) (a : List Int), i + gh = pk.length ∧ s17 = .int .i64 (i : Int) ∧ Hid (Stays n m a) ∧ Hid (Ints wx wx.heap.size s16 a) ∧ Hid (RB wx w5.heap.size w5.heap.size n.trans.length S) ∧ Hid (RB wx w5.heap.size g7 n.trans.length L) ∧ Below w5.heap.size w5 wx)
                case atStart => exact ⟨0, m, by omega, rfl, HST, HAT, HIN10, HWS10, HB10.out⟩
                case round =>
                  clear HAT HIN10 HWS10 HB10 HST
                  obtain ⟨i, a, hig, rfl, hSt, hA, hIN, hWS, hbel⟩ := hrel
                  have hwr3 := hbel.size
                  have hb0r := hb05.trans (hbel.mono hb05.size)
                  by_cases hi : i < pk.length ∧ i < 40
                  · obtain ⟨hi, hi40⟩ := hi
                    have d40 : decide ((i : Int) < 40) = true := decide_eq_true (by omega)
                    have d40' : decide (i < 40) = true := decide_eq_true hi40
                    have hBX := box_up HBX5.out hbel
                    obtain ⟨d0, d1, d2, d3⟩ := box4' hBX
                    obtain ⟨R, hR⟩ : ∃ R, n.enE a = R := ⟨_, rfl⟩
                    have HR := Lib.hid hR
                    have hRl : R.length ≤ n.trans.length := by rw [← hR]; exact enGo_len _ _ _
                    have hRi : Hid (∀ x ∈ R, InT n x) := by rw [← hR]; exact fun x hx => (enE_inT hx).1
                    have HE := Lib.hid (enabledNet_yes wr _ _ _ n HOM.out.1 a hSt.out.mark wr.heap.size (Nat.le_refl _) (HN.out.mono hb0r hb0r.size) hA.out R hR)
                    have hal := Lib.hid hSt.out.mark.len
                    obtain ⟨aa, ca, hva⟩ := hA.out.val
                    subst hva
                    clear hR
                    go_wp2_with (first | (go_at_call 14; refine HE.out.mono ?_; rintro e w11 ⟨vr, rfl, hor, hb11⟩; refine Hid.out ?_))
                    refine Lib.hid ?_
                    obtain ⟨ar, cr, rfl⟩ := hor.shape
                    have hz11 := hb11.size
                    clear d0 d1 d2 d3
                    obtain ⟨d0, d1, d2, d3⟩ := box4' (box_up hBX hb11)
                    have hRB8 := RB.made (w := w11) (N := n.trans.length) (base := w11.heap.size) (by unfold maxLen; omega) (Nat.le_refl _)
                    have hbR := (Below.refl w11.heap.size w11).alloc (Nat.le_refl _) (.cells (madeCells #[Value.bool false] n.trans.length) 4)
                    have HRI := Lib.hid (hor.col (B := w11.heap.size) (by omega) (Nat.le_refl _))
                    have HIN11 := Lib.hid (hIN.out.kept hb11)
                    have HWS11 := Lib.hid (hWS.out.kept hb11)
                    have HA11 := Lib.hid (hA.out.mono hb11 hz11)
                    have HB11 := Lib.hid (hbel.trans (hb11.mono hwr3))
                    obtain ⟨W12, hW12⟩ : ∃ W12, w11.alloc (.cells (madeCells #[Value.bool false] n.trans.length) 4) = W12 := ⟨_, rfl⟩
                    rw [hW12] at hRB8 hbR
                    have HRB8 := Lib.hid hRB8
                    have HBR := Lib.hid hbR
                    clear hRB8 hbR hor hIN hWS hA hbel hb11
                    go_wp2_with fail
                    clear hW12 d0 d1 d2 d3
                    go_loopg [21, 22] R.length (fun gh s21 s22 wx => ∃ k : Nat, k + gh = R.length ∧ s22 = .int .i64 (k : Int) ∧ Hid (RB wx w11.heap.size w11.heap.size n.trans.length (R.take k)) ∧ Hid (OwnI wx w11.heap.size s21 (outsE S (R.take k))) ∧ Below w11.heap.size w11 wx)
                    case atStart => exact ⟨0, by omega, rfl, HRB8, OwnI.nil _ _, HBR.out⟩
                    case round =>
                      clear HRB8 HBR
                      obtain ⟨k, hkg, rfl, hRB, hO, hbel⟩ := hrel
                      have hwr4 := hbel.size
                      obtain ⟨a21, c21, h21⟩ := hO.out.shape
                      have hol : (outsE S (R.take k)).length ≤ k := Nat.le_trans (List.length_filter_le _ _) (by simp; omega)
                      by_cases hk : k < R.length
                      · obtain ⟨bs, os, rfl, hbs, hcs⟩ := HRI.out.col k hk
                        rw [← Below.cellB hbel hbs] at hcs
                        have hxi := hRi.out _ (List.getElem_mem hk)
                        have htk : Hid (R.take (k + 1) = R.take k ++ [R[k]]) := Lib.hid (take_snoc hk)
                        obtain ⟨q, hq⟩ := Int.eq_ofNat_of_zero_le hxi.1
                        have hqn : q < n.trans.length := by have := hxi.2; omega
                        rw [hq] at hcs htk
                        have hqf := hRB.out.free q
                        have hqc := hRB.out.at hqn
                        have hRB2 := Lib.hid (hRB.out.set hqn)
                        have hO2 := hRB.out.ints (j := q) hO.out
                        have hgl := hRB.out.lt
                        have hb2 : Below w11.heap.size w11 (wr.setCell ⟨w11.heap.size, q, none⟩ (.bool true)) := hbel.setCell hgl.1 _
                        have hic := (HIN11.out.kept hb2).at hqn
                        obtain ⟨WX, hWX⟩ : ∃ WX, wr.setCell ⟨w11.heap.size, q, none⟩ (.bool true) = WX := ⟨_, rfl⟩
                        rw [hWX] at hRB2 hic hb2 hO2
                        have hcs2 : WX.cell? ⟨bs, os + k, none⟩ = some (.int .i64 (q : Int)) := by rw [Below.cellB hb2 hbs, ← Below.cellB hbel hbs]; exact hcs
                        have hsn := Lib.hid (outsE_snoc S (R.take k) (q : Int))
                        have HB2 := Lib.hid hb2
                        have hzX := hb2.size
                        have HO2 := Lib.hid hO2
                        obtain ⟨oo, hoo⟩ : ∃ oo, outsE S (R.take k) = oo := ⟨_, rfl⟩
                        rw [hoo] at HO2 hsn h21 hol
                        subst h21
                        have HOO := Lib.hid hoo
                        clear hq hxi hb2 hRB hO hoo hO2
                        obtain ⟨sb, hsb⟩ : ∃ sb, S.contains (q : Int) = sb := ⟨_, rfl⟩
                        rw [hsb] at hic hsn
                        cases sb with
                        | true =>
                          have hsn2 : Hid (outsE S (R.take (k + 1)) = oo) := by rw [htk.out, hsn.out, if_pos rfl, List.append_nil]; exact rfl
                          clear hsb hsn
                          go_wp2_with fail
                          go_roundg (gk - 1)
                          case measure => omega
                          case rel => exact ⟨k + 1, by omega, by go_num, by rw [htk.out]; exact hRB2, by rw [hsn2.out]; exact HO2, HB2.out⟩
                        | false =>
                          have hsn2 : Hid (outsE S (R.take (k + 1)) = oo ++ [(q : Int)]) := by rw [htk.out, hsn.out, if_neg (by simp)]; exact rfl
                          have hxX := (Below.refl WX.heap.size WX).alloc (Nat.le_refl _) (.cells #[.int .i64 (q : Int)] 3)
                          have HO3 := Lib.hid (HO2.out.kept hxX (Nat.le_refl _))
                          have HRB3 := Lib.hid (hRB2.out.kept hxX)
                          have HB3 := Lib.hid (HB2.out.trans (hxX.mono hzX))
                          have hT3 := HO3.out
                          clear hsb hsn hxX
                          go_wp2_with (at_builtin; go_must (refine wpList_append_own_at _ rfl _ _ 26 rfl w11.heap.size 3 i0 (.int .i64 0) 1 8 Tryd.underlying26 hti hz0 hz1' hz2 rfl (by decide) _ _ _ rfl hT3 ⟨WX.heap.size, 0, none⟩ 1 1 [.int .i64 (q : Int)] rfl rfl (cell_one_new _ _ _) (by intro u hu; simp at hu; subst hu; rfl) (by unfold maxLen; omega) (by omega) (by simp; omega) ?_; intro v13 w13 hown13 hg13 _ hat13))
                          have hoR : OwnI w13 w11.heap.size v13 (oo ++ [(q : Int)]) := by unfold OwnI; simpa using hown13
                          go_roundg (gk - 1)
                          case measure => omega
                          case rel => exact ⟨k + 1, by omega, by go_num, by rw [htk.out]; exact HRB3.out.grown HO3.out hg13, by rw [hsn2.out]; exact hoR, HB3.out.grown hg13 HB3.out.size (fun j hj => (OwnF.ty (own_cellI.2 HO3.out) hj).2)⟩
                      · have hk' : ¬ ((k : Int) < (R.length : Int)) := by omega
                        have HIS : Hid (RB wr w11.heap.size w11.heap.size n.trans.length R) := by have := hRB.out; rw [List.take_of_length_le (by omega)] at this; exact this
                        have HO : Hid (OwnI wr w11.heap.size (.slice a21 (outsE S R).length c21) (outsE S R)) := by
                          have := hO.out
                          rw [h21] at this
                          rw [List.take_of_length_le (by omega)] at this
                          exact this
                        rw [List.take_of_length_le (by omega)] at h21 hol
                        subst h21
                        have HINr := Lib.hid (HIN11.out.kept hbel)
                        have HWSr := Lib.hid (HWS11.out.kept hbel)
                        clear hRB hO
                        obtain ⟨O, hOe⟩ : ∃ O, outsE S R = O := ⟨_, rfl⟩
                        rw [hOe] at HO hol ⊢
                        have HOe := Lib.hid hOe
                        have HBr := Lib.hid hbel
                        obtain ⟨w13, rfl⟩ : ∃ w13 : World, w13 = wr := ⟨_, rfl⟩
                        clear hOe hbel
                        go_wp2_with fail
                        go_loopg [23] S.length (fun gh s23 wx => ∃ k : Nat, k + gh = S.length ∧ s23 = .int .i64 (k : Int) ∧ Below w13.heap.size w13 wx)
                        case atStart => exact ⟨0, by omega, rfl, Below.refl _ _⟩
                        case round =>
                          obtain ⟨k, hkg, rfl, hdr⟩ := hrel
                          have hB13 := HB11.out.trans (HBr.out.mono (by omega))
                          have hBd := hB13.trans (hdr.mono hB13.size)
                          have hISd := HIS.out.kept hdr
                          have hWSd := HWSr.out.kept hdr
                          have hINd := HINr.out.kept hdr
                          by_cases hk : k < S.length
                          · obtain ⟨bs, os, rfl, hbs, hcs⟩ := HSI.out.col k hk
                            rw [← Below.cellB hBd hbs] at hcs
                            have hxm := List.getElem_mem hk
                            have hxi := hSi.out _ hxm
                            obtain ⟨q, hq⟩ := Int.eq_ofNat_of_zero_le hxi.1
                            have hqn : q < n.trans.length := by have := hxi.2; omega
                            rw [hq] at hcs hxm hxi
                            have h1 := hISd.at hqn
                            have h2 := hWSd.at hqn
                            have e1 : R.contains (q : Int) = (n.tr (q : Int)).enB a := by rw [← HR.out]; exact enE_has hxi
                            have e2 : L.contains (q : Int) = (n.tr (q : Int)).enB m := by rw [← HLe.out]; exact enE_has hxi
                            have e3 := hSt.out.same HOM.out.2 (s := (q : Int)) (by rw [HSe.out]; exact hxm)
                            rw [e1, e3] at h1
                            rw [e2] at h2
                            obtain ⟨b, hb⟩ : ∃ b, (n.tr (q : Int)).enB m = b := ⟨_, rfl⟩
                            rw [hb] at h1 h2
                            clear hb e1 e2 e3 hxm hxi hq hISd hWSd hINd hBd hB13
                            cases b with
                            | true =>
                              go_upto_region 41 with fail
                              go_quiet (fail)
                              go_wp2_with fail
                              go_roundg (gk - 1)
                              case measure => omega
                              case rel => exact ⟨k + 1, by omega, by go_num, below_drewN hdr _⟩
                            | false =>
                              go_upto_region 41 with fail
                              go_quiet (fail)
                              go_wp2_with fail
                              go_roundg (gk - 1)
                              case measure => omega
                              case rel => exact ⟨k + 1, by omega, by go_num, below_drewN hdr _⟩
                          · have hk' : ¬ ((k : Int) < (S.length : Int)) := by omega
                            have hBW := hb05.trans (hBd.mono hb05.size)
                            by_cases hO0 : O.length = 0
                            · rw [hO0]
                              clear hISd hWSd hINd hBd hB13
                              go_wp2_with fail
                              go_ret
                              exact ⟨rfl, hBW⟩
                            · have dO : decide (O.length = 0) = false := decide_eq_false hO0
                              have dO' : ((O.length : Int) == 0) = false := by simp; intro h; simp [h] at hO0
                              obtain ⟨bk, ok, rfl, hbk, hck⟩ := HK.out.col i hi
                              rw [← Below.cellB hBW hbk] at hck
                              obtain ⟨z, hz⟩ : ∃ z, pk[i] = z := ⟨_, rfl⟩
                              rw [hz] at hck
                              obtain ⟨u, hu, hu2⟩ := u64_nn z
                              have hix : u % O.length < O.length := Nat.mod_lt _ (by omega)
                              have hw2 : IntKind.u64.wrap (O.length : Int) = (O.length : Int) := by
                                simp only [IntKind.wrap, IntKind.bits, IntKind.signed]
                                simp
                                omega
                              have hw3 : ((u : Int)).tmod (O.length : Int) = ((u % O.length : Nat) : Int) := Int.ofNat_tmod u O.length
                              obtain ⟨ix, hixe⟩ : ∃ ix, u % O.length = ix := ⟨_, rfl⟩
                              rw [hixe] at hix hw3
                              have hw4 : IntKind.i64.wrap (ix : Int) = (ix : Int) := by
                                simp only [IntKind.wrap, IntKind.bits, IntKind.signed]
                                simp
                                omega
                              have hw5 : IntKind.u64.wrap (ix : Int) = (ix : Int) := by
                                simp only [IntKind.wrap, IntKind.bits, IntKind.signed]
                                simp
                                omega
                              have hOi := List.getElem_mem hix
                              have hOm : ∀ y ∈ O, y ∈ R ∧ S.contains y = false := by
                                rw [← HOe.out]
                                intro y hy
                                have := List.mem_filter.1 hy
                                exact ⟨this.1, by simpa using this.2⟩
                              obtain ⟨hyR, hyS⟩ := hOm _ hOi
                              have hyi := hRi.out _ hyR
                              have HOr := Lib.hid ((HO.out.kept hdr (Nat.le_refl _)).col (B := wr.heap.size) (by omega) (Nat.le_refl _))
                              obtain ⟨bo, oo, ha21, hbo, hco⟩ := HOr.out.col ix hix
                              subst ha21
                              obtain ⟨y, hy⟩ : ∃ y, O[ix] = y := ⟨_, rfl⟩
                              rw [hy] at hco hyS hyi
                              have hA13 := HA11.out.mono (HBr.out.trans (hdr.mono HBr.out.size)) (by have := HBr.out.size; have := hdr.size; omega : w11.heap.size ≤ wr.heap.size)
                              have HFi := Lib.hid (fun V (hV : Below wr.heap.size wr V) => fire_yes_no V _ _ _ n HOM.out.1 a hSt.out.mark y hyi wr.heap.size hV.size (HN.out.mono (hBW.trans (hV.mono hBW.size)) (by have := hBW.size; omega)) (hA13.mono hV (Nat.le_refl _)))
                              have HNo : Hid (y ∉ setL n m) := by rw [HSe.out]; refine Lib.hid fun h => ?_; rw [List.contains_iff_mem.2 h] at hyS; cases hyS
                              have HYI := Lib.hid hyi
                              have hBX13 := box_up (box_up HBX5.out hB13) hdr
                              obtain ⟨d0, d1, d2, d3⟩ := box4' hBX13
                              have hltb := lt_of_block hBX13
                              have HIN3 := Lib.hid hINd
                              have HWS3 := Lib.hid hWSd
                              have HB3 := Lib.hid hBd
                              have cur := Below.refl wr.heap.size wr
                              clear hOm hOi hyR hyS hyi hy hISd hWSd hINd hBd hB13 hz hixe
                              go_upto_region 44 with fail
                              go_cut [24, 19] (fun s24 s19 wx => ∃ w14 v c r, w14 = wx ∧ s24 = v ∧ s19 = .int .i64 c ∧ OwnI w14 wr.heap.size v r ∧ Below wr.heap.size wr w14 ∧ c = ((n.tr y).fireE a).1 ∧ (c = 0 → r = ((n.tr y).fireE a).2))
                              case first =>
                                go_region_held3 (fun w' => w'.cell? ⟨W.heap.size, 0, none⟩ = some (.slice ap n.places.length cp) ∧ w'.cell? ⟨W.heap.size, 1, none⟩ = some (.slice at_ n.trans.length ct) ∧ w'.cell? ⟨W.heap.size, 2, none⟩ = some (.int .i64 n.init) ∧ w'.cell? ⟨W.heap.size, 3, none⟩ = some (.int .i64 n.final) ∧ w'.cell? ⟨bk, ok + i, none⟩ = some (.int .i64 z) ∧ w'.cell? ⟨bo, oo + ix, none⟩ = some (.int .i64 y))
                                  (first | go_keep | (refine ⟨?_, ?_, ?_, ?_, ?_, ?_⟩ <;> (rw [Below.cellB cur14 (by omega)]; assumption)))
                                  (first | (go_at_call 15; refine (HFi.out _ (by first | exact cur | exact cur.drew)).mono ?_; rintro e w14 ⟨v14, c14, r14, rfl, how14, hb14, hc14, hr14⟩; have cur14 : Below wr.heap.size wr w14 := (by first | exact cur.trans hb14 | exact cur.drew.trans hb14); have HC14 := Lib.hid (And.intro hc14 hr14); clear hc14 hr14))
                                go_wp2_with fail
                                go_meet
                                case rel => exact ⟨w14, v14, c14, r14, rfl, rfl, rfl, how14.lower (by first | exact Nat.le_refl _ | simp), cur14, HC14.out.1, HC14.out.2⟩
                              case rest =>
                                obtain ⟨w14, v14, c14, r14, rfl, rfl, rfl, how14, hb14, hc14, hr14⟩ := hcut
                                have hB14 := HB3.out.trans (hb14.mono HB3.out.size)
                                have hBW14 := hb05.trans (hB14.mono hb05.size)
                                obtain ⟨a14, k14, rfl⟩ := how14.shape
                                have HC14 := Lib.hid (And.intro hc14 hr14)
                                clear hc14 hr14
                                by_cases h0 : c14 = 0
                                · subst h0
                                  have er := HC14.out.2 rfl
                                  have hSt2 := Lib.hid (hSt.out.step HYI.out HNo.out HC14.out.1.symm)
                                  have hlr : r14.length ≤ 17592186044416 := by rw [er, len_fire, hal.out]; have := (Nt.ok_of HOM.out.1).many; omega
                                  have HA14 : Hid (Ints w14 w14.heap.size (.slice a14 r14.length k14) ((n.tr y).fireE a).2) := by rw [← er]; exact how14.col hlr (Nat.le_refl _)
                                  have HIN4 := Lib.hid (HIN3.out.kept hb14)
                                  have HWS4 := Lib.hid (HWS3.out.kept hb14)
                                  have HB4 := Lib.hid hB14
                                  clear HC14 how14 er hB14
                                  go_wp2_with fail
                                  go_roundg (pk.length - (i + 1))
                                  case measure => omega
                                  case rel => exact ⟨i + 1, _, by omega, by go_num, hSt2, HA14, HIN4, HWS4, HB4.out⟩
                                · have e1 : (c14 != 0) = true := by simpa using h0
                                  clear HC14 h0 cur hu hw2 hw3 hw4 hw5 how14 HFi HB3 HIN3 HWS3 dO dO' hO0
                                  go_wp2_with fail
                                  go_ret
                                  exact ⟨rfl, hBW14⟩
                  · by_cases hip : i < pk.length
                    · have e1 : decide (i < pk.length) = true := decide_eq_true hip
                      have e1' : decide ((i : Int) < (pk.length : Int)) = true := decide_eq_true (by omega)
                      have e2 : decide ((i : Int) < 40) = false := decide_eq_false (by omega)
                      have e2' : decide (i < 40) = false := decide_eq_false (by omega)
                      clear hi
                      go_wp2_with fail
                      go_ret
                      exact ⟨rfl, hb0r⟩
                    · have e1 : decide (i < pk.length) = false := decide_eq_false hip
                      have e1' : decide ((i : Int) < (pk.length : Int)) = false := decide_eq_false (by omega)
                      clear hi
                      go_wp2_with fail
                      go_ret
                      exact ⟨rfl, hb0r⟩
end Go.Proofs.YtbolacnpljkpbaaDoor
