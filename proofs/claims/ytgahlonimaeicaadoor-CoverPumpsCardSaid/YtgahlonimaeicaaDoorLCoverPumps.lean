/- The walk of the law CoverPumps. -/
import Derived.Test.YtgahlonimaeicaaDoorCoverPump
import Derived.Test.YtgahlonimaeicaaDoorCoverLong
import Derived.Test.YtgahlonimaeicaaDoorOpenNet
set_option maxRecDepth 100000
namespace Go.Proofs.YtgahlonimaeicaaDoor
open Go.RowKit

theorem u64_nn (x : Int) : ∃ u : Nat, IntKind.u64.wrap x = (u : Int) := by
  have h : 0 ≤ IntKind.u64.wrap x := by
    simp only [IntKind.wrap, IntKind.bits, IntKind.signed]
    simp
    exact Int.emod_nonneg _ (by decide)
  exact Int.eq_ofNat_of_zero_le h
theorem box_up {w w' : World} {N : Nat} {o : Obj} (h : w.heap[N]? = some o) (hb : Below w.heap.size w w') : w'.heap[N]? = some o := (hb.block N (lt_of_block h)).trans h
theorem growR_cases (n : Nt) (most : Int) : (∃ c, growR n most = .inl c ∧ (c = 1 ∨ c = 170)) ∨ (∃ l, growR n most = .inr l ∧ n.okB = true ∧ 1 ≤ most ∧ most ≤ 4096 ∧ growE n most.toNat = some l) := by
  unfold growR
  cases hok : n.okB with
  | false => exact Or.inl ⟨1, by simp, Or.inl rfl⟩
  | true =>
    by_cases h1 : most < 1
    · exact Or.inl ⟨1, by simp [h1], Or.inl rfl⟩
    · by_cases h2 : 4096 < most
      · exact Or.inl ⟨1, by simp [h1, h2], Or.inl rfl⟩
      · cases e : growE n most.toNat with
        | none => exact Or.inl ⟨170, by simp [h1, h2], Or.inr rfl⟩
        | some l => exact Or.inr ⟨l, by simp [h1, h2], rfl, by omega, by omega, rfl⟩

theorem wayE_mem {l : List Nd} (hup : Up l) : ∀ (i : Nat), i < l.length → ∀ d ∈ wayE l i, d ∈ l := by
  intro i
  induction i using Nat.strongRecOn with
  | ind i ih =>
    intro hi d hd
    have h1 := hup i hi
    by_cases h0 : l[i].par < 0
    · rw [way_root hup hi h0] at hd
      obtain rfl : d = l[i] := by simpa using hd
      exact List.getElem_mem hi
    · obtain ⟨a, ha⟩ := Int.eq_ofNat_of_zero_le (show 0 ≤ l[i].par by omega)
      rw [way_kid hup hi ha, List.mem_append] at hd
      rcases hd with hd | hd
      · exact ih a (by omega) (by omega) d hd
      · obtain rfl : d = l[i] := by simpa using hd
        exact List.getElem_mem hi

theorem pumps_own (w : World) (vp vt : Value) (n : Nt) (hn : NtR w w.heap.size vp vt n) (base : Nat) (v : Value) (A : List (Nd × Value)) (how : OwnN w base v A) (P : List Nd) (hA : A.map Prod.fst = P) (ms : List Int) (H : PumpIn n P ms) (hmk : ∀ d ∈ P, d.mark.length ≤ 4096) (times : Nat) (ht : times ≤ 4) (t : Int) (ht2 : (times : Int) = t) :
    Calls Tryd.prog 33 #[.agg #[vp, vt, .int .i64 n.init, .int .i64 n.final], v, .int .i64 t] w fun e w' => e = .returned (.bool true) ∧ Below w.heap.size w w' := by
  subst ht2
  have h2 := H.two
  have hl : P.length = A.length := by rw [← hA]; simp
  rcases how.shape with ⟨rfl, rfl⟩ | ⟨g, cap, rfl, hg0, hg1⟩
  · rw [hl] at h2; simp at h2
  have hr := how.read (Nat.le_refl _) (fun x hx => hmk _ (by rw [← hA]; exact List.mem_map_of_mem hx))
  rw [hA] at hr
  rw [← hl]
  exact pumps_any w w.heap.size (Nat.le_refl _) vp vt n hn _ cap P hr ms H times ht

set_option maxHeartbeats 8000000 in
theorem coverPumps_walk (W : World) (htab : Pow10 W.heap.size W) (vp vt : Value) (n : Nt) (hn : NtR W W.heap.size vp vt n) (_gn : NtI n) (a : Int) (_ga : (Lit.int .i64 a).wf = true) :
    Calls Tryd.prog 8 #[.agg #[vp, vt, .int .i64 n.init, .int .i64 n.final], .int .i64 a] W fun e w' => e = .returned (.bool true) ∧ Below W.heap.size W w' := by
  have hbA := (Below.refl W.heap.size W).alloc (Nat.le_refl _) (.cells #[vp, vt, .int .i64 n.init, .int .i64 n.final] 25)
  have hboxA := heap_alloc_new W (.cells #[vp, vt, .int .i64 n.init, .int .i64 n.final] 25)
  obtain ⟨W1, hW1⟩ : ∃ W1, W.alloc (.cells #[vp, vt, .int .i64 n.init, .int .i64 n.final] 25) = W1 := ⟨_, rfl⟩
  have hs1 : W1.heap.size = W.heap.size + 1 := by rw [← hW1]; exact World.size_alloc _ _
  rw [hW1] at hbA hboxA
  obtain ⟨ap, cp, rfl⟩ := hn.1.val
  obtain ⟨at_, ct, rfl⟩ := hn.2.val
  obtain ⟨u, hu⟩ := u64_nn a
  obtain ⟨c, hc, hc4⟩ : ∃ c : Nat, (u : Int) % 4 = (c : Int) ∧ c < 4 := ⟨u % 4, by omega, by omega⟩
  have t1 := tab_up (htab.on hbA) (show W.heap.size ≤ W1.heap.size by omega)
  go_enter Tryd.func8, Tryd.ntmps8
  go_wp2_with fail
  refine (works_any _ _ (Nat.le_refl _) t1).mono ?_
  rintro e w2 ⟨rfl, hb2⟩
  have B2 := hbA.trans (hb2.mono (by omega))
  have hz2 := hb2.size
  have hn2 := hn.mono B2 (show W.heap.size ≤ w2.heap.size by omega)
  have hbox2 := box_up hboxA hb2
  obtain ⟨c0, c1, c2, c3⟩ := box4 hbox2
  cases hl : longB n with
  | true =>
    go_wp2_with (first | (go_at_call 11; refine (long_is _ _ _ n _ hn2 hl).mono ?_; rintro e w3 ⟨rfl, hb3⟩; refine Hid.out ?_))
    refine Lib.hid ?_
    have B3 := B2.trans (hb3.mono B2.size)
    have t3 := tab_up (htab.on B3) (show W.heap.size ≤ w3.heap.size by have := B3.size; omega)
    go_wp2_with fail
    refine (works_any _ _ (Nat.le_refl _) t3).mono ?_
    rintro e w4 ⟨rfl, hb4⟩
    go_wp2_with fail
    go_ret
    exact ⟨rfl, B3.trans (hb4.mono B3.size)⟩
  | false =>
    go_wp2_with (first | (go_at_call 11; refine (long_is _ _ _ n _ hn2 hl).mono ?_; rintro e w3 ⟨rfl, hb3⟩; refine Hid.out ?_))
    refine Lib.hid ?_
    have B3 := B2.trans (hb3.mono B2.size)
    have hz3 := hb3.size
    have hn3 := hn2.mono hb3 (show w2.heap.size ≤ w3.heap.size by omega)
    have hbox3 := box_up hbox2 hb3
    clear c0 c1 c2 c3 hl
    obtain ⟨c0, c1, c2, c3⟩ := box4 hbox3
    have t3 := tab_up (htab.on B3) (show W.heap.size ≤ w3.heap.size by have := B3.size; omega)
    rcases growR_cases n 4096 with ⟨ec, hec, hc2⟩ | ⟨l, hec, hok, -, -, hg⟩
    · have G1 := Lib.hid (grow_no _ _ (Nat.le_refl _) _ _ n hn3 _ t3 hec)
      have hcz : (ec != 0) = true := by rcases hc2 with rfl | rfl <;> rfl
      clear hec hc2
      go_wp2_with (first | (go_at_call 12; refine G1.out.mono ?_; rintro e w4 ⟨rfl, hb4⟩; refine Hid.out ?_))
      refine Lib.hid ?_
      go_wp2_with fail
      go_ret
      exact ⟨rfl, B3.trans (hb4.mono B3.size)⟩
    · have G1 := Lib.hid (grow_ok _ _ (Nat.le_refl _) _ _ n hn3 _ t3 hec)
      have hinv := growE_inv hg (by omega)
      have HK := Lib.hid hinv.1
      have HD := Lib.hid hinv.2
      have OK := Lib.hid (Nt.ok_of hok)
      have hll : l.length ≤ 4096 := growF_most _ _ _ _ hg (by simp [rootE])
      have hpos := hinv.1.pos
      have HOKB := Lib.hid hok
      clear hec hg hok hinv
      go_wp2_with (first | (go_at_call 12; refine G1.out.mono ?_; rintro e w5 ⟨p5, rfl, hT5, hG5, hb5⟩; refine Hid.out ?_))
      refine Lib.hid ?_
      have HG := Lib.hid hG5
      have hz5 := hb5.size
      have hbox5 := box_up hbox3 hb5
      have B5 := B3.trans (hb5.mono B3.size)
      have hn5 := hn.mono B5 (show W.heap.size ≤ w5.heap.size by have := B5.size; omega)
      clear c0 c1 c2 c3 hboxA hbox2 hbox3 hn2 hn3 t1 t3 hb2 hb3 hb5 B2 B3 hbA hG5 G1
      cases hbd : boundedB l with
      | true =>
        go_wp2_with (go_at_call 22; refine (bounded_is _ _ p5 l hT5 (Nat.le_refl _) hbd).mono ?_; rintro e w6 ⟨rfl, hb6⟩; refine Hid.out ?_)
        refine Lib.hid ?_
        have hz6 := hb6.size
        have hT6 := hT5.mono hb6 (Nat.le_refl _)
        go_wp2_with (go_at_call 22; refine (bounded_is _ _ p5 l hT6 hz6 hbd).mono ?_; rintro e w7 ⟨rfl, hb7⟩; refine Hid.out ?_)
        refine Lib.hid ?_
        go_wp2_with fail
        go_ret
        exact ⟨rfl, B5.trans ((hb6.trans (hb7.mono hz6)).mono B5.size)⟩
      | false =>
        go_wp2_with (go_at_call 22; refine (bounded_is _ _ p5 l hT5 (Nat.le_refl _) hbd).mono ?_; rintro e w6 ⟨rfl, hb6⟩; refine Hid.out ?_)
        refine Lib.hid ?_
        have hz6 := hb6.size
        have HBD := Lib.hid hbd
        clear hbd
        have HCI := Lib.hid (show (1 : Int) + (c : Int) = ((c + 1 : Nat) : Int) by omega)
        go_wp2_with fail
        go_loopg [7] (l.length + 1) (fun gh s7 wr => ∃ i : Nat, i + gh = l.length + 1 ∧ s7 = .int .i64 (i : Int) ∧ i ≤ l.length ∧ Hid (∀ j, j < i → (-1 : Int) ∉ (ndAt l j).mark) ∧ Below w5.heap.size w5 wr)
        case atStart => exact ⟨0, by omega, rfl, by omega, fun j h => by omega, hb6⟩
        case round =>
          obtain ⟨i, hig, rfl, hil, hNo, hbr⟩ := hrel
          have hzr := hbr.size
          have hTr := hT5.mono hbr (Nat.le_refl _)
          by_cases hi : i < l.length
          · have hiI : (i : Int) < (l.length : Int) := by omega
            have HN := node_any _ _ p5 l hTr hzr i hi
            have hnd : Hid (ndAt l i = l[i]) := ndAt_eq hi
            obtain ⟨x, hx⟩ : ∃ x, l[i] = x := ⟨_, rfl⟩
            rw [hx] at HN hnd
            have HN' := Lib.hid HN
            have HLen := Lib.hid (show x.mark.length ≤ 4096 by rw [← hx, HG.out.len _ (List.getElem_mem hi)]; have := OK.out.many; omega)
            clear HN hx
            go_wp2_with (first | (go_at_call 13; refine (len_any _ _ _ l (by assumption)).mono ?_; rintro e w8 ⟨rfl, rfl⟩; refine Hid.out ?_))
            refine Lib.hid ?_
            go_wp2_with (first | (go_at_call 14; refine HN'.out.mono ?_; rintro e w8 ⟨v8, rfl, how8, hb8⟩; refine Hid.out ?_))
            refine Lib.hid ?_
            have hz8 := hb8.size
            obtain ⟨a8, c8, rfl⟩ := how8.shape
            obtain ⟨W8, hW8⟩ : ∃ W8, w8.alloc (.cells #[.int .i64 x.par, .int .i64 x.tr, .slice a8 x.mark.length c8, .int .i64 x.again] 36) = W8 := ⟨_, rfl⟩
            have hbW8 : Below w8.heap.size w8 W8 := by rw [← hW8]; exact (Below.refl _ _).alloc (Nat.le_refl _) _
            have hxW8 : W8.heap[w8.heap.size]? = some (.cells #[.int .i64 x.par, .int .i64 x.tr, .slice a8 x.mark.length c8, .int .i64 x.again] 36) := by rw [← hW8]; exact heap_alloc_new _ _
            have hlen := HLen.out
            have hzW8 := hbW8.size
            have hI8 : Ints W8 W8.heap.size (.slice a8 x.mark.length c8) x.mark := (how8.kept hbW8 (Nat.le_refl _)).col (by omega) (Nat.le_refl _)
            have h58 := hbr.trans ((hb8.trans (hbW8.mono hz8)).mono hzr)
            have HM := many_any _ _ _ _ hI8
            obtain ⟨q0, q1, q2, q3⟩ := box4 hxW8
            clear hxW8
            cases hmm : x.mark.any (· == -1) with
            | false =>
              rw [hmm] at HM
              have HM' := Lib.hid HM
              have hNo2 : Hid (∀ j, j < i + 1 → (-1 : Int) ∉ (ndAt l j).mark) := fun j hj => by
                by_cases e : j = i
                · subst e
                  rw [hnd.out]
                  intro hmem
                  have hno := List.any_eq_false.1 hmm (-1) hmem
                  simp at hno
                · exact hNo.out j (by omega)
              clear hmm HM
              go_wp2_with (first | (go_at_call 32; refine HM'.out.mono ?_; rintro e w9 ⟨rfl, rfl⟩; refine Hid.out ?_))
              refine Lib.hid ?_
              go_wp2_with fail
              go_roundg (gk - 1)
              case measure => omega
              case rel => exact ⟨i + 1, by omega, by go_num, by omega, hNo2, h58⟩
            | true =>
              rw [hmm] at HM
              have HM' := Lib.hid HM
              have hmem : (-1 : Int) ∈ (ndAt l i).mark := by
                rw [hnd.out]
                obtain ⟨y, hy, hy2⟩ := List.any_eq_true.1 hmm
                have : y = -1 := by simpa using hy2
                exact this ▸ hy
              obtain ⟨ms, pl1, pl2, pl3, pl4, pl5⟩ := pump_law HOKB.out HK.out HG.out hi hmem hNo.out
              have HPI := Lib.hid (PumpIn.mk HOKB.out pl1 pl2 pl3 pl4 pl5)
              have hmk : ∀ d ∈ wayE l i, d.mark.length ≤ 4096 := fun d hd => by
                have : d ∈ l := wayE_mem HG.out.up i hi d hd
                rw [HG.out.len _ this]; have := OK.out.many; omega
              have HMK := Lib.hid hmk
              have hz58 := h58.size
              have HT8 := hT5.mono h58 (Nat.le_refl _)
              have hD : Below W8.heap.size W8 W8.drew := (Below.refl _ _).drew
              have HWY := Lib.hid (way_any W8.drew _ p5 l (HT8.mono (hD.mono hz58) (Nat.le_refl _)) hz58 HG.out.up i hi)
              have hn8 := Lib.hid (hn5.mono h58 hz58)
              have hx8 := box_up hbox5 h58
              have f0 : W.heap.size < W8.heap.size := lt_of_block hx8
              obtain ⟨c0, c1, c2, c3⟩ := box4 hx8
              clear hmm HM hmem pl1 pl2 pl3 pl4 pl5 hmk
              go_wp2_with (first | (go_at_call 32; refine HM'.out.mono ?_; rintro e w9 ⟨rfl, rfl⟩; refine Hid.out ?_))
              refine Lib.hid ?_
              go_wp2_with fail
              have hm4 : ((u : Int)).tmod 4 = (c : Int) := by rw [show ((u : Int)).tmod 4 = ((u % 4 : Nat) : Int) from Int.ofNat_tmod u 4]; omega
              have hw4 : IntKind.u64.wrap (c : Int) = (c : Int) := by rcases (by omega : c = 0 ∨ c = 1 ∨ c = 2 ∨ c = 3) with rfl | rfl | rfl | rfl <;> rfl
              have hv4 : IntKind.i64.wrap (c : Int) = (c : Int) := by rcases (by omega : c = 0 ∨ c = 1 ∨ c = 2 ∨ c = 3) with rfl | rfl | rfl | rfl <;> rfl
              have hx4 : IntKind.i64.wrap (1 + (c : Int)) = ((c + 1 : Nat) : Int) := by rcases (by omega : c = 0 ∨ c = 1 ∨ c = 2 ∨ c = 3) with rfl | rfl | rfl | rfl <;> rfl
              go_region_held3 (fun w' => w'.cell? ⟨W.heap.size, 0, none⟩ = some (.slice ap n.places.length cp) ∧ w'.cell? ⟨W.heap.size, 1, none⟩ = some (.slice at_ n.trans.length ct) ∧ w'.cell? ⟨W.heap.size, 2, none⟩ = some (.int .i64 n.init) ∧ w'.cell? ⟨W.heap.size, 3, none⟩ = some (.int .i64 n.final))
                (first | go_keep | (refine ⟨?_, ?_, ?_, ?_⟩ <;> (rw [Below.cellB hbA9 (by omega)]; assumption)))
                (first
                  | (go_at_call 34; refine HWY.out.mono ?_; rintro e wA ⟨v9, A9, rfl, hA9, how9, hb9⟩; have hbA9 : Below W8.heap.size W8 wA := hD.trans (hb9.mono hD.size))
                  | (go_at_call 33; refine (pumps_own wA _ _ n (hn8.out.mono hbA9 hbA9.size) _ v9 A9 how9 _ hA9 ms HPI.out HMK.out (c + 1) (by omega) _ (by omega)).mono ?_; rintro e wB ⟨rfl, hbB⟩; have hbA9 := hbA9.trans (hbB.mono hbA9.size)))
              go_wp2_with fail
              go_ret
              exact ⟨rfl, B5.trans ((h58.trans (hbA9.mono hz58)).mono B5.size)⟩
          · have hil2 : i = l.length := by omega
            subst hil2
            exfalso
            have hb := HBD.out
            unfold boundedB at hb
            rw [Bool.not_eq_false', List.any_eq_true] at hb
            obtain ⟨d, hd, hd2⟩ := hb
            obtain ⟨j, hj, rfl⟩ := List.getElem_of_mem hd
            exact hNo.out j hj (by rw [ndAt_eq hj]; simpa using hd2)

end Go.Proofs.YtgahlonimaeicaaDoor
