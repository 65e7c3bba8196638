/- The walk of the law CoverTree. -/
import Derived.Test.YtgahlonimaeicaaDoorCoverFires
import Derived.Test.YtgahlonimaeicaaDoorCoverLong
import Derived.Test.YtgahlonimaeicaaDoorOpenNet
import Derived.Deep.OwnRows
set_option maxRecDepth 100000
namespace Go.Proofs.YtgahlonimaeicaaDoor
open Go.RowKit

theorem u64_nn (x : Int) : ∃ u : Nat, IntKind.u64.wrap x = (u : Int) := by
  have h : 0 ≤ IntKind.u64.wrap x := by
    simp only [IntKind.wrap, IntKind.bits, IntKind.signed]
    simp
    exact Int.emod_nonneg _ (by decide)
  exact Int.eq_ofNat_of_zero_le h
theorem box_up {w w' : World} {N : Nat} {o : Obj} (h : w.heap[N]? = some o) (hb : Below w.heap.size w w') : w'.heap[N]? = some o := (hb.block N (lt_of_block h)).trans h
theorem growR_cases (n : Nt) (most : Int) : (∃ c, growR n most = .inl c ∧ (c = 1 ∨ c = 170)) ∨ (∃ l, growR n most = .inr l ∧ n.okB = true ∧ 1 ≤ most ∧ most ≤ 4096 ∧ growE n most.toNat = some l) := by
  unfold growR
  cases hok : n.okB with
  | false => exact Or.inl ⟨1, by simp, Or.inl rfl⟩
  | true =>
    by_cases h1 : most < 1
    · exact Or.inl ⟨1, by simp [h1], Or.inl rfl⟩
    · by_cases h2 : 4096 < most
      · exact Or.inl ⟨1, by simp [h1, h2], Or.inl rfl⟩
      · cases e : growE n most.toNat with
        | none => exact Or.inl ⟨170, by simp [h1, h2], Or.inr rfl⟩
        | some l => exact Or.inr ⟨l, by simp [h1, h2], rfl, by omega, by omega, rfl⟩

/-- What has been counted of the kids. -/
def Counted (l : List Nd) (i : Nat) (K : List Int) : Prop := K.length = l.length ∧ ∀ a, a < l.length → getI K (a : Int) = ((kidsOf (l.take i) a).length : Int)
theorem counted_start (l : List Nd) : Counted l 0 (List.replicate l.length 0) := by
  refine ⟨by simp, fun a ha => ?_⟩
  rw [getI_eq (by simpa using ha)]
  simp [kidsOf]
theorem counted_root {n : Nt} {l : List Nd} (hK : KidOk n l) {K : List Int} (h : Counted l 0 K) : Counted l 1 K := by
  refine ⟨h.1, fun a ha => ?_⟩
  rw [h.2 a ha, kidsOf_take hK.pos, if_neg]
  · rfl
  · rw [hK.root]
    show ¬ ((-1 : Int) = (a : Int))
    omega
theorem counted_step {l : List Nd} {i a : Nat} (hi : i < l.length) (ha : a < l.length) (hp : (ndAt l i).par = (a : Int)) {K : List Int} (h : Counted l i K) : Counted l (i + 1) (K.set a (getI K (a : Int) + 1)) := by
  refine ⟨by rw [List.length_set]; exact h.1, fun b hb => ?_⟩
  have hKa : a < K.length := by rw [h.1]; exact ha
  have hKb : b < K.length := by rw [h.1]; exact hb
  rw [kidsOf_take hi, hp, getI_eq (by rw [List.length_set]; exact hKb), List.getElem_set]
  have := h.2 b hb
  rw [getI_eq hKb] at this
  by_cases e : a = b
  · subst e
    rw [if_pos rfl, if_pos rfl, getI_eq hKa, this]
    omega
  · rw [if_neg e, if_neg (by omega), this]
    omega

set_option maxHeartbeats 8000000 in
theorem coverTree_walk (W : World) (htab : Pow10 W.heap.size W) (vp vt : Value) (n : Nt) (hn : NtR W W.heap.size vp vt n) (_gn : NtI n) (a : Int) (_ga : (Lit.int .i64 a).wf = true) :
    Calls Tryd.prog 3 #[.agg #[vp, vt, .int .i64 n.init, .int .i64 n.final], .int .i64 a] W fun e w' => e = .returned (.bool true) ∧ Below W.heap.size W w' := by
  have hbA := (Below.refl W.heap.size W).alloc (Nat.le_refl _) (.cells #[vp, vt, .int .i64 n.init, .int .i64 n.final] 25)
  have hboxA := heap_alloc_new W (.cells #[vp, vt, .int .i64 n.init, .int .i64 n.final] 25)
  obtain ⟨W1, hW1⟩ : ∃ W1, W.alloc (.cells #[vp, vt, .int .i64 n.init, .int .i64 n.final] 25) = W1 := ⟨_, rfl⟩
  have hs1 : W1.heap.size = W.heap.size + 1 := by rw [← hW1]; exact World.size_alloc _ _
  rw [hW1] at hbA hboxA
  obtain ⟨ap, cp, rfl⟩ := hn.1.val
  obtain ⟨at_, ct, rfl⟩ := hn.2.val
  obtain ⟨u, hu⟩ := u64_nn a
  obtain ⟨c, hc, hc4⟩ : ∃ c : Nat, (u : Int) % 500 = (c : Int) ∧ c < 500 := ⟨u % 500, by omega, by omega⟩
  have t1 := tab_up (htab.on hbA) (show W.heap.size ≤ W1.heap.size by omega)
  go_enter Tryd.func3, Tryd.ntmps3
  go_wp2_with fail
  refine (works_any _ _ (Nat.le_refl _) t1).mono ?_
  rintro e w2 ⟨rfl, hb2⟩
  have B2 := hbA.trans (hb2.mono (by omega))
  have hz2 := hb2.size
  have hn2 := hn.mono B2 (show W.heap.size ≤ w2.heap.size by omega)
  have hbox2 := box_up hboxA hb2
  obtain ⟨c0, c1, c2, c3⟩ := box4 hbox2
  cases hl : longB n with
  | true =>
    go_wp2_with (first | (go_at_call 11; refine (long_is _ _ _ n _ hn2 hl).mono ?_; rintro e w3 ⟨rfl, hb3⟩; refine Hid.out ?_))
    refine Lib.hid ?_
    have B3 := B2.trans (hb3.mono B2.size)
    have t3 := tab_up (htab.on B3) (show W.heap.size ≤ w3.heap.size by have := B3.size; omega)
    go_wp2_with fail
    refine (works_any _ _ (Nat.le_refl _) t3).mono ?_
    rintro e w4 ⟨rfl, hb4⟩
    go_wp2_with fail
    go_ret
    exact ⟨rfl, B3.trans (hb4.mono B3.size)⟩
  | false =>
    go_wp2_with (first | (go_at_call 11; refine (long_is _ _ _ n _ hn2 hl).mono ?_; rintro e w3 ⟨rfl, hb3⟩; refine Hid.out ?_))
    refine Lib.hid ?_
    have B3 := B2.trans (hb3.mono B2.size)
    have hz3 := hb3.size
    have hn3 := hn2.mono hb3 (show w2.heap.size ≤ w3.heap.size by omega)
    have hbox3 := box_up hbox2 hb3
    clear c0 c1 c2 c3 hl
    obtain ⟨c0, c1, c2, c3⟩ := box4 hbox3
    have t3 := tab_up (htab.on B3) (show W.heap.size ≤ w3.heap.size by have := B3.size; omega)
    rcases growR_cases n (1 + (c : Int)) with ⟨ec, hec, hc2⟩ | ⟨l, hec, hok, -, -, hg⟩
    · have G1 := Lib.hid (grow_no _ _ (Nat.le_refl _) _ _ n hn3 _ t3 hec)
      have hcz : (ec != 0) = true := by rcases hc2 with rfl | rfl <;> rfl
      clear hec hc2
      go_wp2_with (first | (go_at_call 12; refine G1.out.mono ?_; rintro e w4 ⟨rfl, hb4⟩; refine Hid.out ?_))
      refine Lib.hid ?_
      go_wp2_with fail
      go_ret
      exact ⟨rfl, B3.trans (hb4.mono B3.size)⟩
    · have G1 := Lib.hid (grow_ok _ _ (Nat.le_refl _) _ _ n hn3 _ t3 hec)
      have hinv := growE_inv hg (by omega)
      have HK := Lib.hid hinv.1
      have HD := Lib.hid hinv.2
      have OK := Lib.hid (Nt.ok_of hok)
      have hll : l.length ≤ 4096 := Nat.le_trans (growF_most _ _ _ _ hg (by simp [rootE]; omega)) (by omega)
      have hpos := hinv.1.pos
      clear hec hg hok hinv
      go_wp2_with (first | (go_at_call 12; refine G1.out.mono ?_; rintro e w5 ⟨p5, rfl, hT5, hG5, hb5⟩; refine Hid.out ?_))
      refine Lib.hid ?_
      have HG := Lib.hid hG5
      have hz5 := hb5.size
      have hbox5 := box_up hbox3 hb5
      have B5 := B3.trans (hb5.mono B3.size)
      have hn5 := hn.mono B5 (show W.heap.size ≤ w5.heap.size by have := B5.size; omega)
      clear c0 c1 c2 c3 hboxA hbox2 hbox3 hn2 hn3 t1 t3 hb2 hb3 hb5 B2 B3 hbA hG5 G1
      have hmk := run_make_row' (P := Tryd.prog) 33 3 (.int .i64 0) 8 Tryd.underlying33 info_int rfl .i64 .i64 l.length (by omega) (by omega)
      go_wp2_with (go_at_call 13; refine (len_any _ _ _ l (by assumption)).mono ?_; rintro e w8 ⟨rfl, rfl⟩)
      obtain ⟨W5, hW5⟩ : ∃ W5, w5.alloc (.cells (madeCells #[Value.int .i64 0] l.length) 3) = W5 := ⟨_, rfl⟩
      have hbW5 : Below w5.heap.size w5 W5 := by rw [← hW5]; exact (Below.refl _ _).alloc (Nat.le_refl _) _
      have hkids : OwnI W5 w5.heap.size (.slice (some ⟨w5.heap.size, 0, none⟩) l.length l.length) (List.replicate l.length 0) := by
        have := World.ownsRow_lit (base := w5.heap.size) (e := 3) (size := 1) w5 (madeCells #[Value.int .i64 0] l.length) l.length (Nat.le_refl _) (by unfold maxLen; omega) (by simp [size_madeCells])
        rw [toList_madeCells_one, hW5] at this
        unfold OwnI
        simpa using this
      have HC0 := Lib.hid (counted_start l)
      rw [hW5]
      clear hW5 hmk
      go_loopg [8] l.length (fun gh s8 wr => ∃ (i : Nat) (K : List Int), i + gh = l.length ∧ s8 = .int .i64 (i : Int) ∧ Hid (Counted l i K) ∧ OwnI wr w5.heap.size (.slice (some ⟨w5.heap.size, 0, none⟩) l.length l.length) K ∧ Below w5.heap.size w5 wr)
      case atStart => exact ⟨0, _, by omega, rfl, HC0, hkids, hbW5⟩
      case round =>
        clear hkids hbW5 HC0
        obtain ⟨i, K, hig, rfl, hCt, how, hbr⟩ := hrel
        have hzr := hbr.size
        have hTr := hT5.mono hbr hzr
        have hnr := hn5.mono hbr hzr
        have Br := B5.trans (hbr.mono B5.size)
        have hboxr := box_up hbox5 hbr
        by_cases hi : i < l.length
        · go_wp2_with (go_at_call 13; refine (len_any _ _ _ l (by assumption)).mono ?_; rintro e w8 ⟨rfl, rfl⟩; refine Hid.out ?_)
          refine Lib.hid ?_
          rcases Nat.eq_zero_or_pos i with hi0 | hi0
          · subst hi0
            have hroot : l[0] = ⟨-1, -1, oneL n.places.length n.init, -1⟩ := by rw [← ndAt_eq hi]; exact HK.out.root
            have HN1 := Lib.hid (node_is _ _ p5 l hTr (Nat.le_refl _) 0 hi hroot rfl)
            have HR1 := Lib.hid (counted_root HK.out hCt.out)
            have hli : decide ((0 : Int) < (l.length : Int)) = true := decide_eq_true (by omega)
            clear hroot
            go_wp2_with (first | (go_at_call 14; refine HN1.out.mono ?_; rintro e w8 ⟨v8, rfl, how8, hb8⟩; refine Hid.out ?_))
            refine Lib.hid ?_
            have hz8 := hb8.size
            obtain ⟨a8, c8, rfl⟩ := how8.shape
            obtain ⟨W8, hW8⟩ : ∃ W8, w8.alloc (.cells #[.int .i64 (-1), .int .i64 (-1), .slice a8 (oneL n.places.length n.init).length c8, .int .i64 (-1)] 36) = W8 := ⟨_, rfl⟩
            have hbW8 : Below w8.heap.size w8 W8 := by rw [← hW8]; exact (Below.refl _ _).alloc (Nat.le_refl _) _
            have hsW8 : W8.heap.size = w8.heap.size + 1 := by rw [← hW8]; exact World.size_alloc _ _
            have hxW8 : W8.heap[w8.heap.size]? = some (.cells #[.int .i64 (-1), .int .i64 (-1), .slice a8 (oneL n.places.length n.init).length c8, .int .i64 (-1)] 36) := by rw [← hW8]; exact heap_alloc_new _ _
            have h38 := hb8.trans (hbW8.mono hz8)
            obtain ⟨q0, q1, q2, q3⟩ := box4 hxW8
            have how' := how.kept h38 (Nat.le_refl _)
            go_wp2_with fail
            go_roundg (gk - 1)
            case measure => omega
            case rel => exact ⟨1, K, by omega, by go_num, HR1, how', hbr.trans (h38.mono hzr)⟩
          · obtain ⟨pa, k, hS⟩ := kid_said HK.out hi0 hi
            have hpl : pa < l.length := by have := hS.lt; omega
            obtain ⟨mk, hmk⟩ : ∃ mk, (ndAt l i).mark = mk := ⟨_, rfl⟩
            obtain ⟨ag, hag⟩ : ∃ ag, (ndAt l i).again = ag := ⟨_, rfl⟩
            obtain ⟨pm, hpm⟩ : ∃ pm, (ndAt l pa).mark = pm := ⟨_, rfl⟩
            obtain ⟨pp, hpp⟩ : ∃ pp, (ndAt l pa).par = pp := ⟨_, rfl⟩
            obtain ⟨ptr, hptr⟩ : ∃ ptr, (ndAt l pa).tr = ptr := ⟨_, rfl⟩
            have hxi : l[i] = ⟨(pa : Int), (k : Int), mk, ag⟩ := by
              rw [← ndAt_eq hi, ← hS.par, ← hS.tr, ← hmk, ← hag]
            have hxp : l[pa] = ⟨pp, ptr, pm, -1⟩ := by
              rw [← ndAt_eq hpl, ← hpp, ← hptr, ← hpm, ← hS.first]
            have hlt := hS.lt
            have hkk := hS.kk
            have hen : (n.tr (k : Int)).enB pm = true := by rw [← hpm]; exact hS.en
            have hcov : wcoversB mk ((n.tr (k : Int)).wideE pm) = true := by rw [← hmk, ← hpm]; exact hS.cov
            have hagr := hS.again
            rw [hag] at hagr
            have hpml : pm.length = n.places.length := by rw [← hpm, ndAt_eq hpl]; exact HG.out.len _ (List.getElem_mem hpl)
            have hmkl : mk.length = n.places.length := by rw [← hmk, ndAt_eq hi]; exact HG.out.len _ (List.getElem_mem hi)
            have hpw : Wide (1 + 8192 * (pa : Int)) pm := by rw [← hpm, ndAt_eq hpl]; exact HG.out.wide pa hpl
            have hCt2 := Lib.hid (counted_step hi hpl hS.par hCt.out)
            have hKl : pa < K.length := by rw [hCt.out.1]; exact hpl
            obtain ⟨cnt, hcnt, hcnt4⟩ : ∃ cnt : Nat, K[pa] = (cnt : Int) ∧ cnt ≤ 4096 := by
              refine ⟨_, by rw [← getI_eq hKl]; exact hCt.out.2 pa hpl, ?_⟩
              refine Nat.le_trans ?_ hll
              unfold kidsOf
              rw [List.length_map]
              exact Nat.le_trans (List.length_filter_le _ _) (by simp; omega)
            rw [getI_eq hKl, hcnt] at hCt2
            have htr : n.tr (k : Int) = n.trans[k] := by simp [Nt.tr, hkk]
            have hmem := List.getElem_mem hkk
            have hin := OK.out.inn _ hmem
            have hout := OK.out.out _ hmem
            have hmany := OK.out.many
            have htwo := OK.out.two
            rw [← htr] at hin hout
            have hinl := rising_le hin.2 hin.1
            have houl := rising_le hout.2 hout.1
            have HN1 := Lib.hid (node_is _ _ p5 l hTr (Nat.le_refl _) i hi hxi rfl)
            have d1 : decide ((i : Int) ≤ (pa : Int)) = false := decide_eq_false (by omega)
            have d2 : ((i : Int) == 0) = false := by rw [beq_eq_false_iff_ne]; omega
            have d3 : ((pa : Int) == -1) = false := by rw [beq_eq_false_iff_ne]; omega
            have d4 : decide ((i : Int) ≤ ag) = false := decide_eq_false (by omega)
            have HS := Lib.hid hS
            have HXP := Lib.hid hxp
            have HLEN := Lib.hid (And.intro hpml hmkl)
            have HIO := Lib.hid (And.intro hin hout)
            have HTR := Lib.hid htr
            have HEC := Lib.hid (And.intro hen hcov)
            clear hS hmk hag hpm hpp hptr hxi hxp hen hcov hpml hmkl hin hout htr hmem
            go_wp2_with (first | (go_at_call 14; refine HN1.out.mono ?_; rintro e w8 ⟨v8, rfl, how8, hb8⟩; refine Hid.out ?_))
            refine Lib.hid ?_
            have hz8 := hb8.size
            obtain ⟨a8, c8, rfl⟩ := how8.shape
            obtain ⟨W8, hW8⟩ : ∃ W8, w8.alloc (.cells #[.int .i64 (pa : Int), .int .i64 (k : Int), .slice a8 mk.length c8, .int .i64 ag] 36) = W8 := ⟨_, rfl⟩
            have hbW8 : Below w8.heap.size w8 W8 := by rw [← hW8]; exact (Below.refl _ _).alloc (Nat.le_refl _) _
            have hsW8 : W8.heap.size = w8.heap.size + 1 := by rw [← hW8]; exact World.size_alloc _ _
            have hxW8 : W8.heap[w8.heap.size]? = some (.cells #[.int .i64 (pa : Int), .int .i64 (k : Int), .slice a8 mk.length c8, .int .i64 ag] 36) := by rw [← hW8]; exact heap_alloc_new _ _
            have h38 := hb8.trans (hbW8.mono hz8)
            have hz38 := h38.size
            have hT8 := hTr.mono h38 hz38
            obtain ⟨q0, q1, q2, q3⟩ := box4 hxW8
            have HN2 := Lib.hid (node_is _ _ p5 l hT8 (Nat.le_refl _) pa hpl HXP.out rfl)
            go_wp2_with (first | (go_at_call 14; refine HN2.out.mono ?_; rintro e w9 ⟨v9, rfl, how9, hb9⟩; refine Hid.out ?_))
            refine Lib.hid ?_
            have hz9 := hb9.size
            obtain ⟨a9, c9, rfl⟩ := how9.shape
            clear hW8 q0 q1 q2 q3
            obtain ⟨W9, hW9⟩ : ∃ W9, w9.alloc (.cells #[.int .i64 pp, .int .i64 ptr, .slice a9 pm.length c9, .int .i64 (-1)] 36) = W9 := ⟨_, rfl⟩
            have hbW9 : Below w9.heap.size w9 W9 := by rw [← hW9]; exact (Below.refl _ _).alloc (Nat.le_refl _) _
            have hsW9 : W9.heap.size = w9.heap.size + 1 := by rw [← hW9]; exact World.size_alloc _ _
            have hxW9 : W9.heap[w9.heap.size]? = some (.cells #[.int .i64 pp, .int .i64 ptr, .slice a9 pm.length c9, .int .i64 (-1)] 36) := by rw [← hW9]; exact heap_alloc_new _ _
            have h89 := hb9.trans (hbW9.mono hz9)
            have h39 := h38.trans (h89.mono hz38)
            have hz39 := h39.size
            obtain ⟨r0, r1, r2, r3⟩ := box4 hxW9
            have hxX9 := (h89.block _ (by omega)).trans hxW8
            obtain ⟨q0, q1, q2, q3⟩ := box4 hxX9
            have hkW := how.kept h39 (Nat.le_refl _)
            obtain ⟨kc, kf⟩ := hkW.at hKl
            rw [hcnt] at kc
            have Hcnt := Lib.hid hcnt
            have Hbx9 := box_up hboxr h39
            obtain ⟨c0, c1, c2, c3⟩ := box4 Hbx9
            clear hcnt
            obtain ⟨W10, hW10⟩ : ∃ W10, W9.setCell ⟨w5.heap.size, pa, none⟩ (.int .i64 ((cnt : Int) + 1)) = W10 := ⟨_, rfl⟩
            have hsz10 : W10.heap.size = W9.heap.size := by rw [← hW10]; simp
            have Br9 := hbr.trans (h39.mono hzr)
            have Br10 : Below w5.heap.size w5 W10 := by rw [← hW10]; exact Br9.setCell (Nat.le_refl _) _
            have hk10 : OwnI W10 w5.heap.size (.slice (some ⟨w5.heap.size, 0, none⟩) l.length l.length) (K.set pa ((cnt : Int) + 1)) := by rw [← hW10]; exact hkW.set pa _
            have hz5r : w5.heap.size < wr.heap.size := how.lt.2
            have ne10 : ∀ (b : Nat), b ≠ w5.heap.size → W10.heap[b]? = W9.heap[b]? := fun b hb => by rw [← hW10]; exact heap_setCell_ne _ _ hb
            have xX := Lib.hid ((ne10 w8.heap.size (by omega)).trans hxX9)
            have xP := Lib.hid ((ne10 w9.heap.size (by omega)).trans hxW9)
            have xN := Lib.hid ((ne10 W.heap.size (by have := lt_of_block hbox5; omega)).trans Hbx9)
            have how8' : OwnI W10 wr.heap.size (.slice a8 mk.length c8) mk := by rw [← hW10]; exact ((how8.kept hbW8 (Nat.le_refl _)).kept h89 (Nat.le_refl _)).setOld (by omega) _
            have how9' : OwnI W10 W8.heap.size (.slice a9 pm.length c9) pm := by rw [← hW10]; exact (how9.kept hbW9 (Nat.le_refl _)).setOld (by omega) _
            clear q0 q1 q2 q3 r0 r1 r2 r3 c0 c1 c2 c3 ne10
            obtain ⟨q0, q1, q2, q3⟩ := box4 hxX9
            obtain ⟨r0, r1, r2, r3⟩ := box4 hxW9
            obtain ⟨c0, c1, c2, c3⟩ := box4 Hbx9
            go_wp2_with fail
            clear hW10 q0 q1 q2 q3 r0 r1 r2 r3 c0 c1 c2 c3 kc kf
            obtain ⟨q0, q1, q2, q3⟩ := box4 xX.out
            obtain ⟨r0, r1, r2, r3⟩ := box4 xP.out
            obtain ⟨c0, c1, c2, c3⟩ := box4 xN.out
            obtain ⟨bt, ot, vi, vo, rfl, hbt, t0, t1, t2, hti, hto⟩ := hn5.2.col k hkk
            rw [← HTR.out] at t0 hti hto
            rw [← Below.cellB Br10 (by omega)] at t0 t1 t2
            have hD : Below W10.heap.size W10 W10.drew := (Below.refl _ _).drew
            have hz10 := Br10.size
            have Br10d := Br10.trans (hD.mono hz10)
            have hti2 := hti.mono Br10d (show w5.heap.size ≤ W10.heap.size by omega)
            have hto2 := hto.mono Br10d (show w5.heap.size ≤ W10.heap.size by omega)
            have hpm2 : Ints W10.drew W10.heap.size (.slice a9 pm.length c9) pm := (how9'.kept hD (Nat.le_refl _)).col (by have := HLEN.out.1; omega) (Nat.le_refl _)
            have HF := Lib.hid (fires_yes W10.drew W10.heap.size (Nat.le_refl _) (n.tr (k : Int)) _ _ _ pm hti2 hto2 hpm2 (by rw [HLEN.out.1]; exact HIO.out.1.1) (by rw [HLEN.out.1]; exact HIO.out.2.1) HIO.out.1.2.nodup (1 + 8192 * (pa : Int)) (by omega) hpw (by have := HLEN.out.1; omega) HEC.out.1)
            obtain ⟨tk, htk⟩ : ∃ tk, n.tr (k : Int) = tk := ⟨_, rfl⟩
            rw [htk] at HF t0 hti hto hti2 hto2
            obtain ⟨ai, ci, rfl⟩ := hti.val
            obtain ⟨ao, co, rfl⟩ := hto.val
            have g0 : w8.heap.size < W10.heap.size := by omega
            have g1 : w9.heap.size < W10.heap.size := by omega
            have g2 : W.heap.size < W10.heap.size := by have := lt_of_block xN.out; omega
            have g3 : bt < W10.heap.size := by omega
            have HHTK := Lib.hid htk
            clear htk
            go_cut [12, 13] (fun s12 s13 wx => ∃ w11, w11 = wx ∧ ∃ gm cm, s12 = .slice (some ⟨gm, 0, none⟩) pm.length cm ∧ s13 = .bool true ∧ OwnI w11 W10.heap.size (.slice (some ⟨gm, 0, none⟩) pm.length cm) (tk.wideE pm) ∧ Below W10.heap.size W10 w11)
            case first =>
              go_region_held3 (fun w' => w'.cell? ⟨W.heap.size, 1, none⟩ = some (.slice (some ⟨bt, ot, none⟩) n.trans.length ct) ∧ w'.cell? ⟨w8.heap.size, 1, none⟩ = some (.int .i64 (k : Int)) ∧ w'.cell? ⟨bt, ot + k * 3, none⟩ = some (.string tk.label) ∧ w'.cell? ⟨bt, ot + k * 3 + 1, none⟩ = some (.slice ai tk.inn.length ci) ∧ w'.cell? ⟨bt, ot + k * 3 + 2, none⟩ = some (.slice ao tk.out.length co) ∧ w'.cell? ⟨w9.heap.size, 2, none⟩ = some (.slice a9 pm.length c9))
                (first | go_keep | (refine ⟨?_, ?_, ?_, ?_, ?_, ?_⟩ <;> (first | (rw [Below.cellB HB7 g2]; assumption) | (rw [Below.cellB HB7 g0]; assumption) | (rw [Below.cellB HB7 g3]; assumption) | (rw [Below.cellB HB7 g1]; assumption))))
                (first | (go_at_call 15; refine HF.out.mono ?_; rintro e w7 ⟨gm, cm, rfl, how7, hb7⟩; have HB7 : Below W10.heap.size W10 w7 := hD.trans hb7))
              go_wp2_with fail
              go_meet
              case rel => exact ⟨_, rfl, gm, cm, rfl, rfl, how7, HB7⟩
            case rest =>
              obtain ⟨w11, rfl, gm, cm, rfl, rfl, how11, hb11⟩ := hcut
              have hz11 := hb11.size
              clear q0 q1 q2 q3 r0 r1 r2 r3 c0 c1 c2 c3 t0 t1 t2
              obtain ⟨q0, q1, q2, q3⟩ := box4 (box_up xX.out hb11)
              have i8 : Ints w11 w11.heap.size (.slice a8 mk.length c8) mk := (how8'.kept hb11 (Nat.le_refl _)).col (by have := HLEN.out.2; omega) (Nat.le_refl _)
              have i11 : Ints w11 w11.heap.size (.slice (some ⟨gm, 0, none⟩) pm.length cm) (tk.wideE pm) := how11.col (by rw [len_wideE]; have := HLEN.out.1; omega) (Nat.le_refl _)
              have HCv := wcovers_any _ _ _ _ mk (tk.wideE pm) i8 i11
              rw [show wcoversB mk (tk.wideE pm) = true by rw [← HHTK.out]; exact HEC.out.2] at HCv
              have HCv' := Lib.hid HCv
              clear HCv
              go_wp2_with (first | (go_at_call 16; refine HCv'.out.mono ?_; rintro e w12 ⟨rfl, nd, rfl⟩; refine Hid.out ?_))
              refine Lib.hid ?_
              have hD12 := below_drewN' (w := w11) nd
              have h1012 := hb11.trans (hD12.mono hz11)
              go_wp2_with fail
              go_roundg (gk - 1)
              case measure => omega
              case rel => exact ⟨i + 1, _, by omega, by go_num, hCt2, hk10.kept h1012 (Nat.le_refl _), Br10.trans (h1012.mono hz10)⟩
        · obtain rfl : i = l.length := by omega
          have HKc : Hid (K.length = l.length ∧ ∀ a, a < l.length → getI K (a : Int) = ((kidsOf l a).length : Int)) := by
            have := hCt.out
            unfold Counted at this
            rw [List.take_length] at this
            exact this
          have hk' : decide ((l.length : Int) < (l.length : Int)) = false := decide_eq_false (by omega)
          clear hCt hi hTr hnr
          go_wp2_with (go_at_call 13; refine (len_any _ _ _ l (hT5.mono hbr hzr)).mono ?_; rintro e w8 ⟨rfl, rfl⟩)
          go_loopg [14] l.length (fun gh s14 wx => ∃ j : Nat, j + gh = l.length ∧ s14 = .int .i64 (j : Int) ∧ OwnI wx w5.heap.size (.slice (some ⟨w5.heap.size, 0, none⟩) l.length l.length) K ∧ Below w5.heap.size w5 wx)
          case atStart => exact ⟨0, by omega, rfl, how, hbr⟩
          case round =>
            clear how hbr hboxr Br hzr hk' hig
            obtain ⟨j, hjg, rfl, how, hbr⟩ := hrel
            have hzr := hbr.size
            have hTr := hT5.mono hbr hzr
            have Br := B5.trans (hbr.mono B5.size)
            have hboxr := box_up hbox5 hbr
            by_cases hj : j < l.length
            · go_wp2_with (go_at_call 13; refine (len_any _ _ _ l hTr).mono ?_; rintro e w8 ⟨rfl, rfl⟩; refine Hid.out ?_)
              refine Lib.hid ?_
              obtain ⟨xp, hxp⟩ : ∃ xp, (ndAt l j).par = xp := ⟨_, rfl⟩
              obtain ⟨xt, hxt⟩ : ∃ xt, (ndAt l j).tr = xt := ⟨_, rfl⟩
              obtain ⟨mk, hmk⟩ : ∃ mk, (ndAt l j).mark = mk := ⟨_, rfl⟩
              obtain ⟨ag, hag⟩ : ∃ ag, (ndAt l j).again = ag := ⟨_, rfl⟩
              have hxj : l[j] = ⟨xp, xt, mk, ag⟩ := by rw [← ndAt_eq hj, ← hxp, ← hxt, ← hmk, ← hag]
              have hmkl : mk.length = n.places.length := by rw [← hmk, ndAt_eq hj]; exact HG.out.len _ (List.getElem_mem hj)
              have hmw : Wide (1 + 8192 * (j : Int)) mk := by rw [← hmk, ndAt_eq hj]; exact HG.out.wide j hj
              have hKj : j < K.length := by rw [HKc.out.1]; exact hj
              have hcount : Hid (K[j] = (((if ag = -1 then (enGo mk n.trans 0).length else 0) : Nat) : Int)) := by
                rw [← getI_eq hKj, HKc.out.2 j hj, kids_count HK.out HD.out hj, hag, hmk]; exact rfl
              have hmany := OK.out.many
              have htwo := OK.out.two
              have HML := Lib.hid hmkl
              have HN1 := Lib.hid (node_is _ _ p5 l hTr (Nat.le_refl _) j hj hxj rfl)
              clear hxp hxt hmk hag hxj hmkl
              go_wp2_with (first | (go_at_call 14; refine HN1.out.mono ?_; rintro e w8 ⟨v8, rfl, how8, hb8⟩; refine Hid.out ?_))
              refine Lib.hid ?_
              have hz8 := hb8.size
              obtain ⟨a8, c8, rfl⟩ := how8.shape
              obtain ⟨W8, hW8⟩ : ∃ W8, w8.alloc (.cells #[.int .i64 xp, .int .i64 xt, .slice a8 mk.length c8, .int .i64 ag] 36) = W8 := ⟨_, rfl⟩
              have hbW8 : Below w8.heap.size w8 W8 := by rw [← hW8]; exact (Below.refl _ _).alloc (Nat.le_refl _) _
              have hsW8 : W8.heap.size = w8.heap.size + 1 := by rw [← hW8]; exact World.size_alloc _ _
              have hxW8 : W8.heap[w8.heap.size]? = some (.cells #[.int .i64 xp, .int .i64 xt, .slice a8 mk.length c8, .int .i64 ag] 36) := by rw [← hW8]; exact heap_alloc_new _ _
              have h38 := hb8.trans (hbW8.mono hz8)
              have hz38 := h38.size
              have Br8 := hbr.trans (h38.mono hzr)
              have how' := how.kept h38 (Nat.le_refl _)
              have xX := Lib.hid hxW8
              have xN := Lib.hid (box_up hboxr h38)
              have i8 : Ints W8 W8.heap.size (.slice a8 mk.length c8) mk := (how8.kept hbW8 (Nat.le_refl _)).col (by have := HML.out; omega) (Nat.le_refl _)
              have g0 : w8.heap.size < W8.heap.size := by omega
              have g2 : W.heap.size < W8.heap.size := by have := lt_of_block xN.out; omega
              have hk5 : w5.heap.size < W8.heap.size := how'.lt.2
              clear hxW8 HN1
              go_wp2_with fail
              clear hW8
              go_loopg [17, 18] n.trans.length (fun gh s17 s18 wy => ∃ k on : Nat, k + gh = n.trans.length ∧ s18 = .int .i64 (k : Int) ∧ s17 = .int .i64 (on : Int) ∧ Hid (on = (enGo mk (n.trans.take k) 0).length) ∧ on ≤ k ∧ Below W8.heap.size W8 wy)
              case atStart => exact ⟨0, 0, by omega, rfl, rfl, rfl, by omega, Below.refl _ _⟩
              case round =>
                obtain ⟨k, on, hkg, rfl, rfl, hon, honk, hby⟩ := hrel
                have hzy := hby.size
                obtain ⟨q0, q1, q2, q3⟩ := box4 (box_up xX.out hby)
                obtain ⟨c0, c1, c2, c3⟩ := box4 (box_up xN.out hby)
                have hlt8 := OK.out.trans
                by_cases hkk : k < n.trans.length
                · obtain ⟨bt, ot, vi, vo, rfl, hbt, t0, t1, t2, hti, hto⟩ := hn5.2.col k hkk
                  have Bry := Br8.trans (hby.mono Br8.size)
                  rw [← Below.cellB Bry (by omega)] at t0 t1 t2
                  have hmem := List.getElem_mem hkk
                  have hin := OK.out.inn _ hmem
                  have hout := OK.out.out _ hmem
                  have hinl := rising_le hin.2 hin.1
                  have houl := rising_le hout.2 hout.1
                  have hec := Lib.hid (enGo_count (m := mk) hkk)
                  obtain ⟨tk, htk⟩ : ∃ tk, n.trans[k] = tk := ⟨_, rfl⟩
                  rw [htk] at t0 hti hto hin hout hinl houl hec
                  obtain ⟨b, hb⟩ : ∃ b, tk.enB mk = b := ⟨_, rfl⟩
                  have hD : Below wr.heap.size wr wr.drew := (Below.refl _ _).drew
                  have hB5w : w5.heap.size ≤ wr.heap.size := by omega
                  have Bryd := Bry.trans (hD.mono hB5w)
                  have hti2 := hti.mono Bryd hB5w
                  have hto2 := hto.mono Bryd hB5w
                  have hmk2 : Ints wr.drew wr.heap.size (.slice a8 mk.length c8) mk := (i8.mono hby hzy).mono hD (Nat.le_refl _)
                  have HF := Lib.hid (fires_bool wr.drew wr.heap.size (Nat.le_refl _) tk _ _ _ mk hti2 hto2 hmk2 (by rw [HML.out]; exact hin.1) (by rw [HML.out]; exact hout.1) hin.2.nodup (1 + 8192 * (j : Int)) (by omega) hmw (by have := HML.out; omega) hb)
                  rw [hb] at hec
                  obtain ⟨ai, ci, rfl⟩ := hti.val
                  obtain ⟨ao, co, rfl⟩ := hto.val
                  have f0 : w8.heap.size < wr.heap.size := by omega
                  have f2 : W.heap.size < wr.heap.size := by omega
                  have f3 : bt < wr.heap.size := by omega
                  clear htk hmem hin hout hb hti2 hto2 hmk2
                  go_wp2_with fail
                  go_cut [19, 20] (fun s19 s20 wx => ∃ w11, w11 = wx ∧ ∃ v, s19 = v ∧ s20 = .bool b ∧ Below wr.heap.size wr w11)
                  case first =>
                    go_region_held3 (fun w' => w'.cell? ⟨W.heap.size, 1, none⟩ = some (.slice (some ⟨bt, ot, none⟩) n.trans.length ct) ∧ w'.cell? ⟨bt, ot + k * 3, none⟩ = some (.string tk.label) ∧ w'.cell? ⟨bt, ot + k * 3 + 1, none⟩ = some (.slice ai tk.inn.length ci) ∧ w'.cell? ⟨bt, ot + k * 3 + 2, none⟩ = some (.slice ao tk.out.length co) ∧ w'.cell? ⟨w8.heap.size, 2, none⟩ = some (.slice a8 mk.length c8))
                      (first | go_keep | (refine ⟨?_, ?_, ?_, ?_, ?_⟩ <;> (first | (rw [Below.cellB HB7 f2]; assumption) | (rw [Below.cellB HB7 f3]; assumption) | (rw [Below.cellB HB7 f0]; assumption))))
                      (first | (go_at_call 15; refine HF.out.mono ?_; rintro e w7 ⟨v7, rfl, hb7⟩; have HB7 : Below wr.heap.size wr w7 := hD.trans hb7))
                    go_wp2_with fail
                    go_meet
                    case rel => exact ⟨_, rfl, _, rfl, rfl, HB7⟩
                  case rest =>
                    obtain ⟨w11, rfl, v11, rfl, rfl, hb11⟩ := hcut
                    have hby2 := hby.trans (hb11.mono hzy)
                    cases b with
                    | true =>
                      go_wp2_with fail
                      go_roundg (gk - 1)
                      case measure => omega
                      case rel => exact ⟨k + 1, on + 1, by omega, by go_num, by go_num, Lib.hid (by rw [hec.out, hon.out]; rfl), by omega, hby2⟩
                    | false =>
                      go_wp2_with fail
                      go_roundg (gk - 1)
                      case measure => omega
                      case rel => exact ⟨k + 1, on, by omega, by go_num, rfl, Lib.hid (by rw [hec.out, hon.out]; rfl), by omega, hby2⟩
                · have hon2 : Hid (on = (enGo mk n.trans 0).length) := by
                    have := hon.out
                    rw [List.take_of_length_le (by omega)] at this
                    exact this
                  obtain ⟨kc, kf⟩ := (how'.kept hby (Nat.le_refl _)).at hKj
                  have hfin := how'.kept hby (Nat.le_refl _)
                  by_cases hm1 : ag = -1
                  · subst hm1
                    rw [hcount.out, if_pos rfl, ← hon2.out] at kc
                    go_wp2_with fail
                    go_roundg (l.length - (j + 1))
                    case measure => omega
                    case rel => exact ⟨j + 1, by omega, by go_num, hfin, Br8.trans (hby.mono Br8.size)⟩
                  · rw [hcount.out, if_neg hm1] at kc
                    have e1 : (ag == -1) = false := by rw [beq_eq_false_iff_ne]; exact hm1
                    have e2 : (ag != -1) = true := by rw [bne, e1]; rfl
                    go_wp2_with fail
                    go_roundg (l.length - (j + 1))
                    case measure => omega
                    case rel => exact ⟨j + 1, by omega, by go_num, hfin, Br8.trans (hby.mono Br8.size)⟩
            · have hk' : ¬ ((j : Int) < (l.length : Int)) := by omega
              go_wp2_with (go_at_call 13; refine (len_any _ _ _ l hTr).mono ?_; rintro e w8 ⟨rfl, rfl⟩)
              go_ret
              exact ⟨rfl, Br⟩

end Go.Proofs.YtgahlonimaeicaaDoor
