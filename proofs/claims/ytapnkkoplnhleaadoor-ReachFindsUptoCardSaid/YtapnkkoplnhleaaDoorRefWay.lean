/- The document's Way, which calls itself; the law's edges; key and Find at a long list of numbers. -/
import Derived.Test.YtapnkkoplnhleaaDoorRefFind
import Derived.Test.YtapnkkoplnhleaaDoorReachExplore
import Derived.Test.YtapnkkoplnhleaaDoorReachRead
import Derived.DataShut
import Derived.Test.YtapnkkoplnhleaaDoorReachRead2
set_option maxRecDepth 100000
/- (*tollgateref17.Graph).Way: it calls itself. -/
namespace Go.Proofs.YtapnkkoplnhleaaDoor
open Go.RowKit

theorem news_at {w : World} {q : Nat} {c : Array Value} {e : TypeId} (h : w.heap[q]? = some (.cells c e)) : ∀ j u, c.toList[j]? = some u → w.cell? ((⟨q, 0, none⟩ : Addr).add j) = some u := news_lit h rfl
set_option maxHeartbeats 2000000 in
theorem refway_any {n : Nt} {most : Nat} {g : Gr} (x : XOk n most g) (hm : most ≤ 1024) (p nt : Nat) : ∀ (i : Nat), i < g.marks.length → ∀ (w : World) (B : Nat), RgR w B p nt g → B ≤ w.heap.size →
    Calls Tryd.prog 24 #[.pointer (some ⟨p, 0, none⟩), .int .i64 (i : Int)] w fun e w' => ∃ v, e = .returned v ∧ OwnI w' w.heap.size v (gwayE g i) ∧ Below w.heap.size w w' := by
  intro i
  induction i using Nat.strongRecOn with
  | ind i ih =>
    intro hi w B h hB
    by_cases h0 : i = 0
    · subst h0
      go_enter Tryd.func24, Tryd.ntmps24
      go_wp2_with fail
      go_ret
      exact ⟨_, rfl, OwnI.nil _ _, Below.refl _ _⟩
    · have hle := x.le
      have hsl := x.slen
      obtain ⟨j, q, hsrc, hji, hqt, -, -⟩ := x.src_at (i := i) (by omega) hi
      have hws := Lib.hid (x.way_step (by omega) hi hsrc)
      have hwl := x.way_le (i := j) (by omega)
      have HR := Lib.hid h
      have HU : Hid (∀ u, Below w.heap.size w u → Calls Tryd.prog 24 #[.pointer (some ⟨p, 0, none⟩), .int .i64 (j : Int)] u fun e w' => ∃ v, e = .returned v ∧ OwnI w' w.heap.size v (gwayE g j) ∧ Below w.heap.size w w' ∧ u.heap.size ≤ w'.heap.size ∧ ∀ (b : Nat) (o : Obj), u.heap[b]? = some o → w'.heap[b]? = some o) := by
        refine Lib.hid fun u hu => (ih j hji (by omega) u u.heap.size (HR.out.mono (hu.mono hB) (Nat.le_trans hB hu.size)) (Nat.le_refl _)).mono ?_
        rintro e w' ⟨v, rfl, ho, hb⟩
        refine ⟨v, rfl, ho.lower hu.size, hu.trans (hb.mono hu.size), hb.size, fun b o h => (hb.block b ?_).trans h⟩
        rcases Nat.lt_or_ge b u.heap.size with h1 | h1
        · exact h1
        · rw [Array.getElem?_eq_none h1] at h; cases h
      obtain ⟨v0, a1, c1, x1, y1, vM, vE, vF, h1, h2, h3, h4, h5, h6⟩ := h
      obtain ⟨k1, k4, k5, k6⟩ := hbox h1
      obtain ⟨aF, cF, rfl⟩ := h5.val
      obtain ⟨bF, oF, rfl, hbF, e0, e1⟩ := h5.at (i := i) (by omega)
      have hsg : g.src[i]'(by omega) = ((q : Int), (j : Int)) := by rw [← hsrc]; simp [show i < g.src.length by omega]
      rw [hsg] at e0 e1
      have hd0 : ((i : Int) == 0) = false := by rw [beq_eq_false_iff_ne]; omega
      have hiI : (i : Int) < (g.src.length : Int) := by omega
      have hpw : p < w.heap.size := by omega
      have hbw : bF < w.heap.size := by omega
      obtain ⟨i0, hti, hz0, hz1, hz2⟩ := info_parts info_int
      have hD : Below w.heap.size w w.drew := (Below.refl _ _).drew
      have hA : Below w.heap.size w (w.alloc (.cells #[.int .i64 (q : Int)] 3)).drew := ((Below.refl _ _).alloc (Nat.le_refl _) _).drew
      have hX : ((w.alloc (.cells #[.int .i64 (q : Int)] 3)).drew).heap[w.heap.size]? = some (.cells #[.int .i64 (q : Int)] 3) := heap_alloc_new w _
      have HF : Hid (∀ W : World, Below w.heap.size w W → W.cell? ⟨p, 6, none⟩ = some (.slice (some ⟨bF, oF, none⟩) g.src.length cF) ∧ W.cell? ⟨bF, oF + i * 2, none⟩ = some (.int .i64 (q : Int)) ∧ W.cell? ⟨bF, oF + i * 2 + 1, none⟩ = some (.int .i64 (j : Int))) := by
        refine Lib.hid fun W hb => ⟨?_, ?_, ?_⟩
        · rw [Below.cellB hb hpw]; exact k6
        · rw [Below.cellB hb hbw]; exact e0
        · rw [Below.cellB hb hbw]; exact e1
      obtain ⟨L, hL⟩ : ∃ L, gwayE g j = L := ⟨_, rfl⟩
      rw [hL] at hws hwl HU
      have HWS := hws
      clear ih h1 h3 h4 h5 k1 k4 k5 hsg hsrc hws hL
      go_enter Tryd.func24, Tryd.ntmps24
      go_wp2_with fail
      go_region_held3 (fun w' => w'.cell? ⟨p, 6, none⟩ = some (.slice (some ⟨bF, oF, none⟩) g.src.length cF) ∧ w'.cell? ⟨bF, oF + i * 2, none⟩ = some (.int .i64 (q : Int)) ∧ w'.cell? ⟨bF, oF + i * 2 + 1, none⟩ = some (.int .i64 (j : Int)))
        ((refine HF.out _ ?_; first | exact hb6 | exact hb5 | exact hb5.alloc hb5.size _ | exact (Below.refl _ _).drew | exact ((Below.refl _ _).alloc (Nat.le_refl _) _).drew))
        (first
          | (go_at_call 24; refine (HU.out _ (by first | exact hD | exact hA)).mono ?_; rintro e w5 ⟨v5, rfl, how5, hb5, hz5, hk5⟩; obtain ⟨a5, c5, rfl⟩ := how5.shape)
          | (have _ := hb5; refine step_append_own _ (by rfl) (.tmp 16) (.tmp 25) 26 (by rfl) w.heap.size 3 i0 (.int .i64 0) 1 8 Tryd.underlying26 hti hz0 hz1 hz2 rfl (by decide) (.slice a5 L.length c5) L.length (L.map (Value.int .i64)) (by rfl) (by first | exact how5 | exact how5.kept ((Below.refl _ _).alloc (Nat.le_refl _) _) (Nat.le_refl _)) _ 1 1 [.int .i64 (q : Int)] (by rfl) rfl (by first | exact cells_new _ _ _ | exact news_at (hk5 _ _ hX)) (by intro u hu; simp at hu; subst hu; rfl) (by unfold maxLen; omega) (by omega) (by have := hb5.size; first | omega | (simp; omega)) ?_; intro v6 w6 hown6 hg6 hat6
             have hb6 : Below w.heap.size w w6 := (by first | exact hb5.grown hg6 hb5.size (fun k hk => (World.ownsRow.lt how5 k hk).1) | exact (hb5.alloc hb5.size _).grown hg6 (by have := hb5.size; simp; omega) (fun k hk => (World.ownsRow.lt how5 k hk).1))))
      all_goals go_wp2_with fail
      all_goals go_ret
      all_goals exact ⟨_, rfl, by rw [HWS.out]; unfold OwnI; simpa using hown6, hb6⟩

end Go.Proofs.YtapnkkoplnhleaaDoor

/- The law's 'edges': the same edges, one by one. -/
namespace Go.Proofs.YtapnkkoplnhleaaDoor
open Go.RowKit

theorem in64_of_wf {x : Int} (h : (Lit.int .i64 x).wf = true) : In64 x := by
  have := (Lit.wf_int_iff .i64 x).1 h
  have h1 : IntKind.min .i64 = -9223372036854775808 := by rfl
  have h2 : IntKind.max .i64 = 9223372036854775807 := by rfl
  rw [h1, h2] at this
  exact this
set_option maxHeartbeats 1000000 in
theorem refedges_same (w : World) (B : Nat) (va vb : Value) (l : List (Int × Int)) (ha : Prs w B va l) (hb : Prs w B vb l) :
    Calls Tryd.prog 23 #[va, vb] w fun e w' => e = .returned (.bool true) ∧ Below w.heap.size w w' := by
  obtain ⟨aa, ca, rfl⟩ := ha.val
  obtain ⟨ab, cb, rfl⟩ := hb.val
  have hl := ha.len
  have hnn : ((l.length : Int) != (l.length : Int)) = false := bne_self_eq_false _
  have hnn2 : (l.length != l.length) = false := bne_self_eq_false _
  go_enter Tryd.func23, Tryd.ntmps23
  go_wp2_with fail
  go_loopg [5] l.length (fun gh s5 wr => ∃ (k n : Nat), k + gh = l.length ∧ s5 = .int .i64 (k : Int) ∧ wr = w.drewN n)
  case atStart => exact ⟨0, 0, by omega, rfl, rfl⟩
  case round =>
    obtain ⟨k, n, hkg, rfl, rfl⟩ := hrel
    by_cases hk : k < l.length
    · obtain ⟨ba, oa, rfl, _, h0, h1⟩ := ha.at hk
      obtain ⟨bb, ob, rfl, _, g0, g1⟩ := hb.at hk
      obtain ⟨x, hx⟩ : ∃ x, l[k].1 = x := ⟨_, rfl⟩
      obtain ⟨y, hy⟩ : ∃ y, l[k].2 = y := ⟨_, rfl⟩
      rw [hx] at h0 g0
      rw [hy] at h1 g1
      clear hx hy
      have hxx : (x != x) = false := bne_self_eq_false _
      have hyy : (y != y) = false := bne_self_eq_false _
      have hkI : (k : Int) < (l.length : Int) := by omega
      go_wp2_with fail
      go_quiet (fail)
      go_wp2_with fail
      go_roundg (gk - 1)
      case measure => omega
      case rel => exact ⟨k + 1, _, by omega, by go_num, rfl⟩
    · have hkI : decide ((k : Int) < (l.length : Int)) = false := decide_eq_false (by omega)
      go_wp2_with fail
      go_ret
      exact ⟨rfl, below_drewN' _⟩

end Go.Proofs.YtapnkkoplnhleaaDoor

/- key and Find at a long list of numbers. -/
namespace Go.Proofs.YtapnkkoplnhleaaDoor
open Go.RowKit Go.Maps Go.WideMaps

theorem key_ofB {m : List Int} (hw : ∀ x ∈ m, In64 x) (hl : m.length ≤ 1048576) : keyOf Tryd.prog 9 (.string (keyS m)) = some (.string (keyL m)) := by
  rw [keyOf_string_mk Tryd.underlying9 (by rw [keyS_size]; have := keyL_le hw; unfold maxLen; omega), keyS_list]
set_option maxHeartbeats 3200000 in
theorem rkey_big (w : World) (vm : Value) (m : List Int) (B : Nat) (hB : B ≤ w.heap.size) (hm : Ints w B vm m) (hw : ∀ x ∈ m, In64 x) (hlen : m.length ≤ 1048576) (htab : Pow10 B w) :
    Calls Tryd.prog 45 #[vm] w fun e w' => e = .returned (.string (keyS m)) ∧ Below w.heap.size w w' := by
  obtain ⟨i0, hi, hz0, hz1, hz2⟩ := info_parts info_byte
  obtain ⟨am, cm, rfl⟩ := hm.val
  have hT := tab_up htab hB
  go_enter Tryd.func45, Tryd.ntmps45
  go_wp2_with fail
  go_loopg [8, 3] m.length (fun gh s8 s3 wr => ∃ (k n : Nat) (xs : List Value), k + gh = m.length ∧ s8 = .int .i64 (k : Int) ∧ Hid (n = (keyL (m.take k)).length) ∧ Hid (xs = Lib.byteCells (keyL (m.take k))) ∧ wr.ownsRow w.heap.size 5 1 s3 n xs ∧ Below w.heap.size w wr)
  case atStart => exact ⟨0, 0, [], by omega, rfl, rfl, rfl, World.ownsRow_nil _ _ _ _, Below.refl _ _⟩
  case round =>
    obtain ⟨k, n, xs, hkg, rfl, hn, hxs, hown, hbel⟩ := hrel
    have hTr := hT.on hbel
    have hml := hm.len
    by_cases hk : k < m.length
    · obtain ⟨bm, om, rfl, hbm, hcm⟩ := hm.col k hk
      rw [← Below.cellB hbel (by omega)] at hcm
      have hx := hw m[k] (List.getElem_mem hk)
      have htk := Lib.hid (keyL_take hk)
      have hle := keyL_take_le hw k
      have hnl : n ≤ 22 * 1048576 := by rw [hn.out]; omega
      obtain ⟨x, hxe⟩ : ∃ x, m[k] = x := ⟨_, rfl⟩
      rw [hxe] at hcm hx htk
      have hil := Lib.itoa_length_le x hx.1 hx.2
      have hL : n + 21 ≤ 140737488355328 := by omega
      have hkd : decide (k < m.length) = true := decide_eq_true hk
      have HA := Lib.hid (appInt_any _ _ _ hx.1 hx.2 _ _ _ hown hbel.size hL hTr)
      go_wp2_with (go_at_call 66; refine HA.out.mono ?_; rintro e w1 ⟨v1, rfl, hown1, hg1⟩; refine Hid.out ?_)
      refine Lib.hid ?_
      have hb1 := hbel.grown hg1 hbel.size (fun k hk => (hown.lt k hk).1)
      go_wp2_with (at_builtin; refine wpList_append_own _ rfl _ _ 100 rfl w.heap.size 5 i0 (.int .u8 0) 1 1 Tryd.underlying100 hi hz0 hz1 hz2 rfl (by decide) _ _ _ rfl (hown1.alloc _) ⟨w1.heap.size, 0, none⟩ 1 1 [Value.int .u8 32] rfl rfl (by intro j u' hj; match j, hj with | 0, hj => simp at hj; subst hj; simp [Addr.add]) (by intro u' hu'; simp at hu'; subst hu'; rfl) (by unfold maxLen; omega) (by omega) (by have := hb1.size; simp; omega) ?_)
      intro v2 w2 hown2 hg2 _
      have hb2 := (hb1.alloc hb1.size _).grown hg2 (by have := hb1.size; simp; omega) (fun k hk => (hown1.lt k hk).1)
      go_wp2
      go_roundg (gk - 1)
      case measure => omega
      case rel =>
      refine ⟨k + 1, _, _, by omega, by simp, ?_, ?_, hown2, hb2⟩
      · refine Lib.hid ?_
        rw [htk.out, hn.out]; simp; omega
      · refine Lib.hid ?_
        rw [htk.out, hxs.out, byteCells_append, byteCells_append]; simp [byteCells_one]
    · obtain rfl : k = m.length := by omega
      rw [List.take_length] at hn hxs
      obtain ⟨l, hl⟩ : ∃ l, l = keyL m := ⟨_, rfl⟩
      have HL := Lib.hid hl
      rw [← hl] at hn hxs
      clear hl
      have hcv := rstr_owned wr _ l _ (by rw [← hn.out, ← hxs.out]; exact hown)
      go_wp2_with fail
      go_ret
      refine ⟨?_, hbel⟩
      rw [HL.out]
      rfl
set_option maxHeartbeats 1000000 in
theorem gfind_big (w : World) (B p nt : Nat) (g : Gr) (hs : List Int) (h : GrR w B p nt g hs) (hB : B ≤ w.heap.size) (htab : Pow10 B w) (vm : Value) (m : List Int) (hm : Ints w w.heap.size vm m) (hw : ∀ x ∈ m, In64 x) (hml : m.length ≤ 1048576) :
    Calls Tryd.prog 16 #[.pointer (some ⟨p, 0, none⟩), vm] w fun e w' => e = .returned (.tuple #[.int .i64 (foundE g.marks m), .bool (decide (0 ≤ findM g.marks m))]) ∧ Below w.heap.size w w' := by
  obtain ⟨v0, a1, c1, x, y, vM, mp, vE, vF, vH, h1, h2, h3, h4, h5, h6, h7, h8, h10⟩ := h
  obtain ⟨k1, k4, k5, k6, k7, k8⟩ := gbox h1
  obtain ⟨D, h8, h9⟩ := h8
  obtain ⟨am, cm, rfl⟩ := hm.val
  have hdr : Below w.heap.size w w.drew := (Below.refl _ _).drew
  have hK := Lib.hid (rkey_big w.drew _ m w.heap.size (Nat.le_refl _) (hm.mono hdr (Nat.le_refl _)) hw hml (tab_up (htab.on (hdr.mono hB)) (show B ≤ w.heap.size from hB)))
  have hkey := Lib.hid (key_ofB hw hml)
  have hplt : p < w.heap.size := by omega
  have HM := Lib.hid h8
  have HD := Lib.hid h9
  have hmpw : mp < w.heap.size := by omega
  obtain ⟨c, hc⟩ : ∃ c, foundE g.marks m = c := ⟨_, rfl⟩
  obtain ⟨t, ht⟩ : ∃ t, decide (0 ≤ findM g.marks m) = t := ⟨_, rfl⟩
  have HC := Lib.hid hc
  have HT := Lib.hid ht
  rw [hc, ht]
  clear hc ht h1 h3 h4 h5 h6 h8 h9 k1 k4 k6 k7 k8
  go_enter Tryd.func16, Tryd.ntmps16
  go_upto_region 3 with fail
  go_cut [6, 7] (fun s6 s7 wx => s6 = .int .i64 c ∧ s7 = .bool t ∧ Below w.heap.size w wx)
  case first =>
    go_region_held3 (fun w' => w'.cell? ⟨p, 5, none⟩ = some (.map (some mp)))
      (first | go_keep | (rw [Below.cellB HB3 hplt]; assumption))
      (first | (go_at_call 45; refine hK.out.mono ?_; rintro e w2 ⟨rfl, hb2⟩; have HB3 : Below w.heap.size w w2 := hdr.trans hb2; have hrun := find_run (mapR_below HM.out HB3 hmpw) HD.out hkey.out; rw [HC.out, HT.out] at hrun))
    go_wp2_with fail
    go_meet
    case rel => exact ⟨rfl, rfl, HB3⟩
  case rest =>
    obtain ⟨rfl, rfl, hb⟩ := hcut
    go_wp2_with fail
    go_ret2
    exact ⟨rfl, hb⟩

end Go.Proofs.YtapnkkoplnhleaaDoor
