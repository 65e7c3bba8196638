/- Readers of a graph: Find, Edges, Way, Home, Homes. -/
import Derived.Test.YtbolacnpljkpbaaDoorReachExplore
set_option maxRecDepth 100000
namespace Go.Proofs.YtbolacnpljkpbaaDoor
open Go.RowKit Go.Maps Go.WideMaps

/-- The number that Find tells. -/
def foundE (ms : List (List Int)) (m : List Int) : Int := if 0 ≤ findM ms m then findM ms m else 0
theorem find_run {w : World} {mp : Nat} {ms : List (List Int)} {k : Nat} {D : DataW Unit} (h : MapR w mp k D) (hD : MapG D ms) {m : List Int} (hkey : keyOf Tryd.prog 9 (.string (keyS m)) = some (.string (keyL m))) :
    (Instr.lookup 81 (.map (some mp)) (.string (keyS m)) true).run Tryd.prog w = .ok (.tuple #[.int .i64 (foundE ms m), .bool (decide (0 ≤ findM ms m))]) w := by
  obtain ⟨v, ps, hrun, hR⟩ := World.ownsMap.look_ok h law_str Tryd.underlying81 (zero_int _) (plainElem_int (H := Unit) Tryd.underlying3 (by decide)) hkey
  obtain ⟨h1, h2⟩ := hD.2 m
  obtain ⟨c, rfl, hc, _⟩ := plainElem_int_inv Tryd.underlying3 hR
  have hc' := congrArg Prod.fst hc
  simp only at hc'
  rw [hrun, h1]
  have : c = foundE ms m := by
    unfold foundE
    by_cases hf : 0 ≤ findM ms m
    · rw [if_pos hf]
      rw [h2 hf] at hc'
      injection hc' with hc'
      injection hc' with _ hc'
      exact hc'.symm
    · rw [if_neg hf]
      rw [decide_eq_false hf] at h1
      rw [Maps.atKey_of_not_has h1] at hc'
      injection hc' with hc'
      injection hc' with _ hc'
      exact hc'.symm
  rw [this]

theorem gfind_nil (w : World) (vm : Value) : Calls Tryd.prog 24 #[.pointer none, vm] w fun e w' => e = .returned (.tuple #[.int .i64 0, .bool false]) ∧ w = w' := by
  go_enter Tryd.func24, Tryd.ntmps24
  go_wp2_with fail
  go_ret2
  exact ⟨rfl, rfl⟩
set_option maxHeartbeats 1000000 in
theorem gfind_any (w : World) (B p nt : Nat) (g : Gr) (hs : List Int) (h : GrR w B p nt g hs) (hB : B ≤ w.heap.size) (htab : Pow10 B w) (vm : Value) (m : List Int) (hm : Ints w w.heap.size vm m) (hw : ∀ x ∈ m, In64 x) (hml : m.length ≤ 4096) :
    Calls Tryd.prog 24 #[.pointer (some ⟨p, 0, none⟩), vm] w fun e w' => e = .returned (.tuple #[.int .i64 (foundE g.marks m), .bool (decide (0 ≤ findM g.marks m))]) ∧ Below w.heap.size w w' := by
  obtain ⟨v0, a1, c1, x, y, vM, mp, vE, vF, vH, h1, h2, h3, h4, h5, h6, h7, h8, h10⟩ := h
  obtain ⟨k1, k4, k5, k6, k7, k8⟩ := gbox h1
  obtain ⟨D, h8, h9⟩ := h8
  obtain ⟨am, cm, rfl⟩ := hm.val
  have hdr : Below w.heap.size w w.drew := (Below.refl _ _).drew
  have hK := Lib.hid (rkey_any w.drew _ m w.heap.size (Nat.le_refl _) (hm.mono hdr (Nat.le_refl _)) hw hml (tab_up (htab.on (hdr.mono hB)) (show B ≤ w.heap.size from hB)))
  have hkey := Lib.hid (key_of hw hml)
  have hplt : p < w.heap.size := by omega
  have HM := Lib.hid h8
  have HD := Lib.hid h9
  have hmpw : mp < w.heap.size := by omega
  obtain ⟨c, hc⟩ : ∃ c, foundE g.marks m = c := ⟨_, rfl⟩
  obtain ⟨t, ht⟩ : ∃ t, decide (0 ≤ findM g.marks m) = t := ⟨_, rfl⟩
  have HC := Lib.hid hc
  have HT := Lib.hid ht
  rw [hc, ht]
  clear hc ht h1 h3 h4 h5 h6 h8 h9 k1 k4 k6 k7 k8
  go_enter Tryd.func24, Tryd.ntmps24
  go_upto_region 3 with fail
  go_cut [6, 7] (fun s6 s7 wx => s6 = .int .i64 c ∧ s7 = .bool t ∧ Below w.heap.size w wx)
  case first =>
    go_region_held3 (fun w' => w'.cell? ⟨p, 5, none⟩ = some (.map (some mp)))
      (first | go_keep | (rw [Below.cellB HB3 hplt]; assumption))
      (first | (go_at_call 43; refine hK.out.mono ?_; rintro e w2 ⟨rfl, hb2⟩; have HB3 : Below w.heap.size w w2 := hdr.trans hb2; have hrun := find_run (mapR_below HM.out HB3 hmpw) HD.out hkey.out; rw [HC.out, HT.out] at hrun))
    go_wp2_with fail
    go_meet
    case rel => exact ⟨rfl, rfl, HB3⟩
  case rest =>
    obtain ⟨rfl, rfl, hb⟩ := hcut
    go_wp2_with fail
    go_ret2
    exact ⟨rfl, hb⟩

/-- A slice of edges handed back. -/
def EdgePost (w : World) (l : List (Int × Int)) (c : Int) (e : Ending) (w' : World) : Prop :=
  ∃ v, e = .returned (.tuple #[v, .int .i64 c]) ∧ RowE w' w.heap.size v l ∧ Below w.heap.size w w'

theorem cellsE_one (l : List (Int × Int)) : ∀ u ∈ cellsF cellE l, u.oneCell' = true := by
  intro u hu
  obtain ⟨x, _, hx⟩ := List.mem_flatMap.1 hu
  exact one_F x u hx
set_option maxHeartbeats 400000 in
theorem cloneE_any (w : World) (B : Nat) (v : Value) (l : List (Int × Int)) (h : Prs w B v l) (hl : l.length ≤ 8192) (hB : B ≤ w.heap.size) :
    Calls Tryd.prog 38 #[v] w fun e w' => ∃ v', e = .returned v' ∧ RowE w' w.heap.size v' l ∧ Below w.heap.size w w' := by
  obtain ⟨i0, hi, hz0, hz1, hz2⟩ := info_parts info_ed
  obtain ⟨a, c, rfl⟩ := h.val
  have q22 : ∀ (w : World) (a : Option Addr) (n c n' c' : Nat), (binOp .eql 42 (.slice a n c) (.slice none n' c')).run Tryd.prog w = .ok (.bool a.isNone) w := fun w a n c n' c' => Lib.run_eql_slice_nil w _ _ a n c n' c' Tryd.underlying42
  cases a with
  | none =>
    have hl0 : l = [] := by
      cases l with
      | nil => rfl
      | cons x l => obtain ⟨b, o, hb, _⟩ := h.col 0 (by simp); cases hb
    subst hl0
    go_enter Tryd.func38, Tryd.ntmps38
    go_wp2_with fail
    go_ret
    exact ⟨_, rfl, OwnF.nil _ _, Below.refl _ _⟩
  | some ad =>
    have hnews : ∀ j u, (cellsF cellE l)[j]? = some u → (w.alloc (.cells #[] 79)).cell? (ad.add j) = some u := by
      intro j u hj
      have hjl := (List.getElem?_eq_some_iff.1 hj).1
      rw [cellsF_len cellE_len] at hjl
      obtain ⟨b, o, ha, hlt, hc⟩ := h.col (j / 2) (by omega)
      obtain rfl := Option.some.inj ha
      have h1 := hc (j % 2) (by omega)
      rw [add_addr, World.cell?_alloc_lt _ _ _ (show (⟨b, o + j, none⟩ : Addr).block < w.heap.size from Nat.lt_of_lt_of_le hlt hB)]
      rw [show o + j = o + j / 2 * 2 + j % 2 by omega, h1, ← cellsF_at cellE_len l (j / 2) (j % 2) (by omega) (by omega), show j / 2 * 2 + j % 2 = j by omega]
      exact hj
    have hlc : (cellsF cellE l).length = l.length * 2 := cellsF_len cellE_len l
    obtain ⟨n, hn⟩ : ∃ n, l.length = n := ⟨_, rfl⟩
    obtain ⟨C, hC⟩ : ∃ C, cellsF cellE l = C := ⟨_, rfl⟩
    have h1 := cellsE_one l
    rw [hC] at hnews hlc h1
    have HC := Lib.hid hC
    have HN := Lib.hid hn
    have Hnews := Lib.hid hnews
    rw [hn] at hlc hl ⊢
    have Hlc := Lib.hid hlc
    have H1 := Lib.hid h1
    clear hC hn hnews hlc h1 h
    go_enter Tryd.func38, Tryd.ntmps38
    go_wp2_with (at_builtin; go_must (refine wpList_append_own _ rfl _ _ 42 rfl w.heap.size 79 i0 (.agg #[.int .i64 0, .int .i64 0]) 2 16 Tryd.underlying42 hi hz0 hz1 hz2 rfl (by decide) _ 0 [] rfl (World.ownsRow_made w #[] 0 (Nat.le_refl _) (by simp) (by simp)) ad n _ C rfl Hlc.out Hnews.out H1.out (by unfold maxLen; omega) (by omega) (by simp) ?_; intro v' w1 hown hg _))
    go_ret
    refine ⟨_, rfl, ?_, (Below.refl _ _).alloc (Nat.le_refl _) _ |>.grown hg (by simp) (fun k hk => by cases hk; exact Nat.le_refl _)⟩
    unfold RowE OwnF
    rw [HN.out, HC.out]
    simpa using hown

theorem gedges_nil (w : World) (i : Int) : Calls Tryd.prog 25 #[.pointer none, .int .i64 i] w (EdgePost w [] 2) := by
  go_enter Tryd.func25, Tryd.ntmps25
  go_wp2_with (go_at_call 44; go_must (refine (ghas_nil _ _).mono ?_; rintro e w2 ⟨rfl, rfl⟩))
  go_ret2
  exact ⟨_, rfl, OwnF.nil _ _, Below.refl _ _⟩
theorem gedges_no (w : World) (B p nt : Nat) (g : Gr) (hs : List Int) (h : GrR w B p nt g hs) (i : Int) (hi : ¬ (0 ≤ i ∧ i < (g.marks.length : Int))) : Calls Tryd.prog 25 #[.pointer (some ⟨p, 0, none⟩), .int .i64 i] w (EdgePost w [] 1) := by
  have HC := Lib.hid (ghas_is w B p nt g hs h i 1 (hasE_no hi))
  clear hi
  go_enter Tryd.func25, Tryd.ntmps25
  go_wp2_with (go_at_call 44; go_must (refine HC.out.mono ?_; rintro e w2 ⟨rfl, rfl⟩))
  go_ret2
  exact ⟨_, rfl, OwnF.nil _ _, Below.refl _ _⟩
set_option maxHeartbeats 400000 in
theorem gedges_any (w : World) (B p nt : Nat) (g : Gr) (hs : List Int) (h : GrR w B p nt g hs) (hB : B ≤ w.heap.size) (hE : EOk g.edges) (hel : g.edges.length = g.marks.length) (i : Nat) (hi : i < g.edges.length) :
    Calls Tryd.prog 25 #[.pointer (some ⟨p, 0, none⟩), .int .i64 (i : Int)] w (EdgePost w g.edges[i] 0) := by
  have HC := Lib.hid (ghas_is w B p nt g hs h i 0 (hasE_yes (by omega)))
  obtain ⟨v0, a1, c1, x, y, vM, mp, vE, vF, vH, h1, h2, h3, h4, h5, h6, h7, h8, h10⟩ := h
  obtain ⟨aE, cE, rfl⟩ := h4.val
  have hl := h4.len
  obtain ⟨k1, k4, k5, k6, k7, k8⟩ := gbox h1
  obtain ⟨b, o, u, rfl, hb, hc, hu⟩ := h4.at i hi
  have hr := hE.row _ (List.getElem_mem hi)
  obtain ⟨m, hm⟩ : ∃ m, g.edges[i] = m := ⟨_, rfl⟩
  rw [hm] at hu hr ⊢
  have HK := Lib.hid (cloneE_any w B u m hu hr hB)
  obtain ⟨au, cu, rfl⟩ := hu.val
  clear h1 h8 hm h3 h4 h5 h6 hu hel
  go_enter Tryd.func25, Tryd.ntmps25
  go_wp2_with (first | (go_at_call 44; go_must (refine HC.out.mono ?_; rintro e w2 ⟨rfl, rfl⟩)) | (go_at_call 38; refine HK.out.mono ?_; rintro e w2 ⟨v2, rfl, how, hb2⟩; refine Hid.out ?_))
  refine Lib.hid ?_
  obtain ⟨a2, c2, rfl⟩ := OwnF.shape how
  go_wp2_with fail
  go_ret2
  exact ⟨_, rfl, how, hb2⟩
end Go.Proofs.YtbolacnpljkpbaaDoor
