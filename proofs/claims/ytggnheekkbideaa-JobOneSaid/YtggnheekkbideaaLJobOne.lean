/- JobOne: no job is handed out while a worker holds it. -/
import Derived.Test.YtggnheekkbideaaJobUnlike
import Derived.Test.YtggnheekkbideaaJobAwake
import Derived.Deep.CutBlock
import Derived.Laws.StructEq
set_option maxRecDepth 100000
namespace Go.Proofs.Ytggnheekkbideaa
open Go.RowKit Go.Maps
open Go.ChangeMaps (setBlock heap_setBlock_same heap_setBlock_other)

theorem u64_remN (x : Int) (m : Nat) (hm : 0 < m) : ∃ t : Nat, t < m ∧ (IntKind.u64.wrap x).tmod (m : Int) = (t : Int) := by
  have h : 0 ≤ IntKind.u64.wrap x := wrap_u64_nonneg x
  refine ⟨((IntKind.u64.wrap x) % (m : Int)).toNat, ?_, ?_⟩
  · have h1 := Int.emod_lt_of_pos (IntKind.u64.wrap x) (show (0 : Int) < (m : Int) by omega)
    have h2 := Int.emod_nonneg (IntKind.u64.wrap x) (show (m : Int) ≠ 0 by omega)
    omega
  · have h2 := Int.emod_nonneg (IntKind.u64.wrap x) (show (m : Int) ≠ 0 by omega)
    rw [Int.tmod_eq_emod_of_nonneg h]
    omega

abbrev HeldM (w : World) (b N : Nat) (h : Int → Int) : Prop := MapN Try.prog 3 3 (Lit.int .i64) 0 w b N h
abbrev ByM (w : World) (b N : Nat) (h : Int → ByteArray) : Prop := MapN Try.prog 3 9 (fun s : ByteArray => Lit.string s.data.toList) default w b N h
theorem elI : ElemK Try.prog 3 (Value.int .i64) (Lit.int .i64) (fun x => (Lit.int .i64 x).wf = true) := elem_int 3 Try.underlying3
theorem elS : ElemK Try.prog 9 Value.string (fun s : ByteArray => Lit.string s.data.toList) (fun s => s.size ≤ maxLen) := elem_str 9 Try.underlying9

theorem OwnF.offMap {α : Type} {f : α → List Value} {k : Nat} {e : TypeId} {w w' : World} {base : Nat} {v : Value} {A : List α} {T : List (Option Nat)} (h : OwnF f e k w base v A) (hf : Frm T w w') (hT : ∀ r ∈ T, ∃ b es ck, r = Option.some b ∧ w.heap[b]? = Option.some (Obj.map es ck)) : OwnF f e k w' base v A :=
  h.keepB fun g hg => hf.keep g (OwnF.lt h g hg).2 (fun r hr e1 => by
    obtain ⟨b, es, ck, rfl, hb⟩ := hT r hr
    injection e1 with e1
    subst e1
    rcases h.2 with ⟨e2, _⟩ | ⟨g1, c1, cur1, e2, _, h1, _⟩
    · rw [e2] at hg; cases hg
    · rw [e2] at hg; injection hg with hg
      simp only at hg
      subst hg
      rw [hb] at h1; cases h1)
theorem InsO.offMap {w w' : World} {lo : Nat} {v : Value} {R : List Ih} {T : List (Option Nat)} (h : InsO w lo v R) (hf : Frm T w w') (hT : ∀ r ∈ T, ∃ b es ck, r = some b ∧ w.heap[b]? = some (.map es ck)) : InsO w' lo v R :=
  ⟨OwnF.offMap h.row hf hT, ⟨fun x hx => OwnF.offMap (h.own.vars x hx) hf hT, fun x hx => OwnF.offMap (h.own.toks x hx) hf hT, h.own.apart⟩⟩
theorem OwnI.offMap {w w' : World} {lo : Nat} {v : Value} {R : List Int} {T : List (Option Nat)} (h : OwnI w lo v R) (hf : Frm T w w') (hT : ∀ r ∈ T, ∃ b es ck, r = some b ∧ w.heap[b]? = some (.map es ck)) : OwnI w' lo v R :=
  ownsRow_keepB h fun g hg => hf.keep g (World.ownsRow.lt h g hg).2 (fun r hr e1 => by
    obtain ⟨b, es, ck, rfl, hb⟩ := hT r hr
    injection e1 with e1
    subst e1
    rcases h.2 with ⟨e2, _⟩ | ⟨g1, c1, cur1, e2, _, h1, _⟩
    · rw [e2] at hg; cases hg
    · rw [e2] at hg; injection hg with hg
      simp only at hg
      subst hg
      rw [hb] at h1; cases h1)

/-- What the law holds at the head of a round. -/
structure OneS (W w : World) (b1 b2 : Nat) (v : Value) (R : List Ih) (N : Nat) (held : Int → Int) (by_ : Int → ByteArray) : Prop where
  o : InsO w W.heap.size v R
  g : GoodL (R.map (·.x))
  u : Uq (R.map (·.x))
  inv : InvO (R.map (·.x)) held by_
  ids : ∀ p ∈ allT (R.map (·.x)), (Lit.int .i64 p.t.id).wf = true
  m1 : HeldM w b1 N held
  m2 : ByM w b2 N by_
  b : Below W.heap.size W w
  ne : b1 ≠ b2
  l1 : W.heap.size ≤ b1
  l2 : W.heap.size ≤ b2
theorem OneS.below {W w w' : World} {b1 b2 N : Nat} {v : Value} {R : List Ih} {held : Int → Int} {by_ : Int → ByteArray} (h : OneS W w b1 b2 v R N held by_) (hb : Below w.heap.size w w') : OneS W w' b1 b2 v R N held by_ :=
  ⟨h.o.kept hb, h.g, h.u, h.inv, h.ids, h.m1.below hb, h.m2.below hb, h.b.trans (hb.mono h.b.size), h.ne, h.l1, h.l2⟩
theorem OneS.le {W w : World} {b1 b2 N N' : Nat} {v : Value} {R : List Ih} {held : Int → Int} {by_ : Int → ByteArray} (h : OneS W w b1 b2 v R N held by_) (hn : N ≤ N') : OneS W w b1 b2 v R N' held by_ :=
  ⟨h.o, h.g, h.u, h.inv, h.ids, MapN.le h.m1 hn, MapN.le h.m2 hn, h.b, h.ne, h.l1, h.l2⟩
theorem OneS.read {W w : World} {b1 b2 N : Nat} {v : Value} {R : List Ih} {held : Int → Int} {by_ : Int → ByteArray} (h : OneS W w b1 b2 v R N held by_) : InsR w w.heap.size v (R.map (·.x)) := h.o.readL rfl h.g.sm
theorem OneS.start {W w : World} {v : Value} {R : List Ih} {l : List Ins} (ho : InsO w W.heap.size v R) (e : R.map (·.x) = l) (hg : GoodL l) (hu : Uq l) (hi : ∀ p ∈ allT l, (Lit.int .i64 p.t.id).wf = true) (hb : Below W.heap.size W w) :
    OneS W ((w.alloc (.map #[] 0)).alloc (.map #[] 0)) w.heap.size (w.heap.size + 1) v R 0 (fun _ => 0) (fun _ => default) := by
  have hb1 : Below w.heap.size w (w.alloc (.map #[] 0)) := (Below.refl _ _).alloc (Nat.le_refl _) _
  have hb2 : Below (w.alloc (.map #[] 0)).heap.size (w.alloc (.map #[] 0)) ((w.alloc (.map #[] 0)).alloc (.map #[] 0)) := (Below.refl _ _).alloc (Nat.le_refl _) _
  have hm1 := MapN.made Try.prog 3 3 (Lit.int .i64) (0 : Int) w
  have hm2 := MapN.made Try.prog 3 9 (fun s : ByteArray => Lit.string s.data.toList) (default : ByteArray) (w.alloc (.map #[] 0))
  rw [World.size_alloc] at hm2
  subst e
  exact ⟨(ho.kept hb1).kept hb2, hg, hu, fun _ h => absurd rfl h, hi, hm1.below hb2, hm2, (hb.trans (hb1.mono hb.size)).trans (hb2.mono (by rw [World.size_alloc]; have := hb.size; omega)), by omega, hb.size, by have := hb.size; omega⟩

def wkOf (r : Nat) : ByteArray := if r = 0 then ⟨#[97]⟩ else if r = 1 then ⟨#[98]⟩ else ⟨#[99]⟩
theorem wkOf_name (r : Nat) : nameB (wkOf r) = true := by
  unfold wkOf
  split
  · kernel_rfl
  · split <;> kernel_rfl
theorem wk_cells {w : World} {p : Nat} {t : TypeId} {fr : Nat × Nat} (h : w.heap[p]? = some (.cells #[.string ⟨#[97]⟩, .string ⟨#[98]⟩, .string ⟨#[99]⟩] t fr)) {r : Nat} (hr : r < 3) : w.cell? ⟨p, r, none⟩ = some (.string (wkOf r)) := by
  rw [cell_of_block h]
  rcases (show r = 0 ∨ r = 1 ∨ r = 2 by omega) with rfl | rfl | rfl <;> rfl

theorem more_ne (wk x : ByteArray) (hx : x.size ≠ 0) : (wk ++ x).toList ≠ wk.toList := by
  intro h
  rw [Lib.toList_data, Lib.toList_data] at h
  have h3 := congrArg List.length h
  simp at h3
  exact hx (by rw [h3]; rfl)
theorem sb_same {w : World} {b : Nat} {o : Obj} (hb : w.heap[b]? = some o) (M : Obj) : (setBlock w b M).heap[b]? = some M := (MapKept.heap_set hb).1
theorem sb_other {w : World} {b b' : Nat} {o : Obj} (hb : w.heap[b]? = some o) (M : Obj) (h : b' ≠ b) : (setBlock w b M).heap[b']? = w.heap[b']? := (MapKept.heap_set hb).2 b' h
theorem two_entries {w : World} {b1 b2 n m : Nat} {h : Int → Int} {g : Int → ByteArray} (H1 : HeldM w b1 n h) (H2 : ByM w b2 m g) (hne : b1 ≠ b2) {z v : Int} {wk : ByteArray} (hz : (Lit.int .i64 z).wf = true) (hv : (Lit.int .i64 v).wf = true) (hw : wk.size ≤ maxLen) (hn : n < maxLen) (hm : m < maxLen) :
    ∃ (v0 v1 : Value) (s0 s1 : Int) (wA wB wC wD : World), (Instr.mapEntry 27 (.map (some b1)) (.int .i64 z)).run Try.prog w = .ok (.tuple #[v0, .int .i64 s0]) wA ∧ (Instr.entryStore 27 (.map (some b1)) (.int .i64 s0) (.int .i64 v)).run Try.prog wA = .ok () wB ∧
      (Instr.mapEntry 28 (.map (some b2)) (.int .i64 z)).run Try.prog wB = .ok (.tuple #[v1, .int .i64 s1]) wC ∧ (Instr.entryStore 28 (.map (some b2)) (.int .i64 s1) (.string wk)).run Try.prog wC = .ok () wD ∧
      Hid (HeldM wD b1 (n + 1) (updF h z v)) ∧ Hid (ByM wD b2 (m + 1) (updF g z wk)) ∧ Hid (Frm [some b1, some b2] w wD) ∧ (∀ b o, b ≠ b1 → b ≠ b2 → wA.cell? ⟨b, o, none⟩ = w.cell? ⟨b, o, none⟩ ∧ wB.cell? ⟨b, o, none⟩ = w.cell? ⟨b, o, none⟩ ∧ wC.cell? ⟨b, o, none⟩ = w.cell? ⟨b, o, none⟩ ∧ wD.cell? ⟨b, o, none⟩ = w.cell? ⟨b, o, none⟩) := by
  obtain ⟨v0, s0, M1, M2, e1, e2, -, g1⟩ := H1.entry elI Try.underlying3 Try.underlying27 zero_int z hz v hv hn
  obtain ⟨v1, s1, N1, N2, e3, e4, -, g2⟩ := H2.entry elS Try.underlying3 Try.underlying28 zero_str z hz wk hw hm
  obtain ⟨es1, ck1, k1⟩ := H1.isMap
  obtain ⟨es2, ck2, k2⟩ := H2.isMap
  have a1 : (setBlock w b1 M1).heap[b1]? = some M1 := sb_same k1 _
  have a2 : (setBlock (setBlock w b1 M1) b1 M2).heap[b1]? = some M2 := sb_same a1 _
  have a3 : (setBlock (setBlock w b1 M1) b1 M2).heap[b2]? = w.heap[b2]? := (sb_other a1 _ (Ne.symm hne)).trans (sb_other k1 _ (Ne.symm hne))
  have a4 : (setBlock (setBlock (setBlock w b1 M1) b1 M2) b2 N1).heap[b2]? = some N1 := sb_same (a3.trans k2) _
  have a5 : (setBlock (setBlock (setBlock (setBlock w b1 M1) b1 M2) b2 N1) b2 N2).heap[b2]? = some N2 := sb_same a4 _
  have a6 : (setBlock (setBlock (setBlock (setBlock w b1 M1) b1 M2) b2 N1) b2 N2).heap[b1]? = some M2 := (sb_other a4 _ hne).trans ((sb_other (a3.trans k2) _ hne).trans a2)
  have far1 : ∀ b, b ≠ b1 → (setBlock w b1 M1).heap[b]? = w.heap[b]? := fun b hb => sb_other k1 _ hb
  have far2 : ∀ b, b ≠ b1 → (setBlock (setBlock w b1 M1) b1 M2).heap[b]? = w.heap[b]? := fun b hb => (sb_other a1 _ hb).trans (far1 b hb)
  have far3 : ∀ b, b ≠ b1 → b ≠ b2 → (setBlock (setBlock (setBlock w b1 M1) b1 M2) b2 N1).heap[b]? = w.heap[b]? := fun b hb hb2 => (sb_other (a3.trans k2) _ hb2).trans (far2 b hb)
  have far4 : ∀ b, b ≠ b1 → b ≠ b2 → (setBlock (setBlock (setBlock (setBlock w b1 M1) b1 M2) b2 N1) b2 N2).heap[b]? = w.heap[b]? := fun b hb hb2 => (sb_other a4 _ hb2).trans (far3 b hb hb2)
  refine ⟨v0, v1, s0, s1, _, _, _, _, e1 w rfl, e2 _ a1, e3 _ a3, e4 _ a4, Lib.hid (g1 _ a6), Lib.hid (g2 _ a5), Lib.hid ⟨rfl, rfl, rfl, by simp [setBlock], fun k _ hr => ?_⟩, fun b o hb1 hb2 => ⟨World.cell?_of_block (far1 b hb1), World.cell?_of_block (far2 b hb1), World.cell?_of_block (far3 b hb1 hb2), World.cell?_of_block (far4 b hb1 hb2)⟩⟩
  exact far4 k (fun e => hr (some b1) (by simp) (by rw [e])) (fun e => hr (some b2) (by simp) (by rw [e]))

/-- A token of an instance that may be read: its cells. -/
structure TokAt (w : World) (b o bt ot n c : Nat) (i k : Nat) (y : Tok) : Prop where
  r : w.cell? ⟨b, o + i * 5 + 4, none⟩ = some (.slice (some ⟨bt, ot, none⟩) n c)
  t0 : w.cell? ⟨bt, ot + k * 9, none⟩ = some (.int .i64 y.id)
  t1 : w.cell? ⟨bt, ot + k * 9 + 1, none⟩ = some (.string y.here)
  t2 : w.cell? ⟨bt, ot + k * 9 + 2, none⟩ = some (.string y.on)
  t3 : w.cell? ⟨bt, ot + k * 9 + 3, none⟩ = some (.int .i64 y.born)
  t4 : w.cell? ⟨bt, ot + k * 9 + 4, none⟩ = some (.int .i64 y.tries)
  t5 : w.cell? ⟨bt, ot + k * 9 + 5, none⟩ = some (.string y.worker)
  t6 : w.cell? ⟨bt, ot + k * 9 + 6, none⟩ = some (.int .i64 y.til)
  t7 : w.cell? ⟨bt, ot + k * 9 + 7, none⟩ = some (.int .u8 y.inc)
  t8 : w.cell? ⟨bt, ot + k * 9 + 8, none⟩ = some (.int .i64 y.err)
  lb : b < w.heap.size
  lt : bt < w.heap.size
theorem TokAt.below {w w' : World} {b o bt ot n c i k : Nat} {y : Tok} (h : TokAt w b o bt ot n c i k y) (hb : Below w.heap.size w w') : TokAt w' b o bt ot n c i k y :=
  ⟨(Below.cellB hb h.lb).trans h.r, (Below.cellB hb h.lt).trans h.t0, (Below.cellB hb h.lt).trans h.t1, (Below.cellB hb h.lt).trans h.t2, (Below.cellB hb h.lt).trans h.t3, (Below.cellB hb h.lt).trans h.t4, (Below.cellB hb h.lt).trans h.t5, (Below.cellB hb h.lt).trans h.t6, (Below.cellB hb h.lt).trans h.t7, (Below.cellB hb h.lt).trans h.t8, Nat.lt_of_lt_of_le h.lb hb.size, Nat.lt_of_lt_of_le h.lt hb.size⟩
theorem tokAt_of {w : World} {v : Value} {l : List Ins} (h : InsR w w.heap.size v l) {p : PT} (hp : p ∈ allT l) : ∃ b o bt ot n c cap, v = .slice (some ⟨b, o, none⟩) l.length cap ∧ p.i < l.length ∧ p.k < n ∧ n ≤ 1466015503658 ∧ TokAt w b o bt ot n c p.i p.k p.t := by
  obtain ⟨a, cap, rfl⟩ := h.val
  obtain ⟨h1, _⟩ := allT_at hp
  obtain ⟨b, o, rfl, _⟩ := h.addr (by omega)
  obtain ⟨bt, ot, n, c, k1, k2, -, q4, t0, t1, t2, t3, t4, t5, t6, t7, t8, hbl, hbt⟩ := h.placeT hp
  exact ⟨b, o, bt, ot, n, c, cap, rfl, h1, k1, k2, q4, t0, t1, t2, t3, t4, t5, t6, t7, t8, hbl, hbt⟩

set_option maxHeartbeats 16000000 in
theorem jobOne_walk (W : World) (v0 : Value) (l : List Ins) (hl : InsR W W.heap.size v0 l) (gl : ∀ x ∈ l, InsI x) (v1 : Value) (S : List Js) (hS : JsR W W.heap.size v1 S) (gS : ∀ x ∈ S, JsI x) :
    Calls Try.prog 3 #[v0, v1] W fun e w' => e = .returned (.bool true) ∧ Below W.heap.size W w' := by
  have S0 := Lib.hid (large_any W v0 l hl)
  have HL := Lib.hid hl
  have HSt := Lib.hid hS
  have HGS := Lib.hid gS
  obtain ⟨a0, c0, rfl⟩ := hl.val
  obtain ⟨a1, c1, rfl⟩ := hS.val
  cases hlg : largeB l with
  | true =>
    rw [hlg] at S0
    clear hl hlg hS gS gl
    go_enter Try.func3, Try.ntmps3
    go_wp2_with (first | (go_at_call 8; refine S0.out.mono ?_; rintro e w1 ⟨rfl, n1, rfl⟩) | (go_at_call 10; refine (awake_any _).mono ?_; rintro e w2 ⟨rfl, hb⟩))
    go_ret
    exact ⟨ret_bool rfl, (below_drewN (Below.refl _ _) n1).trans hb⟩
  | false =>
    rw [hlg] at S0
    have hgood : GoodL l := ⟨small_SmL hlg, fun x hx t ht => by
      obtain ⟨_, _, _, g⟩ := gl x hx
      obtain ⟨_, _, g3, _⟩ := g t ht
      simp [Lit.wf] at g3
      exact g3.2, by have := small_many hlg; omega⟩
    have hsum := (small_len hlg).2
    have HIW := Lib.hid (fun (p : PT) (hp : p ∈ allT l) => (show (Lit.int .i64 p.t.id).wf = true by
      obtain ⟨h1, h2, h3, _⟩ := allT_at hp
      obtain ⟨_, _, _, g⟩ := gl (atL l p.i) (by rw [atL_eq h1]; exact List.getElem_mem _)
      rw [h3]
      exact (g _ (by rw [atL_eq h2]; exact List.getElem_mem _)).1))
    have HG := Lib.hid hgood
    have HGL := Lib.hid gl
    have hSl := hS.len
    clear hl hlg hS gl gS hgood
    go_enter Try.func3, Try.ntmps3
    go_wp2_with (go_at_call 8; refine S0.out.mono ?_; rintro e w1 ⟨rfl, n1, rfl⟩; refine Hid.out ?_)
    refine Lib.hid ?_
    obtain ⟨w1, hw1⟩ : ∃ w1, W.drewN n1 = w1 := ⟨_, rfl⟩
    have HB1 : Hid (Below W.heap.size W w1) := Lib.hid (by rw [← hw1]; exact below_drewN (Below.refl _ _) n1)
    rw [hw1]
    clear hw1
    have S1 := Lib.hid (unlike_any w1 _ l (HL.out.at_all HB1.out) HGL.out hsum)
    clear hsum
    go_wp2_with (go_at_call 9; refine S1.out.mono ?_; rintro e w2 ⟨bu, rfl, hU, hb2⟩; refine Hid.out ?_)
    refine Lib.hid ?_
    have HB2 := Lib.hid (HB1.out.trans (hb2.mono HB1.out.size))
    clear hb2
    cases bu with
    | false =>
      go_wp2_with (go_at_call 10; refine (awake_any _).mono ?_; rintro e w3 ⟨rfl, hb⟩)
      go_ret
      exact ⟨ret_bool rfl, HB2.out.trans (hb.mono HB2.out.size)⟩
    | true =>
      have HU : Hid (Uq l) := Lib.hid (uq_of (hU.out rfl))
      have hmm := @run_makeMap Try.prog
      go_wp2_with (go_at_call 10; refine (awake_any _).mono ?_; rintro e w3 ⟨rfl, hb3⟩; refine Hid.out ?_)
      refine Lib.hid ?_
      have HB3 := Lib.hid (HB2.out.trans (hb3.mono HB2.out.size))
      have S2 := Lib.hid (rtwin_any w3 _ l (HL.out.at_all HB3.out) HG.out.sm)
      clear hb3
      go_wp2_with (go_at_call 11; refine S2.out.mono ?_; rintro e w4 ⟨vx, R, rfl, hO2, hR2, hb4⟩; refine Hid.out ?_)
      refine Lib.hid ?_
      have HB4 := Lib.hid (HB3.out.trans (hb4.mono HB3.out.size))
      have HS0 := Lib.hid (OneS.start (⟨OwnF.lower hO2.row HB3.out.size, hO2.own.lower HB3.out.size⟩ : InsO w4 W.heap.size vx R) hR2 HG.out HU.out HIW.out HB4.out)
      obtain ⟨b1, hb1⟩ : ∃ b1, w4.heap.size = b1 := ⟨_, rfl⟩
      rw [hb1] at HS0
      clear hO2 hR2 hb4
      go_wp2_with fail
      clear hmm
      go_loopg [5, 6, 9] S.length (fun gh s5 s6 s9 wx => ∃ (i c : Nat) (R : List Ih) (held : Int → Int) (by_ : Int → ByteArray), i + gh = S.length ∧ s9 = .int .i64 (i : Int) ∧ s6 = .int .i64 (c : Int) ∧ i ≤ 40 ∧ c ≤ 4 * i ∧ Hid (OneS W wx b1 (b1 + 1) s5 R (100 * i) held by_))
      case atStart => exact ⟨0, 0, R, _, _, by omega, rfl, rfl, by omega, by omega, HS0⟩
      case round =>
        obtain ⟨i, c, R, held, by_, hig, rfl, rfl, hi40, hc, HS⟩ := hrel
        obtain ⟨wo, rfl⟩ : ∃ wo : World, wo = wr := ⟨_, rfl⟩
        by_cases hi : i < S.length ∧ i < 40
        · obtain ⟨hi, hi4⟩ := hi
          have hz := HS.out.b.size
          obtain ⟨b, o, rfl, hb, c0, c1, c2, c3, c4, c5⟩ := jsR_at (HSt.out.mono HS.out.b (Nat.le_refl _)) hi
          obtain ⟨s, hs⟩ : ∃ s, S[i] = s := ⟨_, rfl⟩
          have HJ := Lib.hid (HGS.out s (by rw [← hs]; exact List.getElem_mem _))
          rw [hs] at c0 c1 c2 c3 c4 c5
          obtain ⟨p0, hp0⟩ : ∃ p0, wo.heap.size = p0 := ⟨_, rfl⟩
          obtain ⟨w1, p1, hw1, hp1, ep1, hb1, hn1⟩ := alloc_named wo (.cells (cellS s).toArray 30) hp0
          have hw1' : wo.alloc (.cells #[.int .i64 s.kind, .int .i64 s.clock, .string s.wk, .int .i64 s.tok, .int .i64 s.n, .int .i64 s.ticks] 30) = w1 := hw1
          have l01 : p0 < p1 := by omega
          obtain ⟨n0, n1, n2, n3, n4, n5⟩ := js_box hn1
          obtain ⟨w2, p2, hw2, hp2, ep2, hb2, hn2⟩ := alloc_named w1 (.cells #[.string ⟨#[97]⟩, .string ⟨#[98]⟩, .string ⟨#[99]⟩] 9) hp1
          obtain ⟨t1, ht1, r1⟩ := u64_remN s.clock 5 (by omega)
          obtain ⟨t2, ht2, r2⟩ := u64_remN s.n 3 (by omega)
          have r1 : (IntKind.u64.wrap s.clock).tmod 5 = (t1 : Int) := r1
          have r2 : (IntKind.u64.wrap s.n).tmod 3 = (t2 : Int) := r2
          have hwk : w2.cell? ⟨p1, t2, none⟩ = some (.string (wkOf t2)) := wk_cells hn2 ht2
          have hm4 : w2.cell? ⟨p0, 4, none⟩ = some (.int .i64 s.n) := (Below.cellB hb2 l01).trans n4
          have hm0 : w2.cell? ⟨p0, 0, none⟩ = some (.int .i64 s.kind) := (Below.cellB hb2 l01).trans n0
          have hm3 : w2.cell? ⟨p0, 3, none⟩ = some (.int .i64 s.tok) := (Below.cellB hb2 l01).trans n3
          have hm5 : w2.cell? ⟨p0, 5, none⟩ = some (.int .i64 s.ticks) := (Below.cellB hb2 l01).trans n5
          obtain ⟨wk, hwkE⟩ : ∃ wk, wkOf t2 = wk := ⟨_, rfl⟩
          rw [hwkE] at hwk
          have HWN : Hid (nameB wk = true) := Lib.hid (by rw [← hwkE]; exact wkOf_name t2)
          have HWS : Hid (wk.size ≤ maxLen) := Lib.hid (by rw [← hwkE]; unfold wkOf; split; (focus (show 1 ≤ maxLen; unfold maxLen; omega)); (split <;> (show 1 ≤ maxLen; unfold maxLen; omega)))
          have hws1 : wk.size ≤ 1 := by rw [← hwkE]; unfold wkOf; split; (focus exact Nat.le_refl 1); (split <;> exact Nat.le_refl 1)
          have HS2 := Lib.hid ((HS.out.below (by rw [hp0]; exact hb1)).below (by rw [hp1]; exact hb2))
          have HN2 := Lib.hid ((hb2.block p0 l01).trans hn1)
          obtain ⟨t3, ht3, r3⟩ := u64_remN s.n 4 (by omega)
          obtain ⟨t4, ht4, r4⟩ := u64_remN s.ticks 9 (by omega)
          have r3 : (IntKind.u64.wrap s.n).tmod 4 = (t3 : Int) := r3
          have r4 : (IntKind.u64.wrap s.ticks).tmod 9 = (t4 : Int) := r4
          have d1 : decide (i < S.length) = true := decide_eq_true hi
          have d2 : decide ((i : Int) < 40) = true := decide_eq_true (by omega)
          have i1 : (0 : Int) ≤ (i : Int) := by omega
          have i2 : (i : Int) < (S.length : Int) := by omega
          have j1 : (0 : Int) ≤ (t2 : Int) := by omega
          have j2 : (t2 : Int) < 3 := by omega
          have l12 : p1 < p2 := by omega
          clear hs hw1 hn1 hb1 hn2 hb2 hwkE ep1 ep2
          by_cases hk0 : s.kind = 0
          · have e0 : (s.kind == 0) = true := by simpa using hk0
            clear hk0
            as_aux_lemma =>
              obtain ⟨C, hC, hCb⟩ : ∃ C : Nat, (c : Int) + (t1 : Int) = (C : Int) ∧ C ≤ 4 * (i + 1) := ⟨c + t1, by omega, by omega⟩
              have hok : fetchOk (C : Int) wk (1 + (t3 : Int)) (1 + (t4 : Int)) := ⟨by omega, by omega, HWN.out, by omega, by omega, by omega, by omega⟩
              have T1 := Lib.hid (fetch_any w2 u5 (R.map (·.x)) (C : Int) wk (1 + (t3 : Int)) (1 + (t4 : Int)) HS2.out.read HS2.out.g.sm HS2.out.g.many)
              unfold fetE fetL fetT at T1
              rw [if_pos hok, if_pos hok, if_pos hok] at T1
              obtain ⟨P, hP⟩ : ∃ P, fetchP (R.map (·.x)) (C : Int) (1 + (t3 : Int)) = P := ⟨_, rfl⟩
              have HF := Lib.hid (one_fetch (clock := (C : Int)) (wk := wk) (n := 1 + (t3 : Int)) (ticks := 1 + (t4 : Int)) HS2.out.inv HS2.out.u (by omega))
              have hPl : P.length ≤ 64 := by rw [← hP]; unfold fetchP; rw [List.length_take]; omega
              have HPm := Lib.hid (fetchP_facts (R.map (·.x)) (C : Int) (1 + (t3 : Int))).2
              have HIds := Lib.hid HS2.out.ids
              have HGY := Lib.hid (HS2.out.g.fet (C : Int) wk (1 + (t3 : Int)) (1 + (t4 : Int)))
              unfold fetL at HGY
              rw [if_pos hok] at HGY
              rw [hP] at T1 HF HPm HGY
              obtain ⟨Y, hY⟩ : ∃ Y, marks (fetchF wk ((C : Int) + (1 + (t4 : Int)))) (R.map (·.x)) P = Y := ⟨_, rfl⟩
              rw [hY] at T1 HGY
              have HYe := Lib.hid hY
              clear hok hP hY
              go_wp2_with (go_at_call 12; refine T1.out.mono ?_; rintro e w3 ⟨vy, vt, Ry, rfl, hO, hR, hT, hb3⟩; refine Hid.out ?_)
              refine Lib.hid ?_
              have HO := Lib.hid hO
              have HR := Lib.hid hR
              have HT := Lib.hid hT
              have HS3 := Lib.hid (HS2.out.below hb3)
              clear c0 c1 c2 c3 c4 c5 hO hR hT hb3 hC n0 n1 n2 n3 n4 n5 hm4 hm0 hm3 hm5 hwk
              obtain ⟨at_, ct, rfl⟩ := HT.out.shape
              rw [List.length_map]
              have hlT : ((P.map (·.t.id)) : List Int).length = P.length := List.length_map _
              obtain ⟨T, hTt⟩ : ∃ T : Int, (C : Int) + (1 + (t4 : Int)) = T := ⟨_, rfl⟩
              have hTw : (Lit.int .i64 T).wf = true := by
                simp [Lit.wf, IntKind.min, IntKind.max, IntKind.signed, IntKind.bits]
                omega
              rw [hTt] at HYe
              have hTC : (C : Int) < T := by omega
              have HTW := Lib.hid hTw
              have hTt2 := hTt
              have hM1 := Lib.hid (HS3.out.m1.isMap)
              have hM2 := Lib.hid (HS3.out.m2.isMap)
              have HLT := Lib.hid hlT
              have hl64 : 100 * i + 64 < 1000000 := by omega
              clear hTw hlT r1 r2 r3 r4 j1 j2 d1 d2
              go_wp2_with fail
              go_loopg [16] P.length (fun gh s16 wx => ∃ k : Nat, k + gh = P.length ∧ s16 = .int .i64 (k : Int) ∧ HeldM wx b1 (100 * i + k) (foldU held T (P.take k)) ∧ ByM wx (b1 + 1) (100 * i + k) (foldU by_ wk (P.take k)) ∧ Hid (Frm [some b1, some (b1 + 1)] w3 wx))
              case atStart => exact ⟨0, by omega, rfl, HS3.out.m1, HS3.out.m2, Lib.hid (Frm.refl _ _)⟩
              case round =>
                obtain ⟨k, hkg, rfl, hH, hBy, hF⟩ := hrel
                obtain ⟨wp, rfl⟩ : ∃ wp : World, wp = wr := ⟨_, rfl⟩
                have hTT : ∀ r ∈ [some b1, some (b1 + 1)], ∃ b es ck, r = some b ∧ w3.heap[b]? = some (.map es ck) := fun r hr => by
                  rcases List.mem_cons.1 hr with e | e
                  · obtain ⟨es, ck, h⟩ := hM1.out; exact ⟨b1, es, ck, e, h⟩
                  · obtain ⟨es, ck, h⟩ := hM2.out; exact ⟨b1 + 1, es, ck, List.mem_singleton.1 e, h⟩
                have HTT := Lib.hid hTT
                have hT := HT.out.offMap hF.out hTT
                by_cases hk : k < P.length
                · obtain ⟨g, cap, hv, hg1, hg2⟩ : ∃ g cap, (Value.slice at_ (P.map (·.t.id)).length ct) = .slice (some ⟨g, 0, none⟩) (P.map (·.t.id)).length cap ∧ w2.heap.size ≤ g ∧ g < wp.heap.size := by
                    rcases hT.val with ⟨_, h0⟩ | h
                    · have := congrArg List.length h0; rw [List.length_map, List.length_nil] at this; omega
                    · exact h
                  injection hv with hv1 _ hv2
                  subst hv1 hv2
                  obtain ⟨p, hp⟩ : ∃ p, P[k] = p := ⟨_, rfl⟩
                  obtain ⟨z, hz⟩ : ∃ z, p.t.id = z := ⟨_, rfl⟩
                  have x0 : wp.cell? ⟨g, k, none⟩ = some (.int .i64 z) := by
                    have := (hT.at (i := k) (by rw [List.length_map]; exact hk)).1
                    rw [this, List.getElem_map, hp, hz]
                  have hpm : p ∈ allT (R.map (·.x)) := (HPm.out p (by rw [← hp]; exact List.getElem_mem _)).1
                  have hzw : (Lit.int .i64 z).wf = true := by
                    rw [← hz]
                    exact HIds.out p hpm
                  obtain ⟨q, hq, hq1, hq2, hq3, hq4⟩ := HF.out.find k hk
                  rw [hTt] at hq2
                  have hle := HF.out.least k hk
                  rw [hp, hz, hTt] at hq hle
                  rw [HYe.out] at hq
                  have hlook := hH.look elI Try.underlying3 Try.underlying27 (by decide) (zero_int wp) z hzw
                  obtain ⟨hv, hve⟩ : ∃ hv, foldU held T (P.take k) z = hv := ⟨_, rfl⟩
                  rw [hve] at hlook hle
                  have dv : decide ((C : Int) < hv) = false := decide_eq_false (by omega)
                  obtain ⟨ve0, ve1, se0, se1, wA, wB, wC, wD, e1, e2, e3, e4, HD1, HD2, HDF, hcells⟩ := two_entries (w := wp.drew) (MapN.sameB hH rfl) (MapN.sameB hBy rfl) HS3.out.ne hzw HTW.out HWS.out (by unfold maxLen; omega) (by unfold maxLen; omega)
                  have hbl := HS2.out.m2.lt
                  obtain ⟨xA, xB, xC, xD⟩ := hcells g k (by omega) (by omega)
                  have xA := xA.trans x0
                  have xB := xB.trans x0
                  have xC := xC.trans x0
                  have xD := xD.trans x0
                  have hsum : IntKind.i64.wrap ((C : Int) + (1 + (t4 : Int))) = T := by rw [hTt]; exact IntWalk.i64_in _ (by omega)
                  have hkk : decide (k < P.length) = true := decide_eq_true hk
                  have k1 : (0 : Int) ≤ (k : Int) := by omega
                  have k2 : (k : Int) < (P.length : Int) := by omega
                  have hbD : Frm [some b1, some (b1 + 1)] w3 wD := (hF.out.below (Below.refl _ _).drew).trans HDF.out (fun r hr => Or.inl hr)
                  have HFD := Lib.hid hbD
                  have HOD := Lib.hid (HO.out.offMap hbD HTT.out)
                  have HTD := Lib.hid (HT.out.offMap hbD HTT.out)
                  have HRD := Lib.hid (HOD.out.readL HR.out HGY.out.sm)
                  have S4 := Lib.hid (find_any wD vy Y z HRD.out)
                  rw [hq] at S4
                  unfold findV at S4
                  have HQ := Lib.hid (find_in hq)
                  have HQ2 := Lib.hid (And.intro hq1 (And.intro hq2 (And.intro hq3 hq4)))
                  have HPk : Hid (P[k].t.id = z) := Lib.hid (by rw [hp, hz])
                  clear hF hH hBy hT hq hq1 hq2 hq3 hq4 hbD hve hp hz hle HDF hcells hTt hTt2
                  go_wp2_with fail
                  go_region_held3 (fun w' => w'.cell? ⟨g, k, none⟩ = some (.int .i64 z)) (first | go_keep | assumption) (fail)
                  go_wp2_with (go_at_call 13; refine S4.out.mono ?_; rintro e w5 ⟨rfl, hb5⟩; refine Hid.out ?_)
                  refine Lib.hid ?_
                  have HRD5 := Lib.hid (HRD.out.at_all hb5)
                  have HB5 := Lib.hid hb5
                  obtain ⟨b', o', bt, ot, n', c', cap', hvy, qi, qk, qn, tk⟩ := tokAt_of HRD5.out HQ.out
                  have HTK := Lib.hid tk
                  subst hvy
                  obtain ⟨y, hy⟩ : ∃ y, q.t = y := ⟨_, rfl⟩
                  rw [hy] at HTK HQ2
                  obtain ⟨g1, g2, g3, g4⟩ := HQ2.out
                  have i3 : (0 : Int) ≤ (q.i : Int) := by omega
                  have i4 : (q.i : Int) < (Y.length : Int) := by omega
                  have k3 : (0 : Int) ≤ (q.k : Int) := by omega
                  have k4 : (q.k : Int) < (n' : Int) := by omega
                  have HH1 : Hid (holdsB wk (C : Int) y = true) := Lib.hid (by
                    unfold holdsB
                    rw [g1, g2, g3, g4, decide_eq_true hTC]
                    simp)
                  have HH2 : ∀ wx : ByteArray, wx.toList ≠ wk.toList → holdsB wx (C : Int) y = false := fun wx h => by
                    unfold holdsB
                    rw [g1, g3, g4]
                    have : (wk.toList == wx.toList) = false := by rw [beq_eq_false_iff_ne]; exact fun e => h e.symm
                    rw [this]
                    simp
                  have HH2 := Lib.hid HH2
                  clear tk hb5 hy g1 g2 g3 g4
                  obtain ⟨tr, y0, y1, y2, y3, y4, y5, y6, y7, y8, -, -⟩ := HTK.out
                  go_wp2_with (go_at_call 14; refine (holds_any _ y wk (C : Int)).mono ?_; rintro e w6 ⟨rfl, hb6⟩; refine Hid.out ?_)
                  refine Lib.hid ?_
                  rw [HH1.out]
                  have HTK6 := Lib.hid (HTK.out.below hb6)
                  have HB6 := Lib.hid (HB5.out.trans (hb6.mono HB5.out.size))
                  clear hb6 tr y0 y1 y2 y3 y4 y5 y6 y7 y8
                  obtain ⟨tr, y0, y1, y2, y3, y4, y5, y6, y7, y8, -, -⟩ := HTK6.out
                  have HH3 := Lib.hid (fun (Wc : World) (x : ByteArray) (hx : x.size = 1) => (holds_any Wc y (wk ++ x) (C : Int)).mono (fun e w' ⟨h1, h2⟩ => (⟨h1.trans (by rw [HH2.out _ (more_ne wk x (by omega))]), h2⟩ : e = Ending.returned (.bool false) ∧ Below Wc.heap.size Wc w')))
                  go_wp2_with (go_at_call 14; refine (HH3.out _ _ (by rfl)).mono ?_; rintro e w7 ⟨rfl, hb7⟩; refine Hid.out ?_)
                  refine Lib.hid ?_
                  have HB7 := Lib.hid (HB6.out.trans (hb7.mono HB6.out.size))
                  clear hb7 tr y0 y1 y2 y3 y4 y5 y6 y7 y8
                  have HR1 : Hid (HeldM w7 b1 (100 * i + (k + 1)) (foldU held T (P.take (k + 1)))) := Lib.hid (by
                    rw [List.take_succ_eq_append_getElem hk, foldU_snoc, HPk.out]
                    exact (HD1.out.below HB7.out).le (by omega))
                  have HR2 : Hid (ByM w7 (b1 + 1) (100 * i + (k + 1)) (foldU by_ wk (P.take (k + 1)))) := Lib.hid (by
                    rw [List.take_succ_eq_append_getElem hk, foldU_snoc, HPk.out]
                    exact (HD2.out.below HB7.out).le (by omega))
                  have HR3 := Lib.hid (HFD.out.below HB7.out)
                  go_wp2_with fail
                  go_roundg (P.length - (k + 1))
                  case measure => omega
                  case rel => exact ⟨k + 1, by omega, by go_num, HR1.out, HR2.out, HR3⟩
                · have e : k = P.length := by omega
                  subst e
                  have dk : decide (P.length < P.length) = false := decide_eq_false (by omega)
                  rw [List.take_length] at hH hBy
                  have hge : ∀ r ∈ [some b1, some (b1 + 1)], ∀ q, r = some q → W.heap.size ≤ q := fun r hr q e => by
                    have h1 := HS3.out.l1
                    rcases List.mem_cons.1 hr with e2 | e2
                    · rw [e2] at e; injection e with e; omega
                    · rw [List.mem_singleton.1 e2] at e; injection e with e; omega
                  have hy := HYe.out
                  have HE : Hid (OneS W wp b1 (b1 + 1) vy Ry (100 * (i + 1)) (foldU held T P) (foldU by_ wk P)) := Lib.hid (by
                    have h1 := HF.out.inv
                    have h2 := HF.out.uq
                    rw [hTt, hy] at h1 h2
                    refine ⟨(⟨OwnF.lower HO.out.row HS2.out.b.size, HO.out.own.lower HS2.out.b.size⟩ : InsO w3 W.heap.size vy Ry).offMap hF.out hTT, by rw [HR.out]; exact HGY.out, by rw [HR.out]; exact h2, by rw [HR.out]; exact h1, ?_, hH.le (by omega), hBy.le (by omega), HS3.out.b.trans (hF.out.toBelow HS3.out.b.size hge), HS3.out.ne, HS3.out.l1, HS3.out.l2⟩
                    rw [HR.out, ← hy]
                    intro p hp
                    have hin : InL (R.map (·.x)) P := fun q hq => by
                      obtain ⟨a, b, _⟩ := allT_at (HPm.out q hq).1
                      exact ⟨a, b⟩
                    have hids := marks_ids (f := fetchF wk T) (fun _ => rfl) P (R.map (·.x)) hin
                    have : p.t.id ∈ (allT (R.map (·.x))).map (·.t.id) := by rw [← hids]; exact List.mem_map.2 ⟨p, hp, rfl⟩
                    obtain ⟨q, hq, e⟩ := List.mem_map.1 this
                    rw [← e]
                    exact HIds.out q hq)
                  clear hH hBy hF hT hTT hge hy hTt hTt2
                  go_wp2_with fail
                  go_roundg (S.length - (i + 1))
                  case measure => omega
                  case rel => exact ⟨i + 1, C, Ry, _, _, by omega, by go_num, rfl, by omega, by omega, HE⟩
          · have e0 : (s.kind == 0) = false := by simpa using hk0
            clear hk0
            obtain ⟨C, hC, hCb⟩ : ∃ C : Nat, (c : Int) + (t1 : Int) = (C : Int) ∧ C ≤ 4 * (i + 1) := ⟨c + t1, by omega, by omega⟩
            have T1 := Lib.hid (fail_any w2 u5 (R.map (·.x)) (C : Int) wk s.tok HS2.out.read HS2.out.g.sm HS2.out.g.tri)
            have HTok := Lib.hid HJ.out.2.2.1
            have l02 : p0 < w2.heap.size := by omega
            obtain ⟨h0, hh0⟩ : ∃ h0, held s.tok = h0 := ⟨_, rfl⟩
            obtain ⟨bw, hby⟩ : ∃ bw, by_ s.tok = bw := ⟨_, rfl⟩
            have l100 : 100 * i + 1 < 1000000 := by omega
            cases hf : findT (R.map (·.x)) s.tok with
            | none =>
              have hz0 : h0 = 0 := by rw [← hh0]; exact one_fail_none HS2.out.inv hf
              subst hz0
              have HFind := Lib.hid hf
              have hE : chgE (mayFail wk (C : Int)) (R.map (·.x)) s.tok = 5 := by unfold chgE; rw [hf]
              have dC : decide ((C : Int) < 0) = false := decide_eq_false (by omega)
              rw [hE] at T1
              clear hf hE
              as_aux_lemma =>
                go_wp2_with (go_at_call 15; refine T1.out.mono ?_; rintro e w3 ⟨vy, Ry, rfl, hO, hR, hb3⟩; refine Hid.out ?_)
                refine Lib.hid ?_
                have HO := Lib.hid hO
                have HR := Lib.hid hR
                have HS3 := Lib.hid (HS2.out.below hb3)
                have hl1 := HS3.out.m1.look elI Try.underlying3 Try.underlying27 (by decide) (zero_int w3) s.tok HTok.out
                have hl2 := HS3.out.m2.look elS Try.underlying3 Try.underlying28 (show (default : ByteArray).size ≤ maxLen by show 0 ≤ maxLen; omega) (zero_str w3) s.tok HTok.out
                rw [hh0] at hl1
                rw [hby] at hl2
                have HN3 := Lib.hid ((hb3.block p0 l02).trans HN2.out)
                have l03 : p0 < w3.heap.size := Nat.lt_of_lt_of_le l02 hb3.size
                have hn3 : w3.cell? ⟨p0, 3, none⟩ = some (.int .i64 s.tok) := (js_box HN3.out).2.2.2.1
                have S4 := Lib.hid (find_any w3 u5 (R.map (·.x)) s.tok HS3.out.read)
                rw [HFind.out] at S4
                unfold findV at S4
                clear c0 c1 c2 c3 c4 c5 hO hR hb3 n0 n1 n2 n3 n4 n5 hm4 hm0 hm3 hm5 hwk hC r1 r2 r3 r4 T1
                go_wp2_with (go_at_call 13; refine S4.out.mono ?_; rintro e w4 ⟨rfl, hb4⟩; refine Hid.out ?_)
                refine Lib.hid ?_
                have HS4 := Lib.hid (HS3.out.below hb4)
                have HO4 := Lib.hid (HO.out.kept hb4)
                have HN4 := Lib.hid ((hb4.block p0 l03).trans HN3.out)
                have hn4 : w4.cell? ⟨p0, 3, none⟩ = some (.int .i64 s.tok) := (js_box HN4.out).2.2.2.1
                have hl4 := HS4.out.m1.look elI Try.underlying3 Try.underlying27 (by decide) (zero_int w4) s.tok HTok.out
                rw [hh0] at hl4
                have l04 : p0 < w4.heap.size := Nat.lt_of_lt_of_le l03 hb4.size
                clear hl1 hl2 hn3 hb4 S4
                have HE : Hid (OneS W w4 b1 (b1 + 1) _ R (100 * (i + 1)) held by_) := Lib.hid (HS4.out.le (by omega))
                go_wp2_with fail
                go_roundg (S.length - (i + 1))
                case measure => omega
                case rel => exact ⟨i + 1, C, R, _, _, by omega, by go_num, rfl, by omega, by omega, HE⟩
            | some p =>
              have HFind := Lib.hid hf
              have hE : chgE (mayFail wk (C : Int)) (R.map (·.x)) s.tok = mayFail wk (C : Int) p.t := by unfold chgE; rw [hf]
              have hCh : ∀ (_ : mayFail wk (C : Int) p.t = 0), chgL (mayFail wk (C : Int)) failF (R.map (·.x)) s.tok = markL failF (R.map (·.x)) p.i p.k := fun h => by unfold chgL; rw [hf]; simp only; rw [if_pos h]
              rw [hE] at T1
              by_cases hz0 : h0 = 0
              · subst hz0
                have dC : decide ((C : Int) < 0) = false := decide_eq_false (by omega)
                cases hb : holdsB wk (C : Int) p.t with
                | false =>
                  have HHold := Lib.hid hb
                  rw [show mayFail wk (C : Int) p.t = 250 by unfold mayFail; rw [hb]; rfl] at T1
                  clear hf hE hCh hb
                  as_aux_lemma =>
                    go_wp2_with (go_at_call 15; refine T1.out.mono ?_; rintro e w3 ⟨vy, Ry, rfl, hO, hR, hb3⟩; refine Hid.out ?_)
                    refine Lib.hid ?_
                    have HO := Lib.hid hO
                    have HR := Lib.hid hR
                    have HS3 := Lib.hid (HS2.out.below hb3)
                    have hl1 := HS3.out.m1.look elI Try.underlying3 Try.underlying27 (by decide) (zero_int w3) s.tok HTok.out
                    have hl2 := HS3.out.m2.look elS Try.underlying3 Try.underlying28 (show (default : ByteArray).size ≤ maxLen by show 0 ≤ maxLen; omega) (zero_str w3) s.tok HTok.out
                    rw [hh0] at hl1
                    rw [hby] at hl2
                    have HN3 := Lib.hid ((hb3.block p0 l02).trans HN2.out)
                    have l03 : p0 < w3.heap.size := Nat.lt_of_lt_of_le l02 hb3.size
                    have hn3 : w3.cell? ⟨p0, 3, none⟩ = some (.int .i64 s.tok) := (js_box HN3.out).2.2.2.1
                    have S4 := Lib.hid (find_any w3 u5 (R.map (·.x)) s.tok HS3.out.read)
                    rw [HFind.out] at S4
                    unfold findV at S4
                    clear c0 c1 c2 c3 c4 c5 hO hR hb3 n0 n1 n2 n3 n4 n5 hm4 hm0 hm3 hm5 hwk hC r1 r2 r3 r4 T1
                    go_wp2_with (go_at_call 13; refine S4.out.mono ?_; rintro e w4 ⟨rfl, hb4⟩; refine Hid.out ?_)
                    refine Lib.hid ?_
                    have HS4 := Lib.hid (HS3.out.below hb4)
                    have HO4 := Lib.hid (HO.out.kept hb4)
                    have HN4 := Lib.hid ((hb4.block p0 l03).trans HN3.out)
                    have hn4 : w4.cell? ⟨p0, 3, none⟩ = some (.int .i64 s.tok) := (js_box HN4.out).2.2.2.1
                    have hl4 := HS4.out.m1.look elI Try.underlying3 Try.underlying27 (by decide) (zero_int w4) s.tok HTok.out
                    rw [hh0] at hl4
                    have l04 : p0 < w4.heap.size := Nat.lt_of_lt_of_le l03 hb4.size
                    clear hl1 hl2 hn3 hb4 S4
                    obtain ⟨b', o', bt, ot, n', c', cap', hvx, qi, qk, qn, tk⟩ := tokAt_of HS4.out.read (find_in HFind.out)
                    rw [List.length_map] at hvx qi
                    subst hvx
                    have i3 : (0 : Int) ≤ (p.i : Int) := by omega
                    have i4 : (p.i : Int) < (R.length : Int) := by omega
                    have k3 : (0 : Int) ≤ (p.k : Int) := by omega
                    have k4 : (p.k : Int) < (n' : Int) := by omega
                    obtain ⟨y, hy⟩ : ∃ y, p.t = y := ⟨_, rfl⟩
                    rw [hy] at tk HHold
                    obtain ⟨tr, y0, y1, y2, y3, y4, y5, y6, y7, y8, -, -⟩ := tk
                    clear hy
                    go_wp2_with (go_at_call 14; refine (holds_any _ y wk (C : Int)).mono ?_; rintro e w5 ⟨rfl, hb5⟩; refine Hid.out ?_)
                    refine Lib.hid ?_
                    rw [HHold.out]
                    have HS5 := Lib.hid (HS4.out.below hb5)
                    have HO5 := Lib.hid (HO4.out.kept hb5)
                    have HN5 := Lib.hid ((hb5.block p0 l04).trans HN4.out)
                    have hn5 : w5.cell? ⟨p0, 3, none⟩ = some (.int .i64 s.tok) := (js_box HN5.out).2.2.2.1
                    clear hb5 tr y0 y1 y2 y3 y4 y5 y6 y7 y8 hl4 hn4
                    have HE : Hid (OneS W w5 b1 (b1 + 1) _ R (100 * (i + 1)) held by_) := Lib.hid (HS5.out.le (by omega))
                    go_wp2_with fail
                    go_roundg (S.length - (i + 1))
                    case measure => omega
                    case rel => exact ⟨i + 1, C, R, _, _, by omega, by go_num, rfl, by omega, by omega, HE⟩
                | true =>
                  have HHold := Lib.hid hb
                  have hm : mayFail wk (C : Int) p.t = 0 := by unfold mayFail; rw [hb]; rfl
                  have HChg := Lib.hid (hCh hm)
                  rw [hm] at T1
                  clear hf hE hCh hb hm
                  as_aux_lemma =>
                    go_wp2_with (go_at_call 15; refine T1.out.mono ?_; rintro e w3 ⟨vy, Ry, rfl, hO, hR, hb3⟩; refine Hid.out ?_)
                    refine Lib.hid ?_
                    have HO := Lib.hid hO
                    have HR := Lib.hid hR
                    have HS3 := Lib.hid (HS2.out.below hb3)
                    have hl1 := HS3.out.m1.look elI Try.underlying3 Try.underlying27 (by decide) (zero_int w3) s.tok HTok.out
                    have hl2 := HS3.out.m2.look elS Try.underlying3 Try.underlying28 (show (default : ByteArray).size ≤ maxLen by show 0 ≤ maxLen; omega) (zero_str w3) s.tok HTok.out
                    rw [hh0] at hl1
                    rw [hby] at hl2
                    have HN3 := Lib.hid ((hb3.block p0 l02).trans HN2.out)
                    have l03 : p0 < w3.heap.size := Nat.lt_of_lt_of_le l02 hb3.size
                    have hn3 : w3.cell? ⟨p0, 3, none⟩ = some (.int .i64 s.tok) := (js_box HN3.out).2.2.2.1
                    have S4 := Lib.hid (find_any w3 u5 (R.map (·.x)) s.tok HS3.out.read)
                    rw [HFind.out] at S4
                    unfold findV at S4
                    clear c0 c1 c2 c3 c4 c5 hO hR hb3 n0 n1 n2 n3 n4 n5 hm4 hm0 hm3 hm5 hwk hC r1 r2 r3 r4 T1
                    go_wp2_with (go_at_call 13; refine S4.out.mono ?_; rintro e w4 ⟨rfl, hb4⟩; refine Hid.out ?_)
                    refine Lib.hid ?_
                    have HS4 := Lib.hid (HS3.out.below hb4)
                    have HO4 := Lib.hid (HO.out.kept hb4)
                    have HN4 := Lib.hid ((hb4.block p0 l03).trans HN3.out)
                    have hn4 : w4.cell? ⟨p0, 3, none⟩ = some (.int .i64 s.tok) := (js_box HN4.out).2.2.2.1
                    have hl4 := HS4.out.m1.look elI Try.underlying3 Try.underlying27 (by decide) (zero_int w4) s.tok HTok.out
                    rw [hh0] at hl4
                    have l04 : p0 < w4.heap.size := Nat.lt_of_lt_of_le l03 hb4.size
                    clear hl1 hl2 hn3 hb4 S4
                    obtain ⟨b', o', bt, ot, n', c', cap', hvx, qi, qk, qn, tk⟩ := tokAt_of HS4.out.read (find_in HFind.out)
                    rw [List.length_map] at hvx qi
                    subst hvx
                    have i3 : (0 : Int) ≤ (p.i : Int) := by omega
                    have i4 : (p.i : Int) < (R.length : Int) := by omega
                    have k3 : (0 : Int) ≤ (p.k : Int) := by omega
                    have k4 : (p.k : Int) < (n' : Int) := by omega
                    obtain ⟨y, hy⟩ : ∃ y, p.t = y := ⟨_, rfl⟩
                    rw [hy] at tk HHold
                    obtain ⟨tr, y0, y1, y2, y3, y4, y5, y6, y7, y8, -, -⟩ := tk
                    clear hy
                    go_wp2_with (go_at_call 14; refine (holds_any _ y wk (C : Int)).mono ?_; rintro e w5 ⟨rfl, hb5⟩; refine Hid.out ?_)
                    refine Lib.hid ?_
                    rw [HHold.out]
                    have HS5 := Lib.hid (HS4.out.below hb5)
                    have HO5 := Lib.hid (HO4.out.kept hb5)
                    have HN5 := Lib.hid ((hb5.block p0 l04).trans HN4.out)
                    have hn5 : w5.cell? ⟨p0, 3, none⟩ = some (.int .i64 s.tok) := (js_box HN5.out).2.2.2.1
                    clear hb5 tr y0 y1 y2 y3 y4 y5 y6 y7 y8 hl4 hn4
                    have HF1 := Lib.hid (one_failed HS5.out.inv HS5.out.u HFind.out)
                    have hRe : Ry.map (·.x) = markL failF (R.map (·.x)) p.i p.k := HR.out.trans HChg.out
                    obtain ⟨wU, hU1, hU2, hU3⟩ := HS5.out.m1.put elI Try.underlying3 Try.underlying27 s.tok HTok.out 0 (by decide) (by unfold maxLen; omega)
                    have hTM : ∀ r ∈ [some b1], ∃ b es ck, r = some b ∧ w5.heap[b]? = some (.map es ck) := fun r hr => by
                      obtain ⟨es, ck, h⟩ := HS5.out.m1.isMap
                      exact ⟨b1, es, ck, List.mem_singleton.1 hr, h⟩
                    have hFU : Frm [some b1] w5 wU := (Frm.refl _ _).grown hU3 (by simp)
                    have HOU := Lib.hid (HO5.out.offMap hFU hTM)
                    have hbl := HS5.out.m1.lt
                    have hb1p : b1 ≠ p0 := fun e => by
                      obtain ⟨es, ck, h⟩ := HS2.out.m1.isMap
                      have h2 := HN2.out
                      rw [← e, h] at h2
                      cases h2
                    have HE : Hid (OneS W wU b1 (b1 + 1) vy Ry (100 * (i + 1)) (updF held s.tok 0) by_) := Lib.hid (by
                      obtain ⟨f1, f2, f3⟩ := HF1.out
                      refine ⟨⟨OwnF.lower HOU.out.row HS2.out.b.size, HOU.out.own.lower HS2.out.b.size⟩, ?_, by rw [hRe]; exact f2, by rw [hRe]; exact f1, ?_, MapN.le hU2 (by omega), MapN.le (MapN.kept HS5.out.m2 hU3 (fun e => by injection e with e; omega)) (by omega), HS5.out.b.grown hU3 HS5.out.b.size (fun q hq => by cases hq; exact HS2.out.l1), HS2.out.ne, HS2.out.l1, HS2.out.l2⟩
                      · rw [HR.out]; exact HS2.out.g.chg (mayFail wk (C : Int)) failF s.tok (fun t _ h => by show t.tries - 1 ≤ _; omega)
                      · intro q hq
                        obtain ⟨a1, a2, _⟩ := allT_at (find_in HFind.out)
                        have hids := mark_ids (f := failF) (fun _ => rfl) a1 a2
                        rw [hRe] at hq
                        have : q.t.id ∈ (allT (R.map (·.x))).map (·.t.id) := by rw [← hids]; exact List.mem_map.2 ⟨q, hq, rfl⟩
                        obtain ⟨r, hr, e⟩ := List.mem_map.1 this
                        rw [← e]
                        exact HS2.out.ids r hr)
                    obtain ⟨b2, o2, bt2, ot2, n2', c2', cap2, hvy, qi2, qk2, qn2, tk2⟩ := tokAt_of HE.out.read (show (⟨p.i, p.k, failF p.t⟩ : PT) ∈ allT (Ry.map (·.x)) by rw [hRe]; exact HF1.out.2.2)
                    rw [List.length_map] at hvy qi2
                    have i5 : (0 : Int) ≤ (p.i : Int) := by omega
                    have i6 : (p.i : Int) < (Ry.length : Int) := by have : p.i < _ := qi2; omega
                    have k5 : (0 : Int) ≤ (p.k : Int) := by omega
                    have k6 : (p.k : Int) < (n2' : Int) := by have : p.k < _ := qk2; omega
                    subst hvy
                    obtain ⟨tr2, -, -, -, -, -, z5, z6, -, -, -, -⟩ := tk2
                    change wU.cell? ⟨bt2, ot2 + p.k * 9 + 5, none⟩ = some (.string ⟨#[]⟩) at z5
                    change wU.cell? ⟨bt2, ot2 + p.k * 9 + 6, none⟩ = some (.int .i64 0) at z6
                    have hem : (!(⟨#[]⟩ : ByteArray).toList.isEmpty) = false := by kernel_rfl
                    clear hU2 hU3 hTM hFU hRe qi2 qk2 qn2 hbl hb1p
                    go_wp2_with fail
                    go_roundg (S.length - (i + 1))
                    case measure => omega
                    case rel => exact ⟨i + 1, C, Ry, _, _, by omega, by go_num, rfl, by omega, by omega, HE⟩
              · have hone := one_fail_some (clock := (C : Int)) (wk := wk) HS2.out.inv HS2.out.u hf (by rw [hh0]; exact hz0)
                rw [hh0, hby] at hone
                have dz : (h0 == 0) = false := by simpa using hz0
                cases hbig : decide ((C : Int) < h0) with
                | false =>
                  rw [hbig] at hone
                  have hb : holdsB wk (C : Int) p.t = false := hone
                  rw [show mayFail wk (C : Int) p.t = 250 by unfold mayFail; rw [hb]; rfl] at T1
                  have HHold := Lib.hid hb
                  clear hf hE hCh hb hone hz0
                  as_aux_lemma =>
                    go_wp2_with (go_at_call 15; refine T1.out.mono ?_; rintro e w3 ⟨vy, Ry, rfl, hO, hR, hb3⟩; refine Hid.out ?_)
                    refine Lib.hid ?_
                    have HO := Lib.hid hO
                    have HR := Lib.hid hR
                    have HS3 := Lib.hid (HS2.out.below hb3)
                    have hl1 := HS3.out.m1.look elI Try.underlying3 Try.underlying27 (by decide) (zero_int w3) s.tok HTok.out
                    have hl2 := HS3.out.m2.look elS Try.underlying3 Try.underlying28 (show (default : ByteArray).size ≤ maxLen by show 0 ≤ maxLen; omega) (zero_str w3) s.tok HTok.out
                    rw [hh0] at hl1
                    rw [hby] at hl2
                    have HN3 := Lib.hid ((hb3.block p0 l02).trans HN2.out)
                    have l03 : p0 < w3.heap.size := Nat.lt_of_lt_of_le l02 hb3.size
                    have hn3 : w3.cell? ⟨p0, 3, none⟩ = some (.int .i64 s.tok) := (js_box HN3.out).2.2.2.1
                    have S4 := Lib.hid (find_any w3 u5 (R.map (·.x)) s.tok HS3.out.read)
                    rw [HFind.out] at S4
                    unfold findV at S4
                    clear c0 c1 c2 c3 c4 c5 hO hR hb3 n0 n1 n2 n3 n4 n5 hm4 hm0 hm3 hm5 hwk hC r1 r2 r3 r4 T1
                    go_wp2_with (go_at_call 13; refine S4.out.mono ?_; rintro e w4 ⟨rfl, hb4⟩; refine Hid.out ?_)
                    refine Lib.hid ?_
                    have HS4 := Lib.hid (HS3.out.below hb4)
                    have HO4 := Lib.hid (HO.out.kept hb4)
                    have HN4 := Lib.hid ((hb4.block p0 l03).trans HN3.out)
                    have hn4 : w4.cell? ⟨p0, 3, none⟩ = some (.int .i64 s.tok) := (js_box HN4.out).2.2.2.1
                    have hl4 := HS4.out.m1.look elI Try.underlying3 Try.underlying27 (by decide) (zero_int w4) s.tok HTok.out
                    rw [hh0] at hl4
                    have l04 : p0 < w4.heap.size := Nat.lt_of_lt_of_le l03 hb4.size
                    clear hl1 hl2 hn3 hb4 S4
                    have HE : Hid (OneS W w4 b1 (b1 + 1) _ R (100 * (i + 1)) held by_) := Lib.hid (HS4.out.le (by omega))
                    go_wp2_with fail
                    go_roundg (S.length - (i + 1))
                    case measure => omega
                    case rel => exact ⟨i + 1, C, R, _, _, by omega, by go_num, rfl, by omega, by omega, HE⟩
                | true =>
                  rw [hbig, Bool.true_and] at hone
                  cases hq : (bw.toList == wk.toList) with
                  | false =>
                    have hb : holdsB wk (C : Int) p.t = false := hone.trans hq
                    rw [show mayFail wk (C : Int) p.t = 250 by unfold mayFail; rw [hb]; rfl] at T1
                    have HHold := Lib.hid hb
                    clear hf hE hCh hb hone hz0
                    as_aux_lemma =>
                      go_wp2_with (go_at_call 15; refine T1.out.mono ?_; rintro e w3 ⟨vy, Ry, rfl, hO, hR, hb3⟩; refine Hid.out ?_)
                      refine Lib.hid ?_
                      have HO := Lib.hid hO
                      have HR := Lib.hid hR
                      have HS3 := Lib.hid (HS2.out.below hb3)
                      have hl1 := HS3.out.m1.look elI Try.underlying3 Try.underlying27 (by decide) (zero_int w3) s.tok HTok.out
                      have hl2 := HS3.out.m2.look elS Try.underlying3 Try.underlying28 (show (default : ByteArray).size ≤ maxLen by show 0 ≤ maxLen; omega) (zero_str w3) s.tok HTok.out
                      rw [hh0] at hl1
                      rw [hby] at hl2
                      have HN3 := Lib.hid ((hb3.block p0 l02).trans HN2.out)
                      have l03 : p0 < w3.heap.size := Nat.lt_of_lt_of_le l02 hb3.size
                      have hn3 : w3.cell? ⟨p0, 3, none⟩ = some (.int .i64 s.tok) := (js_box HN3.out).2.2.2.1
                      have S4 := Lib.hid (find_any w3 u5 (R.map (·.x)) s.tok HS3.out.read)
                      rw [HFind.out] at S4
                      unfold findV at S4
                      clear c0 c1 c2 c3 c4 c5 hO hR hb3 n0 n1 n2 n3 n4 n5 hm4 hm0 hm3 hm5 hwk hC r1 r2 r3 r4 T1
                      go_wp2_with (go_at_call 13; refine S4.out.mono ?_; rintro e w4 ⟨rfl, hb4⟩; refine Hid.out ?_)
                      refine Lib.hid ?_
                      have HS4 := Lib.hid (HS3.out.below hb4)
                      have HO4 := Lib.hid (HO.out.kept hb4)
                      have HN4 := Lib.hid ((hb4.block p0 l03).trans HN3.out)
                      have hn4 : w4.cell? ⟨p0, 3, none⟩ = some (.int .i64 s.tok) := (js_box HN4.out).2.2.2.1
                      have hl4 := HS4.out.m1.look elI Try.underlying3 Try.underlying27 (by decide) (zero_int w4) s.tok HTok.out
                      rw [hh0] at hl4
                      have l04 : p0 < w4.heap.size := Nat.lt_of_lt_of_le l03 hb4.size
                      clear hl1 hl2 hn3 hb4 S4
                      have HE : Hid (OneS W w4 b1 (b1 + 1) _ R (100 * (i + 1)) held by_) := Lib.hid (HS4.out.le (by omega))
                      go_wp2_with fail
                      go_roundg (S.length - (i + 1))
                      case measure => omega
                      case rel => exact ⟨i + 1, C, R, _, _, by omega, by go_num, rfl, by omega, by omega, HE⟩
                  | true =>
                    have hb : holdsB wk (C : Int) p.t = true := hone.trans hq
                    have hm : mayFail wk (C : Int) p.t = 0 := by unfold mayFail; rw [hb]; rfl
                    have HChg := Lib.hid (hCh hm)
                    rw [hm] at T1
                    clear hf hE hCh hb hone hz0 hm
                    as_aux_lemma =>
                      go_wp2_with (go_at_call 15; refine T1.out.mono ?_; rintro e w3 ⟨vy, Ry, rfl, hO, hR, hb3⟩; refine Hid.out ?_)
                      refine Lib.hid ?_
                      have HO := Lib.hid hO
                      have HR := Lib.hid hR
                      have HS3 := Lib.hid (HS2.out.below hb3)
                      have hl1 := HS3.out.m1.look elI Try.underlying3 Try.underlying27 (by decide) (zero_int w3) s.tok HTok.out
                      have hl2 := HS3.out.m2.look elS Try.underlying3 Try.underlying28 (show (default : ByteArray).size ≤ maxLen by show 0 ≤ maxLen; omega) (zero_str w3) s.tok HTok.out
                      rw [hh0] at hl1
                      rw [hby] at hl2
                      have HN3 := Lib.hid ((hb3.block p0 l02).trans HN2.out)
                      have l03 : p0 < w3.heap.size := Nat.lt_of_lt_of_le l02 hb3.size
                      have hn3 : w3.cell? ⟨p0, 3, none⟩ = some (.int .i64 s.tok) := (js_box HN3.out).2.2.2.1
                      have S4 := Lib.hid (find_any w3 u5 (R.map (·.x)) s.tok HS3.out.read)
                      rw [HFind.out] at S4
                      unfold findV at S4
                      clear c0 c1 c2 c3 c4 c5 hO hR hb3 n0 n1 n2 n3 n4 n5 hm4 hm0 hm3 hm5 hwk hC r1 r2 r3 r4 T1
                      go_wp2_with (go_at_call 13; refine S4.out.mono ?_; rintro e w4 ⟨rfl, hb4⟩; refine Hid.out ?_)
                      refine Lib.hid ?_
                      have HS4 := Lib.hid (HS3.out.below hb4)
                      have HO4 := Lib.hid (HO.out.kept hb4)
                      have HN4 := Lib.hid ((hb4.block p0 l03).trans HN3.out)
                      have hn4 : w4.cell? ⟨p0, 3, none⟩ = some (.int .i64 s.tok) := (js_box HN4.out).2.2.2.1
                      have hl4 := HS4.out.m1.look elI Try.underlying3 Try.underlying27 (by decide) (zero_int w4) s.tok HTok.out
                      rw [hh0] at hl4
                      have l04 : p0 < w4.heap.size := Nat.lt_of_lt_of_le l03 hb4.size
                      clear hl1 hl2 hn3 hb4 S4
                      have HF1 := Lib.hid (one_failed HS4.out.inv HS4.out.u HFind.out)
                      have hRe : Ry.map (·.x) = markL failF (R.map (·.x)) p.i p.k := HR.out.trans HChg.out
                      obtain ⟨wU, hU1, hU2, hU3⟩ := HS4.out.m1.put elI Try.underlying3 Try.underlying27 s.tok HTok.out 0 (by decide) (by unfold maxLen; omega)
                      have hTM : ∀ r ∈ [some b1], ∃ b es ck, r = some b ∧ w4.heap[b]? = some (.map es ck) := fun r hr => by
                        obtain ⟨es, ck, h⟩ := HS4.out.m1.isMap
                        exact ⟨b1, es, ck, List.mem_singleton.1 hr, h⟩
                      have hFU : Frm [some b1] w4 wU := (Frm.refl _ _).grown hU3 (by simp)
                      have HOU := Lib.hid (HO4.out.offMap hFU hTM)
                      have hbl := HS4.out.m1.lt
                      have hb1p : b1 ≠ p0 := fun e => by
                        obtain ⟨es, ck, h⟩ := HS2.out.m1.isMap
                        have h2 := HN2.out
                        rw [← e, h] at h2
                        cases h2
                      have HE : Hid (OneS W wU b1 (b1 + 1) vy Ry (100 * (i + 1)) (updF held s.tok 0) by_) := Lib.hid (by
                        obtain ⟨f1, f2, f3⟩ := HF1.out
                        refine ⟨⟨OwnF.lower HOU.out.row HS2.out.b.size, HOU.out.own.lower HS2.out.b.size⟩, ?_, by rw [hRe]; exact f2, by rw [hRe]; exact f1, ?_, MapN.le hU2 (by omega), MapN.le (MapN.kept HS4.out.m2 hU3 (fun e => by injection e with e; omega)) (by omega), HS4.out.b.grown hU3 HS4.out.b.size (fun q hq => by cases hq; exact HS2.out.l1), HS2.out.ne, HS2.out.l1, HS2.out.l2⟩
                        · rw [HR.out]; exact HS2.out.g.chg (mayFail wk (C : Int)) failF s.tok (fun t _ h => by show t.tries - 1 ≤ _; omega)
                        · intro q hq
                          obtain ⟨a1, a2, _⟩ := allT_at (find_in HFind.out)
                          have hids := mark_ids (f := failF) (fun _ => rfl) a1 a2
                          rw [hRe] at hq
                          have : q.t.id ∈ (allT (R.map (·.x))).map (·.t.id) := by rw [← hids]; exact List.mem_map.2 ⟨q, hq, rfl⟩
                          obtain ⟨r, hr, e⟩ := List.mem_map.1 this
                          rw [← e]
                          exact HS2.out.ids r hr)
                      obtain ⟨b2, o2, bt2, ot2, n2', c2', cap2, hvy, qi2, qk2, qn2, tk2⟩ := tokAt_of HE.out.read (show (⟨p.i, p.k, failF p.t⟩ : PT) ∈ allT (Ry.map (·.x)) by rw [hRe]; exact HF1.out.2.2)
                      rw [List.length_map] at hvy qi2
                      have i5 : (0 : Int) ≤ (p.i : Int) := by omega
                      have i6 : (p.i : Int) < (Ry.length : Int) := by have : p.i < _ := qi2; omega
                      have k5 : (0 : Int) ≤ (p.k : Int) := by omega
                      have k6 : (p.k : Int) < (n2' : Int) := by have : p.k < _ := qk2; omega
                      subst hvy
                      obtain ⟨tr2, -, -, -, -, -, z5, z6, -, -, -, -⟩ := tk2
                      change wU.cell? ⟨bt2, ot2 + p.k * 9 + 5, none⟩ = some (.string ⟨#[]⟩) at z5
                      change wU.cell? ⟨bt2, ot2 + p.k * 9 + 6, none⟩ = some (.int .i64 0) at z6
                      have hem : (!(⟨#[]⟩ : ByteArray).toList.isEmpty) = false := by kernel_rfl
                      clear hU2 hU3 hTM hFU hRe qi2 qk2 qn2 hbl hb1p
                      go_wp2_with fail
                      go_roundg (S.length - (i + 1))
                      case measure => omega
                      case rel => exact ⟨i + 1, C, Ry, _, _, by omega, by go_num, rfl, by omega, by omega, HE⟩
        · have fin : (decide (i < S.length) = false) ∨ (decide (i < S.length) = true ∧ decide ((i : Int) < 40) = false ∧ decide (i < 40) = false) := by
            by_cases h : i < S.length
            · exact Or.inr ⟨decide_eq_true h, decide_eq_false (by omega), decide_eq_false (by omega)⟩
            · exact Or.inl (decide_eq_false h)
          clear hi
          rcases fin with d1 | ⟨d1, d2, d3⟩
          all_goals
            go_wp2_with fail
            go_ret
            exact ⟨ret_bool rfl, HS.out.b⟩

end Go.Proofs.Ytggnheekkbideaa
