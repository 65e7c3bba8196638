/- Texts merged by merge.py: StubGr, StubExpl, StubRead, StubLaw. -/
import Derived.Test.YtbolacnpljkpbaaDoorStubSM
import Derived.Test.YtbolacnpljkpbaaDoorStubPM
import Derived.Test.YtbolacnpljkpbaaDoorStubText
import Derived.Test.YtbolacnpljkpbaaDoorReachRead3
set_option maxRecDepth 100000
/- stub.Set; a graph of kept markings under way in memory of the call's own. -/
namespace Go.Proofs.YtbolacnpljkpbaaDoor
open Go.RowKit Go.Maps
open Classical

noncomputable def Nt.setS (n : Nt) (m : List Int) : List Int := if n.markB m then setL n m else []
theorem markB_ok {n : Nt} {m : List Int} (h : n.markB m = true) : n.okB = true := by
  simp only [Nt.markB, Bool.and_eq_true] at h
  exact h.1

set_option maxHeartbeats 1000000 in
theorem sset_any (w : World) (vp vt vm : Value) (n : Nt) (m : List Int) (B : Nat) (hB : B ≤ w.heap.size) (hn : NtR w B vp vt n) (hm : Ints w B vm m) :
    Calls Tryd.prog 11 #[.agg #[vp, vt, .int .i64 n.init, .int .i64 n.final], vm] w (ListPost w (n.setS m) (n.markE m)) := by
  have hbel1 := (Below.refl w.heap.size w).alloc (Nat.le_refl _) (.cells #[vp, vt, .int .i64 n.init, .int .i64 n.final] 25)
  have hbx := heap_alloc_new w (.cells #[vp, vt, .int .i64 n.init, .int .i64 n.final] 25)
  obtain ⟨W1, hW1⟩ : ∃ W1, w.alloc (.cells #[vp, vt, .int .i64 n.init, .int .i64 n.final] 25) = W1 := ⟨_, rfl⟩
  rw [hW1] at hbel1 hbx
  have hlt := lt_of_block hbx
  have hz1 := hbel1.size
  have HN := Lib.hid hn
  have HM := Lib.hid hm
  have HE := Lib.hid (enabledNet_any W1 vp vt vm n m B (by omega) (hn.mono (hbel1.mono hB) (Nat.le_refl _)) (hm.mono (hbel1.mono hB) (Nat.le_refl _)))
  obtain ⟨ap, cp, hvp⟩ := hn.1.val
  obtain ⟨at_, ct, hvt⟩ := hn.2.val
  subst hvp hvt
  obtain ⟨am, cm, hvm⟩ := hm.val
  subst hvm
  obtain ⟨c0, c1, c2, c3⟩ := box4' hbx
  have HBX := Lib.hid hbx
  cases hmk : n.markB m with
  | false =>
    have hf : Hid (n.setS m = [] ∧ n.markE m = 1) := ⟨by simp [Nt.setS, hmk], markE_no hmk⟩
    rw [hf.out.2] at HE
    clear hmk hn hm hbx
    go_enter Tryd.func11, Tryd.ntmps11
    go_wp2_with (go_at_call 14; refine HE.out.mono ?_; rintro e w2 ⟨v, rfl, how, hb⟩)
    go_ret2
    rw [hf.out.1, hf.out.2]
    exact ⟨_, rfl, OwnI.nil _ _, hbel1.trans (hb.mono hz1)⟩
  | true =>
    have hf : Hid (n.setS m = setL n m ∧ n.markE m = 0) := ⟨by simp [Nt.setS, hmk], markE_yes hmk⟩
    have hok := markB_ok hmk
    have hMk := Nt.mark_of hmk
    have HO := Lib.hid (And.intro hok hMk)
    rw [hf.out.2] at HE
    clear hmk hn hm hbx hok hMk
    go_enter Tryd.func11, Tryd.ntmps11
    go_wp2_with (first | (go_at_call 14; refine HE.out.mono ?_; rintro e w2 ⟨v, rfl, how, hb⟩; refine Hid.out ?_))
    refine Lib.hid ?_
    have hz2 := hb.size
    have hb02 := hbel1.trans (hb.mono hz1)
    obtain ⟨d0, d1, d2, d3⟩ := box4' ((hb.block _ hlt).trans HBX.out)
    have HX := Lib.hid (explorer_any w2 B (by omega) _ _ n (HN.out.mono (hb02.mono hB) (Nat.le_refl _)) (Nt.ok_of HO.out.1))
    clear hW1 c0 c1 c2 c3 how
    go_wp2_with (first | (go_at_call 30; refine HX.out.mono ?_; rintro e w3 ⟨x, rfl, hx, hb3⟩; refine Hid.out ?_))
    refine Lib.hid ?_
    have hz3 := hb3.size
    have hb03 := hb02.trans (hb3.mono (by omega))
    have HS := Lib.hid (set_any w3 w3.heap.size x _ _ n hx (Nat.le_refl _) _ m (HM.out.mono (hb03.mono hB) (by omega)) HO.out.1 HO.out.2)
    clear d0 d1 d2 d3
    go_wp2_with (go_at_call 31; refine HS.out.mono ?_; rintro e w4 ⟨va, vf, rfl, hoa, -, hb4⟩)
    go_ret2
    rw [hf.out.1, hf.out.2]
    exact ⟨_, rfl, hoa.lower (by omega), hb03.trans (hb4.mono (by omega))⟩

theorem OwnF.offType {α : Type} {f : α → List Value} {e : TypeId} {k : Nat} {w w' : World} {base : Nat} {v : Value} {A : List α} (h : OwnF f e k w base v A) {r : Option Nat} {T : TypeId} (hT : ∀ q, r = Option.some q → ∃ c fr, w.heap[q]? = Option.some (.cells c T fr)) (hne : e ≠ T) (hg : w.grownBy w' r) : OwnF f e k w' base v A := by
  refine h.grown hg fun q hq e2 => ?_
  obtain ⟨c, fr, hc⟩ := hT q e2.symm
  obtain ⟨⟨c2, hc2⟩, _⟩ := h.ty hq
  exact type_ne hc2 hc hne rfl
theorem OwnI.offType {w w' : World} {base : Nat} {v : Value} {l : List Int} (h : OwnI w base v l) {r : Option Nat} {T : TypeId} (hT : ∀ q, r = Option.some q → ∃ c fr, w.heap[q]? = Option.some (.cells c T fr)) (hne : 3 ≠ T) (hg : w.grownBy w' r) : OwnI w' base v l :=
  own_cellI.1 ((own_cellI.2 h).offType hT hne hg)
theorem OwnF.offMap {α : Type} {f : α → List Value} {e : TypeId} {k : Nat} {w w' : World} {base : Nat} {v : Value} {A : List α} (h : OwnF f e k w base v A) {mp : Nat} (hm : ∃ es ck, w.heap[mp]? = Option.some (.map es ck)) (hg : w.grownBy w' (Option.some mp)) : OwnF f e k w' base v A := row_map h hm hg

/-- The parts of a graph under way: markings, edges, the edges of the marking at hand, the map of texts. -/
structure SPar (w : World) (b0 base mp : Nat) (vM vE vD : Value) (ks : List (List Int)) (Ms : List (List Int × Value)) (Es : List (List (Int × Int) × Value)) (did : List (Int × Int)) : Prop where
  rowM : RowM w base vM Ms
  rowE : RowX w base vE Es
  rowD : RowE w base vD did
  marks : ∀ x ∈ Ms, OwnI w b0 x.2 x.1
  edges : ∀ x ∈ Es, RowE w base x.2 x.1
  apart : ∀ x ∈ Es, ∀ b, x.2.ownBlock = some b → vD.ownBlock ≠ some b
  by_ : ∃ D, MapR w mp ks.length D ∧ MapG D ks
  hmp : base ≤ mp
section
variable {w w' w6 : World} {b0 base mp : Nat} {vM vE vD : Value} {ks : List (List Int)} {Ms : List (List Int × Value)} {Es : List (List (Int × Int) × Value)} {did : List (Int × Int)}
theorem SPar.kept (h : SPar w b0 base mp vM vE vD ks Ms Es did) (hb : Below w.heap.size w w') : SPar w' b0 base mp vM vE vD ks Ms Es did :=
  ⟨OwnF.kept h.rowM hb, OwnF.kept h.rowE hb, OwnF.kept h.rowD hb, fun x hx => (h.marks x hx).kept hb (Nat.le_refl _), fun x hx => OwnF.kept (h.edges x hx) hb, h.apart, by
    obtain ⟨D, h1, h2⟩ := h.by_
    exact ⟨D, h1.kept (below_grownBy hb none) (by simp), h2⟩, h.hmp⟩
theorem SPar.isMap (h : SPar w b0 base mp vM vE vD ks Ms Es did) : ∃ es ck, w.heap[mp]? = some (.map es ck) := by
  obtain ⟨D, ⟨es, ck, hb, _⟩, _⟩ := h.by_
  exact ⟨es, ck, hb⟩
theorem SPar.mapOff (h : SPar w b0 base mp vM vE vD ks Ms Es did) {r : Option Nat} {T : TypeId} (hT : ∀ q, r = some q → ∃ c fr, w.heap[q]? = some (.cells c T fr)) (hg : w.grownBy w' r) : ∃ D, MapR w' mp ks.length D ∧ MapG D ks := by
  obtain ⟨es, ck, hm⟩ := h.isMap
  obtain ⟨D, h1, h2⟩ := h.by_
  refine ⟨D, h1.kept hg (fun e => ?_), h2⟩
  obtain ⟨c, fr, hc⟩ := hT mp e.symm
  rw [hm] at hc; cases hc
theorem tyOf {α : Type} {f : α → List Value} {e : TypeId} {k : Nat} {v : Value} {A : List α} (h : OwnF f e k w base v A) : ∀ q, v.ownBlock = some q → ∃ c fr, w.heap[q]? = some (.cells c e fr) := by
  intro q hq
  obtain ⟨⟨c, hc⟩, _⟩ := h.ty hq
  exact ⟨c, _, hc⟩
theorem SPar.pushM (h : SPar w b0 base mp vM vE vD ks Ms Es did) (hg : w.grownBy w6 vM.ownBlock) {v6 vm : Value} {m : List Int} (h6 : RowM w6 base v6 (Ms ++ [(m, vm)])) (hm : OwnI w b0 vm m) : SPar w6 b0 base mp v6 vE vD ks (Ms ++ [(m, vm)]) Es did := by
  have hT := tyOf h.rowM
  refine ⟨h6, h.rowE.offType hT (by decide) hg, h.rowD.offType hT (by decide) hg, fun x hx => ?_, fun x hx => (h.edges x hx).offType hT (by decide) hg, h.apart, h.mapOff hT hg, h.hmp⟩
  rcases List.mem_append.1 hx with hx | hx
  · exact (h.marks x hx).offType hT (by decide) hg
  · obtain rfl : x = (m, vm) := by simpa using hx
    exact hm.offType hT (by decide) hg
theorem SPar.pushE (h : SPar w b0 base mp vM vE vD ks Ms Es did) (hg : w.grownBy w6 vE.ownBlock) {v6 : Value} (h6 : RowX w6 base v6 (Es ++ [(did, vD)])) : SPar w6 b0 base mp vM v6 (.slice none 0 0) ks Ms (Es ++ [(did, vD)]) [] := by
  have hT := tyOf h.rowE
  refine ⟨h.rowM.offType hT (by decide) hg, h6, OwnF.nil _ _, fun x hx => (h.marks x hx).offType hT (by decide) hg, fun x hx => ?_, fun x _ b _ e => (by cases e), h.mapOff hT hg, h.hmp⟩
  rcases List.mem_append.1 hx with hx | hx
  · exact (h.edges x hx).offType hT (by decide) hg
  · obtain rfl : x = (did, vD) := by simpa using hx
    exact h.rowD.offType hT (by decide) hg
theorem SPar.pushD (h : SPar w b0 base mp vM vE vD ks Ms Es did) (hg : w.grownBy w6 vD.ownBlock) {v6 : Value} {e : Int × Int} (h6 : RowE w6 base v6 (did ++ [e])) (hat : v6.ownBlock = vD.ownBlock ∨ v6.ownBlock = some w.heap.size) : SPar w6 b0 base mp vM vE v6 ks Ms Es (did ++ [e]) := by
  have hT := tyOf h.rowD
  refine ⟨h.rowM.offType hT (by decide) hg, h.rowE.offType hT (by decide) hg, h6, fun x hx => (h.marks x hx).offType hT (by decide) hg, fun x hx => (h.edges x hx).grown hg fun q hq e2 => h.apart x hx q hq e2.symm, fun x hx b hb e2 => ?_, h.mapOff hT hg, h.hmp⟩
  rcases hat with e1 | e1
  · rw [e1] at e2; exact h.apart x hx b hb e2
  · rw [e1] at e2
    obtain rfl := Option.some.inj e2
    obtain ⟨⟨c, hc⟩, _⟩ := (h.edges x hx).ty hb
    have := lt_of_block hc
    omega
theorem SPar.box (h : SPar w b0 base mp vM vE vD ks Ms Es did) {p : Nat} {c : Array Value} (hbx : w.heap[p]? = some (.cells c 76)) (i : Nat) (u : Value) : SPar (w.setCell ⟨p, i, none⟩ u) b0 base mp vM vE vD ks Ms Es did := by
  have hg := grownBy_setCell w p i u
  have hT : ∀ q, some p = some q → ∃ c fr, w.heap[q]? = some (.cells c 76 fr) := fun q e => by
    obtain rfl := Option.some.inj e
    exact ⟨c, _, hbx⟩
  exact ⟨h.rowM.offType hT (by decide) hg, h.rowE.offType hT (by decide) hg, h.rowD.offType hT (by decide) hg, fun x hx => (h.marks x hx).offType hT (by decide) hg, fun x hx => (h.edges x hx).offType hT (by decide) hg, h.apart, h.mapOff hT hg, h.hmp⟩
theorem SPar.put (h : SPar w b0 base mp vM vE vD ks Ms Es did) (hg : w.grownBy w' (some mp)) {D : DataW Unit} {m : List Int} (h1 : MapR w' mp (ks.length + 1) D) (h2 : MapG D (ks ++ [m])) : SPar w' b0 base mp vM vE vD (ks ++ [m]) Ms Es did :=
  ⟨row_map h.rowM h.isMap hg, row_map h.rowE h.isMap hg, row_map h.rowD h.isMap hg, fun x hx => own_map (h.marks x hx) h.isMap hg, fun x hx => row_map (h.edges x hx) h.isMap hg, h.apart, ⟨D, by rw [List.length_append, List.length_singleton]; exact h1, h2⟩, h.hmp⟩
end

/-- A graph of kept markings that stands. -/
def SgR (w : World) (B p : Nat) (g : Gr) : Prop :=
  ∃ vM vE, w.heap[p]? = some (.cells #[vM, vE] 76) ∧ p < B ∧ VCol Ints w B vM g.marks ∧ VCol Prs w B vE g.edges
theorem SgR.mono {w w' : World} {B B' p : Nat} {g : Gr} (h : SgR w B p g) (hb : Below B w w') (hB : B ≤ B') : SgR w' B' p g := by
  obtain ⟨vM, vE, h1, h2, h3, h4⟩ := h
  exact ⟨vM, vE, (hb.block p h2).trans h1, by omega, VCol.mono (R := Ints) (fun a b c => ColV.mono a b c) h3 hb hB, VCol.mono (R := Prs) (fun a b c => Prs.mono a b c) h4 hb hB⟩
theorem SPar.done {w : World} {b0 base mp p : Nat} {vM vE vD : Value} {Ms : List (List Int × Value)} {Es : List (List (Int × Int) × Value)} {did : List (Int × Int)} {g : Gr} (h : SPar w b0 base mp vM vE vD g.marks Ms Es did) (hbx : w.heap[p]? = some (.cells #[vM, vE] 76))
    (hM : Ms.map Prod.fst = g.marks) (hE : Es.map Prod.fst = g.edges) (h1 : g.marks.length ≤ 1024) (h2 : g.edges.length ≤ 1024) (r1 : ∀ l ∈ g.marks, l.length ≤ 4096) (r2 : ∀ l ∈ g.edges, l.length ≤ 8192) : SgR w w.heap.size p g := by
  have hMl : Ms.length = g.marks.length := by rw [← hM]; simp
  have hEl : Es.length = g.edges.length := by rw [← hE]; simp
  refine ⟨vM, vE, hbx, lt_of_block hbx, ?_, ?_⟩
  · obtain ⟨aM, cM, rfl⟩ := OwnF.shape h.rowM
    refine ⟨aM, cM, by rw [hMl], by omega, fun i hi => ?_⟩
    obtain ⟨gM, rfl, _, _, hlt⟩ := OwnF.some h.rowM (by omega)
    have := OwnF.at cellM_len h.rowM (i := i) (by omega) (j := 0) (by omega)
    rw [Nat.mul_one, Nat.add_zero] at this
    refine ⟨gM, 0, Ms[i].2, rfl, hlt, by rw [Nat.zero_add]; exact this, ?_⟩
    have e : g.marks[i] = Ms[i].1 := by
      have h3 : (Ms.map Prod.fst)[i]? = g.marks[i]? := by rw [hM]
      rw [List.getElem?_map, List.getElem?_eq_getElem (by omega), List.getElem?_eq_getElem hi] at h3
      exact (Option.some.inj h3).symm
    have hr := r1 _ (List.getElem_mem hi)
    rw [e] at hr ⊢
    exact (h.marks _ (List.getElem_mem (show i < Ms.length by omega))).col (by omega) (Nat.le_refl _)
  · obtain ⟨aE, cE, rfl⟩ := OwnF.shape h.rowE
    refine ⟨aE, cE, by rw [hEl], by omega, fun i hi => ?_⟩
    obtain ⟨gE, rfl, _, _, hlt⟩ := OwnF.some h.rowE (by omega)
    have := OwnF.at cellX_len h.rowE (i := i) (by omega) (j := 0) (by omega)
    rw [Nat.mul_one, Nat.add_zero] at this
    refine ⟨gE, 0, Es[i].2, rfl, hlt, by rw [Nat.zero_add]; exact this, ?_⟩
    have e : g.edges[i] = Es[i].1 := by
      have h3 : (Es.map Prod.fst)[i]? = g.edges[i]? := by rw [hE]
      rw [List.getElem?_map, List.getElem?_eq_getElem (by omega), List.getElem?_eq_getElem hi] at h3
      exact (Option.some.inj h3).symm
    have hr := r2 _ (List.getElem_mem hi)
    rw [e] at hr ⊢
    exact RowE.prs (h.edges _ (List.getElem_mem (show i < Es.length by omega))) (by omega) (Nat.le_refl _)
section
variable {w w' w6 : World} {b0 base mp p : Nat} {vM vE vD : Value} {ks : List (List Int)} {Ms : List (List Int × Value)} {Es : List (List (Int × Int) × Value)} {did : List (Int × Int)}
/-- A graph under way: its parts and its two cells. -/
structure SG (w : World) (b0 base mp p : Nat) (vM vE vD : Value) (ks : List (List Int)) (Ms : List (List Int × Value)) (Es : List (List (Int × Int) × Value)) (did : List (Int × Int)) : Prop where
  par : SPar w b0 base mp vM vE vD ks Ms Es did
  bx : w.heap[p]? = some (.cells #[vM, vE] 76)
  hp : base ≤ p
theorem SG.lt (h : SG w b0 base mp p vM vE vD ks Ms Es did) : p < w.heap.size := lt_of_block h.bx
theorem SG.kept (h : SG w b0 base mp p vM vE vD ks Ms Es did) (hb : Below w.heap.size w w') : SG w' b0 base mp p vM vE vD ks Ms Es did := ⟨h.par.kept hb, (hb.block p h.lt).trans h.bx, h.hp⟩
theorem bx_off {r : Option Nat} {T : TypeId} {c : Array Value} (hbx : w.heap[p]? = some (.cells c 76)) (hT : ∀ q, r = some q → ∃ c fr, w.heap[q]? = some (.cells c T fr)) (hne : 76 ≠ T) (hg : w.grownBy w' r) : w'.heap[p]? = some (.cells c 76) := by
  refine (hg.block p (lt_of_block hbx) fun e => ?_).trans hbx
  obtain ⟨c2, fr, hc⟩ := hT p e.symm
  exact type_ne hbx hc hne rfl
theorem box_ty {c : Array Value} (hbx : w.heap[p]? = some (.cells c 76)) : ∀ q, some p = some q → ∃ c fr, w.heap[q]? = some (.cells c 76 fr) := fun q e => by
  obtain rfl := Option.some.inj e
  exact ⟨c, _, hbx⟩
theorem below_row {α : Type} {f : α → List Value} {e : TypeId} {k : Nat} {v : Value} {A : List α} (h : OwnF f e k w base v A) (hb : base ≤ w.heap.size) (hg : w.grownBy w6 v.ownBlock) : Below base w w6 :=
  (Below.refl _ _).grown hg hb (fun _ hk => (OwnF.ty h hk).2)
theorem SG.stepM (h : SG w b0 base mp p vM vE vD ks Ms Es did) (hg : w.grownBy w6 vM.ownBlock) {v6 vm : Value} {m : List Int} (h6 : w6.ownsRow base 26 1 v6 (Ms.length + 1) (cellsF cellM Ms ++ [vm])) (hm : OwnI w b0 vm m) :
    SG (w6.setCell ⟨p, 0, none⟩ v6) b0 base mp p v6 vE vD ks (Ms ++ [(m, vm)]) Es did ∧ Below base w (w6.setCell ⟨p, 0, none⟩ v6) ∧ ∀ {b v l}, OwnI w b v l → OwnI (w6.setCell ⟨p, 0, none⟩ v6) b v l := by
  have h6' := OwnF.newer (f := cellM) (x := (m, vm)) h6
  have hbx := bx_off h.bx (tyOf h.par.rowM) (by decide) hg
  have h1 := h.par.pushM hg h6' hm
  have hgs := grownBy_setCell w6 p 0 v6
  refine ⟨⟨h1.box hbx 0 v6, ?_, h.hp⟩, (below_row h.par.rowM (by have := h.lt; have := h.hp; omega) hg).setCell (p := ⟨p, 0, none⟩) h.hp _, fun hv => (hv.offType (tyOf h.par.rowM) (by decide) hg).offType (box_ty hbx) (by decide) hgs⟩
  exact heap_setCell_self (i := 0) v6 hbx
theorem SG.stepE (h : SG w b0 base mp p vM vE vD ks Ms Es did) (hg : w.grownBy w6 vE.ownBlock) {v6 : Value} (h6 : w6.ownsRow base 42 1 v6 (Es.length + 1) (cellsF cellX Es ++ [vD])) :
    SG (w6.setCell ⟨p, 1, none⟩ v6) b0 base mp p vM v6 (.slice none 0 0) ks Ms (Es ++ [(did, vD)]) [] ∧ Below base w (w6.setCell ⟨p, 1, none⟩ v6) := by
  have h6' := OwnF.newer (f := cellX) (x := (did, vD)) h6
  have hbx := bx_off h.bx (tyOf h.par.rowE) (by decide) hg
  have h1 := h.par.pushE hg h6'
  refine ⟨⟨h1.box hbx 1 v6, ?_, h.hp⟩, (below_row h.par.rowE (by have := h.lt; have := h.hp; omega) hg).setCell (p := ⟨p, 1, none⟩) h.hp _⟩
  exact heap_setCell_self (i := 1) v6 hbx
theorem SG.stepD (h : SG w b0 base mp p vM vE vD ks Ms Es did) (hg : w.grownBy w6 vD.ownBlock) {v6 : Value} {e : Int × Int} (h6 : w6.ownsRow base 79 2 v6 (did.length + 1) (cellsF cellE did ++ cellE e)) (hat : v6.ownBlock = vD.ownBlock ∨ v6.ownBlock = some w.heap.size) :
    SG w6 b0 base mp p vM vE v6 ks Ms Es (did ++ [e]) ∧ Below base w w6 ∧ ∀ {b v l}, OwnI w b v l → OwnI w6 b v l :=
  ⟨⟨h.par.pushD hg (OwnF.newer (f := cellE) (x := e) h6) hat, bx_off h.bx (tyOf h.par.rowD) (by decide) hg, h.hp⟩, below_row h.par.rowD (by have := h.lt; have := h.hp; omega) hg, fun hv => hv.offType (tyOf h.par.rowD) (by decide) hg⟩
theorem SG.stepK (h : SG w b0 base mp p vM vE vD ks Ms Es did) (hg : w.grownBy w' (some mp)) {D : DataW Unit} {m : List Int} (h1 : MapR w' mp (ks.length + 1) D) (h2 : MapG D (ks ++ [m])) :
    SG w' b0 base mp p vM vE vD (ks ++ [m]) Ms Es did ∧ Below base w w' ∧ ∀ {b v l}, OwnI w b v l → OwnI w' b v l :=
  ⟨⟨h.par.put hg h1 h2, lit_map h.bx h.par.isMap hg, h.hp⟩, (Below.refl _ _).grown hg (by have := h.lt; have := h.hp; omega) (fun k hk => by cases hk; exact h.par.hmp), fun hv => own_map hv h.par.isMap hg⟩
theorem SG.markAt (h : SG w b0 base mp p vM vE vD ks Ms Es did) {g : Gr} (hM : Ms.map Prod.fst = g.marks) {i : Nat} (hi : i < g.marks.length) :
    ∃ gM cM u, vM = .slice (some ⟨gM, 0, none⟩) g.marks.length cM ∧ gM < w.heap.size ∧ w.cell? ⟨gM, i, none⟩ = some u ∧ OwnI w b0 u (mkAt g i) := by
  have hl : Ms.length = g.marks.length := by rw [← hM]; simp
  obtain ⟨aM, cM, rfl⟩ := OwnF.shape h.par.rowM
  obtain ⟨gM, rfl, _, _, hlt⟩ := OwnF.some h.par.rowM (by omega)
  have := OwnF.at cellM_len h.par.rowM (i := i) (by omega) (j := 0) (by omega)
  rw [Nat.mul_one, Nat.add_zero] at this
  refine ⟨gM, cM, Ms[i].2, by rw [hl], hlt, this, ?_⟩
  have h2 := h.par.marks _ (List.getElem_mem (show i < Ms.length by omega))
  have e : mkAt g i = Ms[i].1 := by
    unfold mkAt
    rw [← hM]
    simp [show i < Ms.length by omega]
  rw [e]; exact h2
end
end Go.Proofs.YtbolacnpljkpbaaDoor

/- stub.Explore: the markings that are kept. -/
namespace Go.Proofs.YtbolacnpljkpbaaDoor
open Go.RowKit Go.Maps
open Classical

/-- An entry of a map literal. -/
theorem wpList_ins {H : Type} {P : Program} (w : World) {ops : Array Oper} {rest : List Oper} {o : Oper} {a : Act} {Q : Exit → Act → World → Prop}
    (hg : o.guard = none) (m x v : Operand) (t : TypeId) (hop : o.op = Op.insert t m x v)
    (k e : TypeId) (K : Keyed P k) (ht : P.underlying t = some (.map k e)) (R : Value → Option (DataW H × List MemPlace)) (b n : Nat) (D : DataW H)
    (hm : a.eval m = .map (some b)) (hown : w.ownsMap P k R b n D) (hn : n < maxLen) (key val : Value) (kl : Lit) (hx : a.eval x = key) (hv : a.eval v = val) (hkey : keyOf P k key = some kl)
    (d : DataW H) (ps : List MemPlace) (hval : R val = some (d, ps))
    (hK : ∀ w', w'.ownsMap P k R b (n + 1) (D.put kl d) → w.grownBy w' (some b) → wpList P ops Q rest (a.put o.dst undef) w') :
    wpList P ops Q (o :: rest) a w := by
  refine wpList_plain hg fun K' hK' => ?_
  obtain ⟨w', hrun, r1, r2⟩ := hown.update K ht hn hkey hval
  unfold Oper.wp
  simp [execOp, hop, hm, hx, hv, hrun, Result.andThen]
  exact hK' _ _ (hK w' r1 r2)

noncomputable def sexpR (n : Nt) (most : Int) : Sum Int Gr :=
  if n.okB then (if most < 1 then .inl 1 else if 1024 < most then .inl 1 else match stubE n most.toNat with | none => .inl 170 | some g => .inr g) else .inl 1
/-- What Explore hands back. -/
def SExpPost (w : World) (n : Nt) (most : Int) (e : Ending) (w' : World) : Prop :=
  Below w.heap.size w w' ∧ ((∃ c, sexpR n most = .inl c ∧ e = .returned (.tuple #[.pointer none, .int .i64 c])) ∨
    ∃ g p, sexpR n most = .inr g ∧ e = .returned (.tuple #[.pointer (some ⟨p, 0, none⟩), .int .i64 0]) ∧ SgR w' w'.heap.size p g)

theorem firesL_len (n : Nt) (m : List Int) : (firesL n m).length ≤ n.trans.length := Nat.le_trans (List.length_filter_le _ _) (setL_len n m)
theorem step_take {n : Nt} {i : Nat} {g : Gr} {t : Int} (h : i ≤ g.edges.length) : (stepG n i g t).edges.take i = g.edges.take i := by
  unfold stepG Gr.addE Gr.put
  split
  · exact List.take_set_of_le (Nat.le_refl _)
  · simp only
    rw [List.take_set_of_le (Nat.le_refl _), List.take_append_of_le_length h]
theorem stub_eok {n : Nt} {most : Nat} {g : Gr} (x : SFull n most g) (ht : n.trans.length ≤ 8192) : ∀ l ∈ g.edges, l.length ≤ 8192 := by
  intro l hl
  obtain ⟨i, hi, rfl⟩ := List.getElem_of_mem hl
  have hel := x.ok.elen
  have h1 := (x.edges i (by omega)).1
  have : edAt g i = g.edges[i] := by simp [edAt, hi]
  rw [← this, h1, List.length_map]
  exact Nat.le_trans (firesL_len _ _) ht

set_option maxHeartbeats 4000000 in
theorem sexp_any (w : World) (B : Nat) (hB : B ≤ w.heap.size) (vp vt : Value) (n : Nt) (hn : NtR w B vp vt n) (most : Int) (htab : Pow10 B w) :
    Calls Tryd.prog 20 #[.agg #[vp, vt, .int .i64 n.init, .int .i64 n.final], .int .i64 most] w (SExpPost w n most) := by
  have hbel1 := (Below.refl w.heap.size w).alloc (Nat.le_refl _) (.cells #[vp, vt, .int .i64 n.init, .int .i64 n.final] 25)
  have hn1 := hn.mono (hbel1.mono hB) (Nat.le_refl _)
  have HN := Lib.hid hn
  obtain ⟨ap, cp, hvp⟩ := hn.1.val
  obtain ⟨at_, ct, hvt⟩ := hn.2.val
  subst hvp hvt
  have Hc := Lib.hid (first_any _ _ _ n B (by simp; omega) hn1)
  cases hok : n.okB with
  | false =>
    have Hf : Hid (sexpR n most = .inl 1) := by unfold sexpR; rw [hok]; exact rfl
    have hce : n.checkE = 1 := by simp [Nt.checkE, hok]
    rw [hce] at Hc
    clear hok hce
    go_enter Tryd.func20, Tryd.ntmps20
    go_wp2_with (go_at_call 39; go_must (refine Hc.out.mono ?_; rintro e w2 ⟨v, rfl, how, hb⟩))
    go_ret2
    exact ⟨hbel1.trans (hb.mono (by simp)), Or.inl ⟨1, Hf.out, rfl⟩⟩
  | true =>
    have hce : n.checkE = 0 := by simp [Nt.checkE, hok]
    rw [hce] at Hc
    have ok := Lib.hid (Nt.ok_of hok)
    clear hce
    by_cases h1 : most < 1
    · have Hf : Hid (sexpR n most = .inl 1) := by unfold sexpR; rw [hok, if_pos rfl, if_pos h1]; exact rfl
      clear hok
      go_enter Tryd.func20, Tryd.ntmps20
      go_wp2_with (go_at_call 39; go_must (refine Hc.out.mono ?_; rintro e w2 ⟨v, rfl, how, hb⟩))
      go_ret2
      exact ⟨hbel1.trans (hb.mono (by simp)), Or.inl ⟨1, Hf.out, rfl⟩⟩
    · by_cases h2 : 1024 < most
      · have Hf : Hid (sexpR n most = .inl 1) := by unfold sexpR; rw [hok, if_pos rfl, if_neg h1, if_pos h2]; exact rfl
        clear hok
        go_enter Tryd.func20, Tryd.ntmps20
        go_wp2_with (go_at_call 39; go_must (refine Hc.out.mono ?_; rintro e w2 ⟨v, rfl, how, hb⟩))
        go_ret2
        exact ⟨hbel1.trans (hb.mono (by simp)), Or.inl ⟨1, Hf.out, rfl⟩⟩
      · obtain ⟨M, rfl⟩ := Int.eq_ofNat_of_zero_le (show 0 ≤ most by omega)
        have Hf : Hid (sexpR n (M : Int) = match stubE n M with | none => .inl 170 | some g => .inr g) := by unfold sexpR; rw [hok, if_pos rfl, if_neg h1, if_neg h2]; exact rfl
        have Hone : Hid (n.oneE n.init = oneL n.places.length n.init) := by unfold Nt.oneE; rw [hok, if_pos rfl]; exact rfl
        rw [Hone.out] at Hc
        have h1' : 1 ≤ M := by omega
        have h2' : M ≤ 1024 := by omega
        have hd1 : decide ((M : Int) < 1) = false := decide_eq_false h1
        have hd2 : decide (1024 < (M : Int)) = false := decide_eq_false h2
        have hmany := ok.out.many
        have hnt := ok.out.trans
        have hol : Hid ((oneL n.places.length n.init).length = n.places.length) := by simp [oneL, Hid]
        have hmm := @run_makeMap Tryd.prog
        have Hok := Lib.hid hok
        have HXF : Hid (XOk n M (rootG n)) := XOk.first hok h1'
        obtain ⟨i0, hti, hz0, hz1, hz2⟩ := info_parts info_sl
        obtain ⟨W1, hW1⟩ : ∃ W1, w.alloc (.cells #[.slice ap n.places.length cp, .slice at_ n.trans.length ct, .int .i64 n.init, .int .i64 n.final] 25) = W1 := ⟨_, rfl⟩
        have hbox : Hid (W1.heap[w.heap.size]? = some (.cells #[.slice ap n.places.length cp, .slice at_ n.trans.length ct, .int .i64 n.init, .int .i64 n.final] 25)) := by rw [← hW1]; exact heap_alloc_new _ _
        have hs1 : Hid (W1.heap.size = w.heap.size + 1) := by rw [← hW1]; exact World.size_alloc _ _
        have hB1 : B ≤ W1.heap.size := by have := hs1.out; omega
        have hlt1 : w.heap.size < W1.heap.size := by have := hs1.out; omega
        rw [hW1] at Hc hbel1 hn1
        have htab1 : Pow10 B W1 := htab.on (hbel1.mono hB)
        obtain ⟨c0, c1, c2, c3⟩ := box4' hbox.out
        clear hok h1 h2
        go_enter Tryd.func20, Tryd.ntmps20
        go_wp2_with (go_at_call 39; go_must (refine Hc.out.mono ?_; rintro e w2 ⟨v, rfl, how, hb⟩; refine Hid.out ?_))
        refine Lib.hid ?_
        clear hW1 c0 c1 c2 c3
        have hbw := (hb.block _ hlt1).trans hbox.out
        obtain ⟨c0, c1, c2, c3⟩ := box4' hbw
        obtain ⟨av, cv, rfl⟩ := how.shape
        have hw2 := hb.size
        have HX := Lib.hid (explorer_any w2 B (by omega) _ _ n (hn1.mono (hb.mono hB1) (Nat.le_refl _)) ok.out)
        go_wp2_with (first | (go_at_call 30; refine HX.out.mono ?_; rintro e w3 ⟨x, rfl, hx3, hb3⟩; refine Hid.out ?_))
        refine Lib.hid ?_
        clear c0 c1 c2 c3 hbw
        have hz3 := hb3.size
        have hB3 := hb.trans (hb3.mono hw2)
        have how3 := how.kept hb3 (Nat.le_refl _)
        have hbG := heap_alloc_new w3 (.cells #[.slice none 0 0, .slice none 0 0] 76)
        have hbA := (Below.refl w3.heap.size w3).alloc (Nat.le_refl _) (.cells #[.slice none 0 0, .slice none 0 0] 76)
        have hbM := (Below.refl (w3.alloc (.cells #[.slice none 0 0, .slice none 0 0] 76)).heap.size (w3.alloc (.cells #[.slice none 0 0, .slice none 0 0] 76))).alloc (Nat.le_refl _) (.map #[] 0)
        have hM0 := World.ownsMap_made (H := Unit) (w3.alloc (.cells #[.slice none 0 0, .slice none 0 0] 76)) Tryd.prog 9 (plainElem Tryd.prog 3)
        rw [World.size_alloc] at hM0
        have hbG5 := (hbM.block _ (lt_of_block hbG)).trans hbG
        have hb5 := hbA.trans (hbM.mono (by simp))
        obtain ⟨W5, hW5⟩ : ∃ W5, (w3.alloc (.cells #[.slice none 0 0, .slice none 0 0] 76)).alloc (.map #[] 0) = W5 := ⟨_, rfl⟩
        rw [hW5] at hM0 hbG5 hb5
        have hz5 : w3.heap.size + 2 ≤ W5.heap.size := by rw [← hW5]; simp
        have how5 := how3.kept hb5 (Nat.le_refl _)
        have hB5 := hB3.trans (hb5.mono (by omega))
        have HFM : Hid (n.Mark (oneL n.places.length n.init)) := by
          have := HXF.out.mark 0 (by simp [rootG])
          exact this.1
        have HTx := Lib.hid (stext_any W5 (.slice av n.places.length cv) (oneL n.places.length n.init) W5.heap.size (Nat.le_refl _) (by have := how5.col (B := W5.heap.size) (by rw [hol.out]; omega) (Nat.le_refl _); rw [hol.out] at this; exact this) (mark_in64 HFM.out) (by rw [hol.out]; exact hmany) (tab_up (htab1.on (hB5.mono hB1)) (by omega)))
        have hkey := Lib.hid (key_of (mark_in64 HFM.out) (by rw [hol.out]; exact hmany))
        rw [hol.out] at how5 ⊢
        have HOW5 := Lib.hid how5
        have HX3 := Lib.hid hx3
        have HB5 := Lib.hid hb5
        clear hbG hbA hbM how how3 hB3 hx3
        go_wp2_with (first | (go_at_call 42; refine HTx.out.mono ?_; rintro e w6 ⟨rfl, hb6⟩; refine Hid.out ?_))
        refine Lib.hid ?_
        have hz6 := hb6.size
        have HM6 := Lib.hid (hM0.kept (below_grownBy hb6 none) (by simp))
        have hbG6 := (hb6.block _ (lt_of_block hbG5)).trans hbG5
        have hB6 := HB5.out.trans (hb6.mono (by omega))
        have how6 := HOW5.out.kept hb6 (Nat.le_refl _)
        have hsg6 : SG w6 W1.heap.size w3.heap.size (w3.heap.size + 1) w3.heap.size (.slice none 0 0) (.slice none 0 0) (.slice none 0 0) [] [] [] [] := ⟨⟨OwnF.nil _ _, OwnF.nil _ _, OwnF.nil _ _, by simp, by simp, by simp, ⟨_, HM6.out, MapG.empty⟩, by omega⟩, hbG6, Nat.le_refl _⟩
        have HSG6 := Lib.hid hsg6
        have HOW6 := Lib.hid how6
        have HB6 := Lib.hid hB6
        clear hM0 hbG5 hsg6 how6 hB6 hbG6 hb6 how5 hb5
        go_wp2_with (refine wpList_ins _ rfl _ _ _ 81 rfl 9 3 law_str Tryd.underlying81 (plainElem Tryd.prog 3) _ 0 _ rfl HM6.out (by unfold maxLen; omega) _ _ _ rfl rfl hkey.out (.lit (.int .i64 0)) [] (plainElem_int Tryd.underlying3 (by decide)) ?_; intro w7 hown7 hg7; refine Hid.out ?_)
        refine Lib.hid ?_
        obtain ⟨hsg7, hb67, htoI⟩ := HSG6.out.stepK hg7 hown7 (MapG.new MapG.empty (d := oneL n.places.length n.init) (by rw [findM_nil]; omega))
        have hB7 := HB6.out.trans hb67
        have hz7 := hB7.size
        have hx8 := (Below.refl w7.heap.size w7).alloc (Nat.le_refl _) (.cells #[.slice av n.places.length cv] 26)
        have HSG8 := Lib.hid (hsg7.kept hx8)
        have HOW8 := Lib.hid ((htoI HOW6.out).kept hx8 (Nat.le_refl _))
        have hB8 := hB7.trans (hx8.mono hz7)
        have HB8 := Lib.hid hB8
        have hT7 := HSG8.out.par.rowM
        have k0 : w7.cell? ⟨w3.heap.size, 0, none⟩ = some (.slice none 0 0) := cell_of_block hsg7.bx 0
        clear hsg7 hb67 hx8 hB7 hB8 hown7 hg7 HM6 htoI
        go_wp2_with (at_builtin; go_must (refine wpList_append_own_at _ rfl _ _ 71 rfl w3.heap.size 26 i0 (.slice none 0 0) 1 24 Tryd.underlying71 hti hz0 hz1 hz2 rfl (by decide) _ 0 [] rfl hT7 ⟨w7.heap.size, 0, none⟩ 1 1 [.slice av n.places.length cv] rfl rfl (cell_one_new _ _ _) (by intro u hu; simp at hu; subst hu; rfl) (by unfold maxLen; omega) (by omega) (by simp; omega) ?_; intro v9 w9 hown9 hg9 _ hat9; refine Hid.out ?_))
        refine Lib.hid ?_
        obtain ⟨hsg10, hb10, htoI⟩ := HSG8.out.stepM hg9 (m := oneL n.places.length n.init) (vm := .slice av n.places.length cv) hown9 HOW8.out
        have hX9 := bx_off HSG8.out.bx (tyOf HSG8.out.par.rowM) (by decide) hg9
        obtain ⟨a9, c9, rfl⟩ := OwnF.shape hsg10.par.rowM
        have k9 : w9.cell? ⟨w3.heap.size, 0, none⟩ = some (.slice none 0 0) := cell_of_block hX9 0
        have f9 := free_of_block hX9 0
        rw [show (([] : List (List Int × Value)) ++ [(oneL n.places.length n.init, Value.slice av n.places.length cv)]).length = 1 from rfl] at hsg10 hb10 ⊢
        have hB10 := HB8.out.trans hb10
        obtain ⟨W10, hW10⟩ : ∃ W10, w9.setCell ⟨w3.heap.size, 0, none⟩ (.slice a9 1 c9) = W10 := ⟨_, rfl⟩
        rw [hW10] at hsg10 hB10
        have HSG10 := Lib.hid hsg10
        have HB10 := Lib.hid hB10
        have HEx : Hid (sxF n M (M + 1 - 0) 0 (rootG n) = stubE n M) := rfl
        have hr1 : (rootG n).marks.length ≤ M := by simpa [rootG] using h1'
        have HMs : Hid ([(oneL n.places.length n.init, Value.slice av n.places.length cv)].map Prod.fst = (rootG n).marks ∧ ([] : List (List (Int × Int) × Value)).map Prod.fst = (rootG n).edges.take 0) := ⟨rfl, rfl⟩
        have hpx : w3.heap.size < W10.heap.size := hsg10.lt
        clear hsg10 hb10 hB10 hX9 hown9 hg9 hat9 hT7 HSG8 HOW8 htoI k0
        go_wp2_with fail
        clear k9 f9 hW10
        go_loopg [11] (M + 1) (fun gh s11 wr => ∃ (i : Nat) (g : Gr) (vM vE : Value) (Ms : List (List Int × Value)) (Es : List (List (Int × Int) × Value)), i + gh = M + 1 ∧ s11 = .int .i64 (i : Int) ∧ Hid (sxF n M (M + 1 - i) i g = stubE n M) ∧ Hid (XOk n M g) ∧ g.marks.length ≤ M ∧ i ≤ g.marks.length ∧ Hid (∀ j, i ≤ j → edAt g j = []) ∧
          Hid (Ms.map Prod.fst = g.marks ∧ Es.map Prod.fst = g.edges.take i) ∧ Hid (SG wr W1.heap.size w3.heap.size (w3.heap.size + 1) w3.heap.size vM vE (.slice none 0 0) g.marks Ms Es []) ∧ Below w3.heap.size w3 wr)
        case atStart => exact ⟨0, rootG n, _, _, _, _, by omega, rfl, HEx, HXF, hr1, by omega, rootG_edges n, HMs, HSG10, HB10.out⟩
        case round =>
          clear HEx hr1 HMs HSG10 HB10 hpx
          obtain ⟨i, g, vM, vE, Ms, Es, hig, rfl, hEx, hX, hgM, hil, hEm, hMs, hG, hbel⟩ := hrel
          have hwr := hbel.size
          obtain ⟨aM, cM, hvM⟩ := OwnF.shape hG.out.par.rowM
          rw [show Ms.length = g.marks.length by rw [← hMs.out.1]; simp] at hvM
          subst hvM
          have hpw := hG.out.lt
          have k0 : wr.cell? ⟨w3.heap.size, 0, none⟩ = some (.slice aM g.marks.length cM) := cell_of_block hG.out.bx 0
          have hB2w := hb.trans ((hb3.trans (hbel.mono hz3)).mono hw2)
          have hbw := hbel1.trans (hB2w.mono (by omega))
          by_cases hi : i < g.marks.length
          · obtain ⟨gM, cM', u, hv, hgMl, hcu, hmo⟩ := hG.out.markAt hMs.out.1 hi
            obtain ⟨rfl, rfl⟩ : aM = some ⟨gM, 0, none⟩ ∧ cM = cM' := by injection hv with e1 _ e2; exact ⟨e1, e2⟩
            obtain ⟨hMk, hMv⟩ := hX.out.mark i hi
            have emk := mkAt_eq hi
            rw [← emk] at hMk hMv
            have hlen : (mkAt g i).length = n.places.length := hMk.len
            have hI : Ints wr wr.heap.size u (mkAt g i) := hmo.col (by omega) (Nat.le_refl _)
            obtain ⟨mk, hmk⟩ : ∃ mk, mkAt g i = mk := ⟨_, rfl⟩
            rw [hmk] at hMk hmo hI hlen
            obtain ⟨L, hL⟩ : ∃ L, firesL n mk = L := ⟨_, rfl⟩
            have hLl : L.length ≤ 8192 := by rw [← hL]; exact Nat.le_trans (firesL_len _ _) hnt
            have HS := Lib.hid (set_any wr wr.heap.size x _ _ n (HX3.out.mono hbel hwr) (Nat.le_refl _) u mk hI Hok.out hMk)
            obtain ⟨au, cu, rfl⟩ := hI.val
            have hIn : Hid ((exIn n M i (L.drop 0) g).bind (sxF n M (M + 1 - (i + 1)) (i + 1)) = stubE n M) := by
              refine Lib.hid ?_
              rw [← hEx.out, show M + 1 - i = (M + 1 - (i + 1)) + 1 by omega, sxF, if_pos hi, hmk, hL]; rfl
            have HL := Lib.hid hL
            have HMK := Lib.hid hmk
            have HMk := Lib.hid hMk
            have HLen := Lib.hid hlen
            have HED := Lib.hid (And.intro (hEm.out i (Nat.le_refl _)) (Nat.zero_le 0))
            have HEd : Hid (∀ j, i < j → edAt g j = []) := fun j hj => hEm.out j (by omega)
            clear hv hmk hL hMk hlen emk hI hmo hMv hEx hEm
            go_wp2_with (first | (go_at_call 31; refine HS.out.mono ?_; rintro e w7 ⟨va, vf, rfl, -, hof, hb7⟩; refine Hid.out ?_))
            refine Lib.hid ?_
            have hz7 := hb7.size
            obtain ⟨hvf, hof⟩ : Hid (firesL n mk = L) ∧ OwnI w7 w3.heap.size vf L := ⟨HL, by rw [← HL.out]; exact hof.lower hwr⟩
            obtain ⟨af, cf, rfl⟩ := hof.shape
            have HOF := Lib.hid hof
            have HG7 := Lib.hid (hG.out.kept hb7)
            have HB7 := Lib.hid (hbel.trans (hb7.mono hwr))
            clear hof hG hbel hb7 k0 hcu hvf HS
            go_wp2_with fail
            go_loopg [12, 81] L.length (fun gh s12 s81 wx => ∃ (k : Nat) (g : Gr) (vM : Value) (Ms : List (List Int × Value)) (did : List (Int × Int)), k + gh = L.length ∧ s81 = .int .i64 (k : Int) ∧ Hid ((exIn n M i (L.drop k) g).bind (sxF n M (M + 1 - (i + 1)) (i + 1)) = stubE n M) ∧ Hid (XOk n M g) ∧ g.marks.length ≤ M ∧ i < g.marks.length ∧ Hid (mkAt g i = mk) ∧
              Hid (edAt g i = did ∧ did.length ≤ k) ∧ Hid (∀ j, i < j → edAt g j = []) ∧ Hid (Ms.map Prod.fst = g.marks ∧ Es.map Prod.fst = g.edges.take i) ∧ Hid (SG wx W1.heap.size w3.heap.size (w3.heap.size + 1) w3.heap.size vM vE s12 g.marks Ms Es did) ∧ Hid (OwnI wx w3.heap.size (.slice af L.length cf) L) ∧ Below w3.heap.size w3 wx)
            case atStart => exact ⟨0, g, _, Ms, [], by omega, rfl, hIn, hX, hgM, hi, HMK, HED, HEd, hMs, HG7, HOF, HB7.out⟩
            case round =>
              clear hIn hX hgM hi HMK HED HEd hMs HG7 HOF HB7 hil hpw hbw hB2w
              obtain ⟨k, g, vM, Ms, did, hkg, rfl, hIn, hX, hgM, hi, hMK, hED, hEd, hMs, hG, hLo, hbel⟩ := hrel
              have hwr := hbel.size
              obtain ⟨aM, cM, hvM⟩ := OwnF.shape hG.out.par.rowM
              rw [show Ms.length = g.marks.length by rw [← hMs.out.1]; simp] at hvM
              subst hvM
              have hpw := hG.out.lt
              have k0 : wr.cell? ⟨w3.heap.size, 0, none⟩ = some (.slice aM g.marks.length cM) := cell_of_block hG.out.bx 0
              have hB2w := hb.trans ((hb3.trans (hbel.mono hz3)).mono hw2)
              have hbw := hbel1.trans (hB2w.mono (by omega))
              obtain ⟨aD, cD, hvD⟩ := OwnF.shape hG.out.par.rowD
              subst hvD
              by_cases hk : k < L.length
              · obtain ⟨gM, cM', u, hv, hgMl, hcu, hmo⟩ := hG.out.markAt hMs.out.1 hi
                obtain ⟨rfl, rfl⟩ : aM = some ⟨gM, 0, none⟩ ∧ cM = cM' := by injection hv with e1 _ e2; exact ⟨e1, e2⟩
                have hI : Ints wr wr.heap.size u (mkAt g i) := hmo.col (by rw [hMK.out, HLen.out]; omega) (Nat.le_refl _)
                rw [hMK.out] at hI hmo
                obtain ⟨au, cu, rfl⟩ := hI.val
                obtain ⟨q, hq, hqt, hq0, hqM⟩ := hX.out.fires h2' hi (t := L[k]) (by rw [hMK.out]; exact firesL_enE (by rw [HL.out]; exact List.getElem_mem hk))
                obtain ⟨bl, ol, hal, _, hcl⟩ := (hLo.out.col (by omega) (Nat.le_refl wr.heap.size)).col k hk
                rw [hq] at hcl
                obtain rfl := hal
                have hdrop : Hid (L.drop k = (q : Int) :: L.drop (k + 1)) := by refine Lib.hid ?_; rw [List.drop_eq_getElem_cons hk, hq]
                rw [hMK.out] at hq0
                obtain ⟨r, hr⟩ : ∃ r, fireG n g i (q : Int) = r := ⟨_, rfl⟩
                have hr2 : ((n.tr (q : Int)).fireE mk).2 = r := by rw [← hr]; unfold fireG; rw [hMK.out]
                rw [hq, hr] at hqM
                have hrl : r.length = n.places.length := hqM.len
                have hdr : Below wr.heap.size wr wr.drew := (Below.refl _ _).drew
                have HFi := Lib.hid (fireNet_yes wr.drew _ _ _ n Hok.out mk HMk.out q hqt hq0 wr.heap.size (Nat.le_refl _) (hn1.mono ((hB2w.mono hB1).trans (hdr.mono (by omega))) (by omega)) (hI.mono hdr (Nat.le_refl _)) r hr2)
                have HRM := Lib.hid hqM
                have HR := Lib.hid hr
                have HQ := Lib.hid hq
                have HRl := Lib.hid hrl
                have hbN := (hB2w.block _ hlt1).trans hbox.out
                obtain ⟨c0, c1, c2, c3⟩ := box4' hbN
                have hlt0 : w.heap.size < wr.heap.size := lt_of_block hbN
                clear hv hq0 hqM hr2 hr hq hrl
                go_upto_region 16 with fail
                go_cut [17, 18] (fun s17 s18 wx => ∃ w8 ar cr, w8 = wx ∧ s17 = .slice ar r.length cr ∧ s18 = .int .i64 0 ∧ OwnI w8 w3.heap.size (.slice ar r.length cr) r ∧ Below wr.heap.size wr w8)
                case first =>
                  go_region_held3 (fun w' => w'.cell? ⟨w.heap.size, 0, none⟩ = some (.slice ap n.places.length cp) ∧ w'.cell? ⟨w.heap.size, 1, none⟩ = some (.slice at_ n.trans.length ct) ∧ w'.cell? ⟨w.heap.size, 2, none⟩ = some (.int .i64 n.init) ∧ w'.cell? ⟨w.heap.size, 3, none⟩ = some (.int .i64 n.final) ∧ w'.cell? ⟨w3.heap.size, 0, none⟩ = some (.slice (some ⟨gM, 0, none⟩) g.marks.length cM) ∧ w'.cell? ⟨gM, i, none⟩ = some (.slice au mk.length cu))
                    (first | go_keep | (refine ⟨?_, ?_, ?_, ?_, ?_, ?_⟩ <;> (first | (rw [Below.cellB HB3 hlt0]; assumption) | (rw [Below.cellB HB3 hpw]; assumption) | (rw [Below.cellB HB3 hgMl]; assumption))))
                    (first | (go_at_call 15; refine HFi.out.mono ?_; rintro e w8 ⟨v8, rfl, how8, hb8⟩; have HB3 : Below wr.heap.size wr w8 := hdr.trans hb8))
                  go_wp2_with fail
                  obtain ⟨ar, cr, rfl⟩ := how8.shape
                  go_wp2_with fail
                  go_meet
                  case rel => exact ⟨_, _, _, rfl, rfl, rfl, how8.lower (by simp; omega), HB3⟩
                case rest =>
                  obtain ⟨w8, ar, cr, rfl, rfl, rfl, hRo, hb8⟩ := hcut
                  have hB8 := hbel.trans (hb8.mono hwr)
                  have hz8 := hb8.size
                  have hB28 := hB2w.trans (hb8.mono hB2w.size)
                  have HG8 := Lib.hid (hG.out.kept hb8)
                  have HLo8 := Lib.hid (hLo.out.kept hb8 (Nat.le_refl _))
                  have HRo := Lib.hid hRo
                  have HB8 := Lib.hid hB8
                  have HTx := Lib.hid (stext_any w8 _ r w8.heap.size (Nat.le_refl _) (hRo.col (by rw [HRl.out]; omega) (Nat.le_refl _)) (mark_in64 HRM.out) (by rw [HRl.out]; exact hmany) (tab_up (htab1.on (hB28.mono hB1)) (by have := hB28.size; omega)))
                  have hkey := Lib.hid (key_of (mark_in64 HRM.out) (by rw [HRl.out]; exact hmany))
                  have hdl : did.length ≤ k := hED.out.2
                  obtain ⟨i3, ht3, hz30, hz31, hz32⟩ := info_parts info_ed
                  have HFin : Hid (∀ (w6 : World) (vM' : Value) (Ms' : List (List Int × Value)) (u : Value), Ms'.map Prod.fst = (g.put r ((q : Int), (i : Int))).marks → g.idx r < (M : Int) → SG w6 W1.heap.size w3.heap.size (w3.heap.size + 1) w3.heap.size vM' vE u (g.put r ((q : Int), (i : Int))).marks Ms' Es (did ++ [((q : Int), g.idx r)]) → OwnI w6 w3.heap.size (.slice (some ⟨bl, ol, none⟩) L.length cf) L → Below w3.heap.size w3 w6 →
                      ∃ (k' : Nat) (g' : Gr) (vM : Value) (Ms : List (List Int × Value)) (did' : List (Int × Int)), k' + (gk - 1) = L.length ∧ Value.int .i64 ((k : Int) + 1) = .int .i64 (k' : Int) ∧ Hid ((exIn n M i (L.drop k') g').bind (sxF n M (M + 1 - (i + 1)) (i + 1)) = stubE n M) ∧ Hid (XOk n M g') ∧ g'.marks.length ≤ M ∧ i < g'.marks.length ∧ Hid (mkAt g' i = mk) ∧
                        Hid (edAt g' i = did' ∧ did'.length ≤ k') ∧ Hid (∀ j, i < j → edAt g' j = []) ∧ Hid (Ms.map Prod.fst = g'.marks ∧ Es.map Prod.fst = g'.edges.take i) ∧ Hid (SG w6 W1.heap.size w3.heap.size (w3.heap.size + 1) w3.heap.size vM vE u g'.marks Ms Es did') ∧ Hid (OwnI w6 w3.heap.size (.slice (some ⟨bl, ol, none⟩) L.length cf) L) ∧ Below w3.heap.size w3 w6) := by
                    refine Lib.hid fun w6 vM' Ms' u h1 h2 h3 h4 h5 => ?_
                    have hst : (stepG n i g (q : Int)).marks = (g.put r ((q : Int), (i : Int))).marks := by rw [step_marks, HR.out]
                    have hlt : g.idx (fireG n g i (q : Int)) < (M : Int) := by rw [HR.out]; exact h2
                    have hmem : (q : Int) ∈ n.enE (mkAt g i) := by rw [hMK.out]; exact firesL_enE (by rw [HL.out, ← HQ.out]; exact List.getElem_mem hk)
                    have hx' := hX.out.step h2' hi hmem hlt
                    have hsl := step_len n i g (q : Int)
                    have hie : i < g.edges.length := by rw [hX.out.elen]; exact hi
                    refine ⟨k + 1, stepG n i g (q : Int), vM', Ms', did ++ [((q : Int), g.idx r)], by omega, by go_num, Lib.hid ?_, Lib.hid hx', hx'.le, by split at hsl <;> omega, Lib.hid (by rw [step_mkAt n i g _ hi]; exact hMK.out), Lib.hid ⟨?_, by rw [List.length_append, List.length_singleton]; omega⟩, Lib.hid (fun j hj => ?_), Lib.hid ⟨h1.trans hst.symm, ?_⟩, Lib.hid (by rw [hst]; exact h3), Lib.hid h4, h5⟩
                    · rw [← hIn.out, hdrop.out, exIn, if_neg (by omega)]
                    · rw [step_edAt n hie, if_pos rfl, hED.out.1, HR.out]
                    · rw [step_edAt n hie, if_neg (by omega)]; exact hEd.out j hj
                    · rw [step_take (by omega)]; exact hMs.out.2
                  have HMs := Lib.hid hMs.out.1
                  clear hG hLo hRo hB8 hb8 hbel hB28 c0 c1 c2 c3 hbN hcu hmo hI hdr HFi hcl k0 hbw hB2w hED
                  go_wp2_with (first | (go_at_call 42; refine HTx.out.mono ?_; rintro e w9 ⟨rfl, hb9⟩; refine Hid.out ?_))
                  refine Lib.hid ?_
                  have hz9 := hb9.size
                  have hG9 := HG8.out.kept hb9
                  obtain ⟨D, hD1, hD2⟩ := hG9.par.by_
                  have HD1 := Lib.hid hD1
                  have hq2 := hD2.2 r
                  have HG9 := Lib.hid hG9
                  have HLo9 := Lib.hid (HLo8.out.kept hb9 (Nat.le_refl _))
                  have HRo9 := Lib.hid (HRo.out.kept hb9 (Nat.le_refl _))
                  have hB9 := HB8.out.trans (hb9.mono (by omega))
                  have HB9 := Lib.hid hB9
                  have hz9' := hB9.size
                  by_cases hold : 0 ≤ findM g.marks r
                  · have hhas : Hid (Maps.has D (.string (keyL r)) = true) := by rw [hq2.1]; exact decide_eq_true hold
                    have hat0 := Lib.hid (hq2.2 hold)
                    have HIX : Hid (g.idx r = findM g.marks r) := by unfold Gr.idx; rw [if_pos hold]; exact rfl
                    have HPM : Hid ((g.put r ((q : Int), (i : Int))).marks = g.marks) := by unfold Gr.put; rw [if_pos hold]; exact rfl
                    have hrng := (findM_range g.marks r).2
                    clear hD1 hD2 hq2 hold hG9 hb9 hB9
                    obtain ⟨ag, hag⟩ : ∃ ag, findM g.marks r = ag := ⟨_, rfl⟩
                    rw [hag] at hat0 hrng HIX
                    clear hag
                    go_wp2_with (first | (at_lookup; refine wpList_lookup_own_ok_int _ rfl _ _ 81 rfl 9 3 .i64 law_str Tryd.underlying81 Tryd.underlying3 (zero_int _) (w3.heap.size + 1) g.marks.length _ rfl HD1.out _ _ rfl hkey.out ?_; intro c hat hwc; obtain rfl : ag = c := (by rw [hat0.out] at hat; injection hat with hat; injection hat); rw [hhas.out]; clear hat hwc; refine Hid.out ?_))
                    refine Lib.hid ?_
                    have hG9 := HG9.out
                    have hLo9 := HLo9.out
                    have hxx := (Below.refl w9.heap.size w9).alloc (Nat.le_refl _) (.cells #[.int .i64 (q : Int), .int .i64 ag] 79)
                    have HSGx := Lib.hid (hG9.kept hxx)
                    have HLox := Lib.hid (hLo9.kept hxx (Nat.le_refl _))
                    have HBx := Lib.hid (HB9.out.trans (hxx.mono hz9'))
                    have hTD := HSGx.out.par.rowD
                    clear hxx hG9 hLo9
                    go_wp2_with (at_builtin; go_must (refine wpList_append_own_at _ rfl _ _ 42 rfl w3.heap.size 79 i3 (.agg #[.int .i64 0, .int .i64 0]) 2 16 Tryd.underlying42 ht3 hz30 hz31 hz32 rfl (by decide) _ _ _ rfl hTD ⟨w9.heap.size, 0, none⟩ 1 1 (cellE ((q : Int), ag)) rfl rfl (cells_new _ _ _) (one_F _) (by unfold maxLen; omega) (by omega) (by simp; omega) ?_; intro vE6 w6 hown6 hg6 _ hat6))
                    obtain ⟨hsg6, hb6', htoI6⟩ := HSGx.out.stepD (e := ((q : Int), ag)) hg6 hown6 hat6
                    go_roundg (gk - 1)
                    case measure => omega
                    case rel => exact HFin.out _ _ _ _ (HMs.out.trans HPM.out.symm) (by rw [HIX.out]; omega) (by rw [HIX.out, HPM.out]; exact hsg6) (htoI6 HLox.out) (HBx.out.trans hb6')
                  · have hhas : Hid (Maps.has D (.string (keyL r)) = false) := by rw [hq2.1]; exact decide_eq_false hold
                    have HIX : Hid (g.idx r = (g.marks.length : Int)) := by unfold Gr.idx; rw [if_neg hold]; exact rfl
                    have HPM : Hid ((g.put r ((q : Int), (i : Int))).marks = g.marks ++ [r]) := by unfold Gr.put; rw [if_neg hold]; exact rfl
                    have hnew := Lib.hid (MapG.new hD2 (d := r) (by omega))
                    have HTx9 := Lib.hid (stext_any w9 _ r w9.heap.size (Nat.le_refl _) (HRo9.out.col (by rw [HRl.out]; omega) (Nat.le_refl _)) (mark_in64 HRM.out) (by rw [HRl.out]; exact hmany) (tab_up (htab1.on ((hb.trans ((hb3.trans (hB9.mono hz3)).mono hw2)).mono hB1)) (by omega)))
                    have hptl := hG9.lt
                    have k9 : w9.cell? ⟨w3.heap.size, 0, none⟩ = some (.slice (some ⟨gM, 0, none⟩) g.marks.length cM) := cell_of_block hG9.bx 0
                    clear hD1 hD2 hq2 hold hG9 hb9 hB9
                    by_cases hfull : g.marks.length = M
                    · have hdf : decide (g.marks.length = M) = true := decide_eq_true hfull
                      have hdf2 : ((g.marks.length : Int) == (M : Int)) = true := by simp [hfull]
                      have HN : Hid (sexpR n (M : Int) = .inl 170) := by
                        refine Lib.hid ?_
                        rw [Hf.out, ← hIn.out, hdrop.out, exIn, HR.out, HIX.out, if_pos (by omega)]; rfl
                      have HNb : Hid (Below w.heap.size w w9) := Lib.hid (hbel1.trans ((hb.trans ((hb3.trans (HB9.out.mono hz3)).mono hw2)).mono (by omega)))
                      clear hfull
                      go_wp2_with (first | (at_lookup; refine wpList_lookup_own_ok_int _ rfl _ _ 81 rfl 9 3 .i64 law_str Tryd.underlying81 Tryd.underlying3 (zero_int _) (w3.heap.size + 1) g.marks.length _ rfl HD1.out _ _ rfl hkey.out ?_; intro c hat hwc; rw [hhas.out]; clear hat hwc))
                      go_ret2
                      exact ⟨HNb.out, Or.inl ⟨170, HN.out, rfl⟩⟩
                    · have hdf : decide (g.marks.length = M) = false := decide_eq_false hfull
                      have hdf2 : ((g.marks.length : Int) == (M : Int)) = false := by simp; omega
                      have hltM : g.marks.length < M := by omega
                      clear hfull
                      go_wp2_with (first | (at_lookup; refine wpList_lookup_own_ok_int _ rfl _ _ 81 rfl 9 3 .i64 law_str Tryd.underlying81 Tryd.underlying3 (zero_int _) (w3.heap.size + 1) g.marks.length _ rfl HD1.out _ _ rfl hkey.out ?_; intro c hat hwc; rw [hhas.out]; clear hat hwc) | (go_at_call 42; refine HTx9.out.mono ?_; rintro e w10 ⟨rfl, hb10⟩; refine Hid.out ?_))
                      refine Lib.hid ?_
                      have hz10 := hb10.size
                      have hG10 := HG9.out.kept hb10
                      have HD10 := Lib.hid (HD1.out.kept (below_grownBy hb10 none) (by simp))
                      have HLo10 := Lib.hid (HLo9.out.kept hb10 (Nat.le_refl _))
                      have HRo10 := Lib.hid (HRo9.out.kept hb10 (Nat.le_refl _))
                      have HB10 := Lib.hid (HB9.out.trans (hb10.mono hz9'))
                      have HG10 := Lib.hid hG10
                      have hz10' := HB10.out.size
                      clear hG10 hb10 k9 HD1 HG9
                      go_wp2_with (first | (refine wpList_mapUpdate_own _ rfl _ _ _ 81 rfl 9 3 law_str Tryd.underlying81 (plainElem Tryd.prog 3) (w3.heap.size + 1) g.marks.length _ rfl HD10.out (by unfold maxLen; omega) _ _ _ rfl rfl hkey.out (.lit (.int .i64 (g.marks.length : Int))) [] (plainElem_int Tryd.underlying3 (WalkArith.wf_i64 (by omega))) ?_; intro w11 hown11 hg11; refine Hid.out ?_))
                      refine Lib.hid ?_
                      obtain ⟨hG11, hb11, htoI⟩ := HG10.out.stepK hg11 hown11 hnew.out
                      have hB11 := HB10.out.trans hb11
                      have hLo11 := htoI HLo10.out
                      have hRo11 := htoI HRo10.out
                      have hz11 := hB11.size
                      have k11 : w11.cell? ⟨w3.heap.size, 0, none⟩ = some (.slice (some ⟨gM, 0, none⟩) g.marks.length cM) := cell_of_block hG11.bx 0
                      have hx11 := (Below.refl w11.heap.size w11).alloc (Nat.le_refl _) (.cells #[.slice ar r.length cr] 26)
                      have HG12 := Lib.hid (hG11.kept hx11)
                      have HLo12 := Lib.hid (hLo11.kept hx11 (Nat.le_refl _))
                      have HRo12 := Lib.hid (hRo11.kept hx11 (Nat.le_refl _))
                      have HB12 := Lib.hid (hB11.trans (hx11.mono hz11))
                      have hMsl : Ms.length = g.marks.length := by rw [← HMs.out]; simp
                      have hTM := HG12.out.par.rowM
                      have HMsl := Lib.hid hMsl
                      unfold RowM OwnF at hTM
                      rw [hMsl] at hTM
                      clear hG11 hb11 htoI hB11 hLo11 hRo11 hx11 hown11 hg11 hMsl HD10 HG10
                      go_wp2_with (at_builtin; go_must (refine wpList_append_own_at _ rfl _ _ 71 rfl w3.heap.size 26 i0 (.slice none 0 0) 1 24 Tryd.underlying71 hti hz0 hz1 hz2 rfl (by decide) _ _ _ rfl hTM ⟨w11.heap.size, 0, none⟩ 1 1 [.slice ar r.length cr] rfl rfl (cell_one_new _ _ _) (by intro u hu; simp at hu; subst hu; rfl) (by unfold maxLen; omega) (by omega) (by simp; omega) ?_; intro v13 w13 hown13 hg13 _ hat13; refine Hid.out ?_))
                      refine Lib.hid ?_
                      rw [← HMsl.out] at hown13
                      obtain ⟨hG13, hb13, htoI⟩ := HG12.out.stepM hg13 (m := r) (vm := .slice ar r.length cr) hown13 (HRo12.out.lower (by omega))
                      have hX13 := bx_off HG12.out.bx (tyOf HG12.out.par.rowM) (by decide) hg13
                      obtain ⟨a13, c13, h13⟩ := OwnF.shape hG13.par.rowM
                      rw [List.length_append, List.length_singleton, HMsl.out] at h13
                      subst h13
                      have k13 : w13.cell? ⟨w3.heap.size, 0, none⟩ = some (.slice (some ⟨gM, 0, none⟩) g.marks.length cM) := cell_of_block hX13 0
                      have f13 := free_of_block hX13 0
                      have hLo14 := htoI HLo12.out
                      have HB14 := Lib.hid (HB12.out.trans hb13)
                      obtain ⟨W14, hW14⟩ : ∃ W14, w13.setCell ⟨w3.heap.size, 0, none⟩ (.slice a13 (g.marks.length + 1) c13) = W14 := ⟨_, rfl⟩
                      rw [hW14] at hG13 hLo14 HB14
                      have hz14 := HB14.out.size
                      have HMs2 : Hid ((Ms ++ [(r, Value.slice ar r.length cr)]).map Prod.fst = (g.put r ((q : Int), (i : Int))).marks) := by rw [HPM.out, List.map_append, HMs.out]; exact rfl
                      clear hb13 htoI hX13 hown13 hg13 hat13 hTM
                      have hxy := (Below.refl W14.heap.size W14).alloc (Nat.le_refl _) (.cells #[.int .i64 (q : Int), .int .i64 (g.marks.length : Int)] 79)
                      have HSGx := Lib.hid (hG13.kept hxy)
                      have HLox := Lib.hid (hLo14.kept hxy (Nat.le_refl _))
                      have HBx := Lib.hid (HB14.out.trans (hxy.mono hz14))
                      have hTD := HSGx.out.par.rowD
                      clear hxy hG13 hLo14
                      go_wp2_with (at_builtin; go_must (refine wpList_append_own_at _ rfl _ _ 42 rfl w3.heap.size 79 i3 (.agg #[.int .i64 0, .int .i64 0]) 2 16 Tryd.underlying42 ht3 hz30 hz31 hz32 rfl (by decide) _ _ _ rfl hTD ⟨W14.heap.size, 0, none⟩ 1 1 (cellE ((q : Int), (g.marks.length : Int))) rfl rfl (cells_new _ _ _) (one_F _) (by unfold maxLen; omega) (by omega) (by simp; omega) ?_; intro vE6 w6 hown6 hg6 _ hat6))
                      obtain ⟨hsg6, hb6', htoI6⟩ := HSGx.out.stepD (e := ((q : Int), (g.marks.length : Int))) hg6 hown6 hat6
                      go_roundg (gk - 1)
                      case measure => omega
                      case rel => exact HFin.out _ _ _ _ HMs2.out (by rw [HIX.out]; omega) (by rw [HIX.out, HPM.out]; exact hsg6) (htoI6 HLox.out) (HBx.out.trans hb6')
              · have hk' : ¬ ((k : Int) < (L.length : Int)) := by omega
                have hnx : Hid (sxF n M (M + 1 - (i + 1)) (i + 1) g = stubE n M) := by
                  refine Lib.hid ?_
                  rw [← hIn.out, List.drop_eq_nil_of_le (by omega)]; rfl
                have hel := hX.out.elen
                have hEl : Es.length = i := by
                  have := congrArg List.length hMs.out.2
                  rw [List.length_map, List.length_take] at this
                  omega
                have hdl : did.length ≤ 8192 := by have := hED.out.2; have : k ≤ L.length := by omega
                                                   omega
                obtain ⟨aE, cE, hvE⟩ := OwnF.shape hG.out.par.rowE
                rw [hEl] at hvE
                subst hvE
                obtain ⟨i5, ht5, hz50, hz51, hz52⟩ := info_parts info_se
                have k1 : wr.cell? ⟨w3.heap.size, 1, none⟩ = some (.slice aE i cE) := cell_of_block hG.out.bx 1
                have hx := (Below.refl wr.heap.size wr).alloc (Nat.le_refl _) (.cells #[.slice aD did.length cD] 42)
                have HGx := Lib.hid (hG.out.kept hx)
                have HBx := Lib.hid (hbel.trans (hx.mono hwr))
                have hTE := HGx.out.par.rowE
                have HEl := Lib.hid hEl
                unfold RowX OwnF at hTE
                rw [hEl] at hTE
                have HMs3 : Hid (Ms.map Prod.fst = g.marks ∧ (Es ++ [(did, Value.slice aD did.length cD)]).map Prod.fst = g.edges.take (i + 1)) := by
                  refine ⟨hMs.out.1, ?_⟩
                  have hie : i < g.edges.length := by omega
                  rw [List.map_append, hMs.out.2, List.take_succ_eq_append_getElem hie]
                  have := hED.out.1
                  unfold edAt at this
                  rw [List.getD_eq_getElem?_getD, List.getElem?_eq_getElem hie, Option.getD_some] at this
                  rw [this]
                  rfl
                have HEd3 : Hid (∀ j, i + 1 ≤ j → edAt g j = []) := fun j hj => hEd.out j (by omega)
                clear hIn hMs hED hEd hG hLo hx hEl k0
                go_wp2_with (at_builtin; go_must (refine wpList_append_own_at _ rfl _ _ 72 rfl w3.heap.size 42 i5 (.slice none 0 0) 1 24 Tryd.underlying72 ht5 hz50 hz51 hz52 rfl (by decide) _ _ _ rfl hTE ⟨wr.heap.size, 0, none⟩ 1 1 [.slice aD did.length cD] rfl rfl (cell_one_new _ _ _) (by intro u hu; simp at hu; subst hu; rfl) (by unfold maxLen; omega) (by omega) (by simp; omega) ?_; intro v15 w15 hown15 hg15 _ hat15; refine Hid.out ?_))
                refine Lib.hid ?_
                rw [← HEl.out] at hown15
                obtain ⟨hG15, hb15⟩ := HGx.out.stepE hg15 hown15
                have hX15 := bx_off HGx.out.bx (tyOf HGx.out.par.rowE) (by decide) hg15
                obtain ⟨a15, c15, h15⟩ := OwnF.shape hG15.par.rowE
                rw [List.length_append, List.length_singleton, HEl.out] at h15
                subst h15
                have k15 : w15.cell? ⟨w3.heap.size, 1, none⟩ = some (.slice aE i cE) := cell_of_block hX15 1
                have f15 := free_of_block hX15 1
                have HB15 := Lib.hid (HBx.out.trans hb15)
                have HG15 := Lib.hid hG15
                clear hX15 hown15 hg15 hat15 hTE hG15 hb15
                go_wp2_with fail
                go_roundg (M + 1 - (i + 1))
                case measure => omega
                case rel => exact ⟨i + 1, g, _, _, _, _, by omega, by go_num, hnx, hX, hgM, by omega, HEd3, HMs3, HG15, HB15.out⟩
          · have hi' : ¬ ((i : Int) < (g.marks.length : Int)) := by omega
            have hres : stubE n M = some g := by
              rw [← hEx.out, show M + 1 - i = (M - i) + 1 by omega, sxF, if_neg hi]
            have hF := stub_all Hok.out h1' h2' hres
            have HR : Hid (sexpR n (M : Int) = .inr g) := by refine Lib.hid ?_; rw [Hf.out, hres]
            have hrM : ∀ l ∈ g.marks, l.length ≤ 4096 := by
              intro l hl
              obtain ⟨j, hj, rfl⟩ := List.getElem_of_mem hl
              rw [(hF.ok.mark j hj).1.len]; exact hmany
            have hel := hF.ok.elen
            have hEs : Es.map Prod.fst = g.edges := by
              rw [hMs.out.2, List.take_of_length_le (by omega)]
            have HD := Lib.hid (hG.out.par.done hG.out.bx hMs.out.1 hEs (by omega) (by omega) hrM (stub_eok hF hnt))
            clear hres hF hrM hel hEs
            go_wp2_with fail
            go_ret2
            exact ⟨hbw, Or.inr ⟨g, _, HR.out, rfl, HD.out⟩⟩
end Go.Proofs.YtbolacnpljkpbaaDoor

/- Readers of a graph of kept markings: Len, at, Marking, Edges, Deadlocks; awake's net. -/
namespace Go.Proofs.YtbolacnpljkpbaaDoor
open Go.RowKit Go.Maps Go.WideMaps

theorem sbox {w : World} {p : Nat} {v0 v1 : Value} {t : TypeId} {fr : Nat × Nat} (h : w.heap[p]? = some (.cells #[v0, v1] t fr)) : w.cell? ⟨p, 0, none⟩ = some v0 ∧ w.cell? ⟨p, 1, none⟩ = some v1 := by
  refine ⟨?_, ?_⟩ <;> (rw [cell_of_block h]; rfl)
theorem slen_any (w : World) (B p : Nat) (g : Gr) (h : SgR w B p g) : Calls Tryd.prog 21 #[.pointer (some ⟨p, 0, none⟩)] w fun e w' => e = .returned (.int .i64 (g.marks.length : Int)) ∧ w = w' := by
  obtain ⟨vM, vE, h1, h2, h3, h4⟩ := h
  obtain ⟨aM, cM, rfl⟩ := h3.val
  have hl := h3.len
  obtain ⟨k0, k1⟩ := sbox h1
  clear h1
  go_enter Tryd.func21, Tryd.ntmps21
  go_wp2_with fail
  go_ret
  exact ⟨rfl, rfl⟩
theorem slen_nil (w : World) : Calls Tryd.prog 21 #[.pointer none] w fun e w' => e = .returned (.int .i64 0) ∧ w = w' := by
  go_enter Tryd.func21, Tryd.ntmps21
  go_wp2_with fail
  go_ret
  exact ⟨rfl, rfl⟩
/-- Is there a marking of a number? -/
def hasS (len : Nat) (i : Int) : Int := if 0 ≤ i ∧ i < (len : Int) then 0 else 1
theorem sat_any (w : World) (B p : Nat) (g : Gr) (h : SgR w B p g) (i : Int) : Calls Tryd.prog 36 #[.pointer (some ⟨p, 0, none⟩), .int .i64 i] w fun e w' => e = .returned (.int .i64 (hasS g.marks.length i)) ∧ w = w' := by
  obtain ⟨vM, vE, h1, h2, h3, h4⟩ := h
  obtain ⟨aM, cM, rfl⟩ := h3.val
  have hl := h3.len
  obtain ⟨k0, k1⟩ := sbox h1
  clear h1
  by_cases h0 : i < 0
  · have hc : Hid (hasS g.marks.length i = 1) := by unfold hasS; rw [if_neg (by omega)]; exact rfl
    go_enter Tryd.func36, Tryd.ntmps36
    go_wp2_with fail
    go_ret
    exact ⟨ret_int hc.out.symm, rfl⟩
  · by_cases h9 : i < (g.marks.length : Int)
    · have hc : Hid (hasS g.marks.length i = 0) := by unfold hasS; rw [if_pos (by omega)]; exact rfl
      go_enter Tryd.func36, Tryd.ntmps36
      go_wp2_with fail
      go_ret
      exact ⟨ret_int hc.out.symm, rfl⟩
    · have hc : Hid (hasS g.marks.length i = 1) := by unfold hasS; rw [if_neg (by omega)]; exact rfl
      go_enter Tryd.func36, Tryd.ntmps36
      go_wp2_with fail
      go_ret
      exact ⟨ret_int hc.out.symm, rfl⟩
theorem sat_nil (w : World) (i : Int) : Calls Tryd.prog 36 #[.pointer none, .int .i64 i] w fun e w' => e = .returned (.int .i64 2) ∧ w = w' := by
  go_enter Tryd.func36, Tryd.ntmps36
  go_wp2_with fail
  go_ret
  exact ⟨rfl, rfl⟩
theorem sat_is (w : World) (B p : Nat) (g : Gr) (h : SgR w B p g) (i t : Int) (ht : hasS g.marks.length i = t) : Calls Tryd.prog 36 #[.pointer (some ⟨p, 0, none⟩), .int .i64 i] w fun e w' => e = .returned (.int .i64 t) ∧ w = w' := by
  subst ht; exact sat_any w B p g h i
theorem hasS_yes {len i : Nat} (h : i < len) : hasS len (i : Int) = 0 := by unfold hasS; rw [if_pos (by omega)]
theorem smark_nil (w : World) (i : Int) : Calls Tryd.prog 16 #[.pointer none, .int .i64 i] w (ListPost w [] 2) := by
  go_enter Tryd.func16, Tryd.ntmps16
  go_wp2_with (go_at_call 36; go_must (refine (sat_nil _ _).mono ?_; rintro e w2 ⟨rfl, rfl⟩))
  go_ret2
  exact ⟨_, rfl, OwnI.nil _ _, Below.refl _ _⟩
set_option maxHeartbeats 400000 in
theorem smark_any (w : World) (B p : Nat) (g : Gr) (h : SgR w B p g) (hB : B ≤ w.heap.size) (i : Nat) (hi : i < g.marks.length) : Calls Tryd.prog 16 #[.pointer (some ⟨p, 0, none⟩), .int .i64 (i : Int)] w (ListPost w g.marks[i] 0) := by
  have HC := Lib.hid (sat_is w B p g h i 0 (hasS_yes hi))
  obtain ⟨vM, vE, h1, h2, h3, h4⟩ := h
  obtain ⟨aM, cM, rfl⟩ := h3.val
  have hl := h3.len
  obtain ⟨k0, k1⟩ := sbox h1
  obtain ⟨b, o, u, rfl, hb, hc, hu⟩ := h3.at i hi
  obtain ⟨m, hm⟩ : ∃ m, g.marks[i] = m := ⟨_, rfl⟩
  rw [hm] at hu ⊢
  have HK := Lib.hid (clone_any w B u m hu hB)
  obtain ⟨au, cu, rfl⟩ := hu.val
  clear h1 hm h3 h4 hu
  go_enter Tryd.func16, Tryd.ntmps16
  go_wp2_with (first | (go_at_call 36; go_must (refine HC.out.mono ?_; rintro e w2 ⟨rfl, rfl⟩)) | (go_at_call 37; refine HK.out.mono ?_; rintro e w2 ⟨v2, rfl, how, hb2⟩; refine Hid.out ?_))
  refine Lib.hid ?_
  obtain ⟨a2, c2, rfl⟩ := how.shape
  go_wp2_with fail
  go_ret2
  exact ⟨_, rfl, how, hb2⟩
theorem sedges_nil (w : World) (i : Int) : Calls Tryd.prog 17 #[.pointer none, .int .i64 i] w (EdgePost w [] 2) := by
  go_enter Tryd.func17, Tryd.ntmps17
  go_wp2_with (go_at_call 36; go_must (refine (sat_nil _ _).mono ?_; rintro e w2 ⟨rfl, rfl⟩))
  go_ret2
  exact ⟨_, rfl, OwnF.nil _ _, Below.refl _ _⟩
set_option maxHeartbeats 400000 in
theorem sedges_any (w : World) (B p : Nat) (g : Gr) (h : SgR w B p g) (hB : B ≤ w.heap.size) (hE : ∀ l ∈ g.edges, l.length ≤ 8192) (hel : g.edges.length = g.marks.length) (i : Nat) (hi : i < g.edges.length) :
    Calls Tryd.prog 17 #[.pointer (some ⟨p, 0, none⟩), .int .i64 (i : Int)] w (EdgePost w g.edges[i] 0) := by
  have HC := Lib.hid (sat_is w B p g h i 0 (hasS_yes (by omega)))
  obtain ⟨vM, vE, h1, h2, h3, h4⟩ := h
  obtain ⟨aE, cE, rfl⟩ := h4.val
  have hl := h4.len
  obtain ⟨k0, k1⟩ := sbox h1
  obtain ⟨b, o, u, rfl, hb, hc, hu⟩ := h4.at i hi
  have hr := hE _ (List.getElem_mem hi)
  obtain ⟨m, hm⟩ : ∃ m, g.edges[i] = m := ⟨_, rfl⟩
  rw [hm] at hu hr ⊢
  have HK := Lib.hid (cloneE_any w B u m hu hr hB)
  obtain ⟨au, cu, rfl⟩ := hu.val
  clear h1 hm h3 h4 hu hel
  go_enter Tryd.func17, Tryd.ntmps17
  go_wp2_with (first | (go_at_call 36; go_must (refine HC.out.mono ?_; rintro e w2 ⟨rfl, rfl⟩)) | (go_at_call 38; refine HK.out.mono ?_; rintro e w2 ⟨v2, rfl, how, hb2⟩; refine Hid.out ?_))
  refine Lib.hid ?_
  obtain ⟨a2, c2, rfl⟩ := OwnF.shape how
  go_wp2_with fail
  go_ret2
  exact ⟨_, rfl, how, hb2⟩
theorem sdeadl_nil (w : World) : Calls Tryd.prog 22 #[.pointer none] w fun e w' => ∃ v, e = .returned v ∧ OwnI w' w.heap.size v [] ∧ Below w.heap.size w w' := by
  go_enter Tryd.func22, Tryd.ntmps22
  go_wp2_with fail
  go_ret
  exact ⟨_, rfl, OwnI.nil _ _, Below.refl _ _⟩
set_option maxHeartbeats 1000000 in
theorem sdeadl_any (w : World) (B p : Nat) (g : Gr) (h : SgR w B p g) (hB : B ≤ w.heap.size) (hE : g.edges.length ≤ 1024) :
    Calls Tryd.prog 22 #[.pointer (some ⟨p, 0, none⟩)] w fun e w' => ∃ v, e = .returned v ∧ OwnI w' w.heap.size v (deadE g.edges) ∧ Below w.heap.size w w' := by
  obtain ⟨vM, vE, h1, h2, h3, h4⟩ := h
  obtain ⟨k0, k6⟩ := sbox h1
  obtain ⟨aE, cE, rfl⟩ := h4.val
  obtain ⟨i0, hti, hz0, hz1, hz2⟩ := info_parts info_int
  have hl := hE
  have HV := Lib.hid h4
  unfold deadE
  obtain ⟨E, hEE⟩ : ∃ E, g.edges = E := ⟨_, rfl⟩
  rw [hEE] at hl HV hE k6 ⊢
  clear h1 h3 h4 hEE
  go_enter Tryd.func22, Tryd.ntmps22
  go_wp2_with fail
  go_loopg [3, 14] E.length (fun gh s3 s14 wr => ∃ k : Nat, k + gh = E.length ∧ s14 = .int .i64 (k : Int) ∧ OwnI wr w.heap.size s3 (deadTo E k) ∧ Below w.heap.size w wr)
  case atStart => exact ⟨0, by omega, rfl, OwnI.nil _ _, Below.refl _ _⟩
  case round =>
    obtain ⟨k, hkg, rfl, hO, hbel⟩ := hrel
    by_cases hk : k < E.length
    · obtain ⟨b, o, u, rfl, hb, hc, hu⟩ := HV.out.at k hk
      rw [← Below.cellB hbel (by omega)] at hc
      have hsn := Lib.hid (deadTo_succ hk)
      have hdl := deadTo_len E k
      obtain ⟨row, hrow⟩ : ∃ row, E[k] = row := ⟨_, rfl⟩
      rw [hrow] at hu hsn
      obtain ⟨l, hll⟩ : ∃ l, deadTo E k = l := ⟨_, rfl⟩
      rw [hll] at hO hsn hdl
      obtain ⟨au, cu, rfl⟩ := hu.val
      obtain ⟨a3, c3, rfl⟩ := hO.shape
      clear hrow hll
      have hul := hu.len
      by_cases h0 : row.length = 0
      · rw [if_pos h0] at hsn
        have hx3 := (Below.refl wr.heap.size wr).alloc (Nat.le_refl _) (.cells #[.int .i64 (k : Int)] 3)
        have hT4 := hO.kept hx3 (Nat.le_refl _)
        have HX := Lib.hid (hbel.trans (hx3.mono hbel.size))
        have hws := hbel.size
        rw [h0] at hc
        clear hx3 h0
        go_wp2_with (at_builtin; refine wpList_append_own_at _ rfl _ _ 26 rfl w.heap.size 3 i0 (.int .i64 0) 1 8 Tryd.underlying26 hti hz0 hz1 hz2 rfl (by decide) _ _ _ rfl hT4 ⟨wr.heap.size, 0, none⟩ 1 1 [.int .i64 (k : Int)] rfl rfl (cell_one_new _ _ _) (by intro u hu; simp at hu; subst hu; rfl) (by unfold maxLen; omega) (by omega) (by simp; omega) ?_; intro v6 w6 hown6 hg6 _ hat6)
        go_roundg (gk - 1)
        case measure => omega
        case rel => exact ⟨k + 1, by omega, by go_num, by rw [hsn.out]; unfold OwnI; simpa using hown6, HX.out.grown hg6 HX.out.size (fun k hk => (World.ownsRow.lt hT4 k hk).1)⟩
      · rw [if_neg h0] at hsn
        have h0' : 0 < row.length := by omega
        have hd0 : ((row.length : Int) == 0) = false := by rw [beq_eq_false_iff_ne]; omega
        clear h0
        go_wp2_with fail
        go_roundg (gk - 1)
        case measure => omega
        case rel => exact ⟨k + 1, by omega, by go_num, by rw [hsn.out]; exact hO, hbel⟩
    · have hk' : ¬ ((k : Int) < (E.length : Int)) := by omega
      obtain rfl : k = E.length := by omega
      go_wp2_with fail
      go_ret
      exact ⟨_, rfl, hO, hbel⟩
end Go.Proofs.YtbolacnpljkpbaaDoor

/- What the statements on stubborn sets ask first: large, the example's net, awake. -/
namespace Go.Proofs.YtbolacnpljkpbaaDoor
open Go.RowKit Go.Maps

def sumT (l : List Tr) : Nat := l.foldl (fun s t => s + t.inn.length + t.out.length) 0
theorem sumT_take {l : List Tr} {k : Nat} (h : k < l.length) : sumT (l.take (k + 1)) = sumT (l.take k) + l[k].inn.length + l[k].out.length := by
  unfold sumT
  rw [List.take_succ_eq_append_getElem h, List.foldl_append]
  rfl
def largeB (n : Nt) : Bool := decide (60 < n.places.length) || decide (60 < n.trans.length) || decide (400 < sumT n.trans)

set_option maxHeartbeats 1000000 in
theorem large_is (w : World) (vp vt : Value) (n : Nt) (B : Nat) (hB : B ≤ w.heap.size) (hn : NtR w B vp vt n) {t : Bool} (ht : largeB n = t) :
    Calls Tryd.prog 7 #[.agg #[vp, vt, .int .i64 n.init, .int .i64 n.final]] w fun e w' => e = .returned (.bool t) ∧ Below w.heap.size w w' := by
  have hbel1 := (Below.refl w.heap.size w).alloc (Nat.le_refl _) (.cells #[vp, vt, .int .i64 n.init, .int .i64 n.final] 25)
  have hbx := heap_alloc_new w (.cells #[vp, vt, .int .i64 n.init, .int .i64 n.final] 25)
  obtain ⟨W1, hW1⟩ : ∃ W1, w.alloc (.cells #[vp, vt, .int .i64 n.init, .int .i64 n.final] 25) = W1 := ⟨_, rfl⟩
  rw [hW1] at hbel1 hbx
  have hn1 := hn.mono (hbel1.mono hB) (Nat.le_refl _)
  have hlt := hn.2.len
  obtain ⟨ap, cp, rfl⟩ := hn.1.val
  obtain ⟨at_, ct, rfl⟩ := hn.2.val
  have hpl := hn.1.len
  have HN := Lib.hid hn1
  obtain ⟨c0, c1, c2, c3⟩ := box4' hbx
  have HT := Lib.hid ht
  clear ht hn hn1
  go_enter Tryd.func7, Tryd.ntmps7
  go_wp2_with fail
  go_loopg [3, 4] n.trans.length (fun gh s3 s4 wr => ∃ (k : Nat) (v : Int), k + gh = n.trans.length ∧ s4 = .int .i64 (k : Int) ∧ s3 = .int .i64 v ∧ Hid (k ≤ 60 → v = (sumT (n.trans.take k) : Int) ∧ sumT (n.trans.take k) ≤ k * 35184372088832) ∧ Below W1.heap.size W1 wr)
  case atStart => exact ⟨0, 0, by omega, rfl, rfl, fun _ => ⟨rfl, by simp [sumT]⟩, Below.refl _ _⟩
  case round =>
    clear c0 c1 c2 c3
    obtain ⟨k, v, hkg, rfl, rfl, hV, hbel⟩ := hrel
    obtain ⟨c0, c1, c2, c3⟩ := box4' ((hbel.block _ (lt_of_block hbx)).trans hbx)
    by_cases hk : k < n.trans.length
    · obtain ⟨bt, ot, vi, vo, rfl, hbt2, h0, h1, h2, hi, ho⟩ := HN.out.2.col k hk
      rw [← Below.cellB hbel (by have := hbel1.size; omega)] at h0 h1 h2
      have hst := Lib.hid (sumT_take hk)
      obtain ⟨tk, htk⟩ : ∃ tk, n.trans[k] = tk := ⟨_, rfl⟩
      rw [htk] at h0 hst hi ho
      have hil := hi.len
      have hol := ho.len
      obtain ⟨ai, ci, rfl⟩ := hi.val
      obtain ⟨ao, co, rfl⟩ := ho.val
      clear htk
      by_cases h60 : k < 60
      · have h1' := hV.out (by omega)
        have hvv : v = (sumT (n.trans.take k) : Int) := h1'.1
        have hvl := h1'.2
        have hk60 : k * 35184372088832 ≤ 60 * 35184372088832 := Nat.mul_le_mul_right _ (by omega)
        obtain ⟨s, hs⟩ : ∃ s, sumT (n.trans.take k) = s := ⟨_, rfl⟩
        rw [hs] at hvv hvl hst
        have HV : Hid (k + 1 ≤ 60 → ((s + tk.inn.length + tk.out.length : Nat) : Int) = (sumT (n.trans.take (k + 1)) : Int) ∧ sumT (n.trans.take (k + 1)) ≤ (k + 1) * 35184372088832) := by
          refine Lib.hid fun _ => ?_
          rw [hst.out]
          refine ⟨rfl, ?_⟩
          rw [Nat.add_mul]
          omega
        subst hvv
        clear hs h1' hV
        go_upto_region 5 with fail
        go_quiet (fail)
        go_wp2_with fail
        go_roundg (gk - 1)
        case measure => omega
        case rel => exact ⟨k + 1, _, by omega, by go_num, by go_num, HV, by first | exact hbel | exact below_drewN hbel _⟩
      · clear hV
        go_upto_region 5 with fail
        go_quiet (fail)
        go_wp2_with fail
        go_roundg (gk - 1)
        case measure => omega
        case rel => exact ⟨k + 1, _, by omega, by go_num, rfl, fun h => absurd h (by omega), by first | exact hbel | exact below_drewN hbel _⟩
    · have hk' : ¬ ((k : Int) < (n.trans.length : Int)) := by omega
      have hke : k = n.trans.length := by omega
      have HB := Lib.hid (hbel1.trans (hbel.mono hbel1.size))
      by_cases h1 : 60 < n.places.length
      · have d1 : decide ((60 : Int) < (n.places.length : Int)) = true := decide_eq_true (by omega)
        have d1' : decide (60 < n.places.length) = true := decide_eq_true h1
        have hT : Hid (true = t) := by rw [← HT.out]; unfold largeB; rw [d1']; exact rfl
        clear hV
        go_wp2_with fail
        go_ret
        exact ⟨ret_bool hT.out, HB.out⟩
      · have d1 : decide ((60 : Int) < (n.places.length : Int)) = false := decide_eq_false (by omega)
        have d1' : decide (60 < n.places.length) = false := decide_eq_false h1
        by_cases h2 : 60 < n.trans.length
        · have d2 : decide ((60 : Int) < (n.trans.length : Int)) = true := decide_eq_true (by omega)
          have d2' : decide (60 < n.trans.length) = true := decide_eq_true h2
          have hT : Hid (true = t) := by rw [← HT.out]; unfold largeB; rw [d1', d2']; exact rfl
          clear hV
          go_wp2_with fail
          go_ret
          exact ⟨ret_bool hT.out, HB.out⟩
        · have d2 : decide ((60 : Int) < (n.trans.length : Int)) = false := decide_eq_false (by omega)
          have d2' : decide (60 < n.trans.length) = false := decide_eq_false h2
          obtain ⟨hv, hvl⟩ := hV.out (by omega)
          rw [hke, List.take_length] at hv hvl
          have hT : Hid (decide (400 < sumT n.trans) = t) := by rw [← HT.out]; unfold largeB; rw [d1', d2']; exact rfl
          have hk60 : n.trans.length * 35184372088832 ≤ 60 * 35184372088832 := Nat.mul_le_mul_right _ (by omega)
          obtain ⟨s, hs⟩ : ∃ s, sumT n.trans = s := ⟨_, rfl⟩
          rw [hs] at hv hvl hT
          subst hv
          clear hV hs
          go_wp2_with fail
          go_ret
          exact ⟨ret_bool (by rw [← hT.out, decide_eq_decide]; omega), HB.out⟩

theorem rows_reads {W : World} {N : Nat} (h1 : W.heap[N + 1]? = some (.cells #[.string ⟨#[40, 105, 110, 41]⟩, .string ⟨#[40, 111, 117, 116, 41]⟩, .string ⟨#[97]⟩, .string ⟨#[98]⟩, .string ⟨#[99]⟩, .string ⟨#[100]⟩] 9))
    (h2 : W.heap[N + 2]? = some (.cells #[.int .i64 0] 3)) (h3 : W.heap[N + 3]? = some (.cells #[.int .i64 2, .int .i64 4] 3)) (h4 : W.heap[N + 4]? = some (.cells #[.int .i64 2] 3)) (h5 : W.heap[N + 5]? = some (.cells #[.int .i64 3] 3))
    (h6 : W.heap[N + 6]? = some (.cells #[.int .i64 4] 3)) (h7 : W.heap[N + 7]? = some (.cells #[.int .i64 5] 3))
    (h8 : W.heap[N + 8]? = some (.cells #[.string ⟨#[105]⟩, .slice (some ⟨N + 2, 0, none⟩) 1 1, .slice (some ⟨N + 3, 0, none⟩) 2 2, .string ⟨#[115]⟩, .slice (some ⟨N + 4, 0, none⟩) 1 1, .slice (some ⟨N + 5, 0, none⟩) 1 1, .string ⟨#[116]⟩, .slice (some ⟨N + 6, 0, none⟩) 1 1, .slice (some ⟨N + 7, 0, none⟩) 1 1] 57)) :
    NtR W W.heap.size (.slice (some ⟨N + 1, 0, none⟩) 6 6) (.slice (some ⟨N + 8, 0, none⟩) 3 3) rowsN := by
  have l8 := lt_of_block h8
  have i2 : Ints W W.heap.size (.slice (some ⟨N + 2, 0, none⟩) 1 1) [0] := ints_lit (l := [0]) h2 (by simp) (by omega)
  have i3 : Ints W W.heap.size (.slice (some ⟨N + 3, 0, none⟩) 2 2) [2, 4] := ints_lit (l := [2, 4]) h3 (by simp) (by omega)
  have i4 : Ints W W.heap.size (.slice (some ⟨N + 4, 0, none⟩) 1 1) [2] := ints_lit (l := [2]) h4 (by simp) (by omega)
  have i5 : Ints W W.heap.size (.slice (some ⟨N + 5, 0, none⟩) 1 1) [3] := ints_lit (l := [3]) h5 (by simp) (by omega)
  have i6 : Ints W W.heap.size (.slice (some ⟨N + 6, 0, none⟩) 1 1) [4] := ints_lit (l := [4]) h6 (by simp) (by omega)
  have i7 : Ints W W.heap.size (.slice (some ⟨N + 7, 0, none⟩) 1 1) [5] := ints_lit (l := [5]) h7 (by simp) (by omega)
  refine ⟨⟨_, 6, rfl, by simp [rowsN], by simp [rowsN], ?_⟩, ⟨_, 3, rfl, by simp [rowsN], ?_⟩⟩
  · intro i hi
    refine ⟨N + 1, 0, rfl, by omega, ?_⟩
    rw [cell_of_block h1]
    have hi3 : i < 6 := hi
    rcases (by omega : i = 0 ∨ i = 1 ∨ i = 2 ∨ i = 3 ∨ i = 4 ∨ i = 5) with rfl | rfl | rfl | rfl | rfl | rfl <;> rfl
  · intro i hi
    have hi2 : i < 3 := hi
    rcases (by omega : i = 0 ∨ i = 1 ∨ i = 2) with rfl | rfl | rfl
    · refine ⟨N + 8, 0, _, _, rfl, by omega, ?_, ?_, ?_, i2, i3⟩
      all_goals rw [cell_of_block h8]; rfl
    · refine ⟨N + 8, 0, _, _, rfl, by omega, ?_, ?_, ?_, i4, i5⟩
      all_goals rw [cell_of_block h8]; rfl
    · refine ⟨N + 8, 0, _, _, rfl, by omega, ?_, ?_, ?_, i6, i7⟩
      all_goals rw [cell_of_block h8]; rfl
def RowsPost (w : World) (e : Ending) (w' : World) : Prop :=
  ∃ vp vt, e = .returned (.agg #[vp, vt, .int .i64 0, .int .i64 1]) ∧ NtR w' w'.heap.size vp vt rowsN ∧ Below w.heap.size w w'
set_option maxHeartbeats 400000 in
theorem rows_any (w : World) : Calls Tryd.prog 18 #[] w (RowsPost w) := by
  go_enter Tryd.func18, Tryd.ntmps18
  go_wp2_with fail
  refine bodyPost_ret (v := .agg #[.slice (some ⟨w.heap.size + 1, 0, none⟩) 6 6, .slice (some ⟨w.heap.size + 8, 0, none⟩) 3 3, .int .i64 0, .int .i64 1]) (by simp [results, Tryd.results18, go_sem]) rfl ⟨_, _, rfl, ?_, ?_⟩
  · refine rows_reads ?_ ?_ ?_ ?_ ?_ ?_ ?_ ?_
    all_goals (simp only [alloc_get', World.size_alloc]; repeat (first | rfl | rw [if_pos trivial] | rw [if_pos (by omega)] | rw [if_neg (by omega)]))
  · repeat (first | exact Below.refl _ _ | refine Below.alloc ?_ (by simp <;> omega) _)

theorem sexpR_rows : sexpR rowsN 9 = .inr rowsG := by
  unfold sexpR
  rw [rows_ok, if_pos rfl, if_neg (by omega), if_neg (by omega), show ((9 : Int).toNat) = 9 from rfl, rows_stub]
/-- A graph that is kept. -/
def SOk (w : World) (g : Gr) (e : Ending) (w' : World) : Prop := ∃ p, e = .returned (.tuple #[.pointer (some ⟨p, 0, none⟩), .int .i64 0]) ∧ SgR w' w'.heap.size p g ∧ Below w.heap.size w w'
theorem sexp_ok (w : World) (B : Nat) (hB : B ≤ w.heap.size) (vp vt : Value) (n : Nt) (hn : NtR w B vp vt n) (most : Int) (htab : Pow10 B w) {g : Gr} (h : sexpR n most = .inr g) :
    Calls Tryd.prog 20 #[.agg #[vp, vt, .int .i64 n.init, .int .i64 n.final], .int .i64 most] w (SOk w g) :=
  (sexp_any w B hB vp vt n hn most htab).mono fun e w' hp => by
    obtain ⟨hb, ⟨c, h1, _⟩ | ⟨g', p, h1, h2, h3⟩⟩ := hp
    · rw [h] at h1; cases h1
    · rw [h] at h1; cases h1; exact ⟨p, h2, h3, hb⟩
theorem sexp_no (w : World) (B : Nat) (hB : B ≤ w.heap.size) (vp vt : Value) (n : Nt) (hn : NtR w B vp vt n) (most : Int) (htab : Pow10 B w) {c : Int} (h : sexpR n most = .inl c) :
    Calls Tryd.prog 20 #[.agg #[vp, vt, .int .i64 n.init, .int .i64 n.final], .int .i64 most] w fun e w' => e = .returned (.tuple #[.pointer none, .int .i64 c]) ∧ Below w.heap.size w w' :=
  (sexp_any w B hB vp vt n hn most htab).mono fun e w' hp => by
    obtain ⟨hb, ⟨c, h1, h2⟩ | ⟨g', p, h1, h2, h3⟩⟩ := hp
    · rw [h] at h1; cases h1; exact ⟨h2, hb⟩
    · rw [h] at h1; cases h1
theorem slen_is (w : World) (B p : Nat) (g : Gr) (h : SgR w B p g) {t : Int} (ht : (g.marks.length : Int) = t) : Calls Tryd.prog 21 #[.pointer (some ⟨p, 0, none⟩)] w fun e w' => e = .returned (.int .i64 t) ∧ w = w' := by
  rw [← ht]; exact slen_any w B p g h
theorem sdeadl_is (w : World) (B p : Nat) (g : Gr) (h : SgR w B p g) (hB : B ≤ w.heap.size) (hE : g.edges.length ≤ 1024) {l : List Int} (hl : deadE g.edges = l) :
    Calls Tryd.prog 22 #[.pointer (some ⟨p, 0, none⟩)] w fun e w' => ∃ v, e = .returned v ∧ OwnI w' w.heap.size v l ∧ Below w.heap.size w w' := by
  rw [← hl]; exact sdeadl_any w B p g h hB hE

set_option maxHeartbeats 1000000 in
theorem awake_any (w : World) (B : Nat) (hB : B ≤ w.heap.size) (htab : Pow10 B w) : Calls Tryd.prog 8 #[] w fun e w' => e = .returned (.bool true) ∧ Below w.heap.size w w' := by
  go_enter Tryd.func8, Tryd.ntmps8
  go_wp2_with (first | (go_at_call 18; refine (rows_any _).mono ?_; rintro e w1 ⟨vp, vt, rfl, hn1, hb1⟩; refine Hid.out ?_))
  refine Lib.hid ?_
  have hz1 := hb1.size
  have HX := Lib.hid (sexp_ok w1 w1.heap.size (Nat.le_refl _) vp vt rowsN hn1 9 (tab_up (htab.on (hb1.mono hB)) (by omega)) sexpR_rows)
  go_wp2_with (first | (go_at_call 20; refine HX.out.mono ?_; rintro e w2 ⟨p, rfl, hg2, hb2⟩; refine Hid.out ?_))
  refine Lib.hid ?_
  have hz2 := hb2.size
  have B2 := hb1.trans (hb2.mono hz1)
  have HL := Lib.hid (slen_is w2 w2.heap.size p rowsG hg2 (t := 4) rfl)
  have HD := Lib.hid (sdeadl_is w2 w2.heap.size p rowsG hg2 (Nat.le_refl _) (by decide) (l := [3]) rfl)
  go_wp2_with (first | (go_at_call 21; refine HL.out.mono ?_; rintro e w3 ⟨rfl, rfl⟩) | (go_at_call 22; refine HD.out.mono ?_; rintro e w4 ⟨v, rfl, how, hb4⟩; refine Hid.out ?_))
  refine Lib.hid ?_
  obtain ⟨a4, c4, rfl⟩ := how.shape
  obtain ⟨b, o, rfl, _, hc⟩ := (how.col (B := w4.heap.size) (by simp) (Nat.le_refl _)).col 0 (by simp)
  have hc' : w4.cell? ⟨b, o, none⟩ = some (.int .i64 3) := hc
  go_wp2_with fail
  go_ret
  exact ⟨rfl, B2.trans (hb4.mono (by omega))⟩
end Go.Proofs.YtbolacnpljkpbaaDoor
