/- reach.Explore: all that a net reaches. -/
import Derived.Test.YtbolacnpljkpbaaDoorReachOwn2
set_option maxRecDepth 100000
namespace Go.Proofs.YtbolacnpljkpbaaDoor
open Go.RowKit Go.Maps Go.WideMaps

def expR (n : Nt) (most : Int) : Sum Int Gr :=
  if n.okB then (if most < 1 then .inl 1 else if 1024 < most then .inl 1 else match exploreE n most.toNat with | none => .inl 170 | some g => .inr g) else .inl 1
/-- What Explore hands back. -/
def ExpPost (w : World) (n : Nt) (most : Int) (e : Ending) (w' : World) : Prop :=
  Below w.heap.size w w' ∧ ((∃ c, expR n most = .inl c ∧ e = .returned (.tuple #[.pointer none, .int .i64 c])) ∨
    ∃ g p, expR n most = .inr g ∧ e = .returned (.tuple #[.pointer (some ⟨p, 0, none⟩), .int .i64 0]) ∧ GrR w' w'.heap.size p n.trans.length g (homesE g.edges))

theorem put_first (n : Nt) : Gr.put ⟨[], [], []⟩ (oneL n.places.length n.init) (0, 0) = rootG n := by unfold Gr.put rootG; rw [findM_nil]; rfl

theorem markB_of {n : Nt} (hok : n.okB = true) {m : List Int} (h : n.Mark m) : n.markB m = true := Nt.mark_mk hok h.len h.tok
theorem mark_in64 {n : Nt} {m : List Int} (h : n.Mark m) : ∀ x ∈ m, In64 x := fun x hx => by have := h.tok x hx; unfold In64; omega
theorem enabledNet_yes (w : World) (vp vt vm : Value) (n : Nt) (hok : n.okB = true) (m : List Int) (hM : n.Mark m) (B : Nat) (hB : B ≤ w.heap.size) (hn : NtR w B vp vt n) (hm : Ints w B vm m) (L : List Int) (hL : n.enE m = L) :
    Calls Tryd.prog 14 #[.agg #[vp, vt, .int .i64 n.init, .int .i64 n.final], vm] w (ListPost w L 0) := by
  have h := enabledNet_any w vp vt vm n m B hB hn hm
  have hb := markB_of hok hM
  have e1 : n.enL m = L := by unfold Nt.enL; rw [if_pos hb, hL]
  have e2 : n.markE m = 0 := markE_yes hb
  rw [e1, e2] at h
  exact h
/-- A firing that goes. -/
def FireYes (w : World) (r : List Int) (e : Ending) (w' : World) : Prop := ∃ v, e = .returned (.tuple #[v, .int .i64 0]) ∧ OwnI w' w.heap.size v r ∧ Below w.heap.size w w'
theorem fireNet_yes (w : World) (vp vt vm : Value) (n : Nt) (hok : n.okB = true) (m : List Int) (hM : n.Mark m) (q : Nat) (hq : q < n.trans.length) (h0 : ((n.tr (q : Int)).fireE m).1 = 0) (B : Nat) (hB : B ≤ w.heap.size) (hn : NtR w B vp vt n) (hm : Ints w B vm m) (r : List Int) (hr : ((n.tr (q : Int)).fireE m).2 = r) :
    Calls Tryd.prog 15 #[.agg #[vp, vt, .int .i64 n.init, .int .i64 n.final], vm, .int .i64 (q : Int)] w (FireYes w r) := by
  have h := fireNet_any w vp vt vm n m (q : Int) B hB hn hm
  have hb := markB_of hok hM
  have e1 : n.rowE m [(q : Int)] = (r, 1, 0) := by
    rw [rowE_3 hb (by simp [Nt.badT]; omega)]
    simp only [rowGo]
    rw [if_pos h0, hr]; rfl
  rw [e1] at h
  exact h

/-- What fires at a marking. -/
theorem XOk.fires {n : Nt} {most : Nat} {g : Gr} (x : XOk n most g) (hm : most ≤ 1024) {i : Nat} (hi : i < g.marks.length) {t : Int} (ht : t ∈ n.enE (mkAt g i)) :
    ∃ q : Nat, t = (q : Int) ∧ q < n.trans.length ∧ ((n.tr (q : Int)).fireE (mkAt g i)).1 = 0 ∧ n.Mark (fireG n g i t) := by
  obtain ⟨q, hq, rfl, e2, e3⟩ := enE_mem ht
  obtain ⟨hM, hs⟩ := x.mark i hi
  have e := mkAt_eq hi
  rw [e] at e3
  have hle := x.le
  have hf := fire_low hM (List.getElem_mem hq) e3 (U := 1 + (i : Int)) (by omega) hs
  refine ⟨q, rfl, hq, by rw [e2, e]; exact hf.1, ?_⟩
  unfold fireG
  rw [e2, e]
  exact hM.fire (List.getElem_mem hq) hf.1
theorem GOwn.empty {w : World} {base p : Nat} {v0 v1 : Value} {a b : Int} {mp : Nat} (hbox : w.heap[p]? = some (.cells (gCells v0 v1 a b (.slice none 0 0) mp (.slice none 0 0) (.slice none 0 0) (.slice none 0 0)) 83)) (hp : base ≤ p) (hmp : base ≤ mp) (hM : MapR w mp 0 (.map [])) :
    GOwn w base p v0 v1 a b (.slice none 0 0) mp (.slice none 0 0) (.slice none 0 0) ⟨[], [], []⟩ [] [] :=
  ⟨hbox, hp, hmp, rfl, rfl, OwnF.nil _ _, OwnF.nil _ _, OwnF.nil _ _, by simp, by simp, by simp, by simp, ⟨_, hM, MapG.empty⟩⟩
theorem rootG_edges (n : Nt) : Hid (∀ j, 0 ≤ j → edAt (rootG n) j = []) := by
  intro j _
  match j with
  | 0 => rfl
  | j + 1 => rfl
theorem GOwn.setNet {w : World} {base p : Nat} {v0 v1 : Value} {a b : Int} {vM : Value} {mp : Nat} {vE vF : Value} {g : Gr} {Ms : List (List Int × Value)} {Es : List (List (Int × Int) × Value)}
    (h : GOwn w base p v0 v1 a b vM mp vE vF g Ms Es) (u0 u1 : Value) (x y : Int) : GOwn ((((w.setCell ⟨p, 0, none⟩ u0).setCell ⟨p, 1, none⟩ u1).setCell ⟨p, 2, none⟩ (.int .i64 x)).setCell ⟨p, 3, none⟩ (.int .i64 y)) base p u0 u1 x y vM mp vE vF g Ms Es := by
  have h0 := h.own_box (grownBy_setCell w p 0 u0) (u0 := u0) (u1 := v1) (x := a) (y := b) (box_set (i := 0) h.box u0)
  have h1 := h0.own_box (grownBy_setCell _ p 1 u1) (u0 := u0) (u1 := u1) (x := a) (y := b) (box_set (i := 1) h0.box u1)
  have h2 := h1.own_box (grownBy_setCell _ p 2 (.int .i64 x)) (u0 := u0) (u1 := u1) (x := x) (y := b) (box_set (i := 2) h1.box _)
  exact h2.own_box (grownBy_setCell _ p 3 (.int .i64 y)) (u0 := u0) (u1 := u1) (x := x) (y := y) (box_set (i := 3) h2.box _)
theorem gbox4 {w : World} {p : Nat} {v0 v1 : Value} {a b : Int} {vM : Value} {mp : Nat} {vE vF vH : Value} {t : TypeId} {fr : Nat × Nat} (h : w.heap[p]? = some (.cells (gCells v0 v1 a b vM mp vE vF vH) t fr)) :
    w.cell? ⟨p, 0, none⟩ = some v0 ∧ w.cell? ⟨p, 1, none⟩ = some v1 ∧ w.cell? ⟨p, 2, none⟩ = some (.int .i64 a) ∧ w.cell? ⟨p, 3, none⟩ = some (.int .i64 b) := by
  refine ⟨?_, ?_, ?_, ?_⟩ <;> (rw [cell_of_block h]; rfl)
theorem info_trs : (Tryd.prog.info? 57).map (fun i => (i.zero, i.size, i.bytes)) = some (some (.agg #[.string ⟨#[]⟩, .slice none 0 0, .slice none 0 0]), 3, 64) := by kernel_rfl
/-- Where the markings stand. -/
theorem GOwn.markV {w : World} {base p : Nat} {v0 v1 : Value} {a b : Int} {vM : Value} {mp : Nat} {vE vF : Value} {g : Gr} {Ms : List (List Int × Value)} {Es : List (List (Int × Int) × Value)}
    (h : GOwn w base p v0 v1 a b vM mp vE vF g Ms Es) : ∃ aM cM, vM = .slice aM g.marks.length cM := by
  obtain ⟨aM, cM, hv⟩ := OwnF.shape h.rowM
  exact ⟨aM, cM, by rw [hv, ← h.isM, List.length_map]⟩

set_option maxHeartbeats 4000000 in
theorem explore_any (w : World) (B : Nat) (hB : B ≤ w.heap.size) (vp vt : Value) (n : Nt) (hn : NtR w B vp vt n) (most : Int) (htab : Pow10 B w) :
    Calls Tryd.prog 19 #[.agg #[vp, vt, .int .i64 n.init, .int .i64 n.final], .int .i64 most] w (ExpPost w n most) := by
  have hbel1 := (Below.refl w.heap.size w).alloc (Nat.le_refl _) (.cells #[vp, vt, .int .i64 n.init, .int .i64 n.final] 25)
  have hn1 := hn.mono (hbel1.mono hB) (Nat.le_refl _)
  have hlt := hn.2.len
  obtain ⟨ap, cp, rfl⟩ := hn.1.val
  obtain ⟨at_, ct, rfl⟩ := hn.2.val
  have Hc := Lib.hid (first_any _ _ _ n B (by simp; omega) hn1)
  cases hok : n.okB with
  | false =>
    have Hf : Hid (expR n most = .inl 1) := by unfold expR; rw [hok]; exact rfl
    have hce : n.checkE = 1 := by simp [Nt.checkE, hok]
    rw [hce] at Hc
    clear hok hce
    go_enter Tryd.func19, Tryd.ntmps19
    go_wp2_with (go_at_call 39; go_must (refine Hc.out.mono ?_; rintro e w2 ⟨v, rfl, how, hb⟩))
    go_ret2
    exact ⟨hbel1.trans (hb.mono (by simp)), Or.inl ⟨1, Hf.out, rfl⟩⟩
  | true =>
    have hce : n.checkE = 0 := by simp [Nt.checkE, hok]
    rw [hce] at Hc
    have ok := Lib.hid (Nt.ok_of hok)
    clear hce
    by_cases h1 : most < 1
    · have Hf : Hid (expR n most = .inl 1) := by unfold expR; rw [hok, if_pos rfl, if_pos h1]; exact rfl
      clear hok
      go_enter Tryd.func19, Tryd.ntmps19
      go_wp2_with (go_at_call 39; go_must (refine Hc.out.mono ?_; rintro e w2 ⟨v, rfl, how, hb⟩))
      go_ret2
      exact ⟨hbel1.trans (hb.mono (by simp)), Or.inl ⟨1, Hf.out, rfl⟩⟩
    · by_cases h2 : 1024 < most
      · have Hf : Hid (expR n most = .inl 1) := by unfold expR; rw [hok, if_pos rfl, if_neg h1, if_pos h2]; exact rfl
        clear hok
        go_enter Tryd.func19, Tryd.ntmps19
        go_wp2_with (go_at_call 39; go_must (refine Hc.out.mono ?_; rintro e w2 ⟨v, rfl, how, hb⟩))
        go_ret2
        exact ⟨hbel1.trans (hb.mono (by simp)), Or.inl ⟨1, Hf.out, rfl⟩⟩
      · obtain ⟨M, rfl⟩ := Int.eq_ofNat_of_zero_le (show 0 ≤ most by omega)
        have Hf : Hid (expR n (M : Int) = match exploreE n M with | none => .inl 170 | some g => .inr g) := by unfold expR; rw [hok, if_pos rfl, if_neg h1, if_neg h2]; exact rfl
        have Hone : Hid (n.oneE n.init = oneL n.places.length n.init) := by unfold Nt.oneE; rw [hok, if_pos rfl]; exact rfl
        rw [Hone.out] at Hc
        have h1' : 1 ≤ M := by omega
        have h2' : M ≤ 1024 := by omega
        have hd1 : decide ((M : Int) < 1) = false := decide_eq_false h1
        have hd2 : decide (1024 < (M : Int)) = false := decide_eq_false h2
        have htwo := ok.out.two
        have hmany := ok.out.many
        have hnt := ok.out.trans
        have hol : Hid ((oneL n.places.length n.init).length = n.places.length) := by simp [oneL, Hid]
        have hmm := @run_makeMap Tryd.prog
        have Hok := Lib.hid hok
        have HXF : Hid (XOk n M (rootG n)) := XOk.first hok h1'
        obtain ⟨W1, hW1⟩ : ∃ W1, w.alloc (.cells #[.slice ap n.places.length cp, .slice at_ n.trans.length ct, .int .i64 n.init, .int .i64 n.final] 25) = W1 := ⟨_, rfl⟩
        have hbox : Hid (W1.heap[w.heap.size]? = some (.cells #[.slice ap n.places.length cp, .slice at_ n.trans.length ct, .int .i64 n.init, .int .i64 n.final] 25)) := by rw [← hW1]; exact heap_alloc_new _ _
        have hs1 : Hid (W1.heap.size = w.heap.size + 1) := by rw [← hW1]; exact World.size_alloc _ _
        have hB1 : B ≤ W1.heap.size := by have := hs1.out; omega
        have hlt1 : w.heap.size < W1.heap.size := by have := hs1.out; omega
        rw [hW1] at Hc hbel1 hn1
        have htab1 : Pow10 B W1 := htab.on (hbel1.mono hB)
        obtain ⟨c0, c1, c2, c3⟩ := box4' hbox.out
        clear hok h1 h2
        go_enter Tryd.func19, Tryd.ntmps19
        go_wp2_with (go_at_call 39; go_must (refine Hc.out.mono ?_; rintro e w2 ⟨v, rfl, how, hb⟩; refine Hid.out ?_))
        refine Lib.hid ?_
        clear hW1 c0 c1 c2 c3
        have hbw := (hb.block _ hlt1).trans hbox.out
        obtain ⟨c0, c1, c2, c3⟩ := box4' hbw
        obtain ⟨av, cv, rfl⟩ := how.shape
        have HOW := Lib.hid how
        have hw2 := hb.size
        have hM0 := World.ownsMap_made (H := Unit) w2 Tryd.prog 9 (plainElem Tryd.prog 3)
        have hbx0 := heap_alloc_new (w2.alloc (.map #[] 0)) (.cells #[.slice ap n.places.length cp, .slice at_ n.trans.length ct, .int .i64 n.init, .int .i64 n.final, .slice none 0 0, .map (some w2.heap.size), .slice none 0 0, .slice none 0 0, .slice none 0 0] 83)
        rw [World.size_alloc] at hbx0
        have hb0 : Below w2.heap.size w2 ((w2.alloc (.map #[] 0)).alloc (.cells #[.slice ap n.places.length cp, .slice at_ n.trans.length ct, .int .i64 n.init, .int .i64 n.final, .slice none 0 0, .map (some w2.heap.size), .slice none 0 0, .slice none 0 0, .slice none 0 0] 83)) := ((Below.refl _ _).alloc (Nat.le_refl _) _).alloc (by simp) _
        have HG0 := Lib.hid (GOwn.empty (base := W1.heap.size) (v0 := .slice ap n.places.length cp) (v1 := .slice at_ n.trans.length ct) (a := n.init) (b := n.final) (mp := w2.heap.size) (p := w2.heap.size + 1) hbx0 (by omega) hw2 (World.ownsMap.alloc hM0 _))
        obtain ⟨W0, hW0⟩ : ∃ W0, (w2.alloc (.map #[] 0)).alloc (.cells #[.slice ap n.places.length cp, .slice at_ n.trans.length ct, .int .i64 n.init, .int .i64 n.final, .slice none 0 0, .map (some w2.heap.size), .slice none 0 0, .slice none 0 0, .slice none 0 0] 83) = W0 := ⟨_, rfl⟩
        rw [hW0] at HG0 hb0
        have hw0 := hb0.size
        have hb10 := hb.trans (hb0.mono hw2)
        have HFM : Hid (n.Mark (oneL n.places.length n.init)) := by
          have := HXF.out.mark 0 (by simp [rootG])
          exact this.1
        have HP := Lib.hid (put_any W0 W1.heap.size (w2.heap.size + 1) _ _ _ _ _ w2.heap.size _ _ ⟨[], [], []⟩ [] [] HG0.out B (by omega) (htab1.on (hb10.mono hB1)) (by simp) (.slice av n.places.length cv) (oneL n.places.length n.init) (by have := HOW.out.kept hb0 (Nat.le_refl _); rw [hol.out] at this; exact this) (mark_in64 HFM.out) (by rw [hol.out]; exact hmany) (0, 0) (by simp) (by simp))
        rw [put_first] at HP
        rw [hol.out]
        clear hM0 hbx0 hb0 how
        go_wp2_with fail
        refine HP.out.mono ?_
        rintro e w3 ⟨rfl, hG3, hb3, -⟩
        have HG3 := Lib.hid hG3
        obtain ⟨mp, hmp⟩ : ∃ mp, w2.heap.size = mp := ⟨_, rfl⟩
        rw [hmp] at HG3
        rw [hmp]
        have hb13 := hb10.trans hb3
        have HX : Hid (XOk n M (rootG n)) := HXF
        have HEx : Hid (exF n M (M + 1) 0 (rootG n) = exploreE n M) := rfl
        have hr1 : (rootG n).marks.length ≤ M := by simpa [rootG] using h1'
        clear hG3 hb3 HP HG0 hW0 HFM HOW hb10 hmp hbw c0 c1 c2 c3 hb
        go_wp2_with fail
        have hpt : mp + 1 < w3.heap.size := by obtain ⟨_, _, _, _, _, hG⟩ := HG3.out; exact lt_of_block hG.box
        go_loopg [9] (M + 1) (fun gh s9 wr => ∃ (i : Nat) (g : Gr), i + gh = M + 1 ∧ s9 = .int .i64 (i : Int) ∧ Hid (exF n M (M + 1 - i) i g = exploreE n M) ∧ Hid (XOk n M g) ∧ g.marks.length ≤ M ∧ i ≤ g.marks.length ∧ Hid (∀ j, i ≤ j → edAt g j = []) ∧
          Hid (∃ vM vE vF Ms Es, GOwn wr W1.heap.size (mp + 1) (.slice ap n.places.length cp) (.slice at_ n.trans.length ct) n.init n.final vM mp vE vF g Ms Es) ∧ Below W1.heap.size W1 wr)
        case atStart => exact ⟨0, rootG n, by omega, rfl, HEx, HX, hr1, by omega, rootG_edges n, HG3, hb13⟩
        case round =>
          obtain ⟨i, g, hig, rfl, hEx, hX, hgM, hil, hEm, hG, hbel⟩ := hrel
          clear HEx HX HG3 hr1
          have hwr := hbel.size
          obtain ⟨vM, vE, vF, Ms, Es, hG⟩ := hG.out
          obtain ⟨aM, cM, rfl⟩ := hG.markV
          have HG := Lib.hid hG
          obtain ⟨k1, k4, k5, k6, k7, k8⟩ := gbox hG.box
          have hptw := lt_of_block hG.box
          have hbw : Below w.heap.size w wr := hbel1.trans (hbel.mono (by omega))
          have hbN := (hbel.block _ hlt1).trans hbox.out
          have hlt0 : w.heap.size < wr.heap.size := by omega
          obtain ⟨c0, c1, c2, c3⟩ := box4' hbN
          by_cases hi : i < g.marks.length
          · obtain ⟨gM, cM', u, hv, hgMl, hcu, hmo⟩ := hG.markAt hi
            obtain ⟨rfl, rfl⟩ : aM = some ⟨gM, 0, none⟩ ∧ cM = cM' := by injection hv with e1 _ e2; exact ⟨e1, e2⟩
            obtain ⟨hMk, hMs⟩ := hX.out.mark i hi
            have emk := mkAt_eq hi
            rw [← emk] at hMk hMs
            have hlen : (mkAt g i).length = n.places.length := hMk.len
            have hI : Ints wr wr.heap.size u (mkAt g i) := hmo.col (by omega) (Nat.le_refl _)
            have hfires := fun t ht => hX.out.fires h2' hi (t := t) ht
            obtain ⟨mk, hmk⟩ : ∃ mk, mkAt g i = mk := ⟨_, rfl⟩
            rw [hmk] at hMk hmo hI hlen
            obtain ⟨L, hL⟩ : ∃ L, n.enE mk = L := ⟨_, rfl⟩
            have hLl : L.length ≤ 8192 := by rw [← hL]; exact Nat.le_trans (enGo_len _ _ _) hnt
            obtain ⟨au, cu, rfl⟩ := hI.val
            have hdr : Below wr.heap.size wr wr.drew := (Below.refl _ _).drew
            have HE := Lib.hid (enabledNet_yes wr.drew _ _ _ n Hok.out mk hMk wr.heap.size (Nat.le_refl _) (hn1.mono ((hbel.mono hB1).trans (hdr.mono (by omega))) (by omega)) (hI.mono hdr (Nat.le_refl _)) L hL)
            have hIn : Hid ((exIn n M i (L.drop 0) g).bind (exF n M (M + 1 - (i + 1)) (i + 1)) = exploreE n M) := by
              refine Lib.hid ?_
              rw [← hEx.out, show M + 1 - i = (M + 1 - (i + 1)) + 1 by omega, exF, if_pos hi, hmk, hL]; rfl
            have HL := Lib.hid hL
            have HMK := Lib.hid hmk
            have HMk := Lib.hid hMk
            have HLen := Lib.hid hlen
            have HFires : Hid (∀ t ∈ L, ∃ q : Nat, t = (q : Int) ∧ q < n.trans.length ∧ ((n.tr (q : Int)).fireE mk).1 = 0 ∧ n.Mark (fireG n g i t)) := by
              refine Lib.hid ?_
              rw [← hL, ← hmk]; exact hfires
            clear hfires hv hmk hL hMk hlen emk
            go_upto_region 9 with fail
            go_cut [10, 11] (fun s10 s11 wx => ∃ w7 al cl, w7 = wx ∧ s10 = .slice al L.length cl ∧ s11 = .int .i64 0 ∧ OwnI w7 W1.heap.size (.slice al L.length cl) L ∧ Below wr.heap.size wr w7)
            case first =>
              go_region_held3 (fun w' => w'.cell? ⟨w.heap.size, 0, none⟩ = some (.slice ap n.places.length cp) ∧ w'.cell? ⟨w.heap.size, 1, none⟩ = some (.slice at_ n.trans.length ct) ∧ w'.cell? ⟨w.heap.size, 2, none⟩ = some (.int .i64 n.init) ∧ w'.cell? ⟨w.heap.size, 3, none⟩ = some (.int .i64 n.final) ∧ w'.cell? ⟨mp + 1, 4, none⟩ = some (.slice (some ⟨gM, 0, none⟩) g.marks.length cM) ∧ w'.cell? ⟨gM, i, none⟩ = some (.slice au mk.length cu))
                (first | go_keep | (refine ⟨?_, ?_, ?_, ?_, ?_, ?_⟩ <;> (first | (rw [Below.cellB HB3 hlt0]; assumption) | (rw [Below.cellB HB3 hptw]; assumption) | (rw [Below.cellB HB3 hgMl]; assumption))))
                (first | (go_at_call 14; refine HE.out.mono ?_; rintro e w7 ⟨v7, rfl, how7, hb7⟩; have HB3 : Below wr.heap.size wr w7 := hdr.trans hb7))
              go_wp2_with fail
              obtain ⟨al, cl, rfl⟩ := how7.shape
              go_wp2_with fail
              go_meet
              case rel => exact ⟨_, _, _, rfl, rfl, rfl, how7.lower (by simp; omega), HB3⟩
            case rest =>
              obtain ⟨w7, al, cl, rfl, rfl, rfl, hLo, hb7⟩ := hcut
              have hB7 := hbel.trans (hb7.mono hwr)
              have HG7 : Hid (∃ vM vE vF Ms Es, GOwn w7 W1.heap.size (mp + 1) (.slice ap n.places.length cp) (.slice at_ n.trans.length ct) n.init n.final vM mp vE vF g Ms Es) := ⟨_, _, _, _, _, HG.out.kept hb7⟩
              have HLo := Lib.hid hLo
              have HEd : Hid (∀ j, i < j → edAt g j = []) := fun j hj => hEm.out j (by omega)
              have hEl : (edAt g i).length ≤ 0 := by rw [hEm.out i (Nat.le_refl _)]; exact Nat.le_refl _
              clear hG HG k1 k4 k5 k6 k7 k8 c0 c1 c2 c3 hbN hcu hmo hI hdr HE hbel hEm hEx hLo hb7 hbw
              go_wp2_with fail
              go_loopg [66] L.length (fun gh s66 wx => ∃ (k : Nat) (g : Gr), k + gh = L.length ∧ s66 = .int .i64 (k : Int) ∧ Hid ((exIn n M i (L.drop k) g).bind (exF n M (M + 1 - (i + 1)) (i + 1)) = exploreE n M) ∧ Hid (XOk n M g) ∧ g.marks.length ≤ M ∧ i < g.marks.length ∧ Hid (mkAt g i = mk) ∧ (edAt g i).length ≤ k ∧ Hid (∀ j, i < j → edAt g j = []) ∧
                Hid (∃ vM vE vF Ms Es, GOwn wx W1.heap.size (mp + 1) (.slice ap n.places.length cp) (.slice at_ n.trans.length ct) n.init n.final vM mp vE vF g Ms Es) ∧ Hid (OwnI wx W1.heap.size (.slice al L.length cl) L) ∧ Below W1.heap.size W1 wx)
              case atStart => exact ⟨0, g, by omega, rfl, hIn, hX, hgM, hi, HMK, hEl, HEd, HG7, HLo, hB7⟩
              case round =>
                clear hIn hX hgM hi HMK hEl HEd HG7 HLo hB7 hil hMs HFires
                obtain ⟨k, g, hkg, rfl, hIn, hX, hgM, hi, hMK, hEl, hEd, hG, hLo, hbel⟩ := hrel
                have hwr := hbel.size
                by_cases hk : k < L.length
                · obtain ⟨vM, vE, vF, Ms, Es, hG⟩ := hG.out
                  obtain ⟨aM, cM, rfl⟩ := hG.markV
                  have HG := Lib.hid hG
                  obtain ⟨k1, k4, k5, k6, k7, k8⟩ := gbox hG.box
                  have hptw := lt_of_block hG.box
                  have hbw : Below w.heap.size w wr := hbel1.trans (hbel.mono (by omega))
                  have hbN := (hbel.block _ hlt1).trans hbox.out
                  have hlt0 : w.heap.size < wr.heap.size := by omega
                  obtain ⟨c0, c1, c2, c3⟩ := box4' hbN
                  obtain ⟨gM, cM', u, hv, hgMl, hcu, hmo⟩ := hG.markAt hi
                  obtain ⟨rfl, rfl⟩ : aM = some ⟨gM, 0, none⟩ ∧ cM = cM' := by injection hv with e1 _ e2; exact ⟨e1, e2⟩
                  have hI : Ints wr wr.heap.size u (mkAt g i) := hmo.col (by rw [hMK.out, HLen.out]; omega) (Nat.le_refl _)
                  rw [hMK.out] at hI hmo
                  obtain ⟨au, cu, rfl⟩ := hI.val
                  obtain ⟨q, hq, hqt, hq0, hqM⟩ := hX.out.fires h2' hi (t := L[k]) (by rw [hMK.out, HL.out]; exact List.getElem_mem hk)
                  obtain ⟨bl, ol, hal, _, hcl⟩ := (hLo.out.col (by omega) (Nat.le_refl wr.heap.size)).col k hk
                  rw [hq] at hcl
                  obtain rfl := hal
                  have hdrop : Hid (L.drop k = (q : Int) :: L.drop (k + 1)) := by refine Lib.hid ?_; rw [List.drop_eq_getElem_cons hk, hq]
                  rw [hMK.out] at hq0
                  obtain ⟨r, hr⟩ : ∃ r, fireG n g i (q : Int) = r := ⟨_, rfl⟩
                  have hr2 : ((n.tr (q : Int)).fireE mk).2 = r := by rw [← hr]; unfold fireG; rw [hMK.out]
                  rw [hq, hr] at hqM
                  have hrl : r.length = n.places.length := hqM.len
                  have hdr : Below wr.heap.size wr wr.drew := (Below.refl _ _).drew
                  have HFi := Lib.hid (fireNet_yes wr.drew _ _ _ n Hok.out mk HMk.out q hqt hq0 wr.heap.size (Nat.le_refl _) (hn1.mono ((hbel.mono hB1).trans (hdr.mono (by omega))) (by omega)) (hI.mono hdr (Nat.le_refl _)) r hr2)
                  have HRM := Lib.hid hqM
                  have HR := Lib.hid hr
                  have HQ := Lib.hid hq
                  have HRl := Lib.hid hrl
                  have hxs := Lib.hid hX.out.slen
                  have hxe := Lib.hid hX.out.elen
                  clear hv hq0 hqM hr2 hr hq hrl
                  go_upto_region 15 with fail
                  go_cut [14, 15] (fun s14 s15 wx => ∃ w8 ar cr, w8 = wx ∧ s14 = .slice ar r.length cr ∧ s15 = .int .i64 0 ∧ OwnI w8 W1.heap.size (.slice ar r.length cr) r ∧ Below wr.heap.size wr w8)
                  case first =>
                    go_region_held3 (fun w' => w'.cell? ⟨w.heap.size, 0, none⟩ = some (.slice ap n.places.length cp) ∧ w'.cell? ⟨w.heap.size, 1, none⟩ = some (.slice at_ n.trans.length ct) ∧ w'.cell? ⟨w.heap.size, 2, none⟩ = some (.int .i64 n.init) ∧ w'.cell? ⟨w.heap.size, 3, none⟩ = some (.int .i64 n.final) ∧ w'.cell? ⟨mp + 1, 4, none⟩ = some (.slice (some ⟨gM, 0, none⟩) g.marks.length cM) ∧ w'.cell? ⟨gM, i, none⟩ = some (.slice au mk.length cu))
                      (first | go_keep | (refine ⟨?_, ?_, ?_, ?_, ?_, ?_⟩ <;> (first | (rw [Below.cellB HB3 hlt0]; assumption) | (rw [Below.cellB HB3 hptw]; assumption) | (rw [Below.cellB HB3 hgMl]; assumption))))
                      (first | (go_at_call 15; refine HFi.out.mono ?_; rintro e w8 ⟨v8, rfl, how8, hb8⟩; have HB3 : Below wr.heap.size wr w8 := hdr.trans hb8))
                    go_wp2_with fail
                    obtain ⟨ar, cr, rfl⟩ := how8.shape
                    go_wp2_with fail
                    go_meet
                    case rel => exact ⟨_, _, _, rfl, rfl, rfl, how8.lower (by simp; omega), HB3⟩
                  case rest =>
                    obtain ⟨w8, ar, cr, rfl, rfl, rfl, hRo, hb8⟩ := hcut
                    have hB8 := hbel.trans (hb8.mono hwr)
                    have hz8 := hb8.size
                    have HP := Lib.hid (put_any w8 W1.heap.size (mp + 1) _ _ _ _ _ mp _ _ g Ms Es (HG.out.kept hb8) B (by omega) (htab1.on (hB8.mono hB1)) (by omega) (.slice ar r.length cr) r hRo (mark_in64 HRM.out) (by rw [HRl.out]; exact hmany) ((q : Int), (i : Int)) (by rw [hxe.out]; omega) (by rw [hxs.out]; omega))
                    have HLo8 := Lib.hid (hLo.out.kept hb8 (Nat.le_refl _))
                    obtain ⟨ix, hix⟩ : ∃ ix, g.idx r = ix := ⟨_, rfl⟩
                    rw [hix] at HP
                    have HIX := Lib.hid hix
                    clear hix k1 k4 k5 k6 k7 k8 c0 c1 c2 c3 hbN hcu hmo hI hdr HFi hG HG hcl
                    by_cases hge : (M : Int) ≤ ix
                    · have HN : Hid (expR n (M : Int) = .inl 170) := by
                        refine Lib.hid ?_
                        rw [Hf.out, ← hIn.out, hdrop.out, exIn, HR.out, HIX.out, if_pos hge]; rfl
                      go_wp2_with (first | (go_at_call 40; refine HP.out.mono ?_; rintro e w9 ⟨rfl, -, hb9, -⟩))
                      go_ret2
                      exact ⟨hbel1.trans ((hB8.trans hb9).mono (by omega)), Or.inl ⟨170, HN.out, rfl⟩⟩
                    · go_wp2_with (first | (go_at_call 40; refine HP.out.mono ?_; rintro e w9 ⟨rfl, hG9, hb9, hI9⟩; refine Hid.out ?_))
                      refine Lib.hid ?_
                      obtain ⟨vM9, vE9, vF9, Ms9, Es9, hG9⟩ := hG9
                      have hput := Lib.hid (edAt_put g r ((q : Int), (i : Int)) i)
                      have hEsl : Es9.length = (g.put r ((q : Int), (i : Int))).edges.length := by rw [← hG9.isE]; simp
                      have hpl := put_elen g r ((q : Int), (i : Int))
                      have hiE : i < Es9.length := by
                        have := hxe.out
                        rw [hEsl, hpl]; split <;> omega
                      have hEsN : Es9.length ≤ 4096 := by
                        have := hxe.out
                        rw [hEsl, hpl]; split <;> omega
                      have hadd := addE_at hG9.isE hiE
                      obtain ⟨gE, cE, curE, rfl, hghE, hci⟩ := hG9.edgeAt hiE
                      have hEd9 := hG9.edges _ (List.getElem_mem hiE)
                      obtain ⟨k1, k4, k5, k6, k7, k8⟩ := gbox hG9.box
                      have hP9 := hG9.box
                      have HG9 := Lib.hid hG9
                      obtain ⟨aX, cX, hvX⟩ := OwnF.shape hEd9
                      obtain ⟨lX, hlX⟩ : ∃ lX, Es9[i].1 = lX := ⟨_, rfl⟩
                      rw [hlX] at hvX hEd9 hadd
                      rw [hvX] at hEd9 hci
                      have hXl : lX.length ≤ 8192 := by rw [← hadd, hput.out]; omega
                      have hXk : lX.length ≤ k := by rw [← hadd, hput.out]; exact hEl
                      have HLX := Lib.hid hlX
                      have HVX := Lib.hid hvX
                      have hB9 := hB8.trans hb9
                      have hz9 := hb9.size
                      have hcX : w9.cell? ⟨gE, i, none⟩ = some (.slice aX lX.length cX) := by rw [cell_of_block hghE]; exact hci
                      have HCI := Lib.hid hci
                      have hgEl := lt_of_block hghE
                      have hpl9 := lt_of_block hP9
                      obtain ⟨i3, ht3, hz30, hz31, hz32⟩ := info_parts info_ed
                      have hbW := ((Below.refl w9.heap.size w9).alloc (Nat.le_refl _) (.cells #[.int .i64 (q : Int), .int .i64 ix] 79)).drew
                      have hEW := OwnF.kept hEd9 hbW
                      have hghW := (hbW.block _ hgEl).trans hghE
                      have hPW := (hbW.block _ hpl9).trans hP9
                      have HBW := Lib.hid hbW
                      have HStep : Hid (stepG n i g (q : Int) = (g.put r ((q : Int), (i : Int))).addE i ((q : Int), ix)) := by refine Lib.hid ?_; unfold stepG; rw [HR.out, HIX.out]
                      have hbase9 : W1.heap.size ≤ w9.heap.size := hB9.size
                      have hfin : ∀ (w6 : World) (u : Value), RowE w6 W1.heap.size u (lX ++ [((q : Int), ix)]) → ((w9.alloc (.cells #[.int .i64 (q : Int), .int .i64 ix] 79)).drew).grownBy w6 (Value.slice aX lX.length cX).ownBlock →
                          (u.ownBlock = (Value.slice aX lX.length cX).ownBlock ∨ u.ownBlock = some ((w9.alloc (.cells #[.int .i64 (q : Int), .int .i64 ix] 79)).drew).heap.size) →
                          ∃ (k' : Nat) (g' : Gr), k' + (gk - 1) = L.length ∧ Value.int .i64 ((k : Int) + 1) = .int .i64 (k' : Int) ∧ Hid ((exIn n M i (L.drop k') g').bind (exF n M (M + 1 - (i + 1)) (i + 1)) = exploreE n M) ∧ Hid (XOk n M g') ∧ g'.marks.length ≤ M ∧ i < g'.marks.length ∧ Hid (mkAt g' i = mk) ∧ (edAt g' i).length ≤ k' ∧ Hid (∀ j, i < j → edAt g' j = []) ∧
                          Hid (∃ vM vE vF Ms Es, GOwn (w6.setCell ⟨gE, i, none⟩ u) W1.heap.size (mp + 1) (.slice ap n.places.length cp) (.slice at_ n.trans.length ct) n.init n.final vM mp vE vF g' Ms Es) ∧ Hid (OwnI (w6.setCell ⟨gE, i, none⟩ u) W1.heap.size (.slice (some ⟨bl, ol, none⟩) L.length cl) L) ∧ Below W1.heap.size W1 (w6.setCell ⟨gE, i, none⟩ u) := by
                        intro w6 u hR hg hat
                        have hA := (GOwn.kept HG9.out HBW.out).addE hiE (w1 := w6) (x := ((q : Int), ix)) (u := u) (by rw [HVX.out]; exact hg) (by rw [HLX.out]; exact hR) (by rw [HVX.out]; exact hat.imp id (fun e => ⟨_, e, Nat.le_refl _⟩))
                        rw [← HStep.out] at hA
                        have hlt : g.idx (fireG n g i (q : Int)) < (M : Int) := by rw [HR.out, HIX.out]; omega
                        have hmem : (q : Int) ∈ n.enE (mkAt g i) := by rw [hMK.out, HL.out, ← HQ.out]; exact List.getElem_mem hk
                        have hx' := hX.out.step h2' hi hmem hlt
                        have hsl := step_len n i g (q : Int)
                        have hie : i < g.edges.length := by rw [hxe.out]; exact hi
                        refine ⟨k + 1, stepG n i g (q : Int), by omega, by go_num, Lib.hid ?_, Lib.hid hx', hx'.le, by split at hsl <;> omega, Lib.hid (by rw [step_mkAt n i g _ hi]; exact hMK.out), ?_, Lib.hid (fun j hj => ?_), ⟨_, _, _, _, _, hA.1⟩, Lib.hid (hA.2.2 _ _ _ ((hI9 _ _ _ HLo8.out).kept HBW.out (Nat.le_refl _))), hB9.trans ((HBW.out.mono hbase9).trans hA.2.1)⟩
                        · rw [← hIn.out, hdrop.out, exIn, HR.out, HIX.out, if_neg (by omega)]
                        · rw [step_edAt n hie, if_pos rfl, List.length_append, List.length_singleton]; omega
                        · rw [step_edAt n hie, if_neg (by omega)]; exact hEd.out j hj
                      have HFin := Lib.hid hfin
                      clear hfin
                      clear hbW hG9 hEsl hpl hadd hlX hvX hci hghE hP9 k1 k4 k5 k7 k8
                      go_upto_region 21 with fail
                      go_region_law (first
                        | (refine step_append_own _ (by rfl) (.tmp 105) (.tmp 109) 42 (by rfl) W1.heap.size 79 i3 (.agg #[.int .i64 0, .int .i64 0]) 2 16 Tryd.underlying42 ht3 hz30 hz31 hz32 rfl (by decide) (.slice aX lX.length cX) lX.length (cellsF cellE lX) (by rfl) hEW _ 1 1 (cellE ((q : Int), ix)) (by rfl) rfl (cells_new _ _ _) (one_F _) (by unfold maxLen; omega) (by omega) (by simp; omega) ?_; intro v6 w6 hown6 hg6 hat6
                           have hR6 := OwnF.newer (f := cellE) (x := ((q : Int), ix)) hown6; obtain ⟨a6, c6, rfl⟩ := OwnF.shape1 hR6; have hq6 := lit_other hghW hEW (by decide) hg6; have hc6 := (cell_of_block hq6 i).trans HCI.out; have gf6 := free_of_block hq6 i; have hP6 := lit_other hPW hEW (by decide) hg6; obtain ⟨-, -, -, k66, -, -⟩ := gbox hP6))
                      all_goals go_wp2_with fail
                      all_goals go_roundg (gk - 1)
                      all_goals first
                        | omega
                        | exact HFin.out _ _ hR6 hg6 hat6
                · have hk' : ¬ ((k : Int) < (L.length : Int)) := by omega
                  have hnx : Hid (exF n M (M + 1 - (i + 1)) (i + 1) g = exploreE n M) := by
                    refine Lib.hid ?_
                    rw [← hIn.out, List.drop_eq_nil_of_le (by omega)]; rfl
                  go_wp2_with fail
                  go_roundg (M + 1 - (i + 1))
                  case measure => omega
                  case rel => exact ⟨i + 1, g, by omega, by go_num, hnx, hX, hgM, by omega, Lib.hid (fun j hj => hEd.out j (by omega)), hG, hbel⟩
          · have hi' : ¬ ((i : Int) < (g.marks.length : Int)) := by omega
            have hres : exploreE n M = some g := by
              rw [← hEx.out, show M + 1 - i = (M - i) + 1 by omega, exF, if_neg hi]
            have hF := explore_all Hok.out h1' h2' hres
            have HF := Lib.hid hF
            have HR : Hid (expR n (M : Int) = .inr g) := by refine Lib.hid ?_; rw [Hf.out, hres]
            have hEO := hF.eok h2' hnt
            have hel := hF.ok.elen
            have hsl := hF.ok.slen
            have hgp := hF.ok.pos
            have HEL := Lib.hid (And.intro hel hsl)
            have HEO := Lib.hid hEO
            have HrM : Hid (∀ l ∈ g.marks, l.length ≤ 4096) := by
              refine Lib.hid fun l hl => ?_
              obtain ⟨j, hj, rfl⟩ := List.getElem_of_mem hl
              rw [(hF.ok.mark j hj).1.len]; exact hmany
            have hpf := free_of_block hG.box
            obtain ⟨i4, ht4, hz40, hz41, hz42⟩ := info_parts info_trs
            have hmk : ∀ W : World, (Instr.makeSlice 23 (.int .i64 (n.trans.length : Int)) (.int .i64 (n.trans.length : Int))).run Tryd.prog W = .ok (.slice (some ⟨W.heap.size, 0, none⟩) n.trans.length n.trans.length) (W.alloc (.cells (madeCells (Value.agg #[.string ⟨#[]⟩, .slice none 0 0, .slice none 0 0]).cells (n.trans.length * 3)) 57)) := by
              intro W
              have := run_make (P := Tryd.prog) W 23 57 i4 _ Tryd.underlying23 ht4 hz40 .i64 .i64 (n.trans.length : Int) (n.trans.length : Int) (by omega) (by omega) (by rw [hz42]; omega) (by omega)
              rw [hz41] at this
              simpa using this
            have hG4 := hG.setNet (.slice none 0 0) (.slice (some ⟨wr.heap.size, 0, none⟩) n.trans.length n.trans.length) 0 0
            have hB4 : Below W1.heap.size W1 ((((wr.setCell ⟨mp + 1, 0, none⟩ (.slice none 0 0)).setCell ⟨mp + 1, 1, none⟩ (.slice (some ⟨wr.heap.size, 0, none⟩) n.trans.length n.trans.length)).setCell ⟨mp + 1, 2, none⟩ (.int .i64 0)).setCell ⟨mp + 1, 3, none⟩ (.int .i64 0)) := (((hbel.setCell hG.hp _).setCell hG.hp _).setCell hG.hp _).setCell hG.hp _
            obtain ⟨WS, hWS⟩ : ∃ WS, (((wr.setCell ⟨mp + 1, 0, none⟩ (.slice none 0 0)).setCell ⟨mp + 1, 1, none⟩ (.slice (some ⟨wr.heap.size, 0, none⟩) n.trans.length n.trans.length)).setCell ⟨mp + 1, 2, none⟩ (.int .i64 0)).setCell ⟨mp + 1, 3, none⟩ (.int .i64 0) = WS := ⟨_, rfl⟩
            rw [hWS] at hG4 hB4
            have hbT := (Below.refl WS.heap.size WS).alloc (Nat.le_refl _) (.cells (madeCells #[.string ⟨#[]⟩, .slice none 0 0, .slice none 0 0] (n.trans.length * 3)) 57)
            have hGT := hG4.kept hbT
            have hB10 := hB4.trans (hbT.mono hB4.size)
            obtain ⟨WT, hWT⟩ : ∃ WT, WS.alloc (.cells (madeCells #[.string ⟨#[]⟩, .slice none 0 0, .slice none 0 0] (n.trans.length * 3)) 57) = WT := ⟨_, rfl⟩
            rw [hWT] at hGT hB10
            obtain ⟨q0, q1, q2, q3⟩ := gbox4 hG.box
            have f0 := hpf 0
            have f1 := hpf 1
            have f2 := hpf 2
            have f3 := hpf 3
            have hHm := Lib.hid (home_any WT WT.heap.size (mp + 1) (Nat.le_refl _) g.edges (hGT.grE hel.symm hEO.len hEO.row) hEO (by omega))
            have HGT := Lib.hid hGT
            have hzT := hB10.size
            have hplT := lt_of_block hGT.box
            clear hres hF hEO hel hsl hpf hbT hGT hG4 hB4 hG HG k1 k5 k6 k7 k8
            go_wp2_with fail
            refine hHm.out.mono ?_
            rintro e w12 ⟨vH, rfl, hHo, hb12⟩
            have hG12 := GOwn.kept HGT.out hb12
            have hpf8 := free_of_block hG12.box 8
            obtain ⟨k1', k4', k5', k6', k7', k8'⟩ := gbox hG12.box
            obtain ⟨aH, cH, rfl⟩ := hHo.shape
            have hhl : (homesE g.edges).length ≤ 1024 := by
              unfold homesE homesN
              have := List.length_filter_le (homeB g.edges) (List.range g.edges.length)
              simp at this ⊢
              have := HEO.out.len
              omega
            have hfin := hG12.grR rfl hHo (by omega) (by rw [HEL.out.1]; omega) (by rw [HEL.out.2]; omega) HrM.out HEO.out.row hhl hnt
            have HFin := Lib.hid hfin
            have hB12 := hB10.trans (hb12.mono hzT)
            clear hfin hG12 hHo hb12 k1' k4' k5' k6' k7'
            go_wp2_with fail
            go_ret2
            exact ⟨hbel1.trans ((hB12.mono (by omega)).setCell (show w.heap.size ≤ mp + 1 by have := HGT.out.hp; omega) _), Or.inr ⟨g, mp + 1, HR.out, rfl, HFin.out.mono (Below.refl _ _) (by simp)⟩⟩

end Go.Proofs.YtbolacnpljkpbaaDoor
