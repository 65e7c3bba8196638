/- tollgateref19.Grow: the document's tree is the program's. -/
import Derived.Test.YtgahlonimaeicaaDoorRefTwin
import Derived.Test.YtgahlonimaeicaaDoorRefSame
import Derived.Test.YtgahlonimaeicaaDoorCoverGrow
set_option maxRecDepth 100000
namespace Go.Proofs.YtgahlonimaeicaaDoor
open Go.RowKit

/-- The document's nodes in memory of the call's own. -/
def OwnR (w : World) (base : Nat) (v : Value) (A : List (Nd × Value)) : Prop := OwnF cell4 58 4 w base v A ∧ ∀ x ∈ A, OwnI w base x.2 x.1.mark
theorem cell4_len (x : Nd × Value) : (cell4 x).length = 4 := rfl
theorem OwnR.kept {w w' : World} {base : Nat} {v : Value} {A : List (Nd × Value)} (h : OwnR w base v A) (hb : Below w.heap.size w w') : OwnR w' base v A :=
  ⟨h.1.kept hb, fun x hx => (h.2 x hx).kept hb (Nat.le_refl _)⟩
theorem OwnR.lower {w : World} {base base' : Nat} {v : Value} {A : List (Nd × Value)} (h : OwnR w base v A) (hb : base' ≤ base) : OwnR w base' v A :=
  ⟨h.1.lower hb, fun x hx => (h.2 x hx).lower hb⟩
theorem OwnR.read {w : World} {base B : Nat} {a : Option Addr} {n cap : Nat} {A : List (Nd × Value)} (h : OwnR w base (.slice a n cap) A) (hB : w.heap.size ≤ B) (hm : ∀ x ∈ A, x.1.mark.length ≤ 4096) : NdsC w B a (A.map Prod.fst) := by
  intro i hi
  have hiA : i < A.length := by simpa using hi
  obtain ⟨b, o, rfl, hb, hc⟩ := h.1.col cell4_len hB i hiA
  rw [List.getElem_map]
  refine ⟨b, o, A[i].2, rfl, hb, ?_, ?_, ?_, ?_, (h.2 _ (List.getElem_mem hiA)).col (by have := hm _ (List.getElem_mem hiA); omega) hB⟩
  · have := hc 0 (by omega); rw [Nat.add_zero] at this; exact this
  · exact hc 1 (by omega)
  · exact hc 2 (by omega)
  · exact hc 3 (by omega)
/-- They stand where the block of a list of numbers above them is turned. -/
theorem OwnR.turned {w w' : World} {base b : Nat} {v : Value} {A : List (Nd × Value)} (h : OwnR w base v A) (hg : w.grownBy w' (some b)) (hb : ∀ g n cap, v = .slice (some ⟨g, 0, none⟩) n cap → g ≠ b) (hm : ∀ x ∈ A, ∀ g n cap, x.2 = .slice (some ⟨g, 0, none⟩) n cap → g ≠ b) : OwnR w' base v A := by
  refine ⟨h.1.turned hg (fun g n cap e h2 => hb g n cap e (Option.some.inj h2)), fun x hx => ?_⟩
  refine World.ownsRow.kept (h.2 x hx) hg ?_
  rcases (h.2 x hx).val with ⟨e, _⟩ | ⟨g, cap, e, _⟩
  · exact Or.inl (by rw [e]; rfl)
  · exact Or.inr (by rw [e]; intro h2; exact hm x hx g _ cap e (Option.some.inj h2))
theorem OwnR.over {w w6 wr : World} {base gm : Nat} {v : Value} {A : List (Nd × Value)} (h : OwnR w base v A) (hb : Below w.heap.size w w6) (hg : w6.grownBy wr (some gm)) (hgm : w.heap.size ≤ gm) : OwnR wr base v A := by
  refine (h.kept hb).turned hg ?_ ?_
  · rintro g n cap rfl e
    obtain ⟨cur, hc, _⟩ := h.1.block
    have := lt_of_block hc
    omega
  · rintro x hx g n cap e rfl
    have hx2 := h.2 x hx
    rw [e] at hx2
    have := hx2.lt.2
    omega
theorem OwnR.push {w w' : World} {base g n cap : Nat} {v' vd : Value} {A : List (Nd × Value)} {d : Nd} (h : OwnR w base (.slice (some ⟨g, 0, none⟩) n cap) A) (hg : w.grownBy w' (some g)) (hown : w'.ownsRow base 58 4 v' (A.length + 1) (cellsF cell4 A ++ cell4 (d, vd)))
    (hd : OwnI w base vd d.mark) : OwnR w' base v' (A ++ [(d, vd)]) := by
  have hne : ∀ cur, w.heap[g]? ≠ some (.cells cur 3 (0, 0)) := by
    intro cur e
    obtain ⟨cur', hc, _⟩ := h.1.block
    rw [hc] at e; injection e with e; injection e with _ e _; exact absurd e (by decide)
  refine ⟨?_, fun y hy => ?_⟩
  · unfold OwnF
    rw [List.length_append, List.length_singleton, cellsF_app]
    exact hown
  · rcases List.mem_append.1 hy with hy | hy
    · exact (h.2 y hy).turned hg hne
    · obtain rfl : y = (d, vd) := by simpa using hy
      exact hd.turned hg hne
theorem refcmp_at {x : Int} (w : World) (B : Nat) (va vb : Value) (a b : List Int) (ha : Ints w B va a) (hb : Ints w B vb b) (h : cmpL a b = x) :
    Calls Tryd.prog 28 #[va, vb] w fun e w' => e = .returned (.int .i64 x) ∧ ∃ n, w' = w.drewN n := by
  rw [← h]
  exact refcmp_any w B va vb a b ha hb
theorem info_rn : (Tryd.prog.info? 58).map (fun i => (i.zero, i.size, i.bytes)) = some (some (.agg #[.int .i64 0, .int .i64 0, .slice none 0 0, .int .i64 0]), 4, 48) := by kernel_rfl

/-- What the document's Grow hands back. -/
def RefGrowPost (w : World) (n : Nt) (most : Int) (e : Ending) (w' : World) : Prop :=
  Below w.heap.size w w' ∧ ((∃ c, growR n most = .inl c ∧ e = .returned (.tuple #[.slice none 0 0, .int .i64 c])) ∨
    (∃ l A v, growR n most = .inr l ∧ e = .returned (.tuple #[v, .int .i64 0]) ∧ A.map Prod.fst = l ∧ OwnR w' w.heap.size v A ∧ GOk n most.toNat l ∧ most ≤ 4096))

set_option maxHeartbeats 8000000 in
theorem refgrow_any (w : World) (B : Nat) (hB : B ≤ w.heap.size) (vp vt : Value) (n : Nt) (hn : NtR w B vp vt n) (most : Int) :
    Calls Tryd.prog 24 #[.agg #[vp, vt, .int .i64 n.init, .int .i64 n.final], .int .i64 most] w (RefGrowPost w n most) := by
  obtain ⟨i1, htr, hr0, hr1, hr2⟩ := info_parts info_rn
  have hlt := hn.2.len
  have hbA := (Below.refl w.heap.size w).alloc (Nat.le_refl _) (.cells #[vp, vt, .int .i64 n.init, .int .i64 n.final] 25)
  have hboxA := heap_alloc_new w (.cells #[vp, vt, .int .i64 n.init, .int .i64 n.final] 25)
  obtain ⟨W1, hW1⟩ : ∃ W1, w.alloc (.cells #[vp, vt, .int .i64 n.init, .int .i64 n.final] 25) = W1 := ⟨_, rfl⟩
  have hs1 : W1.heap.size = w.heap.size + 1 := by rw [← hW1]; exact World.size_alloc _ _
  rw [hW1] at hbA hboxA
  have hn1 := hn.mono (hbA.mono hB) (show B ≤ W1.heap.size by omega)
  obtain ⟨ap, cp, rfl⟩ := hn.1.val
  obtain ⟨at_, ct, rfl⟩ := hn.2.val
  obtain ⟨c0, c1, c2, c3⟩ := box4' hboxA
  have hs1a : w.heap.size + 1 ≤ W1.heap.size := by omega
  have HC := Lib.hid (refcheck_any W1 _ _ n W1.heap.size (Nat.le_refl _) hn1)
  clear hs1
  cases hok : n.okB with
  | false =>
    have Hf : Hid (growR n most = .inl 1) := by unfold growR; rw [hok]; exact rfl
    have hce : n.checkE = 1 := by simp [Nt.checkE, hok]
    rw [hce] at HC
    clear hok hce
    go_enter Tryd.func24, Tryd.ntmps24
    go_wp2_with (first | (go_at_call 49; refine HC.out.mono ?_; rintro e w2 ⟨rfl, hb2⟩; refine Hid.out ?_))
    refine Lib.hid ?_
    go_wp2_with fail
    go_ret2
    exact ⟨hbA.trans (hb2.mono (by omega)), Or.inl ⟨1, Hf.out, rfl⟩⟩
  | true =>
    have hce : n.checkE = 0 := by simp [Nt.checkE, hok]
    rw [hce] at HC
    have ok := Lib.hid (Nt.ok_of hok)
    clear hce
    by_cases h1 : most < 1
    · have Hf : Hid (growR n most = .inl 1) := by unfold growR; rw [hok, if_pos rfl, if_pos h1]; exact rfl
      have hd1 : decide (most < 1) = true := decide_eq_true h1
      clear hok
      go_enter Tryd.func24, Tryd.ntmps24
      go_wp2_with (first | (go_at_call 49; refine HC.out.mono ?_; rintro e w2 ⟨rfl, hb2⟩; refine Hid.out ?_))
      refine Lib.hid ?_
      go_wp2_with fail
      go_ret2
      exact ⟨hbA.trans (hb2.mono (by omega)), Or.inl ⟨1, Hf.out, rfl⟩⟩
    · by_cases h2 : 4096 < most
      · have Hf : Hid (growR n most = .inl 1) := by unfold growR; rw [hok, if_pos rfl, if_neg h1, if_pos h2]; exact rfl
        have hd1 : decide (most < 1) = false := decide_eq_false h1
        have hd2 : decide (4096 < most) = true := decide_eq_true h2
        clear hok
        go_enter Tryd.func24, Tryd.ntmps24
        go_wp2_with (first | (go_at_call 49; refine HC.out.mono ?_; rintro e w2 ⟨rfl, hb2⟩; refine Hid.out ?_))
        refine Lib.hid ?_
        go_wp2_with fail
        go_ret2
        exact ⟨hbA.trans (hb2.mono (by omega)), Or.inl ⟨1, Hf.out, rfl⟩⟩
      · obtain ⟨M, rfl⟩ := Int.eq_ofNat_of_zero_le (show 0 ≤ most by omega)
        have Hf : Hid (growR n (M : Int) = match growE n M with | none => .inl 170 | some l => .inr l) := by unfold growR; rw [hok, if_pos rfl, if_neg h1, if_neg h2]; exact rfl
        have h1' : 1 ≤ M := by omega
        have h2' : M ≤ 4096 := by omega
        have hd1 : decide ((M : Int) < 1) = false := decide_eq_false h1
        have hd2 : decide (4096 < (M : Int)) = false := decide_eq_false h2
        have htwo := ok.out.two
        have hmany := ok.out.many
        clear hok h1 h2
        go_enter Tryd.func24, Tryd.ntmps24
        go_wp2_with (first | (go_at_call 49; refine HC.out.mono ?_; rintro e w2 ⟨rfl, hb2⟩; refine Hid.out ?_))
        refine Lib.hid ?_
        clear hd1 hd2
        have hz2 := hb2.size
        have hx2 := (hb2.block w.heap.size (by omega)).trans hboxA
        clear c0 c1 c2 c3 HC
        obtain ⟨c0, c1, c2, c3⟩ := box4' hx2
        have hn2 := hn1.mono hb2 (show W1.heap.size ≤ w2.heap.size by omega)
        have HO := Lib.hid (refone_any w2 _ _ n n.init w2.heap.size (Nat.le_refl _) hn2 hmany)
        rw [oneR_one ok.out.init.1 ok.out.init.2] at HO
        have hol : Hid ((oneL n.places.length n.init).length = n.places.length) := by simp [oneL, Hid]
        go_wp2_with (first | (go_at_call 50; refine HO.out.mono ?_; rintro e w3 ⟨v3, rfl, how3, hb3⟩; refine Hid.out ?_))
        refine Lib.hid ?_
        clear HO c0 c1 c2 c3
        rcases how3.val with ⟨-, h0⟩ | ⟨g3, cap3, rfl, hg30, hg31⟩
        · exact absurd (congrArg List.length h0) (by rw [hol.out, List.length_nil]; omega)
        rw [hol.out] at how3
        rw [hol.out]
        go_wp2_with fail
        have hz3 := hb3.size
        have hba := (Below.refl w3.heap.size w3).alloc (Nat.le_refl _) (.cells #[.int .i64 (-1), .int .i64 (-1), .slice (some ⟨g3, 0, none⟩) n.places.length cap3, .int .i64 (-1)] 58)
        have hN0 : Hid (∃ A, A.map Prod.fst = rootE n ∧ OwnR (w3.alloc (.cells #[.int .i64 (-1), .int .i64 (-1), .slice (some ⟨g3, 0, none⟩) n.places.length cap3, .int .i64 (-1)] 58)) W1.heap.size (.slice (some ⟨w3.heap.size, 0, none⟩) 1 1) A) := by
          refine ⟨[(⟨-1, -1, oneL n.places.length n.init, -1⟩, .slice (some ⟨g3, 0, none⟩) n.places.length cap3)], rfl, ?_, ?_⟩
          · exact World.ownsRow_lit (e := 58) (size := 4) (base := W1.heap.size) w3 #[.int .i64 (-1), .int .i64 (-1), .slice (some ⟨g3, 0, none⟩) n.places.length cap3, .int .i64 (-1)] 1 (by omega) (by decide) rfl
          · intro x hx
            obtain rfl : x = _ := by simpa using hx
            refine OwnI.lower ?_ hz2
            refine OwnI.kept ?_ hba (Nat.le_refl _)
            exact how3
        have hB0 : Below W1.heap.size W1 (w3.alloc (.cells #[.int .i64 (-1), .int .i64 (-1), .slice (some ⟨g3, 0, none⟩) n.places.length cap3, .int .i64 (-1)] 58)) := (hb2.trans (hb3.mono hz2)).trans (hba.mono (by omega))
        have HG : Hid (growF n.trans M (M + 1) 0 (rootE n) = growE n M) := rfl
        have HO : Hid (GOk n M (rootE n)) := GOk.first h1'
        have hr1 : (rootE n).length ≤ M := by simpa [rootE] using h1'
        have hr2 : (rootE n).length = 1 := rfl
        clear how3 hx2 hba
        go_loopg [7, 6] (M + 1) (fun gh s7 s6 wr => ∃ (i g cap : Nat) (l : List Nd), i + gh = M + 1 ∧ s7 = .int .i64 (i : Int) ∧ s6 = .slice (some ⟨g, 0, none⟩) l.length cap ∧ Hid (growF n.trans M (M + 1 - i) i l = growE n M) ∧ Hid (GOk n M l) ∧ l.length ≤ M ∧ i ≤ l.length ∧
          Hid (∃ A, A.map Prod.fst = l ∧ OwnR wr W1.heap.size (.slice (some ⟨g, 0, none⟩) l.length cap) A) ∧ Below W1.heap.size W1 wr)
        case atStart => exact ⟨0, w3.heap.size, 1, rootE n, by omega, rfl, rfl, HG, HO, hr1, by omega, hN0, hB0⟩
        case round =>
          obtain ⟨i, g, cap, l, hig, rfl, rfl, hG, hO, hlM, hil, hN, hbel⟩ := hrel
          clear HG HO hN0 hr1 hr2 hB0
          have hwr := hbel.size
          have hxr := (hbel.block w.heap.size (by omega)).trans hboxA
          obtain ⟨c0, c1, c2, c3⟩ := box4' hxr
          by_cases hi : i < l.length
          · have hdi : Hid (growF n.trans M (M + 1 - i) i l = if 0 ≤ (ndAt l i).again then growF n.trans M (M + 1 - (i + 1)) (i + 1) l else (growIn M i n.trans 0 l).bind (growF n.trans M (M + 1 - (i + 1)) (i + 1))) := by
              refine Lib.hid ?_
              rw [show M + 1 - i = (M + 1 - (i + 1)) + 1 by omega, growF, if_pos hi]
            rw [ndAt_eq hi] at hdi
            have hHI : Hid ((if 0 ≤ (l[i]).again then growF n.trans M (M + 1 - (i + 1)) (i + 1) l else (growIn M i (n.trans.drop 0) 0 l).bind (growF n.trans M (M + 1 - (i + 1)) (i + 1))) = growE n M) := by
              rw [← hG.out, hdi.out]; exact rfl
            clear hdi hG
            go_wp2_with fail
            go_loopg [6, 8] n.trans.length (fun gh s6 s8 wr => ∃ (k g cap : Nat) (l : List Nd), k + gh = n.trans.length ∧ s8 = .int .i64 (k : Int) ∧ s6 = .slice (some ⟨g, 0, none⟩) l.length cap ∧
              Hid ((if 0 ≤ (ndAt l i).again then growF n.trans M (M + 1 - (i + 1)) (i + 1) l else (growIn M i (n.trans.drop k) k l).bind (growF n.trans M (M + 1 - (i + 1)) (i + 1))) = growE n M) ∧ Hid (GOk n M l) ∧ l.length ≤ M ∧ i < l.length ∧
              Hid (∃ A, A.map Prod.fst = l ∧ OwnR wr W1.heap.size (.slice (some ⟨g, 0, none⟩) l.length cap) A) ∧ Below W1.heap.size W1 wr)
            case atStart => exact ⟨0, g, cap, l, by omega, rfl, rfl, by rw [ndAt_eq hi]; exact hHI, hO, hlM, hi, hN, hbel⟩
            case round =>
              clear hHI hO hlM hi hN hbel hil c0 c1 c2 c3 hwr hxr
              obtain ⟨k, g, cap, l, hkg, rfl, rfl, hI, hO, hlM, hi, hN, hbel⟩ := hrel
              have hwr := hbel.size
              have hxr := (hbel.block w.heap.size (by omega)).trans hboxA
              obtain ⟨c0, c1, c2, c3⟩ := box4' hxr
              have hlenA : Hid (∀ d ∈ l, d.mark.length ≤ 4096) := fun d hd => by rw [hO.out.len d hd]; exact hmany
              have hND : Hid (NdsC wr wr.heap.size (some ⟨g, 0, none⟩) l) := by
                obtain ⟨A, hA, hR⟩ := hN.out
                rw [← hA]
                exact hR.read (Nat.le_refl _) (fun x hx => hlenA.out _ (by rw [← hA]; exact List.mem_map_of_mem hx))
              obtain ⟨bn, on, vm, hbo, hgn, n0, n1, n2, n3, hvm⟩ := hND.out i hi
              cases hbo
              rw [Nat.zero_add] at n0 n1 n2 n3
              have hml := hO.out.len _ (List.getElem_mem hi)
              have hwdi := hO.out.wide i hi
              rw [ndAt_eq hi] at hI
              obtain ⟨d, hd⟩ : ∃ d, l[i] = d := ⟨_, rfl⟩
              have HD := Lib.hid hd
              rw [hd] at n0 n1 n3 hvm hI hml hwdi
              clear hd
              by_cases hk : k < n.trans.length
              · by_cases hag : 0 ≤ d.again
                · have hdg : decide (d.again < 0) = false := decide_eq_false (by omega)
                  rw [if_pos hag] at hI
                  go_wp2_with fail
                  go_roundg (M - i)
                  case measure => omega
                  case rel => exact ⟨i + 1, g, cap, l, by omega, by go_num, rfl, hI, hO, hlM, by omega, hN, hbel⟩
                · have hdg : decide (d.again < 0) = true := decide_eq_true (by omega)
                  rw [if_neg hag] at hI
                  have hbw : Below w.heap.size w wr := hbA.trans (hbel.mono (by omega))
                  obtain ⟨bt, ot, vi, vo, rfl, hbt2, h0, h1, h2, hii, hoo⟩ := hn.2.col k hk
                  rw [← Below.cellB hbw (by omega)] at h0 h1 h2
                  have hmem := List.getElem_mem hk
                  have hin := ok.out.inn _ hmem
                  have hout := ok.out.out _ hmem
                  have hdr := Lib.hid (growIn_drop (most := M) (i := i) (l := l) hk)
                  have hgs := Lib.hid (fun hlt => hO.out.step ok.out hi k hmem hlt)
                  have hws := wide_step hO.out ok.out hi hmem
                  obtain ⟨hwd, hinl, houl⟩ := hws
                  obtain ⟨x, hx⟩ : ∃ x, n.trans[k] = x := ⟨_, rfl⟩
                  rw [hx] at h0 hin hout hdr hgs hwd hinl houl hii hoo
                  clear hx hmem
                  rw [ndAt_eq hi, HD.out] at hdr hwd
                  obtain ⟨ai, ci, rfl⟩ := hii.val
                  obtain ⟨ao, co, rfl⟩ := hoo.val
                  obtain ⟨avm, cvm, rfl⟩ := hvm.val
                  have hgw : g < wr.heap.size := hgn
                  have hDr : Below wr.heap.size wr wr.drew := (Below.refl _ _).drew
                  have hbDB : Below B w wr.drew := (hbw.mono hB).trans (hDr.mono (by omega))
                  have hix := hii.mono hbDB (show B ≤ wr.heap.size by omega)
                  have hox := hoo.mono hbDB (show B ≤ wr.heap.size by omega)
                  have hvI := hvm.mono hDr (Nat.le_refl _)
                  have hpi : Hid (PlacesOk d.mark.length x.inn) := by rw [hml]; exact hin.1
                  have hpo : Hid (PlacesOk d.mark.length x.out) := by rw [hml]; exact hout.1
                  have hni : Hid x.inn.Nodup := Rising.nodup hin.2
                  have hno : Hid x.out.Nodup := Rising.nodup hout.2
                  have hm4 : d.mark.length ≤ 4096 := by omega
                  have HML := Lib.hid hml
                  have Hwd := Lib.hid hwd
                  have Hwdi := Lib.hid hwdi
                  clear hml hin hout hwd hwdi
                  cases hen : x.enB d.mark with
                  | false =>
                    have HA := Lib.hid (refafter_no wr.drew wr.heap.size (by simp) x _ _ _ d.mark hix hox hvI hpi.out hpo.out hni.out hno.out _ (by omega) Hwdi.out hm4 hen)
                    have hI2 : Hid ((growIn M i (n.trans.drop (k + 1)) (k + 1) l).bind (growF n.trans M (M + 1 - (i + 1)) (i + 1)) = growE n M) := by rw [← hI.out, hdr.out, hen]; exact rfl
                    clear hen
                    go_wp2_with fail
                    go_region_held3 (fun w' => w'.cell? ⟨w.heap.size, 1, none⟩ = some (.slice (some ⟨bt, ot, none⟩) n.trans.length ct) ∧ w'.cell? ⟨bt, ot + k * 3, none⟩ = some (.string x.label) ∧ w'.cell? ⟨bt, ot + k * 3 + 1, none⟩ = some (.slice ai x.inn.length ci) ∧ w'.cell? ⟨bt, ot + k * 3 + 2, none⟩ = some (.slice ao x.out.length co) ∧ w'.cell? ⟨g, i * 4 + 2, none⟩ = some (.slice avm d.mark.length cvm))
                      (first | go_keep | (refine ⟨?_, ?_, ?_, ?_, ?_⟩ <;> (rw [Below.cellB hB6 (by omega)]; assumption)))
                      (first | (go_at_call 51; refine HA.out.mono ?_; rintro e w6 ⟨rfl, hb6⟩; have hB6 : Below wr.heap.size wr w6 := hDr.trans hb6))
                    go_wp2_with fail
                    go_roundg (gk - 1)
                    case measure => omega
                    case rel =>
                      refine ⟨k + 1, g, cap, l, by omega, by go_num, rfl, ?_, hO, hlM, hi, ?_, hbel.trans (hB6.mono hwr)⟩
                      · rw [ndAt_eq hi, HD.out, if_neg (by omega)]; exact hI2
                      · obtain ⟨A, hA, hR⟩ := hN.out
                        exact Lib.hid ⟨A, hA, hR.kept hB6⟩
                  | true =>
                    have HEN := Lib.hid hen
                    have HA := Lib.hid (refafter_yes wr.drew wr.heap.size (by simp) x _ _ _ d.mark hix hox hvI hpi.out hpo.out hni.out hno.out _ (by omega) Hwdi.out hm4 hen)
                    clear hen
                    go_wp2_with fail
                    go_region_held3 (fun w' => w'.cell? ⟨w.heap.size, 1, none⟩ = some (.slice (some ⟨bt, ot, none⟩) n.trans.length ct) ∧ w'.cell? ⟨bt, ot + k * 3, none⟩ = some (.string x.label) ∧ w'.cell? ⟨bt, ot + k * 3 + 1, none⟩ = some (.slice ai x.inn.length ci) ∧ w'.cell? ⟨bt, ot + k * 3 + 2, none⟩ = some (.slice ao x.out.length co) ∧ w'.cell? ⟨g, i * 4 + 2, none⟩ = some (.slice avm d.mark.length cvm))
                      (first | go_keep | (refine ⟨?_, ?_, ?_, ?_, ?_⟩ <;> (rw [Below.cellB hB6 (by omega)]; assumption)))
                      (first | (go_at_call 51; refine HA.out.mono ?_; rintro e w6 ⟨v6, rfl, how6, hb6⟩; have hB6 : Below wr.heap.size wr w6 := hDr.trans hb6))
                    have hl6 : Hid ((x.wideE d.mark).length = d.mark.length) := len_wideE _ _
                    rcases how6.val with ⟨-, h0⟩ | ⟨gm, cm, rfl, hgm0, hgm1⟩
                    · exact absurd (congrArg List.length h0) (by rw [hl6.out, List.length_nil, HML.out]; omega)
                    obtain ⟨m, hm⟩ : ∃ m, x.wideE d.mark = m := ⟨_, rfl⟩
                    rw [hm] at how6 hl6
                    rw [hm]
                    have HMW := Lib.hid hm
                    clear hm
                    have hlm : m.length ≤ 4096 := by have := hl6.out; omega
                    have hND6 : Hid (NdsC w6 wr.heap.size (some ⟨g, 0, none⟩) l) := hND.out.mono hB6 (Nat.le_refl _)
                    have hgm : wr.heap.size ≤ gm := by simp at hgm0; exact hgm0
                    have how6' : OwnI w6 gm (.slice (some ⟨gm, 0, none⟩) m.length cm) m := how6.raise (Nat.le_refl _)
                    have hz6 := hB6.size
                    have hupl : Hid (Up l) := hO.out.up
                    have hlenm : Hid (∀ d' ∈ l, d'.mark.length = m.length) := fun d' hd' => by rw [hO.out.len d' hd', hl6.out, HML.out]
                    have hl4 : l.length ≤ 4096 := by omega
                    clear how6 n0 n1 n2 n3 h0 h1 h2 c0 c1 c2 c3 hvm hvI hix hox hxr hDr hbDB HA hii hoo
                    obtain ⟨w5, rfl⟩ : ∃ w5, w5 = wr := ⟨_, rfl⟩
                    go_wp2_with fail
                    go_loopg [11] (i + 1) (fun gh s11 wx => ∃ (q : Int) (cur : List Int), gh = (q + 1).toNat ∧ -1 ≤ q ∧ q < (l.length : Int) ∧ s11 = .int .i64 q ∧ Hid (widenE l q cur = widenE l i m) ∧ Hid (cur.length = m.length) ∧ OwnI wx gm (.slice (some ⟨gm, 0, none⟩) m.length cm) cur ∧ w6.grownBy wx (some gm))
                    case atStart => exact ⟨i, m, by omega, by omega, by omega, rfl, rfl, rfl, how6', World.grownBy.refl _ _⟩
                    case round =>
                      obtain ⟨q, cur, rfl, hq0, hq1, rfl, hA, hL, how, hgr⟩ := hrel
                      have hbg : Below gm w6 wr := (Below.refl gm w6).grown hgr (by omega) (fun k hk => by cases hk; exact Nat.le_refl _)
                      have hcurI : Ints wr wr.heap.size (.slice (some ⟨gm, 0, none⟩) m.length cm) cur := by
                        have := how.col (by have := hL.out; omega) (Nat.le_refl wr.heap.size)
                        exact this
                      have hgw2 : gm < wr.heap.size := how.lt.2
                      by_cases hq : 0 ≤ q
                      · obtain ⟨kq, rfl⟩ := Int.eq_ofNat_of_zero_le hq
                        have hkq : kq < l.length := by omega
                        obtain ⟨bn, on, v, hbo, hbn, n0, n1, n2, n3, hmk⟩ := hND6.out kq hkq
                        cases hbo
                        rw [Nat.zero_add] at n0 n1 n2 n3
                        have o2 := n2
                        rw [← Below.cellB hbg (by omega)] at n0 n2
                        have hst := Lib.hid (widenE_step hupl.out hkq cur)
                        have hupk := hupl.out kq hkq
                        have hlk := hlenm.out _ (List.getElem_mem hkq)
                        have hmkr := hmk.mono (hbg.mono hgm) (Nat.le_refl _)
                        obtain ⟨d2, hd2⟩ : ∃ d2, l[kq] = d2 := ⟨_, rfl⟩
                        rw [hd2] at n0 hmk hst hupk hlk hmkr
                        have HD2 := Lib.hid hd2
                        clear hd2 n1 n3 hq
                        obtain ⟨av, cv, rfl⟩ := hmk.val
                        have HC := Lib.hid (refwcovers_any wr wr.heap.size _ _ cur d2.mark hcurI (hmkr.mono (Below.refl _ _) (by omega)))
                        cases hcv : wcoversB cur d2.mark with
                        | false =>
                          rw [hcv] at HC
                          rw [hcv, if_neg (by simp)] at hst
                          have Hlk := Lib.hid hlk
                          clear hlk hcv
                          go_wp2_with (go_at_call 27; go_must (refine HC.out.mono ?_; rintro e w4 ⟨rfl, nd, rfl⟩))
                          go_roundg (d2.par + 1).toNat
                          case measure => omega
                          case rel => exact ⟨d2.par, cur, rfl, by omega, by omega, rfl, Lib.hid (by rw [← hst.out]; exact hA.out), hL, how.drewN _, hgr.trans (below_grownBy (below_drewN' _) _)⟩
                        | true =>
                          rw [hcv] at HC
                          rw [hcv, if_pos rfl] at hst
                          have Hlk := Lib.hid hlk
                          clear hlk hcv
                          go_wp2_with (go_at_call 27; go_must (refine HC.out.mono ?_; rintro e w4 ⟨rfl, nd, rfl⟩))
                          go_loopg [12] m.length (fun gh s12 wx => ∃ kk : Nat, kk + gh = m.length ∧ s12 = .int .i64 (kk : Int) ∧ OwnI wx gm (.slice (some ⟨gm, 0, none⟩) m.length cm) (mixW kk cur d2.mark) ∧ w6.grownBy wx (some gm))
                          case atStart => exact ⟨0, by omega, rfl, by rw [mixW_zero]; exact how.drewN _, hgr.trans (below_grownBy (below_drewN' _) _)⟩
                          case round =>
                            obtain ⟨kk, hkk, rfl, howx, hgx⟩ := hrel
                            have hbelx : Below gm w6 wr := (Below.refl gm w6).grown hgx (by omega) (fun k hk => by cases hk; exact Nat.le_refl _)
                            rw [← Below.cellB hbelx (by omega)] at o2
                            by_cases hkl : kk < m.length
                            · have hkc : kk < cur.length := by have := hL.out; omega
                              have hko : kk < d2.mark.length := by have := Hlk.out; omega
                              obtain ⟨bv, ov, rfl, hbv, hcv⟩ := hmk.col kk hko
                              rw [← Below.cellB hbelx (by omega)] at hcv
                              obtain ⟨hx0, hxf⟩ := howx.at (i := kk) (by rw [mixW_len (by omega)]; exact hkc)
                              rw [mixW_get hkc] at hx0
                              have hstep := Lib.hid (mixW_step hkc hko)
                              obtain ⟨x', hx'⟩ : ∃ x', cur[kk] = x' := ⟨_, rfl⟩
                              obtain ⟨y', hy'⟩ : ∃ y', d2.mark[kk] = y' := ⟨_, rfl⟩
                              rw [hx'] at hx0 hstep
                              rw [hy'] at hcv hstep
                              clear hx' hy'
                              cases hmr : moreB x' y' with
                              | true =>
                                rw [hmr, if_pos rfl] at hstep
                                have Hm := Lib.hid hmr
                                clear hmr n0 n2
                                go_wp2_with fail
                                go_quiet ((go_at_call 52; exact quiet_left (less_is Hm.out _)))
                                go_wp2_with fail
                                go_roundg (gk - 1)
                                case measure => omega
                                case rel => exact ⟨kk + 1, by omega, by go_num, by rw [hstep.out]; exact (howx.drewN _).set kk (-1), (hgx.trans (below_grownBy (below_drewN' _) _)).trans (grownBy_setCell _ _ _ _)⟩
                              | false =>
                                rw [hmr, if_neg (by simp)] at hstep
                                have Hm := Lib.hid hmr
                                clear hmr n0 n2
                                go_wp2_with fail
                                go_quiet ((go_at_call 52; exact quiet_left (less_is Hm.out _)))
                                go_wp2_with fail
                                go_roundg (gk - 1)
                                case measure => omega
                                case rel => exact ⟨kk + 1, by omega, by go_num, by rw [hstep.out]; exact howx.drewN _, hgx.trans (below_grownBy (below_drewN' _) _)⟩
                            · have hkm : Hid (mixW kk cur d2.mark = widen1 cur d2.mark) := by rw [show kk = cur.length by have := hL.out; omega]; exact mixW_all _ _
                              have hz0 := (hND6.out kq hkq)
                              obtain ⟨bn, on, v', hbo, hbn', p0, -, -, -, -⟩ := hz0
                              cases hbo
                              rw [Nat.zero_add, ← Below.cellB hbelx (by omega), HD2.out] at p0
                              clear n0 n2
                              go_wp2_with fail
                              go_roundg (d2.par + 1).toNat
                              case measure => omega
                              case rel => exact ⟨d2.par, widen1 cur d2.mark, rfl, by omega, by omega, rfl, Lib.hid (by rw [← hst.out]; exact hA.out), Lib.hid (by rw [len_widen1]; exact hL.out), by rw [← hkm.out]; exact howx, hgx⟩
                      · have hqm : q = -1 := by omega
                        have hA2 : Hid (cur = widenE l i m) := by rw [← hA.out, widenE_neg _ (by omega)]; exact rfl
                        subst hqm
                        obtain ⟨w7, rfl⟩ : ∃ w7, w7 = wr := ⟨_, rfl⟩
                        have hkid0 : Hid (kidE l i k x = ⟨i, k, cur, againE l cur⟩) := by
                          unfold kidE
                          rw [ndAt_eq hi, HD.out, HMW.out, ← hA2.out]
                          exact rfl
                        have hND7 : Hid (NdsC w7 w5.heap.size (some ⟨g, 0, none⟩) l) := hND6.out.mono (hbg.mono hgm) (Nat.le_refl _)
                        have hz7 : w6.heap.size ≤ w7.heap.size := hgr.size
                        have hcl : Hid (cur.length = m.length) := hL
                        go_wp2_with fail
                        go_loopg [13, 14] l.length (fun gh s13 s14 wx => ∃ (q ag : Int) (nd : Nat), gh = (q + 1).toNat ∧ -1 ≤ q ∧ q < (l.length : Int) ∧ s14 = .int .i64 q ∧ s13 = .int .i64 ag ∧ Hid (againFrom l cur (l.length - (q + 1).toNat) (q + 1).toNat = ag) ∧ wx = w7.drewN nd)
                        case atStart =>
                          refine ⟨(l.length : Int) - 1, -1, 0, by omega, by omega, by omega, rfl, rfl, ?_, rfl⟩
                          rw [show ((l.length : Int) - 1 + 1).toNat = l.length by omega, Nat.sub_self]
                          exact rfl
                        case round =>
                          obtain ⟨q, ag, nd, rfl, hq0, hq1, rfl, rfl, hAg, rfl⟩ := hrel
                          by_cases hq : 0 ≤ q
                          · obtain ⟨kq, rfl⟩ := Int.eq_ofNat_of_zero_le hq
                            have hkq : kq < l.length := by omega
                            obtain ⟨bn, on, v, hbo, hbn, n0, n1, n2, n3, hmk⟩ := hND7.out kq hkq
                            cases hbo
                            rw [Nat.zero_add] at n2
                            have hst := Lib.hid (againFrom_step cur hkq)
                            have hAg' : Hid (againFrom l cur (l.length - (kq + 1)) (kq + 1) = ag) := by
                              have := hAg.out
                              rw [show ((kq : Int) + 1).toNat = kq + 1 by omega] at this
                              exact this
                            obtain ⟨d2, hd2⟩ : ∃ d2, l[kq] = d2 := ⟨_, rfl⟩
                            rw [hd2] at hmk hst
                            clear hd2 n0 n1 n3 hq
                            obtain ⟨av, cv, rfl⟩ := hmk.val
                            have hmk' := ((hmk.mono (Below.refl _ _) (show w5.heap.size ≤ w7.heap.size by omega)).drewN nd)
                            by_cases he : d2.mark = cur
                            · have HC := Lib.hid (refcmp_at (w7.drewN nd) w7.heap.size _ _ d2.mark cur hmk' (hcurI.drewN nd) (cmpL_eq_zero.2 he))
                              have hf : Hid (againFrom l cur (l.length - (((kq : Int) - 1) + 1).toNat) (((kq : Int) - 1) + 1).toNat = (kq : Int)) := by
                                rw [show (((kq : Int) - 1) + 1).toNat = kq by omega, hst.out, if_pos he]; exact rfl
                              clear he
                              go_wp2_with (go_at_call 28; go_must (refine HC.out.mono ?_; rintro e w4 ⟨rfl, nd2, rfl⟩))
                              go_roundg kq
                              case measure => omega
                              case rel => exact ⟨(kq : Int) - 1, (kq : Int), _, by omega, by omega, by omega, rfl, rfl, hf, rfl⟩
                            · obtain ⟨c, hc⟩ : ∃ c, cmpL d2.mark cur = c := ⟨_, rfl⟩
                              have hc0 : (c == 0) = false := by
                                have : c ≠ 0 := fun e => he (cmpL_eq_zero.1 (hc.trans e))
                                simpa using this
                              have HC := Lib.hid (refcmp_at (w7.drewN nd) w7.heap.size _ _ d2.mark cur hmk' (hcurI.drewN nd) hc)
                              have hf : Hid (againFrom l cur (l.length - (((kq : Int) - 1) + 1).toNat) (((kq : Int) - 1) + 1).toNat = ag) := by
                                rw [show (((kq : Int) - 1) + 1).toNat = kq by omega, hst.out, if_neg he]; exact hAg'
                              clear he hc
                              go_wp2_with (go_at_call 28; go_must (refine HC.out.mono ?_; rintro e w4 ⟨rfl, nd2, rfl⟩))
                              go_roundg kq
                              case measure => omega
                              case rel => exact ⟨(kq : Int) - 1, ag, _, by omega, by omega, by omega, rfl, rfl, hf, rfl⟩
                          · have hqm : q = -1 := by omega
                            subst hqm
                            have hag2 : Hid (againE l cur = ag) := by
                              have := hAg.out
                              rw [show ((-1 : Int) + 1).toNat = 0 from rfl, Nat.sub_zero, againFrom_all] at this
                              exact this
                            rw [hag2.out] at hkid0
                            clear hAg hag2
                            have hB7 : Below w5.heap.size w5 w7 := hB6.grown hgr (by omega) (fun j hj => by cases hj; exact hgm)
                            obtain ⟨w8, hw8⟩ : ∃ w8, w7.drewN nd = w8 := ⟨_, rfl⟩
                            have hb78 : Below w7.heap.size w7 w8 := by rw [← hw8]; exact below_drewN' nd
                            have hB8 : Below W1.heap.size W1 w8 := hbel.trans ((hB7.trans (hb78.mono (by omega))).mono hwr)
                            have hz8 := hb78.size
                            rw [hw8]
                            clear hw8
                            by_cases hfull : l.length = M
                            · have hnone : Hid (growE n M = none) := by
                                rw [← hI.out, hdr.out, HEN.out, if_pos rfl, if_pos hfull]; exact rfl
                              have hb1 : ((l.length : Int) == (M : Int)) = true := by simp [hfull]
                              have hb2 : (l.length == M) = true := by simp [hfull]
                              clear hfull
                              go_wp2_with fail
                              go_ret2
                              exact ⟨hbA.trans (hB8.mono (by omega)), Or.inl ⟨170, by rw [Hf.out, hnone.out], rfl⟩⟩
                            · have hb1 : ((l.length : Int) == (M : Int)) = false := by simp; omega
                              have hb2 : (l.length == M) = false := by simp [hfull]
                              have hI2 : Hid ((growIn M i (n.trans.drop (k + 1)) (k + 1) (l ++ [⟨i, k, cur, ag⟩])).bind (growF n.trans M (M + 1 - (i + 1)) (i + 1)) = growE n M) := by
                                rw [← hI.out, hdr.out, HEN.out, if_pos rfl, if_neg hfull, hkid0.out]; exact rfl
                              have hO2 : Hid (GOk n M (l ++ [⟨i, k, cur, ag⟩])) := by rw [← hkid0.out]; exact hgs.out (by omega)
                              obtain ⟨A, hAl, hR⟩ := hN.out
                              have hAlen : A.length = l.length := by rw [← hAl]; simp
                              have hR8 := ((hR.over hB6 hgr hgm).kept hb78).kept ((Below.refl w8.heap.size w8).alloc (Nat.le_refl _) (.cells #[.int .i64 (i : Int), .int .i64 (k : Int), .slice (some ⟨gm, 0, none⟩) m.length cm, .int .i64 ag] 58))
                              have hRow : Hid (World.ownsRow (w8.alloc (.cells #[.int .i64 (i : Int), .int .i64 (k : Int), .slice (some ⟨gm, 0, none⟩) m.length cm, .int .i64 ag] 58)) W1.heap.size 58 4 (.slice (some ⟨g, 0, none⟩) l.length cap) l.length (cellsF cell4 A)) := by
                                have := hR8.1
                                unfold OwnF at this
                                rw [hAlen] at this
                                exact this
                              have HR8 := Lib.hid hR8
                              have HAl := Lib.hid hAl
                              have HAL := Lib.hid hAlen
                              have hnews := Lib.hid (cells_new w8 #[.int .i64 (i : Int), .int .i64 (k : Int), .slice (some ⟨gm, 0, none⟩) m.length cm, .int .i64 ag] 58)
                              have hown8 := Lib.hid (((how.kept hb78 (Nat.le_refl _)).lower (show W1.heap.size ≤ gm by omega)).kept ((Below.refl w8.heap.size w8).alloc (Nat.le_refl _) (.cells #[.int .i64 (i : Int), .int .i64 (k : Int), .slice (some ⟨gm, 0, none⟩) m.length cm, .int .i64 ag] 58)) (Nat.le_refl _))
                              have hgb : W1.heap.size ≤ g := by obtain ⟨_, _, hb, _⟩ := hR.1.block; exact hb
                              have hltM : l.length < M := by omega
                              clear hAl hAlen hR hR8 hfull
                              go_wp2_with (at_builtin; refine wpList_append_own _ rfl _ _ 53 rfl W1.heap.size 58 i1 (.agg #[.int .i64 0, .int .i64 0, .slice none 0 0, .int .i64 0]) 4 48 Tryd.underlying53 htr hr0 hr1 hr2 rfl (by decide) _ l.length (cellsF cell4 A) rfl hRow.out ⟨w8.heap.size, 0, none⟩ 1 1 (cell4 (⟨i, k, cur, ag⟩, .slice (some ⟨gm, 0, none⟩) m.length cm)) rfl rfl hnews.out (cell4_one rfl) (by unfold maxLen; omega) (by omega) (by simp; omega) ?_; intro v' w9 hown9 hg9 _; obtain ⟨g', cap', rfl, _, _⟩ := hown9.form (by omega); refine Hid.out ?_)
                              refine Lib.hid ?_
                              have hpush := Lib.hid (HR8.out.push (d := ⟨i, k, cur, ag⟩) hg9 (by rw [HAL.out]; exact hown9) hown8.out)
                              have hB9 : Below W1.heap.size W1 w9 := (hB8.alloc (by omega) _).grown hg9 (by simp; omega) (fun j hj => by cases hj; exact hgb)
                              go_wp2_with fail
                              go_roundg (n.trans.length - (k + 1))
                              case measure => omega
                              case rel =>
                                refine ⟨k + 1, g', cap', l ++ [⟨i, k, cur, ag⟩], by omega, by go_num, by rw [List.length_append]; rfl, ?_, hO2, by simp; omega, by simp; omega, ?_, hB9⟩
                                · rw [ndAt_app hi, ndAt_eq hi, HD.out, if_neg (by omega)]; exact hI2
                                · refine Lib.hid ⟨A ++ [(⟨i, k, cur, ag⟩, .slice (some ⟨gm, 0, none⟩) m.length cm)], by rw [List.map_append, HAl.out]; rfl, ?_⟩
                                  rw [List.length_append]
                                  exact hpush.out
              · have hkf : decide ((k : Int) < (n.trans.length : Int)) = false := decide_eq_false (by omega)
                have hI2 : Hid (growF n.trans M (M + 1 - (i + 1)) (i + 1) l = growE n M) := by
                  rw [← hI.out, List.drop_eq_nil_of_le (by omega)]
                  by_cases hag : 0 ≤ d.again
                  · rw [if_pos hag]; exact rfl
                  · rw [if_neg hag]; exact rfl
                go_wp2_with fail
                go_roundg (M - i)
                case measure => omega
                case rel => exact ⟨i + 1, g, cap, l, by omega, by go_num, rfl, hI2, hO, hlM, by omega, hN, hbel⟩
          · have hex : Hid (growE n M = some l) := by
              rw [← hG.out, show M + 1 - i = (M - i) + 1 by omega, growF, if_neg hi]; exact rfl
            have hkf : decide ((i : Int) < (l.length : Int)) = false := decide_eq_false (by omega)
            go_wp2_with fail
            go_ret2
            refine ⟨hbA.trans (hbel.mono (by omega)), Or.inr ?_⟩
            obtain ⟨A, hA, hR⟩ := hN.out
            exact ⟨l, A, _, by rw [Hf.out, hex.out], rfl, hA, hR.lower (by omega), hO.out, by omega⟩

end Go.Proofs.YtgahlonimaeicaaDoor
