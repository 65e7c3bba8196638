/- explorerOf: a net, and who takes from and puts on each of its places, in memory of the call's own. -/
import Derived.Test.YtbolacnpljkpbaaDoorTwoGrid
import Derived.Test.YtbolacnpljkpbaaDoorStubPM
import Derived.Test.YtbolacnpljkpbaaDoorReachRead
import Derived.Test.YtbolacnpljkpbaaDoorStepOwn
import Derived.Deep.RegionLaw
set_option maxRecDepth 100000
namespace Go.Proofs.YtbolacnpljkpbaaDoor
open Go.RowKit Go.Maps

/-- An explorer that stands. -/
def ExR (w : World) (B x : Nat) (vp vt : Value) (n : Nt) : Prop :=
  ∃ vT vG, w.heap[x]? = some (.cells #[vp, vt, .int .i64 n.init, .int .i64 n.final, vT, vG] 89) ∧ x < B ∧ NtR w B vp vt n ∧
    VCol Ints w B vT ((List.range n.places.length).map (fun (p : Nat) => takesL n (p : Int))) ∧ VCol Ints w B vG ((List.range n.places.length).map (fun (p : Nat) => givesL n (p : Int)))
theorem ExR.mono {w w' : World} {B B' x : Nat} {vp vt : Value} {n : Nt} (h : ExR w B x vp vt n) (hb : Below B w w') (hB : B ≤ B') : ExR w' B' x vp vt n := by
  obtain ⟨vT, vG, h1, h2, h3, h4, h5⟩ := h
  exact ⟨vT, vG, (hb.block x h2).trans h1, by omega, h3.mono hb hB, VCol.mono (R := Ints) (fun a b c => ColV.mono a b c) h4 hb hB, VCol.mono (R := Ints) (fun a b c => ColV.mono a b c) h5 hb hB⟩

/-- Rows under way: at place j stands F j. -/
structure PG (P : Nat) (F : Nat → List Int) (A : List (List Int × Value)) : Prop where
  len : A.length = P
  at_ : ∀ j (h : j < A.length), A[j].1 = F j
theorem PG.first {P : Nat} {F : Nat → List Int} (v : Value) (h : ∀ j, F j = []) : PG P F (List.replicate P ([], v)) := ⟨by simp, fun j hj => by rw [List.getElem_replicate, h]⟩
theorem PG.as {P : Nat} {F G : Nat → List Int} {A : List (List Int × Value)} (h : PG P F A) (e : ∀ j, j < P → F j = G j) : PG P G A := ⟨h.len, fun j hj => by rw [h.at_ j hj, e j (by rw [← h.len]; exact hj)]⟩
theorem PG.push {P : Nat} {F G : Nat → List Int} {A : List (List Int × Value)} (h : PG P F A) {i : Nat} (hi : i < A.length) {x : Int} {v : Value} (h1 : G i = F i ++ [x]) (h2 : ∀ j, j ≠ i → G j = F j) : PG P G (A.set i (A[i].1 ++ [x], v)) := by
  refine ⟨by rw [List.length_set]; exact h.len, fun j hj => ?_⟩
  rw [List.length_set] at hj
  rw [List.getElem_set]
  by_cases e : i = j
  · subst e
    rw [if_pos rfl, h1, h.at_ i hi]
  · rw [if_neg e, h.at_ j hj, h2 j (fun e2 => e e2.symm)]
theorem PG.pushQ {P : Nat} {n : Nt} {f : Tr → List Int} {k q : Nat} {A : List (List Int × Value)} (h : PG P (fun j => upQ n f k q (j : Int)) A) (hn : (f (n.tr (k : Int))).Nodup) (hq : q < (f (n.tr (k : Int))).length) {j : Nat} (hj : j < A.length) (e : (f (n.tr (k : Int)))[q] = (j : Int)) (v : Value) :
    PG P (fun j => upQ n f k (q + 1) (j : Int)) (A.set j (A[j].1 ++ [(k : Int)], v)) := by
  refine h.push hj ?_ (fun j' hne => ?_)
  · have := upQ_same hn hq
    rw [e] at this
    exact this
  · refine upQ_other hq ?_
    rw [e]
    omega

/-- Rows that have grown may be read. -/
theorem Grid.vcol {w : World} {base B : Nat} {v : Value} {A : List (List Int × Value)} {rt : TypeId} (h : Grid cellI 3 1 rt w base v A) {F : Nat → List Int} {P : Nat} (hp : PG P F A) (hP : P ≤ 4096) (hl : ∀ j, (F j).length ≤ 8192) (hB : w.heap.size ≤ B) : VCol Ints w B v ((List.range P).map F) := by
  obtain ⟨a, cap, rfl⟩ := OwnF.shape h.row
  refine ⟨a, cap, by rw [hp.len]; simp, by simpa using hP, fun i hi => ?_⟩
  have hiA : i < A.length := by rw [hp.len]; simpa using hi
  obtain ⟨g, cap', hv, hb, hc, ⟨cur, hcur⟩, ho⟩ := h.at hiA
  cases hv
  refine ⟨g, 0, A[i].2, rfl, by have := lt_of_block hcur; omega, by rw [Nat.zero_add]; exact hc, ?_⟩
  have e : ((List.range P).map F)[i] = A[i].1 := by rw [hp.at_ i hiA]; simp
  rw [e]
  refine (own_cellI.1 ho).col ?_ hB
  rw [hp.at_ i hiA]
  have := hl i
  omega

theorem madeTwo {w1 : World} {base gT gG P : Nat} (h1 : Grid cellI 3 1 26 w1 base (.slice (some ⟨gT, 0, none⟩) P P) (List.replicate P ([], .slice none 0 0))) (h2 : Grid cellI 3 1 26 w1 base (.slice (some ⟨gG, 0, none⟩) P P) (List.replicate P ([], .slice none 0 0))) (hne : gT ≠ gG) :
    Two cellI 3 1 26 w1 base gT P P gG P P (List.replicate P ([], .slice none 0 0)) (List.replicate P ([], .slice none 0 0)) :=
  ⟨h1, h2, hne, fun x hx y hy b hb => by obtain rfl := List.eq_of_mem_replicate hx; cases hb⟩
theorem box6 {w : World} {b : Nat} {v0 v1 v2 v3 v4 v5 : Value} {t : TypeId} {fr : Nat × Nat} (h : w.heap[b]? = some (.cells #[v0, v1, v2, v3, v4, v5] t fr)) :
    w.cell? ⟨b, 0, none⟩ = some v0 ∧ w.cell? ⟨b, 1, none⟩ = some v1 ∧ w.cell? ⟨b, 2, none⟩ = some v2 ∧ w.cell? ⟨b, 3, none⟩ = some v3 ∧ w.cell? ⟨b, 4, none⟩ = some v4 ∧ w.cell? ⟨b, 5, none⟩ = some v5 := by
  refine ⟨?_, ?_, ?_, ?_, ?_, ?_⟩ <;> (rw [cell_of_block h]; rfl)
theorem Two.keepLit {rt : TypeId} {w w1 : World} {base gT nT cT gG nG cG : Nat} {T G : List (List Int × Value)} (h : Two cellI 3 1 rt w base gT nT cT gG nG cG T G) {i : Nat} (hi : i < T.length) (hg : w.grownBy w1 T[i].2.ownBlock) (j : Nat) (u : Value) {q : Nat} {c : Array Value} {t : TypeId}
    (hq : w.heap[q]? = some (.cells c t)) (ht : t ≠ 3) (hne : t ≠ rt) : (w1.setCell ⟨gT, j, none⟩ u).heap[q]? = some (.cells c t) := by
  have h1 := lit_other hq (h.t.own _ (List.getElem_mem hi)) ht hg
  refine ((grownBy_setCell w1 gT j u).block q (lt_of_block h1) (fun e => ?_)).trans h1
  obtain rfl : q = gT := Option.some.inj e
  obtain ⟨cur, hc, _⟩ := OwnF.block h.t.row
  exact type_ne hq hc hne rfl

theorem ex_first (w1 : World) (base P : Nat) (hP : P ≤ 4096) (hb : base ≤ w1.heap.size) (box : Array Value) (T : TypeId) (a0 a1 : Nat) :
    ∀ w2 : World, w2 = (((w1.alloc (.cells (madeCells #[Value.slice none 0 0] P) 26)).alloc (.cells (madeCells #[Value.slice none 0 0] P) 26)).alloc (.cells box T)).drew → (a0 = w1.heap.size ∧ a1 = w1.heap.size + 1 ∨ a0 = w1.heap.size + 1 ∧ a1 = w1.heap.size) →
      w2.heap[w1.heap.size + 1 + 1]? = some (.cells box T) ∧ Two cellI 3 1 26 w2 base a0 P P a1 P P (List.replicate P ([], .slice none 0 0)) (List.replicate P ([], .slice none 0 0)) := by
  rintro w2 rfl h
  have g1 := Grid.made (α := Int) (f := cellI) (e := 3) (k := 1) (rt := 26) (base := base) w1 P (by unfold maxLen; omega) hb
  have hb1 := (Below.refl w1.heap.size w1).alloc (Nat.le_refl _) (.cells (madeCells #[Value.slice none 0 0] P) 26)
  have g2 := Grid.made (α := Int) (f := cellI) (e := 3) (k := 1) (rt := 26) (base := base) (w1.alloc (.cells (madeCells #[Value.slice none 0 0] P) 26)) P (by unfold maxLen; omega) (by simp; omega)
  have g1' := g1.kept ((Below.refl (w1.alloc (.cells (madeCells #[Value.slice none 0 0] P) 26)).heap.size _).alloc (Nat.le_refl _) (.cells (madeCells #[Value.slice none 0 0] P) 26))
  have k1 := g1'.kept ((Below.refl ((w1.alloc (.cells (madeCells #[Value.slice none 0 0] P) 26)).alloc (.cells (madeCells #[Value.slice none 0 0] P) 26)).heap.size _).alloc (Nat.le_refl _) (.cells box T))
  have k2 := g2.kept ((Below.refl ((w1.alloc (.cells (madeCells #[Value.slice none 0 0] P) 26)).alloc (.cells (madeCells #[Value.slice none 0 0] P) 26)).heap.size _).alloc (Nat.le_refl _) (.cells box T))
  rw [World.size_alloc] at k2
  refine ⟨by have := heap_alloc_new ((w1.alloc (.cells (madeCells #[Value.slice none 0 0] P) 26)).alloc (.cells (madeCells #[Value.slice none 0 0] P) 26)) (.cells box T); rwa [World.size_alloc, World.size_alloc] at this, ?_⟩
  rcases h with ⟨rfl, rfl⟩ | ⟨rfl, rfl⟩
  · exact (madeTwo k1 k2 (by omega)).kept (Below.refl _ _).drew
  · exact (madeTwo k2 k1 (by omega)).kept (Below.refl _ _).drew

set_option maxHeartbeats 4000000 in
theorem explorer_any (w : World) (B : Nat) (hB : B ≤ w.heap.size) (vp vt : Value) (n : Nt) (hn : NtR w B vp vt n) (hok : n.Ok) :
    Calls Tryd.prog 30 #[.agg #[vp, vt, .int .i64 n.init, .int .i64 n.final]] w fun e w' => ∃ x, e = .returned (.pointer (some ⟨x, 0, none⟩)) ∧ ExR w' w'.heap.size x vp vt n ∧ Below w.heap.size w w' := by
  have hbel1 := (Below.refl w.heap.size w).alloc (Nat.le_refl _) (.cells #[vp, vt, .int .i64 n.init, .int .i64 n.final] 25)
  have hNV := Lib.hid hn
  obtain ⟨i0, hti, hz0, hz1, hz2⟩ := info_parts info_int
  obtain ⟨ap, cp, hvp⟩ := hn.1.val
  obtain ⟨at_, ct, hvt⟩ := hn.2.val
  subst hvp hvt
  have hP := hok.many
  have hTr := hok.trans
  have HOK := Lib.hid hok
  obtain ⟨W1, hW1⟩ : ∃ W1, w.alloc (.cells #[.slice ap n.places.length cp, .slice at_ n.trans.length ct, .int .i64 n.init, .int .i64 n.final] 25) = W1 := ⟨_, rfl⟩
  have hbox : Hid (W1.heap[w.heap.size]? = some (.cells #[.slice ap n.places.length cp, .slice at_ n.trans.length ct, .int .i64 n.init, .int .i64 n.final] 25)) := by rw [← hW1]; exact heap_alloc_new _ _
  have hs1 : Hid (W1.heap.size = w.heap.size + 1) := by rw [← hW1]; exact World.size_alloc _ _
  have hlt1 : w.heap.size < W1.heap.size := by have := hs1.out; omega
  rw [hW1] at hbel1
  obtain ⟨c0, c1, c2, c3⟩ := box4' hbox.out
  have hmk := run_make_row' (P := Tryd.prog) 71 26 (.slice none 0 0) 24 Tryd.underlying71 info_sl rfl .i64 .i64 n.places.length (by omega) (by omega)
  go_enter Tryd.func30, Tryd.ntmps30
  go_wp2_with fail
  clear hW1 c0 c1 c2 c3
  go_cut [3] (fun s3 wx => ∃ x gT gG, s3 = .pointer (some ⟨x, 0, none⟩) ∧ Hid (wx.heap[x]? = some (.cells #[.slice ap n.places.length cp, .slice at_ n.trans.length ct, .int .i64 n.init, .int .i64 n.final, .slice (some ⟨gT, 0, none⟩) n.places.length n.places.length, .slice (some ⟨gG, 0, none⟩) n.places.length n.places.length] 89)) ∧
      Hid (Two cellI 3 1 26 wx w.heap.size gT n.places.length n.places.length gG n.places.length n.places.length (List.replicate n.places.length ([], .slice none 0 0)) (List.replicate n.places.length ([], .slice none 0 0))) ∧ Below W1.heap.size W1 wx)
  case first =>
    have hB0 := ((Below.refl W1.heap.size W1).alloc (Nat.le_refl _) (.cells (madeCells #[Value.slice none 0 0] n.places.length) 26))
    have hB1 := hB0.alloc (by simp) (.cells (madeCells #[Value.slice none 0 0] n.places.length) 26)
    obtain ⟨c0, c1, c2, c3⟩ := box4' hbox.out
    obtain ⟨d0, d1, d2, d3⟩ := box4' ((hB0.block _ hlt1).trans hbox.out)
    obtain ⟨e0, e1, e2, e3⟩ := box4' ((hB1.block _ hlt1).trans hbox.out)
    have HF := Lib.hid (ex_first W1 w.heap.size n.places.length hP (by omega))
    clear hB0
    go_region_law (fail)
    all_goals go_wp2_with fail
    all_goals go_meet
    all_goals exact ⟨_, _, _, rfl, Lib.hid (HF.out _ _ _ _ _ rfl (by first | exact Or.inl ⟨rfl, rfl⟩ | exact Or.inr ⟨rfl, rfl⟩)).1, Lib.hid (HF.out _ _ _ _ _ rfl (by first | exact Or.inl ⟨rfl, rfl⟩ | exact Or.inr ⟨rfl, rfl⟩)).2, (hB1.alloc (by simp; omega) _).drew⟩
  case rest =>
    obtain ⟨x, gT, gG, rfl, hx, hT, hb2⟩ := hcut
    obtain ⟨wd, rfl⟩ : ∃ wd, wd = wc := ⟨_, rfl⟩
    have hbel := hbel1.trans (hb2.mono (by omega))
    have H0 : Hid (∃ T G, Two cellI 3 1 26 wd w.heap.size gT n.places.length n.places.length gG n.places.length n.places.length T G ∧ PG n.places.length (fun j => upL n Tr.inn 0 (j : Int)) T ∧ PG n.places.length (fun j => upL n Tr.out 0 (j : Int)) G) :=
      ⟨_, _, hT.out, PG.first _ (fun j => upL_zero n Tr.inn j), PG.first _ (fun j => upL_zero n Tr.out j)⟩
    have hbW := (hb2.block _ hlt1).trans hbox.out
    obtain ⟨c0, c1, c2, c3⟩ := box4' hbW
    clear hbW hT hmk
    go_wp2_with fail
    clear c0 c1 c2 c3
    go_loopg [24] n.trans.length (fun gh s24 wr => ∃ i : Nat, i + gh = n.trans.length ∧ s24 = .int .i64 (i : Int) ∧
      Hid (∃ T G, Two cellI 3 1 26 wr w.heap.size gT n.places.length n.places.length gG n.places.length n.places.length T G ∧ PG n.places.length (fun j => upL n Tr.inn i (j : Int)) T ∧ PG n.places.length (fun j => upL n Tr.out i (j : Int)) G) ∧
      Hid (wr.heap[x]? = some (.cells #[.slice ap n.places.length cp, .slice at_ n.trans.length ct, .int .i64 n.init, .int .i64 n.final, .slice (some ⟨gT, 0, none⟩) n.places.length n.places.length, .slice (some ⟨gG, 0, none⟩) n.places.length n.places.length] 89)) ∧ Below w.heap.size w wr)
    case atStart => exact ⟨0, by omega, rfl, H0, hx, hbel⟩
    case round =>
      clear H0 hx hbel hb2
      obtain ⟨i, hig, rfl, hG, hX, hbl⟩ := hrel
      by_cases hi : i < n.trans.length
      · obtain ⟨bt, ot, vi, vo, rfl, hbt2, h0, h1, h2, hii, hoo⟩ := hNV.out.2.col i hi
        rw [← Below.cellB hbl (by omega)] at h0 h1 h2
        have hmem := List.getElem_mem hi
        have hin := HOK.out.inn _ hmem
        have hout := HOK.out.out _ hmem
        have htr : Hid (n.tr (i : Int) = n.trans[i]) := by refine Lib.hid ?_; simp [Nt.tr, hi]
        obtain ⟨tk, htk⟩ : ∃ tk, n.trans[i] = tk := ⟨_, rfl⟩
        rw [htk] at h0 hin hout htr hii hoo
        clear htk hmem
        have hil := hii.len
        have hol := hoo.len
        obtain ⟨ai, ci, rfl⟩ := hii.val
        obtain ⟨ao, co, rfl⟩ := hoo.val
        have hb5 := (Below.refl wr.heap.size wr).alloc (Nat.le_refl _) (.cells #[.string tk.label, .slice ai tk.inn.length ci, .slice ao tk.out.length co] 57)
        have hX5 := heap_alloc_new wr (.cells #[.string tk.label, .slice ai tk.inn.length ci, .slice ao tk.out.length co] 57)
        have HB5 := Lib.hid (hbl.trans (hb5.mono hbl.size))
        have HG5 : Hid (∃ T G, Two cellI 3 1 26 (wr.alloc (.cells #[.string tk.label, .slice ai tk.inn.length ci, .slice ao tk.out.length co] 57)) w.heap.size gT n.places.length n.places.length gG n.places.length n.places.length T G ∧ PG n.places.length (fun j => upQ n Tr.inn i 0 (j : Int)) T ∧ PG n.places.length (fun j => upL n Tr.out i (j : Int)) G) := by
          obtain ⟨T, G, a, b, c⟩ := hG.out
          exact ⟨T, G, a.kept hb5, b.as (fun j _ => (upQ_zero n Tr.inn i j).symm), c⟩
        have HX := Lib.hid ((hb5.block _ (lt_of_block hX.out)).trans hX.out)
        have HX5 := Lib.hid hX5
        obtain ⟨b5, hb5e⟩ : ∃ b5, b5 = wr.heap.size := ⟨_, rfl⟩
        clear hb5 hX5 hG hX hbl
        go_wp2_with fail
        rw [← hb5e] at HX5 ⊢
        clear h0 h1 h2
        obtain ⟨w5, hw5⟩ : ∃ w5, wr.alloc (.cells #[.string tk.label, .slice ai tk.inn.length ci, .slice ao tk.out.length co] 57) = w5 := ⟨_, rfl⟩
        rw [hw5] at HG5 HX HX5 HB5 ⊢
        clear hw5 hb5e
        obtain ⟨Wb, rfl⟩ : ∃ Wb : World, Wb = wr := ⟨_, rfl⟩
        go_loopg [32] tk.inn.length (fun gh s32 wr => ∃ q : Nat, q + gh = tk.inn.length ∧ s32 = .int .i64 (q : Int) ∧
          Hid (∃ T G, Two cellI 3 1 26 wr w.heap.size gT n.places.length n.places.length gG n.places.length n.places.length T G ∧ PG n.places.length (fun j => upQ n Tr.inn i q (j : Int)) T ∧ PG n.places.length (fun j => upL n Tr.out i (j : Int)) G) ∧
          Hid (wr.heap[x]? = some (.cells #[.slice ap n.places.length cp, .slice (some ⟨bt, ot, none⟩) n.trans.length ct, .int .i64 n.init, .int .i64 n.final, .slice (some ⟨gT, 0, none⟩) n.places.length n.places.length, .slice (some ⟨gG, 0, none⟩) n.places.length n.places.length] 89)) ∧
          Hid (wr.heap[b5]? = some (.cells #[.string tk.label, .slice ai tk.inn.length ci, .slice ao tk.out.length co] 57)) ∧ Below w.heap.size w wr)
        case atStart => exact ⟨0, by omega, rfl, HG5, HX, HX5, HB5.out⟩
        case round =>
          clear HG5 HX HX5 HB5
          obtain ⟨q, hqg, rfl, hG, hX, hX5, hbl⟩ := hrel
          by_cases hq : q < tk.inn.length
          · obtain ⟨be, oe, rfl, hbe, hc⟩ := hii.col q hq
            rw [← Below.cellB hbl (by omega)] at hc
            have hpl := hin.1 _ (List.getElem_mem hq)
            obtain ⟨j, hj⟩ := Int.eq_ofNat_of_zero_le hpl.1
            have hjl : j < n.places.length := by omega
            rw [hj] at hc
            have HJ := Lib.hid hj
            clear hj hpl
            go_upto_region 8 with fail
            obtain ⟨T, G, hT, hPT, hPG⟩ := hG.out
            have hjT : j < T.length := by rw [hPT.len]; exact hjl
            obtain ⟨g, cap, hgv, hgb, hgc, ⟨cur, hgh⟩, hgo⟩ := hT.t.at hjT
            obtain rfl : gT = g := by injection hgv with e1; injection e1 with e1; injection e1
            have hsz : T[j].1.length ≤ 8193 := by rw [hPT.at_ j hjT]; exact Nat.le_trans (upQ_len n Tr.inn i q j) (by omega)
            have HT := Lib.hid hT
            have HPT := Lib.hid hPT
            have HPG := Lib.hid hPG
            obtain ⟨aj, cj, hvj⟩ := OwnF.shape hgo
            obtain ⟨l, hl2⟩ : ∃ l, T[j].1 = l := ⟨_, rfl⟩
            rw [hl2] at hvj hgo hsz
            rw [hvj] at hgc hgo
            have HL := Lib.hid hl2
            have HV := Lib.hid hvj
            obtain ⟨-, -, -, -, y4, y5⟩ := box6 hX.out
            have gf := free_of_block hgh j
            clear hT hPT hPG hvj hl2 hgv hG
            have hwr := hbl.size
            have hbW := ((Below.refl wr.heap.size wr).alloc (Nat.le_refl _) (.cells #[.int .i64 (i : Int)] 3)).drew
            have hgoW := OwnF.kept hgo hbW
            have hghW := (hbW.block _ (lt_of_block hgh)).trans hgh
            have hXW := (hbW.block _ (lt_of_block hX.out)).trans hX.out
            have hcur : Hid (cur[j]? = some (.slice aj l.length cj)) := by rw [← cell_of_block hgh]; exact hgc
            have HBW := Lib.hid hbW
            have hgl : gT < wr.heap.size := lt_of_block hgh
            have hxl : x < wr.heap.size := lt_of_block hX.out
            clear hbW
            go_region_law (first
                | (refine step_append_own _ (by rfl) (.tmp 47) (.tmp 49) 26 (by rfl) w.heap.size 3 i0 (.int .i64 0) 1 8 Tryd.underlying26 hti hz0 hz1 hz2 rfl (by decide) (.slice aj l.length cj) l.length (cellsF cellI l) (by rfl) hgoW _ 1 1 [.int .i64 (i : Int)] (by rfl) rfl (cells_new _ _ _) (by intro u hu; simp at hu; subst hu; rfl) (by unfold maxLen; omega) (by omega) (by simp; omega) ?_; intro v6 w6 hown6 hg6 hat6
                   have hR6 := OwnF.newer (f := cellI) (x := (i : Int)) hown6; obtain ⟨a6, c6, rfl⟩ := OwnF.shape1 hR6; have hq6 := lit_other hghW hgoW (by decide) hg6; have hc6 := (cell_of_block hq6 j).trans hcur.out; have gf6 := free_of_block hq6 j; have hX6 := lit_other hXW hgoW (by decide) hg6; obtain ⟨-, -, -, -, z4, z5⟩ := box6 hX6))
            all_goals go_wp2_with fail
            all_goals go_roundg (gk - 1)
            all_goals first
              | omega
              | exact ⟨q + 1, by omega, by go_num, Lib.hid ⟨T.set j (T[j].1 ++ [(i : Int)], .slice a6 (l.length + 1) c6), G, Two.push (HT.out.kept HBW.out) hjT (by decide) (by rw [HV.out]; exact hg6) (by rw [HL.out]; exact hR6) (by rw [HV.out]; exact hat6.imp id (fun e => ⟨_, e, by simp⟩)), PG.pushQ HPT.out (by rw [htr.out]; exact Rising.nodup hin.2) (by rw [htr.out]; exact hq) hjT (by simp only [htr.out]; exact HJ.out) _, HPG.out⟩,
                  Lib.hid (Two.keepLit (HT.out.kept HBW.out) hjT (by rw [HV.out]; exact hg6) _ _ ((HBW.out.block _ (lt_of_block hX.out)).trans hX.out) (by decide) (by decide)), Lib.hid (Two.keepLit (HT.out.kept HBW.out) hjT (by rw [HV.out]; exact hg6) _ _ ((HBW.out.block _ (lt_of_block hX5.out)).trans hX5.out) (by decide) (by decide)),
                  ((hbl.trans (HBW.out.mono hwr)).grown hg6 (by simp; omega) (fun k hk => (OwnF.ty hgoW hk).2)).setCell hgb _⟩
          · have hq' : ¬ ((q : Int) < (tk.inn.length : Int)) := by omega
            obtain ⟨e0, e1, e2⟩ := box3 hX5.out
            have HG6 : Hid (∃ T G, Two cellI 3 1 26 wr w.heap.size gT n.places.length n.places.length gG n.places.length n.places.length T G ∧ PG n.places.length (fun j => upL n Tr.inn (i + 1) (j : Int)) T ∧ PG n.places.length (fun j => upQ n Tr.out i 0 (j : Int)) G) := by
              obtain ⟨T, G, a, b, c⟩ := hG.out
              exact ⟨T, G, a, b.as (fun j _ => upQ_full (by rw [htr.out]; omega) j), c.as (fun j _ => (upQ_zero n Tr.out i j).symm)⟩
            have HB6 := Lib.hid hbl
            clear hG hbl
            go_wp2_with fail
            clear e0 e1 e2
            obtain ⟨Wc, rfl⟩ : ∃ Wc : World, Wc = wr := ⟨_, rfl⟩
            go_loopg [56] tk.out.length (fun gh s56 wr => ∃ q2 : Nat, q2 + gh = tk.out.length ∧ s56 = .int .i64 (q2 : Int) ∧
              Hid (∃ T G, Two cellI 3 1 26 wr w.heap.size gT n.places.length n.places.length gG n.places.length n.places.length T G ∧ PG n.places.length (fun j => upL n Tr.inn (i + 1) (j : Int)) T ∧ PG n.places.length (fun j => upQ n Tr.out i q2 (j : Int)) G) ∧
              Hid (wr.heap[x]? = some (.cells #[.slice ap n.places.length cp, .slice (some ⟨bt, ot, none⟩) n.trans.length ct, .int .i64 n.init, .int .i64 n.final, .slice (some ⟨gT, 0, none⟩) n.places.length n.places.length, .slice (some ⟨gG, 0, none⟩) n.places.length n.places.length] 89)) ∧
              Hid (wr.heap[b5]? = some (.cells #[.string tk.label, .slice ai tk.inn.length ci, .slice ao tk.out.length co] 57)) ∧ Below w.heap.size w wr)
            case atStart => exact ⟨0, by omega, rfl, HG6, hX, hX5, HB6.out⟩
            case round =>
              clear HG6 hX hX5 HB6
              obtain ⟨q2, hqg2, rfl, hG, hX, hX5, hbl⟩ := hrel
              by_cases hq2 : q2 < tk.out.length
              · obtain ⟨be, oe, rfl, hbe, hc⟩ := hoo.col q2 hq2
                rw [← Below.cellB hbl (by omega)] at hc
                have hpl := hout.1 _ (List.getElem_mem hq2)
                obtain ⟨j, hj⟩ := Int.eq_ofNat_of_zero_le hpl.1
                have hjl : j < n.places.length := by omega
                rw [hj] at hc
                have HJ := Lib.hid hj
                clear hj hpl
                go_upto_region 13 with fail
                obtain ⟨T, G, hT, hPT, hPG⟩ := hG.out
                have hjT : j < G.length := by rw [hPG.len]; exact hjl
                obtain ⟨g, cap, hgv, hgb, hgc, ⟨cur, hgh⟩, hgo⟩ := hT.g.at hjT
                obtain rfl : gG = g := by injection hgv with e1; injection e1 with e1; injection e1
                have hsz : G[j].1.length ≤ 8193 := by rw [hPG.at_ j hjT]; exact Nat.le_trans (upQ_len n Tr.out i q2 j) (by omega)
                have HT := Lib.hid hT
                have HPT := Lib.hid hPT
                have HPG := Lib.hid hPG
                obtain ⟨aj, cj, hvj⟩ := OwnF.shape hgo
                obtain ⟨l, hl2⟩ : ∃ l, G[j].1 = l := ⟨_, rfl⟩
                rw [hl2] at hvj hgo hsz
                rw [hvj] at hgc hgo
                have HL := Lib.hid hl2
                have HV := Lib.hid hvj
                obtain ⟨-, -, -, -, y4, y5⟩ := box6 hX.out
                have gf := free_of_block hgh j
                clear hT hPT hPG hvj hl2 hgv hG
                have hwr := hbl.size
                have hbW := ((Below.refl wr.heap.size wr).alloc (Nat.le_refl _) (.cells #[.int .i64 (i : Int)] 3)).drew
                have hgoW := OwnF.kept hgo hbW
                have hghW := (hbW.block _ (lt_of_block hgh)).trans hgh
                have hXW := (hbW.block _ (lt_of_block hX.out)).trans hX.out
                have hcur : Hid (cur[j]? = some (.slice aj l.length cj)) := by rw [← cell_of_block hgh]; exact hgc
                have HBW := Lib.hid hbW
                have hgl : gG < wr.heap.size := lt_of_block hgh
                have hxl : x < wr.heap.size := lt_of_block hX.out
                clear hbW
                go_region_law (first
                    | (refine step_append_own _ (by rfl) (.tmp 71) (.tmp 73) 26 (by rfl) w.heap.size 3 i0 (.int .i64 0) 1 8 Tryd.underlying26 hti hz0 hz1 hz2 rfl (by decide) (.slice aj l.length cj) l.length (cellsF cellI l) (by rfl) hgoW _ 1 1 [.int .i64 (i : Int)] (by rfl) rfl (cells_new _ _ _) (by intro u hu; simp at hu; subst hu; rfl) (by unfold maxLen; omega) (by omega) (by simp; omega) ?_; intro v6 w6 hown6 hg6 hat6
                       have hR6 := OwnF.newer (f := cellI) (x := (i : Int)) hown6; obtain ⟨a6, c6, rfl⟩ := OwnF.shape1 hR6; have hq6 := lit_other hghW hgoW (by decide) hg6; have hc6 := (cell_of_block hq6 j).trans hcur.out; have gf6 := free_of_block hq6 j; have hX6 := lit_other hXW hgoW (by decide) hg6; obtain ⟨-, -, -, -, z4, z5⟩ := box6 hX6))
                all_goals go_wp2_with fail
                all_goals go_roundg (gk - 1)
                all_goals first
                  | omega
                  | exact ⟨q2 + 1, by omega, by go_num, Lib.hid ⟨T, G.set j (G[j].1 ++ [(i : Int)], .slice a6 (l.length + 1) c6), (Two.push (HT.out.swap.kept HBW.out) hjT (by decide) (by rw [HV.out]; exact hg6) (by rw [HL.out]; exact hR6) (by rw [HV.out]; exact hat6.imp id (fun e => ⟨_, e, by simp⟩))).swap, HPT.out, PG.pushQ HPG.out (by rw [htr.out]; exact Rising.nodup hout.2) (by rw [htr.out]; exact hq2) hjT (by simp only [htr.out]; exact HJ.out) _⟩,
                      Lib.hid (Two.keepLit (HT.out.swap.kept HBW.out) hjT (by rw [HV.out]; exact hg6) _ _ ((HBW.out.block _ (lt_of_block hX.out)).trans hX.out) (by decide) (by decide)), Lib.hid (Two.keepLit (HT.out.swap.kept HBW.out) hjT (by rw [HV.out]; exact hg6) _ _ ((HBW.out.block _ (lt_of_block hX5.out)).trans hX5.out) (by decide) (by decide)),
                      ((hbl.trans (HBW.out.mono hwr)).grown hg6 (by simp; omega) (fun k hk => (OwnF.ty hgoW hk).2)).setCell hgb _⟩
              · have hq2' : ¬ ((q2 : Int) < (tk.out.length : Int)) := by omega
                have HG7 : Hid (∃ T G, Two cellI 3 1 26 wr w.heap.size gT n.places.length n.places.length gG n.places.length n.places.length T G ∧ PG n.places.length (fun j => upL n Tr.inn (i + 1) (j : Int)) T ∧ PG n.places.length (fun j => upL n Tr.out (i + 1) (j : Int)) G) := by
                  obtain ⟨T, G, a, b, c⟩ := hG.out
                  exact ⟨T, G, a, b, c.as (fun j _ => upQ_full (by rw [htr.out]; omega) j)⟩
                clear hG
                go_wp2_with fail
                go_roundg (n.trans.length - (i + 1))
                case measure => omega
                case rel => exact ⟨i + 1, by omega, by go_num, HG7, hX, hbl⟩
      · have hi' : ¬ ((i : Int) < (n.trans.length : Int)) := by omega
        go_wp2_with fail
        go_ret
        obtain rfl : i = n.trans.length := by omega
        obtain ⟨T, G, a, b, c⟩ := hG.out
        refine ⟨x, rfl, ⟨_, _, hX.out, lt_of_block hX.out, hNV.out.mono (hbl.mono hB) (by have := hbl.size; omega), ?_, ?_⟩, hbl⟩
        · exact a.t.vcol (b.as fun j _ => rfl) hP (fun j => Nat.le_trans (takesL_len n j) hTr) (Nat.le_refl _)
        · exact a.g.vcol (c.as fun j _ => rfl) hP (fun j => Nat.le_trans (givesL_len n j) hTr) (Nat.le_refl _)
end Go.Proofs.YtbolacnpljkpbaaDoor

