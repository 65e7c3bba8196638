/- tollgateref17.Explore: the document's graph is the program's. -/
import Derived.Test.YtapnkkoplnhleaaDoorRefFind
import Derived.Test.YtapnkkoplnhleaaDoorReachExplore
set_option maxRecDepth 100000
namespace Go.Proofs.YtapnkkoplnhleaaDoor
open Go.RowKit

/-- The document's graph under way. -/
def HGr (w : World) (base p : Nat) (v0 v1 : Value) (a b : Int) (g : Gr) : Prop :=
  ∃ vM vE vF Ms Es, HOwn w base p v0 v1 a b vM vE vF Ms Es g.src ∧ Ms.map Prod.fst = g.marks ∧ Es.map Prod.fst = g.edges
theorem HGr.kept {w w' : World} {base p : Nat} {v0 v1 : Value} {a b : Int} {g : Gr} (h : HGr w base p v0 v1 a b g) (hb : Below w.heap.size w w') : HGr w' base p v0 v1 a b g := by
  obtain ⟨vM, vE, vF, Ms, Es, h1, h2, h3⟩ := h
  exact ⟨vM, vE, vF, Ms, Es, h1.kept hb, h2, h3⟩
/-- One row whose cells fill its block. -/
theorem ownF_lit {α : Type} {f : α → List Value} {e : TypeId} {k : Nat} {w : World} {base g : Nat} {x : α} {c : Array Value} (h : w.heap[g]? = some (.cells c e)) (hc : c.toList = f x) (hk : (f x).length = k) (hb : base ≤ g) : OwnF f e k w base (.slice (some ⟨g, 0, none⟩) 1 1) [x] := by
  have hl : cellsF f [x] = f x := cellsF_one x
  have hs : c.size = k := by rw [← hk, ← hc]; simp
  refine ⟨by rw [hl, hk]; simp, Or.inr ⟨g, 1, c, rfl, hb, h, Nat.le_refl _, by unfold maxLen; omega, ?_, ?_⟩⟩
  · rw [hs]; simp
  · rw [hl, ← hc]
    exact List.take_of_length_le (by simp [hs])
theorem root_own {w : World} {base p bM bE bF : Nat} {v0 v1 vm : Value} {a b : Int} {n : Nt}
    (hP : w.heap[p]? = some (.cells (hCells v0 v1 a b (.slice (some ⟨bM, 0, none⟩) 1 1) (.slice (some ⟨bE, 0, none⟩) 1 1) (.slice (some ⟨bF, 0, none⟩) 1 1)) 45))
    (hM : w.heap[bM]? = some (.cells #[vm] 26)) (hE : w.heap[bE]? = some (.cells #[.slice none 0 0] 43)) (hF : w.heap[bF]? = some (.cells #[.int .i64 0, .int .i64 0] 80))
    (hb : base ≤ p ∧ base ≤ bM ∧ base ≤ bE ∧ base ≤ bF) (hm : OwnI w base vm (oneL n.places.length n.init)) : HGr w base p v0 v1 a b (rootG n) := by
  refine ⟨_, _, _, [(oneL n.places.length n.init, vm)], [([], .slice none 0 0)], ⟨hP, hb.1, ownF_lit hM rfl rfl hb.2.1, ?_, ⟨ownF_lit hE rfl rfl hb.2.2.1, ?_, by simp⟩, ownF_lit (x := ((0 : Int), (0 : Int))) hF rfl rfl hb.2.2.2, ?_⟩, rfl, rfl⟩
  · intro x hx
    obtain rfl : x = _ := by simpa using hx
    exact hm
  · intro x hx
    obtain rfl : x = _ := by simpa using hx
    exact OwnF.nil _ _
  · intro x hx q hq
    obtain rfl : x = _ := by simpa using hx
    cases hq
theorem info_re : (Tryd.prog.info? 43).map (fun i => (i.zero, i.size, i.bytes)) = some (some (.slice none 0 0), 1, 24) := by kernel_rfl
theorem info_rp : (Tryd.prog.info? 80).map (fun i => (i.zero, i.size, i.bytes)) = some (some (.agg #[.int .i64 0, .int .i64 0]), 2, 16) := by kernel_rfl
theorem one_1 {α : Type} (x : α × Value) (h : x.2.oneCell' = true) : ∀ u ∈ cell1 x, u.oneCell' = true := by
  intro u hu
  obtain rfl : u = x.2 := by simpa [cell1] using hu
  exact h
/-- What the document's Explore hands back. -/
def RefExpPost (w : World) (n : Nt) (most : Int) (e : Ending) (w' : World) : Prop :=
  Below w.heap.size w w' ∧ ((∃ c, expR n most = .inl c ∧ e = .returned (.tuple #[.pointer none, .int .i64 c])) ∨
    ∃ g p, expR n most = .inr g ∧ e = .returned (.tuple #[.pointer (some ⟨p, 0, none⟩), .int .i64 0]) ∧ RgR w' w'.heap.size p n.trans.length g)

set_option maxHeartbeats 8000000 in
theorem refexplore_any (w : World) (B : Nat) (hB : B ≤ w.heap.size) (vp vt : Value) (n : Nt) (hn : NtR w B vp vt n) (most : Int) :
    Calls Tryd.prog 14 #[.agg #[vp, vt, .int .i64 n.init, .int .i64 n.final], .int .i64 most] w (RefExpPost w n most) := by
  have hlt := hn.2.len
  have hbA := (Below.refl w.heap.size w).alloc (Nat.le_refl _) (.cells #[vp, vt, .int .i64 n.init, .int .i64 n.final] 25)
  have hboxA := heap_alloc_new w (.cells #[vp, vt, .int .i64 n.init, .int .i64 n.final] 25)
  obtain ⟨W1, hW1⟩ : ∃ W1, w.alloc (.cells #[vp, vt, .int .i64 n.init, .int .i64 n.final] 25) = W1 := ⟨_, rfl⟩
  have hs1 : W1.heap.size = w.heap.size + 1 := by rw [← hW1]; exact World.size_alloc _ _
  rw [hW1] at hbA hboxA
  have hn1 := hn.mono (hbA.mono hB) (show B ≤ W1.heap.size by omega)
  obtain ⟨ap, cp, rfl⟩ := hn.1.val
  obtain ⟨at_, ct, rfl⟩ := hn.2.val
  obtain ⟨c0, c1, c2, c3⟩ := box4' hboxA
  have hs1a : w.heap.size + 1 ≤ W1.heap.size := by omega
  have HC := Lib.hid (refcheck_any W1 _ _ n W1.heap.size (Nat.le_refl _) hn1)
  clear hs1
  cases hok : n.okB with
  | false =>
    have Hf : Hid (expR n most = .inl 1) := by unfold expR; rw [hok]; exact rfl
    have hce : n.checkE = 1 := by simp [Nt.checkE, hok]
    rw [hce] at HC
    clear hok hce
    go_enter Tryd.func14, Tryd.ntmps14
    go_wp2_with (first | (go_at_call 41; refine HC.out.mono ?_; rintro e w2 ⟨rfl, hb2⟩; refine Hid.out ?_))
    refine Lib.hid ?_
    go_wp2_with fail
    go_ret2
    exact ⟨hbA.trans (hb2.mono (by omega)), Or.inl ⟨1, Hf.out, rfl⟩⟩
  | true =>
    have hce : n.checkE = 0 := by simp [Nt.checkE, hok]
    rw [hce] at HC
    have ok := Lib.hid (Nt.ok_of hok)
    clear hce
    by_cases h1 : most < 1
    · have Hf : Hid (expR n most = .inl 1) := by unfold expR; rw [hok, if_pos rfl, if_pos h1]; exact rfl
      have hd1 : decide (most < 1) = true := decide_eq_true h1
      clear hok
      go_enter Tryd.func14, Tryd.ntmps14
      go_wp2_with (first | (go_at_call 41; refine HC.out.mono ?_; rintro e w2 ⟨rfl, hb2⟩; refine Hid.out ?_))
      refine Lib.hid ?_
      go_wp2_with fail
      go_ret2
      exact ⟨hbA.trans (hb2.mono (by omega)), Or.inl ⟨1, Hf.out, rfl⟩⟩
    · by_cases h2 : 1024 < most
      · have Hf : Hid (expR n most = .inl 1) := by unfold expR; rw [hok, if_pos rfl, if_neg h1, if_pos h2]; exact rfl
        have hd1 : decide (most < 1) = false := decide_eq_false h1
        have hd2 : decide (1024 < most) = true := decide_eq_true h2
        clear hok
        go_enter Tryd.func14, Tryd.ntmps14
        go_wp2_with (first | (go_at_call 41; refine HC.out.mono ?_; rintro e w2 ⟨rfl, hb2⟩; refine Hid.out ?_))
        refine Lib.hid ?_
        go_wp2_with fail
        go_ret2
        exact ⟨hbA.trans (hb2.mono (by omega)), Or.inl ⟨1, Hf.out, rfl⟩⟩
      · obtain ⟨M, rfl⟩ := Int.eq_ofNat_of_zero_le (show 0 ≤ most by omega)
        have Hf : Hid (expR n (M : Int) = match exploreE n M with | none => .inl 170 | some g => .inr g) := by unfold expR; rw [hok, if_pos rfl, if_neg h1, if_neg h2]; exact rfl
        have h1' : 1 ≤ M := by omega
        have h2' : M ≤ 1024 := by omega
        have hd1 : decide ((M : Int) < 1) = false := decide_eq_false h1
        have hd2 : decide (1024 < (M : Int)) = false := decide_eq_false h2
        have htwo := ok.out.two
        have hmany := ok.out.many
        have hnt := ok.out.trans
        have Hok := Lib.hid hok
        have HXF : Hid (XOk n M (rootG n)) := XOk.first hok h1'
        clear hok h1 h2
        go_enter Tryd.func14, Tryd.ntmps14
        go_wp2_with (first | (go_at_call 41; refine HC.out.mono ?_; rintro e w2 ⟨rfl, hb2⟩; refine Hid.out ?_))
        refine Lib.hid ?_
        clear hd1 hd2
        have hz2 := hb2.size
        have hx2 := (hb2.block w.heap.size (by omega)).trans hboxA
        clear c0 c1 c2 c3 HC
        obtain ⟨c0, c1, c2, c3⟩ := box4' hx2
        have hn2 := hn1.mono hb2 (show W1.heap.size ≤ w2.heap.size by omega)
        have HO : Hid (∀ u, Below w2.heap.size w2 u → Calls Tryd.prog 42 #[.agg #[.slice ap n.places.length cp, .slice at_ n.trans.length ct, .int .i64 n.init, .int .i64 n.final], .int .i64 n.init] u
            fun e w' => ∃ v, e = .returned v ∧ OwnI w' w2.heap.size v (oneL n.places.length n.init) ∧ Below w2.heap.size w2 w' ∧ u.heap.size ≤ w'.heap.size ∧ ∀ (b : Nat) (o : Obj), u.heap[b]? = some o → w'.heap[b]? = some o) := by
          refine Lib.hid fun u hu => ?_
          have := refone_any u _ _ n n.init u.heap.size (Nat.le_refl _) (hn2.mono hu hu.size) hmany
          rw [oneR_one ok.out.init.1 ok.out.init.2] at this
          refine this.mono ?_
          rintro e w' ⟨v, rfl, ho, hb⟩
          refine ⟨v, rfl, ho.lower hu.size, hu.trans (hb.mono hu.size), hb.size, fun b o h => (hb.block b ?_).trans h⟩
          rcases Nat.lt_or_ge b u.heap.size with h1 | h1
          · exact h1
          · rw [Array.getElem?_eq_none h1] at h; cases h
        have hol : Hid ((oneL n.places.length n.init).length = n.places.length) := by simp [oneL, Hid]
        have hwx : w.heap.size < w2.heap.size := by omega
        go_upto_region 3 with fail
        go_cut [6] (fun s6 wx => ∃ w3 p, w3 = wx ∧ s6 = .pointer (some ⟨p, 0, none⟩) ∧ HGr w3 w2.heap.size p (.slice ap n.places.length cp) (.slice at_ n.trans.length ct) n.init n.final (rootG n) ∧ Below w2.heap.size w2 w3)
        case first =>
          have hD : Below w2.heap.size w2 w2.drew := (Below.refl _ _).drew
          go_region_held3 (fun w' => w'.cell? ⟨w.heap.size, 0, none⟩ = some (.slice ap n.places.length cp) ∧ w'.cell? ⟨w.heap.size, 1, none⟩ = some (.slice at_ n.trans.length ct) ∧ w'.cell? ⟨w.heap.size, 2, none⟩ = some (.int .i64 n.init) ∧ w'.cell? ⟨w.heap.size, 3, none⟩ = some (.int .i64 n.final))
            (first | go_keep | (refine ⟨?_, ?_, ?_, ?_⟩ <;> (rw [Below.cellB b3 hwx]; assumption)))
            (first | (go_at_call 42; refine (HO.out _ (by first | exact hD | exact hD.alloc (by simp) _ | exact (hD.alloc (by simp) _).alloc (by simp) _)).mono ?_; rintro e w3 ⟨v3, rfl, how3, b3, hz3, hk3⟩; obtain ⟨a3, q3, rfl⟩ := how3.shape))
          all_goals go_wp2_with fail
          all_goals go_meet
          all_goals have hzs := b3.size
          all_goals (try simp only [World.size_alloc, heap_drew] at hz3)
          all_goals refine ⟨_, _, rfl, rfl, ?_, ?_⟩
          all_goals first
            | (refine Below.alloc ?_ (by first | omega | (simp only [World.size_alloc]; omega)) _; repeat (first | exact b3 | refine Below.alloc ?_ (by first | omega | (simp only [World.size_alloc]; omega)) _))
            | (apply root_own
               · simp only [alloc_get', World.size_alloc]; repeat (first | rfl | rw [if_pos trivial] | rw [if_pos (by omega)] | rw [if_neg (by omega)])
               · simp only [alloc_get', World.size_alloc]; repeat (first | rfl | rw [if_pos trivial] | rw [if_pos (by omega)] | rw [if_neg (by omega)] | (refine hk3 _ _ ?_; simp only [alloc_get', World.size_alloc, heap_drew]))
               · simp only [alloc_get', World.size_alloc]; repeat (first | rfl | rw [if_pos trivial] | rw [if_pos (by omega)] | rw [if_neg (by omega)] | (refine hk3 _ _ ?_; simp only [alloc_get', World.size_alloc, heap_drew]))
               · simp only [alloc_get', World.size_alloc]; repeat (first | rfl | rw [if_pos trivial] | rw [if_pos (by omega)] | rw [if_neg (by omega)] | (refine hk3 _ _ ?_; simp only [alloc_get', World.size_alloc, heap_drew]))
               · refine ⟨?_, ?_, ?_, ?_⟩ <;> omega
               · refine how3.kept ?_ (Nat.le_refl _)
                 repeat (first | exact Below.refl _ _ | refine Below.alloc ?_ (by first | omega | (simp only [World.size_alloc]; omega)) _))
            | skip
        case rest =>
          obtain ⟨w3, p, rfl, rfl, hG3, hb3⟩ := hcut
          have HG3 := Lib.hid hG3
          have hb13 : Below W1.heap.size W1 w3 := hb2.trans (hb3.mono hz2)
          have HX : Hid (XOk n M (rootG n)) := HXF
          have HEx : Hid (exF n M (M + 1) 0 (rootG n) = exploreE n M) := rfl
          have hr1 : (rootG n).marks.length ≤ M := by simpa [rootG] using h1'
          clear hG3 hb3 c0 c1 c2 c3 HO hx2 HXF hwx
          go_wp2_with fail
          go_loopg [7] (M + 1) (fun gh s7 wr => ∃ (i : Nat) (g : Gr), i + gh = M + 1 ∧ s7 = .int .i64 (i : Int) ∧ Hid (exF n M (M + 1 - i) i g = exploreE n M) ∧ Hid (XOk n M g) ∧ g.marks.length ≤ M ∧ i ≤ g.marks.length ∧ Hid (∀ j, i ≤ j → edAt g j = []) ∧
            Hid (HGr wr w2.heap.size p (.slice ap n.places.length cp) (.slice at_ n.trans.length ct) n.init n.final g) ∧ Below W1.heap.size W1 wr)
          case atStart => exact ⟨0, rootG n, by omega, rfl, HEx, HX, hr1, by omega, rootG_edges n, HG3, hb13⟩
          case round =>
            obtain ⟨i, g, hig, rfl, hEx, hX, hgM, hil, hEm, hG, hbel⟩ := hrel
            clear HEx HX HG3 hr1 hb13
            have hwr := hbel.size
            have hxr := (hbel.block w.heap.size (by omega)).trans hboxA
            obtain ⟨c0, c1, c2, c3⟩ := box4' hxr
            obtain ⟨vM, vE, vF, Ms, Es, hO, hMe, hEe⟩ := hG.out
            obtain ⟨aM, cM, rfl⟩ := OwnF.shape hO.rowM
            have hMl : Ms.length = g.marks.length := by rw [← hMe]; simp
            rw [hMl] at hO
            obtain ⟨k1, k4, k5, k6⟩ := hbox hO.box
            have hptw := lt_of_block hO.box
            by_cases hi : i < g.marks.length
            · obtain ⟨hMk, hMs⟩ := hX.out.mark i hi
              have emk := mkAt_eq hi
              rw [← emk] at hMk hMs
              obtain ⟨mk, hmk⟩ : ∃ mk, mkAt g i = mk := ⟨_, rfl⟩
              rw [hmk] at hMk hMs
              have hIn : Hid ((exIn n M i (enGo mk (n.trans.drop 0) 0) g).bind (exF n M (M + 1 - (i + 1)) (i + 1)) = exploreE n M) := by
                refine Lib.hid ?_
                rw [← hEx.out, show M + 1 - i = (M + 1 - (i + 1)) + 1 by omega, exF, if_pos hi, hmk]; rfl
              have HMK := Lib.hid hmk
              have HMk := Lib.hid hMk
              have HLen := Lib.hid hMk.len
              have HEd : Hid (∀ j, i < j → edAt g j = []) := fun j hj => hEm.out j (by omega)
              have hEl : (edAt g i).length ≤ 0 := by rw [hEm.out i (Nat.le_refl _)]; exact Nat.le_refl _
              clear emk hmk hMk hMs hEm hEx hO hMe hEe hMl
              go_wp2_with fail
              go_loopg [8] n.trans.length (fun gh s8 wx => ∃ (k : Nat) (g : Gr), k + gh = n.trans.length ∧ s8 = .int .i64 (k : Int) ∧ Hid ((exIn n M i (enGo mk (n.trans.drop k) k) g).bind (exF n M (M + 1 - (i + 1)) (i + 1)) = exploreE n M) ∧ Hid (XOk n M g) ∧ g.marks.length ≤ M ∧ i < g.marks.length ∧ Hid (mkAt g i = mk) ∧ (edAt g i).length ≤ k ∧ Hid (∀ j, i < j → edAt g j = []) ∧
                Hid (HGr wx w2.heap.size p (.slice ap n.places.length cp) (.slice at_ n.trans.length ct) n.init n.final g) ∧ Below W1.heap.size W1 wx)
              case atStart => exact ⟨0, g, by omega, rfl, hIn, hX, hgM, hi, HMK, hEl, HEd, hG, hbel⟩
              case round =>
                clear hIn hX hgM hi HMK hEl HEd hG hbel hil hxr c0 c1 c2 c3 k1 k4 k5 k6 hptw hwr
                obtain ⟨k, g, hkg, rfl, hIn, hX, hgM, hi, hMK, hEl, hEd, hG, hbel⟩ := hrel
                have hwr := hbel.size
                have hxr := (hbel.block w.heap.size (by omega)).trans hboxA
                obtain ⟨c0, c1, c2, c3⟩ := box4' hxr
                by_cases hk : k < n.trans.length
                · obtain ⟨vM, vE, vF, Ms, Es, hO, hMe, hEe⟩ := hG.out
                  have HO := Lib.hid hO
                  have hbw : Below w.heap.size w wr := hbA.trans (hbel.mono (by omega))
                  have hMl : Ms.length = g.marks.length := by rw [← hMe]; simp
                  have hxe := hX.out.elen
                  have hEl2 : Es.length = g.edges.length := by rw [← hEe]; simp
                  have hrM : ∀ x ∈ Ms, x.1.length ≤ 4096 := by
                    intro x hx
                    have h1 : x.1 ∈ g.marks := by rw [← hMe]; exact List.mem_map_of_mem hx
                    obtain ⟨j, hj, e⟩ := List.getElem_of_mem h1
                    rw [← e, (hX.out.mark j hj).1.len]; exact hmany
                  have hVM := hO.readM (by omega) hrM
                  rw [hMe] at hVM
                  obtain ⟨aM, cM, rfl⟩ := hVM.val
                  obtain ⟨k1, k4, k5, k6⟩ := hbox hO.box
                  have hptw := lt_of_block hO.box
                  obtain ⟨bM, oM, u, rfl, hbM, hcu, hu⟩ := hVM.at i hi
                  have emk : g.marks[i] = mk := by rw [← hMK.out, mkAt_eq hi]
                  rw [emk] at hu
                  obtain ⟨au, cu, rfl⟩ := hu.val
                  obtain ⟨bt, ot, vi, vo, rfl, hbt2, h0, h1, h2, hii, hoo⟩ := hn.2.col k hk
                  rw [← Below.cellB hbw (by omega)] at h0 h1 h2
                  have hmem := List.getElem_mem hk
                  have hin := ok.out.inn _ hmem
                  have hout := ok.out.out _ hmem
                  have htr : n.tr (k : Int) = n.trans[k] := by simp [Nt.tr, hk]
                  have hdr : enGo mk (n.trans.drop k) k = if n.trans[k].enB mk then (k : Int) :: enGo mk (n.trans.drop (k + 1)) (k + 1) else enGo mk (n.trans.drop (k + 1)) (k + 1) := by rw [List.drop_eq_getElem_cons hk, enGo]
                  have hen0 : n.trans[k].enB mk = true → (k : Int) ∈ n.enE mk := fun e => enE_of hk e
                  have hbase := hO.le
                  obtain ⟨x, hx⟩ : ∃ x, n.trans[k] = x := ⟨_, rfl⟩
                  rw [hx] at h0 hin hout hdr hii hoo htr hen0 hmem
                  have HTR := Lib.hid htr
                  have HMem := Lib.hid hmem
                  have HIn0 := Lib.hid hen0
                  have Hdr := Lib.hid hdr
                  have HEM := Lib.hid emk
                  obtain ⟨ai, ci, rfl⟩ := hii.val
                  obtain ⟨ao, co, rfl⟩ := hoo.val
                  have hbDB : Below B w wr := hbw.mono hB
                  have hix := hii.mono hbDB (show B ≤ wr.heap.size by omega)
                  have hox := hoo.mono hbDB (show B ≤ wr.heap.size by omega)
                  have hml := HLen.out
                  have hpi : Hid (PlacesOk mk.length x.inn) := by rw [hml]; exact hin.1
                  have hpo : Hid (PlacesOk mk.length x.out) := by rw [hml]; exact hout.1
                  have hm4 : mk.length ≤ 4096 := by omega
                  have hltw : w.heap.size < wr.heap.size := by omega
                  have hbtw : bt < wr.heap.size := by omega
                  have HF : Hid (∀ W : World, Below wr.heap.size wr W → W.cell? ⟨w.heap.size, 1, none⟩ = some (.slice (some ⟨bt, ot, none⟩) n.trans.length ct) ∧ W.cell? ⟨bt, ot + k * 3, none⟩ = some (.string x.label) ∧ W.cell? ⟨bt, ot + k * 3 + 1, none⟩ = some (.slice ai x.inn.length ci) ∧ W.cell? ⟨bt, ot + k * 3 + 2, none⟩ = some (.slice ao x.out.length co) ∧
                      W.cell? ⟨p, 4, none⟩ = some (.slice (some ⟨bM, oM, none⟩) g.marks.length cM) ∧ W.cell? ⟨bM, oM + i, none⟩ = some (.slice au mk.length cu)) := by
                    refine Lib.hid fun W hb => ⟨?_, ?_, ?_, ?_, ?_, ?_⟩
                    · rw [Below.cellB hb hltw]; exact c1
                    · rw [Below.cellB hb hbtw]; exact h0
                    · rw [Below.cellB hb hbtw]; exact h1
                    · rw [Below.cellB hb hbtw]; exact h2
                    · rw [Below.cellB hb hptw]; exact k4
                    · rw [Below.cellB hb hbM]; exact hcu
                  have HVM := Lib.hid hVM
                  have hD : Below wr.heap.size wr wr.drew := (Below.refl _ _).drew
                  have HIS := Lib.hid (fun b (e : x.enB mk = b) => refis_is wr.drew wr.heap.size (Nat.le_refl _) x _ (.slice ao x.out.length co) _ mk (hix.mono hD (Nat.le_refl _)) (hu.mono hD (Nat.le_refl _)) hpi.out HMk.out.tok e)
                  have HIX := Lib.hid hix
                  have HOX := Lib.hid hox
                  have HU := Lib.hid hu
                  clear hx hdr htr hen0 hmem emk hVM hO hMe hEe hMl hEl2 hrM hxe hin hout hml hix hox hu k5 k6 h0 h1 h2 hii hoo k1 c0 c2 c3 c1 k4 hcu
                  obtain ⟨c1, h0, h1, h2, k4, hcu⟩ := HF.out wr (Below.refl _ _)
                  cases hen : x.enB mk with
                  | false =>
                    have HA := Lib.hid (HIS.out false hen)
                    have hI2 : Hid ((exIn n M i (enGo mk (n.trans.drop (k + 1)) (k + 1)) g).bind (exF n M (M + 1 - (i + 1)) (i + 1)) = exploreE n M) := by rw [← hIn.out, Hdr.out, hen]; exact rfl
                    clear hen HIS
                    go_wp2_with fail
                    go_region_held3 (fun w' => w'.cell? ⟨w.heap.size, 1, none⟩ = some (.slice (some ⟨bt, ot, none⟩) n.trans.length ct) ∧ w'.cell? ⟨bt, ot + k * 3, none⟩ = some (.string x.label) ∧ w'.cell? ⟨bt, ot + k * 3 + 1, none⟩ = some (.slice ai x.inn.length ci) ∧ w'.cell? ⟨bt, ot + k * 3 + 2, none⟩ = some (.slice ao x.out.length co) ∧ w'.cell? ⟨p, 4, none⟩ = some (.slice (some ⟨bM, oM, none⟩) g.marks.length cM) ∧ w'.cell? ⟨bM, oM + i, none⟩ = some (.slice au mk.length cu))
                      (first | go_keep | exact HF.out _ hB6)
                      (first | (go_at_call 43; refine HA.out.mono ?_; rintro e w6 ⟨rfl, hb6⟩; have hB6 : Below wr.heap.size wr w6 := hD.trans hb6))
                    go_wp2_with fail
                    go_roundg (gk - 1)
                    case measure => omega
                    case rel => exact ⟨k + 1, g, by omega, by go_num, hI2, hX, hgM, hi, hMK, by omega, hEd, Lib.hid (hG.out.kept hB6), hbel.trans (hB6.mono hwr)⟩
                  | true =>
                    have HA := Lib.hid (HIS.out true hen)
                    have HEN := Lib.hid hen
                    clear hen HIS
                    go_wp2_with fail
                    go_region_held3 (fun w' => w'.cell? ⟨w.heap.size, 1, none⟩ = some (.slice (some ⟨bt, ot, none⟩) n.trans.length ct) ∧ w'.cell? ⟨bt, ot + k * 3, none⟩ = some (.string x.label) ∧ w'.cell? ⟨bt, ot + k * 3 + 1, none⟩ = some (.slice ai x.inn.length ci) ∧ w'.cell? ⟨bt, ot + k * 3 + 2, none⟩ = some (.slice ao x.out.length co) ∧ w'.cell? ⟨p, 4, none⟩ = some (.slice (some ⟨bM, oM, none⟩) g.marks.length cM) ∧ w'.cell? ⟨bM, oM + i, none⟩ = some (.slice au mk.length cu))
                      (first | go_keep | exact HF.out _ hB6)
                      (first | (go_at_call 43; refine HA.out.mono ?_; rintro e w6 ⟨rfl, hb6⟩; have hB6 : Below wr.heap.size wr w6 := hD.trans hb6))
                    clear c1 h0 h1 h2 k4 hcu HA
                    obtain ⟨c1, h0, h1, h2, k4, hcu⟩ := HF.out w6 hB6
                    have hz6 := hB6.size
                    have hD6 : Below wr.heap.size wr w6.drew := hB6.drew
                    obtain ⟨r, hr⟩ : ∃ r, fireG n g i (k : Int) = r := ⟨_, rfl⟩
                    have hr2 : (x.fireE mk).2 = r := by rw [← hr, ← HTR.out]; unfold fireG; rw [hMK.out]
                    obtain ⟨q, hq, hqt, hq0, hqM⟩ := hX.out.fires h2' hi (t := (k : Int)) (by rw [hMK.out]; exact HIn0.out HEN.out)
                    obtain rfl : k = q := by omega
                    rw [hMK.out, HTR.out] at hq0
                    rw [hr] at hqM
                    have HAF : Hid (Calls Tryd.prog 44 #[.agg #[.string x.label, .slice ai x.inn.length ci, .slice ao x.out.length co], .slice au mk.length cu] w6.drew fun e w' => ∃ v bo, e = .returned (.tuple #[v, .bool bo]) ∧ OwnI w' w6.heap.size v r ∧ Below w6.heap.size w6 w') := by
                      refine Lib.hid ((refafter15_any w6.drew wr.heap.size (by simp; omega) x _ _ _ mk (HIX.out.mono hD6 (Nat.le_refl _)) (HOX.out.mono hD6 (Nat.le_refl _)) (HU.out.mono hD6 (Nat.le_refl _)) HMk.out.tok hm4).mono ?_)
                      rintro e w' ⟨v, rfl, ho, hb⟩
                      refine ⟨v, _, rfl, ?_, ?_⟩
                      · rw [← hr2, ← aftDL_fire HMk.out HMem.out hq0]; exact ho
                      · exact ((Below.refl w6.heap.size w6).drew).trans hb
                    have HR := Lib.hid hr
                    have HRM := Lib.hid hqM
                    have HRl := Lib.hid hqM.len
                    clear hq hqt hr hr2 hq0 hqM
                    go_wp2_with fail
                    go_region_held3 (fun w' => w'.cell? ⟨w.heap.size, 1, none⟩ = some (.slice (some ⟨bt, ot, none⟩) n.trans.length ct) ∧ w'.cell? ⟨bt, ot + k * 3, none⟩ = some (.string x.label) ∧ w'.cell? ⟨bt, ot + k * 3 + 1, none⟩ = some (.slice ai x.inn.length ci) ∧ w'.cell? ⟨bt, ot + k * 3 + 2, none⟩ = some (.slice ao x.out.length co) ∧ w'.cell? ⟨p, 4, none⟩ = some (.slice (some ⟨bM, oM, none⟩) g.marks.length cM) ∧ w'.cell? ⟨bM, oM + i, none⟩ = some (.slice au mk.length cu))
                      (first | go_keep | exact HF.out _ hB8)
                      (first | (go_at_call 44; refine HAF.out.mono ?_; rintro e w8 ⟨v8, bo, rfl, how8, hb8⟩; have hB8 : Below wr.heap.size wr w8 := hB6.trans (hb8.mono hz6)))
                    obtain ⟨a8, q8, rfl⟩ := how8.shape
                    clear c1 h0 h1 h2 k4 hcu HAF
                    obtain ⟨c1, h0, h1, h2, k4, hcu⟩ := HF.out w8 hB8
                    have hz8 := hB8.size
                    have HG8 := Lib.hid (hG.out.kept hB8)
                    have hI8 : Ints w8 w8.heap.size (.slice a8 r.length q8) r := how8.col (by rw [HRl.out]; omega) (Nat.le_refl _)
                    obtain ⟨f, hf⟩ : ∃ f, findM g.marks r = f := ⟨_, rfl⟩
                    have HFI := Lib.hid (reffind_is w8 w8.heap.size p _ _ g.marks r k4 (VCol.mono (R := Ints) (fun a b c => ColV.mono a b c) HVM.out hB8 hz8) hI8 hf)
                    have HFE := Lib.hid hf
                    have Hrange := findM_range g.marks r
                    rw [hf] at Hrange
                    clear hf c1 h0 h1 h2 hcu
                    go_wp2_with (first | (go_at_call 17; refine HFI.out.mono ?_; rintro e w9 ⟨rfl, n9, rfl⟩; refine Hid.out ?_))
                    refine Lib.hid ?_
                    obtain ⟨w9, hw9⟩ : ∃ w9, w8.drewN n9 = w9 := ⟨_, rfl⟩
                    have hb89 : Below w8.heap.size w8 w9 := by rw [← hw9]; exact below_drewN' n9
                    rw [hw9]
                    have HG9 := Lib.hid (HG8.out.kept hb89)
                    have hB9 := hB8.trans (hb89.mono hz8)
                    have how9 := Lib.hid ((how8.lower (show w2.heap.size ≤ w6.heap.size by omega)).kept hb89 (Nat.le_refl _))
                    clear hw9 hb89 HG8 hI8 HFI how8 k4
                    go_upto_if 84 with fail
                    go_cut [11] (fun s11 wx => ∃ w13 ix, w13 = wx ∧ s11 = .int .i64 ix ∧ Hid (g.idx r = ix) ∧ ix < (M : Int) ∧ Hid (HGr w13 w2.heap.size p (.slice ap n.places.length cp) (.slice (some ⟨bt, ot, none⟩) n.trans.length ct) n.init n.final (g.put r ((k : Int), (i : Int)))) ∧ Below w2.heap.size w9 w13)
                    case first =>
                      by_cases hf0 : 0 ≤ f
                      · have hd : decide (f < 0) = false := decide_eq_false (by omega)
                        have Hix : Hid (g.idx r = f) := by unfold Gr.idx; rw [HFE.out, if_pos hf0]; exact rfl
                        have Hput : Hid (g.put r ((k : Int), (i : Int)) = g) := by unfold Gr.put; rw [HFE.out, if_pos hf0]; exact rfl
                        go_wp2_with fail
                        go_meet
                        exact ⟨_, _, rfl, rfl, Hix, by omega, by rw [Hput.out]; exact HG9, Below.refl _ _⟩
                      · have hd : decide (f < 0) = true := decide_eq_true (by omega)
                        have Hix : Hid (g.idx r = (g.marks.length : Int)) := by unfold Gr.idx; rw [HFE.out, if_neg hf0]; exact rfl
                        have Hput : Hid (g.put r ((k : Int), (i : Int)) = ⟨g.marks ++ [r], g.edges ++ [[]], g.src ++ [((k : Int), (i : Int))]⟩) := by unfold Gr.put; rw [HFE.out, if_neg hf0]; exact rfl
                        obtain ⟨vM, vE, vF, Ms, Es, hO, hMe, hEe⟩ := HG9.out
                        have hMl : Ms.length = g.marks.length := by rw [← hMe]; simp
                        have hEl2 : Es.length = g.edges.length := by rw [← hEe]; simp
                        have HMe := Lib.hid hMe
                        have HEe := Lib.hid hEe
                        have hxe := hX.out.elen
                        have hxs := hX.out.slen
                        have hM4 : Ms.length ≤ 1024 := by omega
                        have hE4 : Es.length ≤ 1024 := by omega
                        have hF4 : g.src.length ≤ 1024 := by omega
                        have HML := Lib.hid hMl
                        obtain ⟨aM, cM, rfl⟩ := OwnF.shape hO.rowM
                        rw [hMl] at hO
                        obtain ⟨k1, k4, k5, k6⟩ := hbox hO.box
                        have hpf := free_of_block hO.box
                        have hf4 := hpf 4
                        clear hMe hEe hMl hEl2 hxe hxs hpf
                        by_cases hfull : g.marks.length = M
                        · have hb1 : ((g.marks.length : Int) == (M : Int)) = true := by simp [hfull]
                          have hb2 : (g.marks.length == M) = true := by simp [hfull]
                          have Hnone : Hid (expR n (M : Int) = .inl 170) := by
                            refine Lib.hid ?_
                            rw [Hf.out, ← hIn.out, Hdr.out, HEN.out, if_pos rfl, exIn, HR.out, Hix.out, if_pos (by omega)]; rfl
                          clear hfull hO
                          go_wp2_with fail
                          go_ret2
                          exact ⟨hbA.trans ((hbel.trans (hB9.mono hwr)).mono (by omega)), Or.inl ⟨170, Hnone.out, rfl⟩⟩
                        · have hb1 : ((g.marks.length : Int) == (M : Int)) = false := by simp; omega
                          have hb2 : (g.marks.length == M) = false := by simp [hfull]
                          have hltM : (g.marks.length : Int) < (M : Int) := by omega
                          have hz9 := hB9.size
                          obtain ⟨i1, ht1, hz10, hz11, hz12⟩ := info_parts info_sl
                          obtain ⟨i2, ht2, hz20, hz21, hz22⟩ := info_parts info_re
                          obtain ⟨i3, ht3, hz30, hz31, hz32⟩ := info_parts info_rp
                          have hbN : Below w9.heap.size w9 (w9.alloc (.cells #[.slice a8 r.length q8] 26)) := (Below.refl _ _).alloc (Nat.le_refl _) _
                          have HO := Lib.hid (hO.kept hbN)
                          have HRow := Lib.hid (hO.kept hbN).rowM
                          have HB := Lib.hid hbN
                          have Hhow := Lib.hid (how9.out.kept hbN (Nat.le_refl _))
                          have hbase9 : w2.heap.size ≤ w9.heap.size := hO.le
                          clear hfull hO hbN
                          go_wp2_with (at_builtin; go_must (refine wpList_append_own_at _ rfl _ _ 41 rfl w2.heap.size 26 i1 (.slice none 0 0) 1 24 Tryd.underlying41 ht1 hz10 hz11 hz12 rfl (by decide) _ Ms.length (cellsF cellM Ms) rfl HRow.out ⟨w9.heap.size, 0, none⟩ 1 1 (cellM (r, .slice a8 r.length q8)) rfl rfl (cells_new _ _ _) (one_M _ rfl) (by unfold maxLen; omega) (by omega) (by simp; omega) ?_; intro v10 w10 hown10 hg10 _ hat10; refine Hid.out ?_))
                          refine Lib.hid ?_
                          have rM10 := OwnF.newer (f := cellM) (x := (r, .slice a8 r.length q8)) hown10
                          obtain ⟨a10, c10, rfl⟩ := OwnF.shape1 rM10
                          obtain ⟨hO11, hK11⟩ := HO.out.pushM hg10 rM10 Hhow.out
                          have hP10 := lit_other HO.out.box HO.out.rowM (by decide) hg10
                          obtain ⟨-, k4, -, -⟩ := hbox hP10
                          have hf4 := free_of_block hP10 4
                          have hB11 := (HB.out.mono hbase9).trans hK11.1
                          clear k1 k5 k6 hP10 rM10 hown10 hg10 hat10
                          go_upto_region 18 with fail
                          obtain ⟨w11, hw11⟩ : ∃ w11, w10.setCell ⟨p, 4, none⟩ (.slice a10 (Ms.length + 1) c10) = w11 := ⟨_, rfl⟩
                          rw [hw11] at hO11 hB11
                          rw [hw11]
                          clear hw11 hK11 HO HRow HB Hhow k4 hf4
                          obtain ⟨aE, cE, rfl⟩ := OwnF.shape hO11.grid.row
                          obtain ⟨-, -, k5, -⟩ := hbox hO11.box
                          have hbN : Below w11.heap.size w11 (w11.alloc (.cells #[.slice none 0 0] 43)) := (Below.refl _ _).alloc (Nat.le_refl _) _
                          have HO := Lib.hid (hO11.kept hbN)
                          have HRow := Lib.hid (hO11.kept hbN).grid.row
                          have HB := Lib.hid hbN
                          have hbase11 : w2.heap.size ≤ w11.heap.size := hO11.le
                          clear hO11 hbN
                          go_wp2_with (at_builtin; go_must (refine wpList_append_own_at _ rfl _ _ 42 rfl w2.heap.size 43 i2 (.slice none 0 0) 1 24 Tryd.underlying42 ht2 hz20 hz21 hz22 rfl (by decide) _ Es.length (cellsF cell1 Es) rfl HRow.out ⟨w11.heap.size, 0, none⟩ 1 1 (cell1 (([] : List (Int × Int)), .slice none 0 0)) rfl rfl (cells_new _ _ _) (one_1 _ rfl) (by unfold maxLen; omega) (by omega) (by simp; omega) ?_; intro v12 w12 hown12 hg12 _ hat12; refine Hid.out ?_))
                          refine Lib.hid ?_
                          have rM12 := OwnF.newer (f := cell1) (x := (([] : List (Int × Int)), Value.slice none 0 0)) hown12
                          obtain ⟨a12, c12, rfl⟩ := OwnF.shape1 rM12
                          obtain ⟨hO13, hK13⟩ := HO.out.pushE hg12 rM12
                          have hP12 := lit_other HO.out.box HO.out.grid.row (by decide) hg12
                          obtain ⟨-, -, k5, -⟩ := hbox hP12
                          have hf5 := free_of_block hP12 5
                          have hB13 := hB11.trans ((HB.out.mono hbase11).trans hK13.1)
                          clear hP12 rM12 hown12 hg12 hat12 hB11
                          go_upto_region 19 with fail
                          obtain ⟨w13, hw13⟩ : ∃ w13, w12.setCell ⟨p, 5, none⟩ (.slice a12 (Es.length + 1) c12) = w13 := ⟨_, rfl⟩
                          rw [hw13] at hO13 hB13
                          rw [hw13]
                          clear hw13 hK13 HO HRow HB k5 hf5
                          obtain ⟨aF, cF, rfl⟩ := OwnF.shape hO13.rowF
                          obtain ⟨-, -, -, k6⟩ := hbox hO13.box
                          have hbN : Below w13.heap.size w13 (w13.alloc (.cells #[.int .i64 (k : Int), .int .i64 (i : Int)] 80)) := (Below.refl _ _).alloc (Nat.le_refl _) _
                          have HO := Lib.hid (hO13.kept hbN)
                          have HRow := Lib.hid (hO13.kept hbN).rowF
                          have HB := Lib.hid hbN
                          have hbase13 : w2.heap.size ≤ w13.heap.size := hO13.le
                          clear hO13 hbN
                          go_wp2_with (at_builtin; go_must (refine wpList_append_own_at _ rfl _ _ 43 rfl w2.heap.size 80 i3 (.agg #[.int .i64 0, .int .i64 0]) 2 16 Tryd.underlying43 ht3 hz30 hz31 hz32 rfl (by decide) _ g.src.length (cellsF cellE g.src) rfl HRow.out ⟨w13.heap.size, 0, none⟩ 1 1 (cellE ((k : Int), (i : Int))) rfl rfl (cells_new _ _ _) (one_F _) (by unfold maxLen; omega) (by omega) (by simp; omega) ?_; intro v14 w14 hown14 hg14 _ hat14; refine Hid.out ?_))
                          refine Lib.hid ?_
                          have rM14 := OwnF.newer (f := cellE) (x := ((k : Int), (i : Int))) hown14
                          obtain ⟨a14, c14, rfl⟩ := OwnF.shape1 rM14
                          obtain ⟨hO15, hK15⟩ := HO.out.pushF hg14 rM14 (hat14.imp id (fun e => ⟨_, e, Nat.le_refl _⟩))
                          have hP14 := lit_other HO.out.box HO.out.rowF (by decide) hg14
                          obtain ⟨-, -, -, k6⟩ := hbox hP14
                          have hf6 := free_of_block hP14 6
                          have hB15 := hB13.trans ((HB.out.mono hbase13).trans hK15.1)
                          have HG15 : Hid (HGr (w14.setCell ⟨p, 6, none⟩ (.slice a14 (g.src.length + 1) c14)) w2.heap.size p (.slice ap n.places.length cp) (.slice (some ⟨bt, ot, none⟩) n.trans.length ct) n.init n.final (g.put r ((k : Int), (i : Int)))) := by
                            rw [Hput.out]
                            exact ⟨_, _, _, _, _, hO15, by rw [List.map_append, HMe.out]; rfl, by rw [List.map_append, HEe.out]; rfl⟩
                          clear hP14 rM14 hown14 hg14 hat14 hB13 HO HRow HB hO15
                          go_wp2_with fail
                          go_meet
                          exact ⟨_, _, rfl, rfl, Hix, hltM, HG15, hB15⟩
                    case rest =>
                      obtain ⟨w13, ix, rfl, rfl, Hix, hltM, HG13, hB13⟩ := hcut
                      obtain ⟨vM, vE, vF, Ms, Es, hO, hMe, hEe⟩ := HG13.out
                      have hput := Lib.hid (edAt_put g r ((k : Int), (i : Int)) i)
                      have hxe := Lib.hid hX.out.elen
                      have hEsl : Es.length = (g.put r ((k : Int), (i : Int))).edges.length := by rw [← hEe]; simp
                      have hpl := put_elen g r ((k : Int), (i : Int))
                      have hiE : i < Es.length := by
                        have := hxe.out
                        rw [hEsl, hpl]; split <;> omega
                      have hEsN : Es.length ≤ 4096 := by
                        have := hxe.out
                        rw [hEsl, hpl]; split <;> omega
                      have hadd := addE_at hEe hiE
                      obtain ⟨gE, cE, rfl, hbE, hcX, ⟨curE, hghE⟩, hEd9⟩ := hO.grid.at hiE
                      obtain ⟨k1, k4, k5, k6⟩ := hbox hO.box
                      have hP9 := hO.box
                      have HO := Lib.hid hO
                      have HEe := Lib.hid hEe
                      have HMe := Lib.hid hMe
                      obtain ⟨aX, cX, hvX⟩ := OwnF.shape hEd9
                      obtain ⟨lX, hlX⟩ : ∃ lX, Es[i].1 = lX := ⟨_, rfl⟩
                      rw [hlX] at hvX hEd9 hadd
                      rw [hvX] at hEd9 hcX
                      have hXk : lX.length ≤ k := by rw [← hadd, hput.out]; exact hEl
                      have hXl : lX.length ≤ 8192 := by omega
                      have HLX := Lib.hid hlX
                      have HVX := Lib.hid hvX
                      have hci : curE[i]? = some (.slice aX lX.length cX) := by rw [← cell_of_block hghE]; exact hcX
                      have HCI := Lib.hid hci
                      have hgEl := lt_of_block hghE
                      have hpl9 := lt_of_block hP9
                      obtain ⟨i3, ht3, hz30, hz31, hz32⟩ := info_parts info_rp
                      have hbW := ((Below.refl w13.heap.size w13).alloc (Nat.le_refl _) (.cells #[.int .i64 (k : Int), .int .i64 ix] 80)).drew
                      have hEW := OwnF.kept hEd9 hbW
                      have hghW := (hbW.block _ hgEl).trans hghE
                      have hPW := (hbW.block _ hpl9).trans hP9
                      have HBW := Lib.hid hbW
                      have HStep : Hid (stepG n i g (k : Int) = (g.put r ((k : Int), (i : Int))).addE i ((k : Int), ix)) := by refine Lib.hid ?_; unfold stepG; rw [HR.out, Hix.out]
                      have hbase13 : w2.heap.size ≤ w13.heap.size := hO.le
                      have hB913 : Below W1.heap.size W1 w13 := (hbel.trans (hB9.mono hwr)).trans (hB13.mono hz2)
                      have hfin : ∀ (w6 : World) (u : Value), RowR w6 w2.heap.size u (lX ++ [((k : Int), ix)]) → ((w13.alloc (.cells #[.int .i64 (k : Int), .int .i64 ix] 80)).drew).grownBy w6 (Value.slice aX lX.length cX).ownBlock →
                          (u.ownBlock = (Value.slice aX lX.length cX).ownBlock ∨ u.ownBlock = some ((w13.alloc (.cells #[.int .i64 (k : Int), .int .i64 ix] 80)).drew).heap.size) →
                          ∃ (k' : Nat) (g' : Gr), k' + (gk - 1) = n.trans.length ∧ Value.int .i64 ((k : Int) + 1) = .int .i64 (k' : Int) ∧ Hid ((exIn n M i (enGo mk (n.trans.drop k') k') g').bind (exF n M (M + 1 - (i + 1)) (i + 1)) = exploreE n M) ∧ Hid (XOk n M g') ∧ g'.marks.length ≤ M ∧ i < g'.marks.length ∧ Hid (mkAt g' i = mk) ∧ (edAt g' i).length ≤ k' ∧ Hid (∀ j, i < j → edAt g' j = []) ∧
                          Hid (HGr (w6.setCell ⟨gE, i, none⟩ u) w2.heap.size p (.slice ap n.places.length cp) (.slice (some ⟨bt, ot, none⟩) n.trans.length ct) n.init n.final g') ∧ Below W1.heap.size W1 (w6.setCell ⟨gE, i, none⟩ u) := by
                        intro w6 u hR hg hat
                        have hA := (HOwn.kept HO.out HBW.out).addE hiE (w1 := w6) (x := ((k : Int), ix)) (u := u) (by rw [HVX.out]; exact hg) (by rw [HLX.out]; exact hR) (by rw [HVX.out]; exact hat.imp id (fun e => ⟨_, e, Nat.le_refl _⟩))
                        have hlt : g.idx (fireG n g i (k : Int)) < (M : Int) := by rw [HR.out, Hix.out]; omega
                        have hmem : (k : Int) ∈ n.enE (mkAt g i) := by rw [hMK.out]; exact HIn0.out HEN.out
                        have hx' := hX.out.step h2' hi hmem hlt
                        have hsl := step_len n i g (k : Int)
                        have hie : i < g.edges.length := by rw [hxe.out]; exact hi
                        refine ⟨k + 1, stepG n i g (k : Int), by omega, by go_num, Lib.hid ?_, Lib.hid hx', hx'.le, by split at hsl <;> omega, Lib.hid (by rw [step_mkAt n i g _ hi]; exact hMK.out), ?_, Lib.hid (fun j hj => ?_), Lib.hid ?_, hB913.trans ((HBW.out.mono (by omega)).trans (hA.2.1.mono hz2))⟩
                        · rw [← hIn.out, Hdr.out, HEN.out, if_pos rfl, exIn, HR.out, Hix.out, if_neg (by omega)]
                        · rw [step_edAt n hie, if_pos rfl, List.length_append, List.length_singleton]; omega
                        · rw [step_edAt n hie, if_neg (by omega)]; exact hEd.out j hj
                        · rw [HStep.out]
                          refine ⟨_, _, _, _, _, hA.1, HMe.out, ?_⟩
                          rw [List.map_set, HEe.out]
                          show _ = (g.put r ((k : Int), (i : Int))).edges.set i (edAt (g.put r ((k : Int), (i : Int))) i ++ [((k : Int), ix)])
                          rw [addE_at HEe.out hiE]
                      have HFin := Lib.hid hfin
                      clear hfin hbW hO hMe hEe hEsl hpl hadd hlX hvX hci hghE hP9 k1 k4 k6 HG9 HG13 how9 hwr
                      go_upto_region 20 with fail
                      go_region_law (first
                        | (refine step_append_own _ (by rfl) (.tmp 135) (.tmp 139) 43 (by rfl) w2.heap.size 80 i3 (.agg #[.int .i64 0, .int .i64 0]) 2 16 Tryd.underlying43 ht3 hz30 hz31 hz32 rfl (by decide) (.slice aX lX.length cX) lX.length (cellsF cellE lX) (by rfl) hEW _ 1 1 (cellE ((k : Int), ix)) (by rfl) rfl (cells_new _ _ _) (one_F _) (by unfold maxLen; omega) (by omega) (by simp; omega) ?_; intro v6 w6 hown6 hg6 hat6
                           have hR6 := OwnF.newer (f := cellE) (x := ((k : Int), ix)) hown6; obtain ⟨a6, c6, rfl⟩ := OwnF.shape1 hR6; have hq6 := lit_other hghW hEW (by decide) hg6; have hc6 := (cell_of_block hq6 i).trans HCI.out; have gf6 := free_of_block hq6 i; have hP6 := lit_other hPW hEW (by decide) hg6; obtain ⟨-, -, k66, -⟩ := hbox hP6))
                      all_goals go_wp2_with fail
                      all_goals go_roundg (gk - 1)
                      all_goals first
                        | omega
                        | exact HFin.out _ _ hR6 hg6 hat6
                · have hkf : decide ((k : Int) < (n.trans.length : Int)) = false := decide_eq_false (by omega)
                  have hnx : Hid (exF n M (M + 1 - (i + 1)) (i + 1) g = exploreE n M) := by
                    refine Lib.hid ?_
                    rw [← hIn.out, List.drop_eq_nil_of_le (by omega)]; rfl
                  go_wp2_with fail
                  go_roundg (M + 1 - (i + 1))
                  case measure => omega
                  case rel => exact ⟨i + 1, g, by omega, by go_num, hnx, hX, hgM, by omega, Lib.hid (fun j hj => hEd.out j (by omega)), hG, hbel⟩
            · have hi' : decide ((i : Int) < (g.marks.length : Int)) = false := decide_eq_false (by omega)
              have hres : exploreE n M = some g := by
                rw [← hEx.out, show M + 1 - i = (M - i) + 1 by omega, exF, if_neg hi]
              have HR : Hid (expR n (M : Int) = .inr g) := by refine Lib.hid ?_; rw [Hf.out, hres]
              have hF := explore_all Hok.out h1' h2' hres
              have hEO := hF.eok h2' hnt
              have hel := hF.ok.elen
              have hsl := hF.ok.slen
              have hrM : ∀ l ∈ g.marks, l.length ≤ 4096 := by
                intro l hl
                obtain ⟨j, hj, rfl⟩ := List.getElem_of_mem hl
                rw [(hF.ok.mark j hj).1.len]; exact hmany
              have hEl : Es.length = g.edges.length := by rw [← hEe]; simp
              have hRM := hO.readM (by omega) (fun x hx => hrM _ (by rw [← hMe]; exact List.mem_map_of_mem hx))
              have hRE := hO.readE (by omega) (fun x hx => hEO.row _ (by rw [← hEe]; exact List.mem_map_of_mem hx))
              have hRF : Prs wr wr.heap.size vF g.src := by
                obtain ⟨aF, cF, rfl⟩ := OwnF.shape hO.rowF
                exact ⟨aF, cF, rfl, by omega, OwnF.cap hO.rowF, OwnF.col cellE_len hO.rowF (Nat.le_refl _)⟩
              rw [hMe] at hRM
              rw [hEe] at hRE
              have HRR : Hid (RgR wr wr.heap.size p n.trans.length g) := ⟨_, _, _, _, _, _, _, _, hO.box, hptw, hRM, hRE, hRF, hnt⟩
              clear hres hF hEO hel hsl hrM hEl hRM hRE hRF hO hMe hEe hMl
              go_wp2_with fail
              go_ret2
              exact ⟨hbA.trans (hbel.mono (by omega)), Or.inr ⟨g, p, HR.out, rfl, HRR.out⟩⟩

end Go.Proofs.YtapnkkoplnhleaaDoor
