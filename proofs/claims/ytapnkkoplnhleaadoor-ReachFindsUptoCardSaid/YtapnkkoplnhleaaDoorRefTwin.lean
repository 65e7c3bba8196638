/- tollgateref15.Twin: a net in memory of its own. -/
import Derived.Test.YtapnkkoplnhleaaDoorRowsF
import Derived.Test.YtapnkkoplnhleaaDoorRefNet2
import Derived.Deep.RegionLaw
import Derived.Laws.NewBlocks
set_option maxRecDepth 100000
namespace Go.Proofs.YtapnkkoplnhleaaDoor
open Go.RowKit

def cellT (x : Tr × Value × Value) : List Value := [.string x.1.label, x.2.1, x.2.2]
theorem cellT_len (x : Tr × Value × Value) : (cellT x).length = 3 := rfl
/-- Transitions in memory of the call's own. -/
def OwnT (w : World) (base : Nat) (v : Value) (A : List (Tr × Value × Value)) : Prop := OwnF cellT 65 3 w base v A ∧ ∀ x ∈ A, OwnI w base x.2.1 x.1.inn ∧ OwnI w base x.2.2 x.1.out
theorem OwnT.nil (w : World) (base : Nat) : OwnT w base (.slice none 0 0) [] := ⟨OwnF.nil _ _, fun x hx => by cases hx⟩
theorem OwnT.kept {w w' : World} {base : Nat} {v : Value} {A : List (Tr × Value × Value)} (h : OwnT w base v A) (hb : Below w.heap.size w w') : OwnT w' base v A :=
  ⟨h.1.kept hb, fun x hx => ⟨(h.2 x hx).1.kept hb (Nat.le_refl _), (h.2 x hx).2.kept hb (Nat.le_refl _)⟩⟩
/-- They stand where a block of another type is turned. -/
theorem OwnT.turned {w w' : World} {base b : Nat} {v : Value} {A : List (Tr × Value × Value)} (h : OwnT w base v A) (hg : w.grownBy w' (some b)) (h1 : ∀ cur, w.heap[b]? ≠ some (.cells cur 3 (0, 0))) (h2 : ∀ cur, w.heap[b]? ≠ some (.cells cur 65 (0, 0))) : OwnT w' base v A := by
  refine ⟨h.1.turned hg ?_, fun x hx => ⟨(h.2 x hx).1.turned hg h1, (h.2 x hx).2.turned hg h1⟩⟩
  rintro g m cap rfl e
  cases e
  obtain ⟨cur, hc, _⟩ := h.1.block
  exact h2 cur hc
theorem OwnT.read {w : World} {base B : Nat} {v : Value} {A : List (Tr × Value × Value)} (h : OwnT w base v A) (hB : w.heap.size ≤ B) (hl : A.length ≤ 2199023255552) (hm : ∀ x ∈ A, x.1.inn.length ≤ 17592186044416 ∧ x.1.out.length ≤ 17592186044416) : Trs w B v (A.map Prod.fst) := by
  obtain ⟨a, cap, rfl⟩ := h.1.shape
  refine ⟨a, cap, by simp, by simpa using hl, fun i hi => ?_⟩
  have hiA : i < A.length := by simpa using hi
  obtain ⟨b, o, rfl, hb, hc⟩ := h.1.col cellT_len hB i hiA
  have hx := h.2 _ (List.getElem_mem hiA)
  have hl := hm _ (List.getElem_mem hiA)
  refine ⟨b, o, A[i].2.1, A[i].2.2, rfl, hb, ?_, ?_, ?_, ?_, ?_⟩
  · have := hc 0 (by omega); rw [List.getElem_map]; exact this
  · have := hc 1 (by omega); exact this
  · have := hc 2 (by omega); exact this
  · simpa using hx.1.col (by simpa using hl.1) hB
  · simpa using hx.2.col (by simpa using hl.2) hB

theorem OwnI.turnedO {w w' : World} {base : Nat} {r : Option Nat} {v : Value} {l : List Int} (h : OwnI w base v l) (hg : w.grownBy w' r) (hne : ∀ b cur, r = some b → w.heap[b]? ≠ some (.cells cur 3 (0, 0))) : OwnI w' base v l := by
  cases r with
  | none => exact h.kept ((Below.refl _ _).grown hg (Nat.le_refl _) (fun k hk => by cases hk)) (Nat.le_refl _)
  | some b => exact h.turned hg (fun cur => hne b cur rfl)
theorem OwnT.push {w w' : World} {base : Nat} {v v' vi vo : Value} {A : List (Tr × Value × Value)} {x : Tr} (h : OwnT w base v A) (hg : w.grownBy w' v.ownBlock) (hown : w'.ownsRow base 65 3 v' (A.length + 1) (cellsF cellT A ++ cellT (x, vi, vo)))
    (hi : OwnI w base vi x.inn) (ho : OwnI w base vo x.out) : OwnT w' base v' (A ++ [(x, vi, vo)]) := by
  have hne : ∀ b cur, v.ownBlock = some b → w.heap[b]? ≠ some (.cells cur 3 (0, 0)) := by
    intro b cur hb e
    rcases h.1.val with ⟨rfl, _⟩ | ⟨g, cap, rfl, _⟩
    · cases hb
    · obtain ⟨cur', hc, _⟩ := h.1.block
      obtain rfl : g = b := Option.some.inj hb
      rw [hc] at e; injection e with e; injection e with _ e _; exact absurd e (by decide)
  refine ⟨?_, fun y hy => ?_⟩
  · unfold OwnF
    rw [List.length_append, List.length_singleton, cellsF_app]
    exact hown
  · rcases List.mem_append.1 hy with hy | hy
    · exact ⟨(h.2 y hy).1.turnedO hg hne, (h.2 y hy).2.turnedO hg hne⟩
    · obtain rfl : y = (x, vi, vo) := by simpa using hy
      exact ⟨hi.turnedO hg hne, ho.turnedO hg hne⟩

/-- Strings in memory of the call's own. -/
def OwnS (w : World) (base : Nat) (v : Value) (l : List ByteArray) : Prop := w.ownsRow base 9 1 v l.length (l.map Value.string)
theorem OwnS.kept {w w' : World} {base : Nat} {v : Value} {l : List ByteArray} (h : OwnS w base v l) (hb : Below w.heap.size w w') : OwnS w' base v l := by
  refine World.ownsRow.kept h (below_grownBy hb none) ?_
  rcases h.2 with ⟨rfl, _⟩ | ⟨g, cap, cur, rfl, _⟩
  · exact Or.inl rfl
  · exact Or.inr (by simp [Value.ownBlock])
theorem OwnS.turned {w w' : World} {base b : Nat} {v : Value} {l : List ByteArray} (h : OwnS w base v l) (hg : w.grownBy w' (some b)) (h1 : ∀ cur, w.heap[b]? ≠ some (.cells cur 9 (0, 0))) : OwnS w' base v l := by
  refine World.ownsRow.kept h hg ?_
  rcases h.2 with ⟨rfl, _⟩ | ⟨g, cap, cur, rfl, _, hg2, _⟩
  · exact Or.inl rfl
  · exact Or.inr fun e => by cases e; exact h1 cur hg2
theorem OwnS.shape {w : World} {base : Nat} {v : Value} {l : List ByteArray} (h : OwnS w base v l) : ∃ a cap, v = .slice a l.length cap := by
  rcases h.2 with ⟨rfl, h0⟩ | ⟨g, cap, cur, rfl, _⟩
  · exact ⟨none, 0, by rw [h0]⟩
  · exact ⟨_, cap, rfl⟩
theorem OwnS.read {w : World} {base B : Nat} {v : Value} {l : List ByteArray} (h : OwnS w base v l) (hB : w.heap.size ≤ B) (hl : l.length ≤ 8796093022208) : Strs w B v l := by
  have h0 := h
  rcases h.2 with ⟨rfl, h1⟩ | ⟨g, cap, cur, rfl, hb, hg, hc, _⟩
  · obtain rfl : l = [] := List.eq_nil_of_length_eq_zero h1
    exact ColV.nil _ _ _ _
  · refine ⟨_, cap, rfl, hl, hc, fun i hi => ⟨g, 0, rfl, by have := lt_of_block hg; omega, ?_⟩⟩
    have := World.ownsRow.cellAt h0 i (by omega)
    rw [Nat.zero_add, this]
    simp [hi]
theorem info_str : (Tryd.prog.info? 9).map (fun i => (i.zero, i.size, i.bytes)) = some (some (.string ⟨#[]⟩), 1, 16) := by kernel_rfl
theorem info_tr : (Tryd.prog.info? 65).map (fun i => (i.zero, i.size, i.bytes)) = some (some (.agg #[.string ⟨#[]⟩, .slice none 0 0, .slice none 0 0]), 3, 64) := by kernel_rfl

/-- A net handed back in memory of the call's own. -/
def TwinPost (w : World) (n : Nt) (e : Ending) (w' : World) : Prop :=
  ∃ vp vt, e = .returned (.agg #[vp, vt, .int .i64 n.init, .int .i64 n.final]) ∧ NtR w' w'.heap.size vp vt n ∧ Below w.heap.size w w'

set_option maxHeartbeats 4000000 in
theorem twin_any (w : World) (B : Nat) (hB : B ≤ w.heap.size) (vp vt : Value) (n : Nt) (hn : NtR w B vp vt n) :
    Calls Tryd.prog 12 #[.agg #[vp, vt, .int .i64 n.init, .int .i64 n.final]] w (TwinPost w n) := by
  obtain ⟨i0, hti, hz0, hz1, hz2⟩ := info_parts info_int
  obtain ⟨i1, htr, hr0, hr1, hr2⟩ := info_parts info_tr
  obtain ⟨i2, hts, hs0, hs1, hs2⟩ := info_parts info_str
  have hlp := hn.1.len
  have hlt := hn.2.len
  have hbA := ((Below.refl w.heap.size w).alloc (Nat.le_refl _) (.cells #[vp, vt, .int .i64 n.init, .int .i64 n.final] 25)).alloc (by simp) (.cells #[.slice none 0 0, .slice none 0 0, .int .i64 0, .int .i64 0] 25)
  have hboxA : ((w.alloc (.cells #[vp, vt, .int .i64 n.init, .int .i64 n.final] 25)).alloc (.cells #[.slice none 0 0, .slice none 0 0, .int .i64 0, .int .i64 0] 25)).heap[w.heap.size]? = some (.cells #[vp, vt, .int .i64 n.init, .int .i64 n.final] 25) := heap_alloc2_old _ _ _
  have hboxB : ((w.alloc (.cells #[vp, vt, .int .i64 n.init, .int .i64 n.final] 25)).alloc (.cells #[.slice none 0 0, .slice none 0 0, .int .i64 0, .int .i64 0] 25)).heap[w.heap.size + 1]? = some (.cells #[.slice none 0 0, .slice none 0 0, .int .i64 0, .int .i64 0] 25) := heap_alloc2_new _ _ _
  obtain ⟨W1, hW1⟩ : ∃ W1, (w.alloc (.cells #[vp, vt, .int .i64 n.init, .int .i64 n.final] 25)).alloc (.cells #[.slice none 0 0, .slice none 0 0, .int .i64 0, .int .i64 0] 25) = W1 := ⟨_, rfl⟩
  have hs1 : W1.heap.size = w.heap.size + 2 := by rw [← hW1]; simp
  rw [hW1] at hbA hboxA hboxB
  obtain ⟨ap, cp, rfl⟩ := hn.1.val
  obtain ⟨at_, ct, rfl⟩ := hn.2.val
  obtain ⟨c0, c1, c2, c3⟩ := box4' hboxA
  have hs1a : w.heap.size + 2 ≤ W1.heap.size := by omega
  have hs1b : W1.heap.size ≤ w.heap.size + 2 := by omega
  clear hs1
  go_enter Tryd.func12, Tryd.ntmps12
  go_upto_region 2 with fail
  obtain ⟨W2, hW2⟩ : ∃ W2, W1.alloc (.cells #[.slice none 0 0, .slice none 0 0, .int .i64 n.init, .int .i64 n.final] 25) = W2 := ⟨_, rfl⟩
  have hb12 : Below W1.heap.size W1 W2 := by rw [← hW2]; exact (Below.refl _ _).alloc (Nat.le_refl _) _
  have hxN : W2.heap[W1.heap.size]? = some (.cells #[.slice none 0 0, .slice none 0 0, .int .i64 n.init, .int .i64 n.final] 25) := by rw [← hW2]; exact heap_alloc_new _ _
  have hxA := (hb12.block w.heap.size (by omega)).trans hboxA
  have hxB := (hb12.block (w.heap.size + 1) (by omega)).trans hboxB
  have hzz : W1.heap.size + 1 ≤ W2.heap.size := by rw [← hW2]; simp
  have hB2 := hbA.trans (hb12.mono (by omega))
  have hn2 := hn.mono (hB2.mono hB) (show B ≤ W2.heap.size by omega)
  rw [hW2]
  clear c0 c1 c2 c3
  obtain ⟨c0, c1, c2, c3⟩ := box4' hxA
  obtain ⟨d0, d1, d2, d3⟩ := box4' hxN
  have f0 := free_of_block hxN 0
  have hsv := hn2.1
  clear hW1 hW2
  go_wp2_with (at_builtin; refine wpList_append_col _ rfl _ _ 22 rfl (fun _ => rfl) W2.heap.size 9 i2 (.string ⟨#[]⟩) 16 Tryd.underlying22 hts hs0 hs1 hs2 rfl (.slice none 0 0) 0 [] rfl (World.ownsRow_nil _ _ _ _) 8796093022208 W2.heap.size _ n.places rfl hsv (by unfold maxLen; omega) (by omega) (Nat.le_refl _) ?_; intro v' w3 hown hg3; refine Hid.out ?_)
  refine Lib.hid ?_
  have hb3 : Below W2.heap.size W2 w3 := (Below.refl _ _).grown hg3 (Nat.le_refl _) (fun k hk => by cases hk)
  have hx3 := (hb3.block W1.heap.size (by omega)).trans hxN
  have hz3 := hb3.size
  have e0 := free_of_block hx3 0
  have hS3 : OwnS w3 W2.heap.size v' n.places := by unfold OwnS; simpa using hown
  have hB3 : Below W1.heap.size W1 w3 := hb12.trans (hb3.mono (by omega))
  clear hown hg3 d0 d1 d2 d3 c0 c1 c2 c3 f0 hsv
  obtain ⟨av, cv, rfl⟩ := hS3.shape
  obtain ⟨d0, d1, d2, d3⟩ := box4' hx3
  go_wp2_with fail
  have hx4 := heap_setCell_self (i := 0) (.slice av n.places.length cv) hx3
  have hg4 := grownBy_setCell w3 W1.heap.size 0 (.slice av n.places.length cv)
  have hB4 : Below W1.heap.size W1 (w3.setCell ⟨W1.heap.size, 0, none⟩ (.slice av n.places.length cv)) := hB3.setCell (Nat.le_refl _) _
  have hS4 := hS3.turned hg4 (fun cur e => by rw [hx3] at e; injection e with e; injection e with _ e _; exact absurd e (by decide))
  have hz4 : W2.heap.size ≤ (w3.setCell ⟨W1.heap.size, 0, none⟩ (.slice av n.places.length cv)).heap.size := by rw [World.size_setCell]; exact hz3
  clear d0 d1 d2 d3 e0 hg4
  go_loopg [4] n.trans.length (fun gh s4 wr => ∃ (k : Nat) (A : List (Tr × Value × Value)) (vT : Value), k + gh = n.trans.length ∧ s4 = .int .i64 (k : Int) ∧ Hid (A.map Prod.fst = n.trans.take k) ∧ A.length ≤ k ∧ W2.heap.size ≤ wr.heap.size ∧
    Hid (wr.heap[W1.heap.size]? = some (.cells #[.slice av n.places.length cv, vT, .int .i64 n.init, .int .i64 n.final] 25)) ∧ OwnS wr W2.heap.size (.slice av n.places.length cv) n.places ∧ OwnT wr W2.heap.size vT A ∧ Below W1.heap.size W1 wr)
  case atStart => exact ⟨0, [], _, by omega, rfl, by simp [Hid], by simp, hz4, hx4, hS4, OwnT.nil _ _, hB4⟩
  case round =>
    obtain ⟨k, A, vT, hkg, rfl, hA, hAk, hzr, hN, hS, hT, hbr⟩ := hrel
    have hrA := (hbr.block w.heap.size (by omega)).trans hboxA
    have hrB := (hbr.block (w.heap.size + 1) (by omega)).trans hboxB
    obtain ⟨c0, c1, c2, c3⟩ := box4' hrA
    obtain ⟨aT, cT, rfl⟩ := hT.1.shape
    have hBr := hbA.trans (hbr.mono (by omega))
    have f0 : w.heap.size < wr.heap.size := by omega
    have f1 : W1.heap.size < wr.heap.size := by omega
    by_cases hk : k < n.trans.length
    · obtain ⟨bt, ot, vi, vo, rfl, hbt, h0, h1, h2, hi, ho⟩ := hn.2.col k hk
      rw [← Below.cellB hBr (by omega)] at h0 h1 h2
      have htk : Hid (n.trans.take (k + 1) = n.trans.take k ++ [n.trans[k]]) := List.take_succ_eq_append_getElem hk
      obtain ⟨x, hx⟩ : ∃ x, n.trans[k] = x := ⟨_, rfl⟩
      rw [hx] at h0 hi ho htk
      clear hx
      have hil := hi.len
      have hol := ho.len
      obtain ⟨ai, ci, rfl⟩ := hi.val
      obtain ⟨ao, co, rfl⟩ := ho.val
      have f2 : bt < wr.heap.size := by omega
      go_upto_region 7 with fail
      obtain ⟨W5, hW5⟩ : ∃ W5, wr.alloc (.cells #[.string x.label, .slice none 0 0, .slice none 0 0] 65) = W5 := ⟨_, rfl⟩
      have hb5 : Below wr.heap.size wr W5 := by rw [← hW5]; exact (Below.refl _ _).alloc (Nat.le_refl _) _
      have hX5 : W5.heap[wr.heap.size]? = some (.cells #[.string x.label, .slice none 0 0, .slice none 0 0] 65) := by rw [← hW5]; exact heap_alloc_new _ _
      have hz5 : wr.heap.size + 1 ≤ W5.heap.size := by rw [← hW5]; simp
      rw [hW5]
      have hB5 := hBr.trans (hb5.mono (by omega))
      clear c0 c1 c2 c3
      rw [← Below.cellB hb5 f2] at h0 h1 h2
      have hA5 := (hb5.block w.heap.size f0).trans hrA
      obtain ⟨c0, c1, c2, c3⟩ := box4' hA5
      obtain ⟨d0, d1, d2⟩ := box3 hX5
      have hi5 := hi.mono (hB5.mono hB) (show B ≤ W5.drew.heap.size by simp; omega)
      have ho5 := ho.mono (hB5.mono hB) (show B ≤ W5.heap.size by omega)
      clear hW5
      go_cut [] (fun wx => ∃ w7 vi', w7 = wx ∧ Hid (w7.heap[wr.heap.size]? = some (.cells #[.string x.label, vi', .slice none 0 0] 65)) ∧ OwnI w7 W2.heap.size vi' x.inn ∧ Below wr.heap.size wr w7 ∧ wr.heap.size + 1 ≤ w7.heap.size)
      case first =>
        go_region_law (first
          | (refine step_append_col _ (by rfl) (.tmp 32) (.tmp 38) 26 (by rfl) (fun _ => rfl) W2.heap.size 3 i0 (.int .i64 0) 8 Tryd.underlying26 hti hz0 hz1 hz2 rfl (.slice none 0 0) 0 [] (by rfl) (World.ownsRow_nil _ _ _ _) 17592186044416 _ (.slice ai x.inn.length ci) x.inn (by rfl) (hi5.mono ((Below.refl _ _).drew.mono (Nat.le_refl _)) (Nat.le_refl _)) (by unfold maxLen; omega) (by omega) (by simp; omega) ?_; intro v6 w6 hown6 hg6; have hO6 : OwnI w6 W2.heap.size v6 x.inn := by unfold OwnI; simpa using hown6
             obtain ⟨a6, c6, rfl⟩ := hO6.shape; have hX6 := (hg6.block wr.heap.size (by simp; omega) (by simp [Value.ownBlock])).trans hX5; obtain ⟨g0, g1, g2⟩ := box3 hX6; have gf := free_of_block hX6 1))
        all_goals go_wp2_with fail
        all_goals go_meet
        all_goals exact ⟨_, _, rfl, Lib.hid (heap_setCell_self (i := 1) _ hX6), hO6.turned (grownBy_setCell _ _ _ _) (fun cur e => by rw [hX6] at e; injection e with e; injection e with _ e _; exact absurd e (by decide)), ((hb5.drew).grown hg6 (by simp; omega) (fun j hj => by cases hj)).setCell (Nat.le_refl _) _, by have := hg6.size; simp at this ⊢; omega⟩
      case rest =>
        obtain ⟨w7, vi', rfl, hX7, hI7, hb7, hz7⟩ := hcut
        obtain ⟨a7, c7, rfl⟩ := hI7.shape
        have hB7 := hBr.trans (hb7.mono (by omega))
        rw [Below.cellB hb5 f2, ← Below.cellB hb7 f2] at h0 h1 h2
        have hA7 := (hb7.block w.heap.size f0).trans hrA
        clear c0 c1 c2 c3 d0 d1 d2
        obtain ⟨c0, c1, c2, c3⟩ := box4' hA7
        obtain ⟨d0, d1, d2⟩ := box3 hX7.out
        have ho7 := ho.mono (hB7.mono hB) (show B ≤ w7.drew.heap.size by simp; omega)
        go_upto_region 8 with fail
        go_cut [] (fun wx => ∃ w8 vo', w8 = wx ∧ Hid (w8.heap[wr.heap.size]? = some (.cells #[.string x.label, .slice a7 x.inn.length c7, vo'] 65)) ∧ OwnI w8 W2.heap.size (.slice a7 x.inn.length c7) x.inn ∧ OwnI w8 W2.heap.size vo' x.out ∧ Below wr.heap.size wr w8 ∧ wr.heap.size + 1 ≤ w8.heap.size)
        case first =>
          go_region_law (first
            | (refine step_append_col _ (by rfl) (.tmp 42) (.tmp 48) 26 (by rfl) (fun _ => rfl) W2.heap.size 3 i0 (.int .i64 0) 8 Tryd.underlying26 hti hz0 hz1 hz2 rfl (.slice none 0 0) 0 [] (by rfl) (World.ownsRow_nil _ _ _ _) 17592186044416 _ (.slice ao x.out.length co) x.out (by rfl) (ho7.mono ((Below.refl _ _).drew.mono (Nat.le_refl _)) (Nat.le_refl _)) (by unfold maxLen; omega) (by omega) (by simp; omega) ?_; intro v8 w8 hown8 hg8; have hO8 : OwnI w8 W2.heap.size v8 x.out := by unfold OwnI; simpa using hown8
               obtain ⟨a8, c8, rfl⟩ := hO8.shape; have hX8 := (hg8.block wr.heap.size (by simp; omega) (by simp [Value.ownBlock])).trans hX7.out; obtain ⟨g0, g1, g2⟩ := box3 hX8; have gf := free_of_block hX8 2))
          all_goals go_wp2_with fail
          all_goals go_meet
          all_goals
            have hne : ∀ cur, w8.heap[wr.heap.size]? ≠ some (.cells cur 3 (0, 0)) := fun cur e => by rw [hX8] at e; injection e with e; injection e with _ e _; exact absurd e (by decide)
            have hIk : OwnI w8 W2.heap.size (.slice a7 x.inn.length c7) x.inn := (hI7.drewN 1).turned (b := wr.heap.size) ⟨hg8.os, hg8.tape, hg8.output, hg8.size, fun k hk _ => hg8.block k hk (by simp [Value.ownBlock])⟩ (fun cur e => by rw [show (w7.drewN 1).heap = w7.heap from rfl, hX7.out] at e; injection e with e; injection e with _ e _; exact absurd e (by decide))
            exact ⟨_, _, rfl, Lib.hid (heap_setCell_self (i := 2) _ hX8), hIk.turned (grownBy_setCell _ _ _ _) hne, hO8.turned (grownBy_setCell _ _ _ _) hne, ((hb7.drew).grown hg8 (by simp; omega) (fun j hj => by cases hj)).setCell (Nat.le_refl _) _, by have := hg8.size; simp at this ⊢; omega⟩
        case rest =>
          obtain ⟨w8, vo', rfl, hX8, hI8, hO8, hb8, hz8⟩ := hcut
          obtain ⟨a8, c8, rfl⟩ := hO8.shape
          clear c0 c1 c2 c3 d0 d1 d2
          obtain ⟨d0, d1, d2⟩ := box3 hX8.out
          have hN8 := (hb8.block W1.heap.size f1).trans hN.out
          obtain ⟨c0, c1, c2, c3⟩ := box4' hN8
          have hT8 := (hT.kept hb8).kept ((Below.refl w8.heap.size w8).alloc (Nat.le_refl _) (.cells #[.string x.label, .slice a7 x.inn.length c7, .slice a8 x.out.length c8] 65))
          have HT8 := Lib.hid hT8.1
          have hnews := Lib.hid (cells_new w8 #[.string x.label, .slice a7 x.inn.length c7, .slice a8 x.out.length c8] 65)
          go_wp2_with (at_builtin; refine wpList_append_own _ rfl _ _ 23 rfl W2.heap.size 65 i1 (.agg #[.string ⟨#[]⟩, .slice none 0 0, .slice none 0 0]) 3 64 Tryd.underlying23 htr hr0 hr1 hr2 rfl (by decide) _ A.length (cellsF cellT A) rfl HT8.out ⟨w8.heap.size, 0, none⟩ 1 1 (cellT (x, .slice a7 x.inn.length c7, .slice a8 x.out.length c8)) rfl rfl hnews.out (fun u hu => by simp [cellT] at hu; rcases hu with rfl | rfl | rfl <;> rfl) (by unfold maxLen; omega) (by omega) (by simp; omega) ?_; intro v' w9 hown9 hg9 _; refine Hid.out ?_)
          refine Lib.hid ?_
          obtain ⟨g', cap', rfl, _, _⟩ := hown9.form (by omega)
          have hNa : (w8.alloc (.cells #[.string x.label, .slice a7 x.inn.length c7, .slice a8 x.out.length c8] 65)).heap[W1.heap.size]? = some (.cells #[.slice av n.places.length cv, .slice aT A.length cT, .int .i64 n.init, .int .i64 n.final] 25) := by rw [heap_alloc_old _ _ (by omega)]; exact hN8
          have hNb : ∀ b, (Value.slice aT A.length cT).ownBlock = some b → b ≠ W1.heap.size := by
            intro b hb e
            subst e
            rcases hT8.1.val with ⟨e, _⟩ | ⟨g, cap, e, _⟩
            · rw [e] at hb; cases hb
            · have hq := hT8.1
              rw [e] at hb hq
              obtain ⟨cur', hc, _⟩ := hq.block
              obtain rfl : g = W1.heap.size := Option.some.inj hb
              rw [hNa] at hc; injection hc with hc; injection hc with _ hc _; exact absurd hc (by decide)
          have hN9 := (hg9.block W1.heap.size (by simp; omega) (fun e => hNb _ e.symm rfl)).trans hNa
          clear d0 d1 d2 c0 c1 c2 c3
          obtain ⟨c0, c1, c2, c3⟩ := box4' hN9
          have gf := free_of_block hN9 1
          have halc := (Below.refl w8.heap.size w8).alloc (Nat.le_refl _) (.cells #[.string x.label, .slice a7 x.inn.length c7, .slice a8 x.out.length c8] 65)
          have hT9 := hT8.push hg9 hown9 (hI8.kept halc (Nat.le_refl _)) (hO8.kept halc (Nat.le_refl _))
          have hSa := (hS.kept hb8).kept halc
          have hS9 : OwnS w9 W2.heap.size (.slice av n.places.length cv) n.places := by
            refine World.ownsRow.kept hSa hg9 ?_
            rcases hSa.2 with ⟨e, _⟩ | ⟨g, cap, cur, e, _, hgs, _⟩
            · exact Or.inl (by rw [e]; rfl)
            · right
              rw [e]
              intro hb
              rcases hT8.1.val with ⟨e2, _⟩ | ⟨g2, cap2, e2, _⟩
              · rw [e2] at hb; cases hb
              · have hq := hT8.1
                rw [e2] at hb hq
                obtain ⟨cur', hc, _⟩ := hq.block
                obtain rfl : g = g2 := Option.some.inj hb
                rw [hgs] at hc; injection hc with hc; injection hc with _ hc _; exact absurd hc (by decide)
          have hB9 : Below W1.heap.size W1 w9 := ((hbr.trans (hb8.mono (by omega))).alloc (by omega) _).grown hg9 (by simp; omega) (fun j hj => by have := (World.ownsRow.lt hT8.1 j hj).1; omega)
          have hz9 : W2.heap.size ≤ w9.heap.size := by have := hg9.size; simp at this; omega
          have hAx : Hid ((A ++ [(x, Value.slice a7 x.inn.length c7, Value.slice a8 x.out.length c8)]).map Prod.fst = n.trans.take (k + 1)) := by rw [List.map_append, hA.out, htk.out]; exact rfl
          go_wp2_with fail
          go_roundg (gk - 1)
          case measure => omega
          case rel =>
            refine ⟨k + 1, A ++ [(x, .slice a7 x.inn.length c7, .slice a8 x.out.length c8)], _, by omega, by go_num, hAx, by simp; omega, by rw [World.size_setCell]; exact hz9, Lib.hid (heap_setCell_self (i := 1) _ hN9), ?_, ?_, hB9.setCell (Nat.le_refl _) _⟩
            · exact hS9.turned (grownBy_setCell _ _ _ _) (fun cur e => by rw [hN9] at e; injection e with e; injection e with _ e _; exact absurd e (by decide))
            · exact hT9.turned (grownBy_setCell _ _ _ _) (fun cur e => by rw [hN9] at e; injection e with e; injection e with _ e _; exact absurd e (by decide)) (fun cur e => by rw [hN9] at e; injection e with e; injection e with _ e _; exact absurd e (by decide))
    · have hAe : Hid (A.map Prod.fst = n.trans) := by rw [hA.out, List.take_of_length_le (by omega)]; exact rfl
      obtain ⟨d0, d1, d2, d3⟩ := box4' hN.out
      have hkf : decide ((k : Int) < (n.trans.length : Int)) = false := decide_eq_false (by omega)
      have gf := free_of_block hrB 0
      have gf := free_of_block hrB 1
      have gf := free_of_block hrB 2
      have gf := free_of_block hrB 3
      obtain ⟨e0, e1, e2, e3⟩ := box4' hrB
      go_wp2_with fail
      have q1 := heap_setCell_self (i := 0) (.slice av n.places.length cv) hrB
      have q2 := heap_setCell_self (i := 1) (.slice aT A.length cT) q1
      have q3 := heap_setCell_self (i := 2) (.int .i64 n.init) q2
      have q4 := heap_setCell_self (i := 3) (.int .i64 n.final) q3
      have hg := (((grownBy_setCell wr (w.heap.size + 1) 0 (.slice av n.places.length cv)).trans (grownBy_setCell _ (w.heap.size + 1) 1 (.slice aT A.length cT))).trans (grownBy_setCell _ (w.heap.size + 1) 2 (.int .i64 n.init))).trans (grownBy_setCell _ (w.heap.size + 1) 3 (.int .i64 n.final))
      have hBel := (((hBr.setCell (p := ⟨w.heap.size + 1, 0, none⟩) (Nat.le_succ _) (.slice av n.places.length cv)).setCell (p := ⟨w.heap.size + 1, 1, none⟩) (Nat.le_succ _) (.slice aT A.length cT)).setCell (p := ⟨w.heap.size + 1, 2, none⟩) (Nat.le_succ _) (.int .i64 n.init)).setCell (p := ⟨w.heap.size + 1, 3, none⟩) (Nat.le_succ _) (.int .i64 n.final)
      obtain ⟨W9, hW9⟩ : ∃ W9, ((((wr.setCell ⟨w.heap.size + 1, 0, none⟩ (.slice av n.places.length cv)).setCell ⟨w.heap.size + 1, 1, none⟩ (.slice aT A.length cT)).setCell ⟨w.heap.size + 1, 2, none⟩ (.int .i64 n.init)).setCell ⟨w.heap.size + 1, 3, none⟩ (.int .i64 n.final)) = W9 := ⟨_, rfl⟩
      rw [hW9] at q4 hg hBel ⊢
      obtain ⟨r0, r1, r2, r3⟩ := box4' (v0 := .slice av n.places.length cv) (v1 := .slice aT A.length cT) (v2 := .int .i64 n.init) (v3 := .int .i64 n.final) q4
      have hS9 := hS.turned hg (fun cur e => by rw [hrB] at e; injection e with e; injection e with _ e _; exact absurd e (by decide))
      have hT9 := hT.turned hg (fun cur e => by rw [hrB] at e; injection e with e; injection e with _ e _; exact absurd e (by decide)) (fun cur e => by rw [hrB] at e; injection e with e; injection e with _ e _; exact absurd e (by decide))
      have hlen : ∀ y ∈ A, y.1.inn.length ≤ 17592186044416 ∧ y.1.out.length ≤ 17592186044416 := fun y hy => by
        have hm : y.1 ∈ n.trans := by rw [← hAe.out]; exact List.mem_map_of_mem hy
        obtain ⟨j, hj, e⟩ := List.getElem_of_mem hm
        obtain ⟨b, o, vi, vo, _, _, _, _, _, hi, ho⟩ := hn.2.col j hj
        rw [e] at hi ho
        exact ⟨hi.len, ho.len⟩
      have hTr := hT9.read (Nat.le_refl _) (by omega) hlen
      rw [hAe.out] at hTr
      refine bodyPost_ret (v := .agg #[.slice av n.places.length cv, .slice aT A.length cT, .int .i64 n.init, .int .i64 n.final]) (by simp [results, Tryd.results12, go_sem, r0, r1, r2, r3]) rfl ⟨_, _, rfl, ⟨hS9.read (Nat.le_refl _) hlp, hTr⟩, hBel⟩

end Go.Proofs.YtapnkkoplnhleaaDoor
