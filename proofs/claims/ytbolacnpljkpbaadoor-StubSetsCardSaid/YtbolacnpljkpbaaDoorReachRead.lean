/- Readings of a graph that stands in memory, and its readers: Len, has, Marking, Find, Edges. -/
import Derived.Test.YtbolacnpljkpbaaDoorReachOwn
import Derived.Test.YtbolacnpljkpbaaDoorReachHomeP
set_option maxRecDepth 100000
namespace Go.Proofs.YtbolacnpljkpbaaDoor
open Go.RowKit Go.Maps Go.WideMaps

/-- A slice of one-cell elements, each of which is read in a way of its own. -/
def VCol {α : Type} (R : World → Nat → Value → α → Prop) (w : World) (B : Nat) (v : Value) (l : List α) : Prop :=
  ∃ a cap, v = .slice a l.length cap ∧ l.length ≤ 4096 ∧ ∀ i (h : i < l.length), ∃ b o u, a = some ⟨b, o, none⟩ ∧ b < B ∧ w.cell? ⟨b, o + i, none⟩ = some u ∧ R w B u l[i]

/-- A slice of edges. -/
def Prs (w : World) (B : Nat) (v : Value) (l : List (Int × Int)) : Prop := ∃ a cap, v = .slice a l.length cap ∧ l.length ≤ 17592186044416 ∧ l.length ≤ cap ∧ ColF cellE 2 w B a l

theorem VCol.mono {α : Type} {R : World → Nat → Value → α → Prop} (hR : ∀ {w w' : World} {B B' : Nat} {v : Value} {x : α}, R w B v x → Below B w w' → B ≤ B' → R w' B' v x)
    {w w' : World} {B B' : Nat} {v : Value} {l : List α} (h : VCol R w B v l) (hb : Below B w w') (hB : B ≤ B') : VCol R w' B' v l := by
  obtain ⟨a, cap, rfl, hl, hc⟩ := h
  refine ⟨a, cap, rfl, hl, fun i hi => ?_⟩
  obtain ⟨b, o, u, ha, hlt, h1, h2⟩ := hc i hi
  exact ⟨b, o, u, ha, by omega, by rw [Below.cellB hb hlt]; exact h1, hR h2 hb hB⟩
theorem VCol.val {α : Type} {R : World → Nat → Value → α → Prop} {w : World} {B : Nat} {v : Value} {l : List α} (h : VCol R w B v l) : ∃ a cap, v = .slice a l.length cap := by
  obtain ⟨a, cap, rfl, _⟩ := h
  exact ⟨a, cap, rfl⟩
theorem VCol.len {α : Type} {R : World → Nat → Value → α → Prop} {w : World} {B : Nat} {v : Value} {l : List α} (h : VCol R w B v l) : l.length ≤ 4096 := by
  obtain ⟨a, cap, rfl, hl, _⟩ := h
  exact hl
theorem VCol.at {α : Type} {R : World → Nat → Value → α → Prop} {w : World} {B : Nat} {a : Option Addr} {n cap : Nat} {l : List α} (h : VCol R w B (.slice a n cap) l) : ∀ i (h : i < l.length), ∃ b o u, a = some ⟨b, o, none⟩ ∧ b < B ∧ w.cell? ⟨b, o + i, none⟩ = some u ∧ R w B u l[i] := by
  obtain ⟨a', cap', hv, _, hc⟩ := h
  cases hv
  exact hc
theorem Prs.mono {w w' : World} {B B' : Nat} {v : Value} {l : List (Int × Int)} (h : Prs w B v l) (hb : Below B w w') (hB : B ≤ B') : Prs w' B' v l := by
  obtain ⟨a, cap, rfl, hl, hcp, hc⟩ := h
  exact ⟨a, cap, rfl, hl, hcp, hc.mono hb hB⟩
theorem Prs.val {w : World} {B : Nat} {v : Value} {l : List (Int × Int)} (h : Prs w B v l) : ∃ a cap, v = .slice a l.length cap := by
  obtain ⟨a, cap, rfl, _⟩ := h
  exact ⟨a, cap, rfl⟩
theorem Prs.len {w : World} {B : Nat} {v : Value} {l : List (Int × Int)} (h : Prs w B v l) : l.length ≤ 17592186044416 := by
  obtain ⟨a, cap, rfl, hl, _⟩ := h
  exact hl
theorem Prs.col {w : World} {B : Nat} {a : Option Addr} {n cap : Nat} {l : List (Int × Int)} (h : Prs w B (.slice a n cap) l) : ColF cellE 2 w B a l := by
  obtain ⟨a', cap', hv, _, _, hc⟩ := h
  cases hv
  exact hc
theorem Prs.at {w : World} {B : Nat} {a : Option Addr} {n cap : Nat} {l : List (Int × Int)} (h : Prs w B (.slice a n cap) l) {i : Nat} (hi : i < l.length) :
    ∃ b o, a = some ⟨b, o, none⟩ ∧ b < B ∧ w.cell? ⟨b, o + i * 2, none⟩ = some (.int .i64 l[i].1) ∧ w.cell? ⟨b, o + i * 2 + 1, none⟩ = some (.int .i64 l[i].2) := by
  obtain ⟨b, o, ha, hb, hc⟩ := h.col i hi
  exact ⟨b, o, ha, hb, hc 0 (by omega), hc 1 (by omega)⟩
theorem RowE.prs {w : World} {base B : Nat} {v : Value} {l : List (Int × Int)} (h : RowE w base v l) (hl : l.length ≤ 17592186044416) (hB : w.heap.size ≤ B) : Prs w B v l := by
  obtain ⟨a, cap, rfl⟩ := OwnF.shape h
  exact ⟨a, cap, rfl, hl, OwnF.cap h, OwnF.col cellE_len h hB⟩

/-- A graph that stands: 'nt' is how many transitions it has noted. -/
def GrR (w : World) (B p nt : Nat) (g : Gr) (hs : List Int) : Prop :=
  ∃ v0 a1 c1 x y vM mp vE vF vH, w.heap[p]? = some (.cells (gCells v0 (.slice a1 nt c1) x y vM mp vE vF vH) 83) ∧ p < B ∧ VCol Ints w B vM g.marks ∧ VCol Prs w B vE g.edges ∧ Prs w B vF g.src ∧ Ints w B vH hs ∧
    mp < B ∧ (∃ D, MapR w mp g.marks.length D ∧ MapG D g.marks) ∧ nt ≤ 8192

theorem mapR_below {w w' : World} {B mp k : Nat} {D : DataW Unit} (h : MapR w mp k D) (hb : Below B w w') (hB : mp < B) : MapR w' mp k D := by
  obtain ⟨es, ck, h1, h2⟩ := h
  exact ⟨es, ck, (hb.block mp hB).trans h1, h2⟩
theorem GrR.mono {w w' : World} {B B' p nt : Nat} {g : Gr} {hs : List Int} (h : GrR w B p nt g hs) (hb : Below B w w') (hB : B ≤ B') : GrR w' B' p nt g hs := by
  obtain ⟨v0, a1, c1, x, y, vM, mp, vE, vF, vH, h1, h2, h3, h4, h5, h6, h7, ⟨D, h8, h9⟩, h10⟩ := h
  exact ⟨v0, a1, c1, x, y, vM, mp, vE, vF, vH, (hb.block p h2).trans h1, by omega, VCol.mono (R := Ints) (fun a b c => ColV.mono a b c) h3 hb hB, VCol.mono (R := Prs) (fun a b c => Prs.mono a b c) h4 hb hB, h5.mono hb hB, h6.mono hb hB, by omega, ⟨D, mapR_below h8 hb h7, h9⟩, h10⟩
theorem GrR.len {w : World} {B p nt : Nat} {g : Gr} {hs : List Int} (h : GrR w B p nt g hs) : g.marks.length ≤ 4096 ∧ g.edges.length ≤ 4096 := by
  obtain ⟨v0, a1, c1, x, y, vM, mp, vE, vF, vH, h1, h2, h3, h4, _⟩ := h
  exact ⟨h3.len, h4.len⟩

theorem gbox {w : World} {p : Nat} {v0 v1 : Value} {a b : Int} {vM : Value} {mp : Nat} {vE vF vH : Value} {t : TypeId} {fr : Nat × Nat} (h : w.heap[p]? = some (.cells (gCells v0 v1 a b vM mp vE vF vH) t fr)) :
    w.cell? ⟨p, 1, none⟩ = some v1 ∧ w.cell? ⟨p, 4, none⟩ = some vM ∧ w.cell? ⟨p, 5, none⟩ = some (.map (some mp)) ∧ w.cell? ⟨p, 6, none⟩ = some vE ∧ w.cell? ⟨p, 7, none⟩ = some vF ∧ w.cell? ⟨p, 8, none⟩ = some vH := by
  refine ⟨?_, ?_, ?_, ?_, ?_, ?_⟩ <;> (rw [cell_of_block h]; rfl)

theorem glen_any (w : World) (B p nt : Nat) (g : Gr) (hs : List Int) (h : GrR w B p nt g hs) : Calls Tryd.prog 23 #[.pointer (some ⟨p, 0, none⟩)] w fun e w' => e = .returned (.int .i64 (g.marks.length : Int)) ∧ w = w' := by
  obtain ⟨v0, a1, c1, x, y, vM, mp, vE, vF, vH, h1, h2, h3, h4, h5, h6, h7, h8, h10⟩ := h
  obtain ⟨aM, cM, rfl⟩ := h3.val
  have hl := h3.len
  obtain ⟨k1, k4, k5, k6, k7, k8⟩ := gbox h1
  clear h1 h8
  go_enter Tryd.func23, Tryd.ntmps23
  go_wp2_with fail
  go_ret
  exact ⟨rfl, rfl⟩
theorem glen_nil (w : World) : Calls Tryd.prog 23 #[.pointer none] w fun e w' => e = .returned (.int .i64 0) ∧ w = w' := by
  go_enter Tryd.func23, Tryd.ntmps23
  go_wp2_with fail
  go_ret
  exact ⟨rfl, rfl⟩

/-- Is there a marking of a number? -/
def hasE (len : Nat) (i : Int) : Int := if 0 ≤ i ∧ i < (len : Int) then 0 else 1
theorem ghas_any (w : World) (B p nt : Nat) (g : Gr) (hs : List Int) (h : GrR w B p nt g hs) (i : Int) : Calls Tryd.prog 44 #[.pointer (some ⟨p, 0, none⟩), .int .i64 i] w fun e w' => e = .returned (.int .i64 (hasE g.marks.length i)) ∧ w = w' := by
  obtain ⟨v0, a1, c1, x, y, vM, mp, vE, vF, vH, h1, h2, h3, h4, h5, h6, h7, h8, h10⟩ := h
  obtain ⟨aM, cM, rfl⟩ := h3.val
  have hl := h3.len
  obtain ⟨k1, k4, k5, k6, k7, k8⟩ := gbox h1
  clear h1 h8
  by_cases h0 : i < 0
  · have hc : Hid (hasE g.marks.length i = 1) := by unfold hasE; rw [if_neg (by omega)]; exact rfl
    go_enter Tryd.func44, Tryd.ntmps44
    go_wp2_with fail
    go_ret
    exact ⟨ret_int hc.out.symm, rfl⟩
  · by_cases h9 : i < (g.marks.length : Int)
    · have hc : Hid (hasE g.marks.length i = 0) := by unfold hasE; rw [if_pos (by omega)]; exact rfl
      go_enter Tryd.func44, Tryd.ntmps44
      go_wp2_with fail
      go_ret
      exact ⟨ret_int hc.out.symm, rfl⟩
    · have hc : Hid (hasE g.marks.length i = 1) := by unfold hasE; rw [if_neg (by omega)]; exact rfl
      go_enter Tryd.func44, Tryd.ntmps44
      go_wp2_with fail
      go_ret
      exact ⟨ret_int hc.out.symm, rfl⟩
theorem ghas_nil (w : World) (i : Int) : Calls Tryd.prog 44 #[.pointer none, .int .i64 i] w fun e w' => e = .returned (.int .i64 2) ∧ w = w' := by
  go_enter Tryd.func44, Tryd.ntmps44
  go_wp2_with fail
  go_ret
  exact ⟨rfl, rfl⟩

theorem ghas_is (w : World) (B p nt : Nat) (g : Gr) (hs : List Int) (h : GrR w B p nt g hs) (i t : Int) (ht : hasE g.marks.length i = t) : Calls Tryd.prog 44 #[.pointer (some ⟨p, 0, none⟩), .int .i64 i] w fun e w' => e = .returned (.int .i64 t) ∧ w = w' := by
  subst ht; exact ghas_any w B p nt g hs h i
theorem hasE_no {len : Nat} {i : Int} (h : ¬ (0 ≤ i ∧ i < (len : Int))) : hasE len i = 1 := by unfold hasE; rw [if_neg h]
theorem hasE_yes {len i : Nat} (h : i < len) : hasE len (i : Int) = 0 := by unfold hasE; rw [if_pos (by omega)]
end Go.Proofs.YtbolacnpljkpbaaDoor
