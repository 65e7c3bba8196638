/- Two rows of rows side by side in memory of the call's own: an append to a row of the one leaves the other. -/
import Derived.Test.YtbolacnpljkpbaaDoorGridF
set_option maxRecDepth 100000
namespace Go.Proofs.YtbolacnpljkpbaaDoor
open Go.RowKit

section
variable {α : Type} {f : α → List Value} {e : TypeId} {k : Nat} {rt : TypeId} {w w1 : World} {base : Nat} {T G : List (List α × Value)}

theorem Grid.beside {gG n cap : Nat} (h : Grid f e k rt w base (.slice (some ⟨gG, 0, none⟩) n cap) G) {r : Option Nat} (hg : w.grownBy w1 r) (hr : r ≠ some gG) (hrow : ∀ y ∈ G, ∀ b, r = some b → y.2.ownBlock ≠ some b)
    {gT : Nat} (hne : gT ≠ gG) (hty : ∃ c, w1.heap[gT]? = some (.cells c rt)) (het : e ≠ rt) (i : Nat) (u : Value) : Grid f e k rt (w1.setCell ⟨gT, i, none⟩ u) base (.slice (some ⟨gG, 0, none⟩) n cap) G := by
  have hgs := grownBy_setCell w1 gT i u
  refine ⟨(h.row.grown hg ?_).grown hgs ?_, fun y hy => ((h.own y hy).grown hg ?_).grown hgs ?_, h.apart⟩
  · rintro q hq e2
    obtain rfl : gG = q := Option.some.inj hq
    exact hr e2.symm
  · rintro q hq e2
    obtain rfl : gG = q := Option.some.inj hq
    exact hne (Option.some.inj e2).symm
  · intro q hq e2
    exact hrow y hy q e2.symm hq
  · intro q hq e2
    obtain ⟨⟨c, hc⟩, _⟩ := ((h.own y hy).grown hg (fun q hq e2 => hrow y hy q e2.symm hq)).ty hq
    obtain ⟨c1, hc1⟩ := hty
    obtain rfl := Option.some.inj e2
    exact type_ne hc hc1 het rfl

structure Two (f : α → List Value) (e : TypeId) (k : Nat) (rt : TypeId) (w : World) (base gT nT cT gG nG cG : Nat) (T G : List (List α × Value)) : Prop where
  t : Grid f e k rt w base (.slice (some ⟨gT, 0, none⟩) nT cT) T
  g : Grid f e k rt w base (.slice (some ⟨gG, 0, none⟩) nG cG) G
  ne : gT ≠ gG
  cross : ∀ x ∈ T, ∀ y ∈ G, ∀ b, x.2.ownBlock = some b → y.2.ownBlock ≠ some b
theorem Two.swap {gT nT cT gG nG cG : Nat} (h : Two f e k rt w base gT nT cT gG nG cG T G) : Two f e k rt w base gG nG cG gT nT cT G T :=
  ⟨h.g, h.t, h.ne.symm, fun y hy x hx b hb he => h.cross x hx y hy b he hb⟩
theorem Two.kept {gT nT cT gG nG cG : Nat} (h : Two f e k rt w base gT nT cT gG nG cG T G) (hb : Below w.heap.size w w1) : Two f e k rt w1 base gT nT cT gG nG cG T G :=
  ⟨h.t.kept hb, h.g.kept hb, h.ne, h.cross⟩
theorem Two.push {gT nT cT gG nG cG : Nat} (h : Two f e k rt w base gT nT cT gG nG cG T G) {i : Nat} (hi : i < T.length) (hne : e ≠ rt) {v1 : Value} {x : α} (hg : w.grownBy w1 T[i].2.ownBlock)
    (h1 : OwnF f e k w1 base v1 (T[i].1 ++ [x])) (hat : v1.ownBlock = T[i].2.ownBlock ∨ ∃ q, v1.ownBlock = some q ∧ w.heap.size ≤ q) :
    Two f e k rt (w1.setCell ⟨gT, i, none⟩ v1) base gT nT cT gG nG cG (T.set i (T[i].1 ++ [x], v1)) G := by
  have hTi := h.t.own _ (List.getElem_mem hi)
  have hblkG : ∀ b, T[i].2.ownBlock = some b → b ≠ gG ∧ b ≠ gT := by
    intro b hb
    obtain ⟨⟨c, hc⟩, _⟩ := hTi.ty hb
    obtain ⟨cg, hcg, _⟩ := OwnF.block h.g.row
    obtain ⟨ct, hct, _⟩ := OwnF.block h.t.row
    exact ⟨type_ne hc hcg hne, type_ne hc hct hne⟩
  have hty : ∃ c, w1.heap[gT]? = some (.cells c rt) := by
    obtain ⟨ct, hct, _⟩ := OwnF.block h.t.row
    refine ⟨ct, (hg.block gT (lt_of_block hct) (fun e2 => ?_)).trans hct⟩
    exact (hblkG gT e2.symm).2 rfl
  refine ⟨Grid.push h.t hi hne hg h1 hat, Grid.beside h.g hg (fun e2 => (hblkG gG e2).1 rfl) (fun y hy b hb => h.cross _ (List.getElem_mem hi) y hy b hb) h.ne hty hne i v1, h.ne, ?_⟩
  intro y hy z hz b hb
  rcases List.mem_or_eq_of_mem_set hy with hy | rfl
  · exact h.cross y hy z hz b hb
  · rcases hat with h2 | ⟨q, h2, h3⟩
    · exact h.cross _ (List.getElem_mem hi) z hz b (by rw [← h2]; exact hb)
    · intro hz2
      have e1 : q = b := by
        have hb' : v1.ownBlock = some b := hb
        rw [h2] at hb'; exact Option.some.inj hb'
      obtain ⟨⟨c, hc⟩, _⟩ := (h.g.own z hz).ty hz2
      have := lt_of_block hc
      omega
end
end Go.Proofs.YtbolacnpljkpbaaDoor
