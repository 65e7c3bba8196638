/- Two clocks and three lists of alarms side by side. -/
import Derived.Test.YtofpmhkjagdmmaaClockDel
import Derived.Test.YtofpmhkjagdmmaaClockOnceP
import Derived.Test.YtofpmhkjagdmmaaAppSrc
set_option maxRecDepth 100000
namespace Go.Proofs.Ytofpmhkjagdmmaa
open Go.RowKit

theorem apart_fresh {w : World} {base : Nat} {e : TypeId} {size n : Nat} {xs : List Value} {v v' v2 : Value} (h : Apart v v') (hr : w.ownsRow base e size v n xs) (hf : Fresh w v' v2) : Apart v v2 := by
  rcases hf with e | ⟨k, e, hk⟩
  · unfold Apart; rw [e]; exact h
  · rcases hr.2 with ⟨rfl, _⟩ | ⟨g, cap, cur, rfl, _, hg, _⟩
    · exact Or.inl rfl
    · refine Or.inr (Or.inr ?_)
      rw [e]
      have := lt_of_block hg
      simp only [Value.ownBlock, ne_eq, Option.some.injEq]
      omega
theorem als_als {w w' : World} {b : Nat} {vA v : Value} {A : List Al} (h : Als w b vA A) (ha : Apart vA v) (hf : Frm [v.ownBlock] w w') : Als w' b vA A :=
  own_frm h hf (fun r hr => by
    rw [List.mem_singleton.1 hr]
    rcases ha with e | e | e
    · cases hv : v.ownBlock with
      | none => exact Or.inl rfl
      | some b => exact Or.inr (by rw [e]; simp)
    · exact Or.inl e
    · exact Or.inr (Ne.symm e))

structure Onc (w : World) (B p1 p2 : Nat) (vC vD vS vO vP : Value) (T1 T2 : Int) (C D : List Ent) (S O P : List Al) (k : Int) : Prop where
  c : CkS w B p1 T1 vC C k
  d : CkS w B p2 T2 vD D k
  s : Als w B vS S
  o : Als w B vO O
  p : Als w B vP P
  cd : Apart vC vD
  so : Apart vS vO
  sp : Apart vS vP
  op : Apart vO vP

section
variable {w w' : World} {B p1 p2 : Nat} {vC vD vS vO vP : Value} {T1 T2 : Int} {C D : List Ent} {S O P : List Al} {k : Int}
theorem Onc.below (h : Onc w B p1 p2 vC vD vS vO vP T1 T2 C D S O P k) (hb : Below w.heap.size w w') : Onc w' B p1 p2 vC vD vS vO vP T1 T2 C D S O P k :=
  ⟨h.c.below hb, h.d.below hb, h.s.kept hb, h.o.kept hb, h.p.kept hb, h.cd, h.so, h.sp, h.op⟩
/-- One clock ticks. -/
theorem Onc.tickC {T : Int} {v' : Value} {C' : List Ent} (h : Onc w B p1 p2 vC vD vS vO vP T1 T2 C D S O P k) (hp : p1 ≠ p2) (hk : Kept w w' B p1 T vC v' C' k) (hh : HeapE C') : Onc w' B p1 p2 v' vD vS vO vP T T2 C' D S O P k :=
  ⟨⟨hk.clk, hk.row, hh⟩, h.d.other h.c hp.symm h.cd.symm hk.frm, als_other h.s h.c hk.frm, als_other h.o h.c hk.frm, als_other h.p h.c hk.frm, (h.cd.symm.fresh h.d.row hk.fresh).symm, h.so, h.sp, h.op⟩
theorem Onc.tickD {T : Int} {v' : Value} {D' : List Ent} (h : Onc w B p1 p2 vC vD vS vO vP T1 T2 C D S O P k) (hp : p1 ≠ p2) (hk : Kept w w' B p2 T vD v' D' k) (hh : HeapE D') : Onc w' B p1 p2 vC v' vS vO vP T1 T C D' S O P k :=
  ⟨h.c.other h.d hp h.cd hk.frm, ⟨hk.clk, hk.row, hh⟩, als_other h.s h.d hk.frm, als_other h.o h.d hk.frm, als_other h.p h.d hk.frm, h.cd.fresh h.c.row hk.fresh, h.so, h.sp, h.op⟩
/-- A list grows. -/
theorem Onc.growO {v' : Value} {O' : List Al} (h : Onc w B p1 p2 vC vD vS vO vP T1 T2 C D S O P k) (hA : Als w' B v' O') (hg : w.grownBy w' vO.ownBlock) (hf : Fresh w vO v') : Onc w' B p1 p2 vC vD vS v' vP T1 T2 C D S O' P k :=
  have f : Frm [vO.ownBlock] w w' := (Frm.refl _ _).grown hg (by simp)
  ⟨h.c.als h.o f, h.d.als h.o f, als_als h.s h.so f, hA, als_als h.p h.op.symm f, h.cd, apart_fresh h.so h.s hf, h.sp, (apart_fresh h.op.symm h.p hf).symm⟩
theorem Onc.growP {v' : Value} {P' : List Al} (h : Onc w B p1 p2 vC vD vS vO vP T1 T2 C D S O P k) (hA : Als w' B v' P') (hg : w.grownBy w' vP.ownBlock) (hf : Fresh w vP v') : Onc w' B p1 p2 vC vD vS vO v' T1 T2 C D S O P' k :=
  have f : Frm [vP.ownBlock] w w' := (Frm.refl _ _).grown hg (by simp)
  ⟨h.c.als h.p f, h.d.als h.p f, als_als h.s h.sp f, als_als h.o h.op f, hA, h.cd, h.so, apart_fresh h.sp h.s hf, apart_fresh h.op h.o hf⟩
end
/-- Both clocks are set, and the list of what was set grows (the other lists are nil yet). -/
theorem Onc.push {w w5 w6 w8 w9 : World} {B p1 p2 : Nat} {vC vD vS v5 v6 v9 : Value} {C C5 : List Ent} {S S' : List Al} {k k' : Int} (h : Onc w B p1 p2 vC vD vS (.slice none 0 0) (.slice none 0 0) 0 0 C C S [] [] k) (hp : p1 ≠ p2)
    (h5 : Kept w w5 B p1 0 vC v5 C5 k') (hb : Below w5.heap.size w5 w6) (w7 : World) (h7 : Kept w6 w7 B p2 0 vD v6 C5 k') (hh : HeapE C5) (hb8 : Below w7.heap.size w7 w8) (hg : w8.grownBy w9 vS.ownBlock) (hA : Als w9 B v9 S') :
    Onc w9 B p1 p2 v5 v6 v9 (.slice none 0 0) (.slice none 0 0) 0 0 C5 C5 S' [] [] k' := by
  have c5 : CkS w5 B p1 0 v5 C5 k' := ⟨h5.clk, h5.row, hh⟩
  have d5 := h.d.other h.c hp.symm h.cd.symm h5.frm
  have s5 := als_other h.s h.c h5.frm
  have cd5 : Apart v5 vD := (h.cd.symm.fresh h.d.row h5.fresh).symm
  have c6 := c5.below hb
  have d6 := d5.below hb
  have s6 : Als w6 B vS S := s5.kept hb
  have c7 := c6.other d6 hp cd5 h7.frm
  have d7 : CkS w7 B p2 0 v6 C5 k' := ⟨h7.clk, h7.row, hh⟩
  have s7 := als_other s6 d6 h7.frm
  have cd7 : Apart v5 v6 := cd5.fresh c6.row h7.fresh
  have f9 : Frm [vS.ownBlock] w7 w9 := (Frm.ofBelow hb8).grown hg (by simp)
  exact ⟨c7.als s7 f9, d7.als s7 f9, hA, OwnF.nil _ _, OwnF.nil _ _, cd7, Or.inr (Or.inl rfl), Or.inr (Or.inl rfl), Or.inl rfl⟩
/-- Both are dropped from. -/
theorem Onc.drop {w w5 w6 : World} {B p1 p2 : Nat} {vC vD vS v5 v6 : Value} {C C5 : List Ent} {S : List Al} {k : Int} (h : Onc w B p1 p2 vC vD vS (.slice none 0 0) (.slice none 0 0) 0 0 C C S [] [] k) (hp : p1 ≠ p2)
    (h5 : Kept w w5 B p1 0 vC v5 C5 k) (h6 : Kept w5 w6 B p2 0 vD v6 C5 k) (hh : HeapE C5) : Onc w6 B p1 p2 v5 v6 vS (.slice none 0 0) (.slice none 0 0) 0 0 C5 C5 S [] [] k :=
  (h.tickC hp h5 hh).tickD hp h6 hh

end Go.Proofs.Ytofpmhkjagdmmaa
