/- Loads and stores of whole structs in a region that draws its order, as one step each. -/
import Derived.Test.YtofpmhkjagdmmaaBase
import Derived.Deep.RegionLaw
set_option maxRecDepth 100000
namespace Go.Proofs.Ytofpmhkjagdmmaa
open Go.RowKit

section
variable {P : Program}

theorem wp_load_agg {o : Oper} {a : Act} {w : World} {K : Act → World → Prop} {Q : Exit → Act → World → Prop} (ty : TypeId) (x : Operand) (ho : o.op = .load ty x) (ad : Addr) (hx : a.eval x = .pointer (some ad)) (n : Nat)
    (hagg : (isAgg ty).run P w = .ok true w) (hsz : (Go.sizeOf ty).run P w = .ok n w) (c : List Value) (hl : Sem.run P (loadCellsFrom ad 0 n #[]) w = .ok c.toArray w) (h : K (a.put o.dst (.agg c.toArray)) w) : o.wp P a w K Q := by
  unfold Oper.wp execOp
  simp only [ho, hx, Instr.loadAt, Instr.sureAddr, Sem.run_bind, Sem.run_pure, Result.andThen_ok, loadVar, hagg, hsz, loadCells, hl, if_true]
  exact h

theorem step_load_agg {ops : Array Oper} {o : Oper} {a : Act} {w : World} {K : Act → World → Prop} {Q : Exit → Act → World → Prop} {E : Prop} (hgd : o.guard = none) (ty : TypeId) (x : Operand) (ho : o.op = .load ty x) (ad : Addr) (hx : a.eval x = .pointer (some ad)) (n : Nat)
    (hagg : (isAgg ty).run P w = .ok true w) (hsz : (Go.sizeOf ty).run P w = .ok n w) (c : List Value) (hl : Sem.run P (loadCellsFrom ad 0 n #[]) w = .ok c.toArray w) (h : K (a.put o.dst (.agg c.toArray)) w) :
    if Region.wanted o (yielded ops a.tmps) = true then Oper.wp P o a w K Q else E := by
  have hw : Region.wanted o (yielded ops a.tmps) = true := by simp [Region.wanted, hgd]
  rw [if_pos hw]
  exact wp_load_agg ty x ho ad hx n hagg hsz c hl h

theorem wp_store_agg {o : Oper} {a : Act} {w w' : World} {K : Act → World → Prop} {Q : Exit → Act → World → Prop} (ty : TypeId) (x y : Operand) (ho : o.op = .store ty x y) (hd : o.dst = none) (ad : Addr) (hx : a.eval x = .pointer (some ad)) (n : Nat)
    (hsz : (Go.sizeOf ty).run P w = .ok n w) (c : List Value) (hy : a.eval y = .agg c.toArray) (hn : c.length = n) (hs : Sem.run P (storeCells ad c 0) w = .ok () w') (h : K a w') : o.wp P a w K Q := by
  unfold Oper.wp execOp
  have e : (Value.agg c.toArray).cells = c.toArray := rfl
  simp only [ho, hx, hy, Instr.storeAt, Instr.sureAddr, Sem.run_bind, Sem.run_pure, Result.andThen_ok, storeVar, hsz, e, List.size_toArray, hn, ne_eq, not_true_eq_false, if_false, hs]
  show K (a.put o.dst undef) w'
  rw [hd]
  exact h

theorem step_store_agg {ops : Array Oper} {o : Oper} {a : Act} {w w' : World} {K : Act → World → Prop} {Q : Exit → Act → World → Prop} {E : Prop} (hgd : o.guard = none) (ty : TypeId) (x y : Operand) (ho : o.op = .store ty x y) (hd : o.dst = none) (ad : Addr) (hx : a.eval x = .pointer (some ad)) (n : Nat)
    (hsz : (Go.sizeOf ty).run P w = .ok n w) (c : List Value) (hy : a.eval y = .agg c.toArray) (hn : c.length = n) (hs : Sem.run P (storeCells ad c 0) w = .ok () w') (h : K a w') :
    if Region.wanted o (yielded ops a.tmps) = true then Oper.wp P o a w K Q else E := by
  have hw : Region.wanted o (yielded ops a.tmps) = true := by simp [Region.wanted, hgd]
  rw [if_pos hw]
  exact wp_store_agg ty x y ho hd ad hx n hsz c hy hn hs h

end
end Go.Proofs.Ytofpmhkjagdmmaa
