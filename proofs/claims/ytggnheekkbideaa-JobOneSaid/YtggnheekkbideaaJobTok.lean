/- job.tokens: the contract of its iterator. -/
import Derived.Test.YtggnheekkbideaaJobTokP
import Derived.RangeFuncNested
import Derived.RangeFuncBound
import Derived.RangeFuncCalls
import Derived.RangeFuncLeaves
import Derived.Shelf.Abstract
import Derived.Shelf.RegionOpen
import Derived.WalkKit
import Derived.OwnWalkIn
import Derived.TacticsInMore
import Derived.LoopNIn
import Derived.LoopIn
namespace Go.Proofs.Ytggnheekkbideaa
open Go.RowKit Go.Shelf
attribute [local go_sem] Oper.semAt_some

def encP (x : PT) : Array Value := #[.agg #[.int .i64 (x.i : Int), .int .i64 (x.k : Int)], valT x.t]

set_option maxRecDepth 100000 in
set_option maxHeartbeats 4000000 in
theorem tokens1_in (F : Fence) (n : Nat) (h1 : F.fn 54) (hro : F.round = none) (hn : 1 ≤ n) (lr Bl n₀ : Nat) (v : Value) (l : List Ins) (J Jx : List PT → World → Prop) (W : World)
    (hJ : AbidesFrom W.heap.size J) (_hJx : AbidesFrom W.heap.size Jx)
    (hY : ∀ pre x W1, J pre W1 → pre.length < (allT l).length → YieldAt F (n - 1) Try.prog lr (encP x) W1 fun e W' =>
      (e = .returned (.bool true) ∧ J (pre ++ [x]) W' ∧ Below n₀ W1 W') ∨ (e = .returned (.bool false) ∧ Jx (pre ++ [x]) W'))
    (hBl : W.cell? ⟨Bl, 0, none⟩ = some v) (hI : InsR W n₀ v l) (hn0 : n₀ ≤ W.heap.size) (h0 : J [] W) :
    CallsIn F n Try.prog 54 #[.func (.yield lr) #[] #[], .pointer (some ⟨Bl, 0, none⟩)] W fun e W' => (∃ v, e = .returned v) ∧
      ((∃ ys, ys = allT l ∧ J ys W') ∨ (∃ pre, pre <+: allT l ∧ Jx pre W')) := by
  obtain ⟨a, c, rfl⟩ := hI.val
  have hll := hI.len
  refine callsIn_of_wp Try.func54 rfl h1 ?_ hro
  simp only [Try.ntmps54, List.size_toArray, List.length_cons, List.length_nil, Nat.reduceAdd, Nat.reduceSub, Array.replicate_succ, Array.replicate_zero, List.push_toArray, List.append_toArray, List.nil_append, List.cons_append]
  gi_wp2
  gi_loopw [9] (fun i wr => ∃ k : Nat, k ≤ l.length ∧ i = .int .i64 (k : Int) ∧ J (allN l k) wr ∧ Below n₀ W wr ∧ W.heap.size ≤ wr.heap.size)
    (fun i _ => l.length - (intOf i).toNat)
  case atStart => exact ⟨0, Nat.zero_le _, rfl, h0, Below.refl _ _, Nat.le_refl _⟩
  case round =>
    obtain ⟨i, hi, rfl, hJs, hnx, hzr⟩ := hrel
    obtain ⟨Wb, rfl⟩ : ∃ Wb : World, Wb = wr := ⟨_, rfl⟩
    by_cases hlt : i < l.length
    · have hIr := hI.mono hnx (Nat.le_refl _)
      obtain ⟨b, o, rfl, hb⟩ := hIr.addr (show 0 < l.length by omega)
      obtain ⟨x, hx⟩ : ∃ x, l[i] = x := ⟨_, rfl⟩
      obtain ⟨av, cv, at_, ct, r0, r1, r2, r3, r4, -, rT⟩ := hIr.at hlt hx
      have hxl : Hid (atL l i = x) := Lib.hid (by rw [atL_eq hlt]; exact hx)
      have hJa := hJ _ Wb _ none hJs (World.grownBy_alloc Wb (.cells #[.int .i64 x.id, .string x.model, .int .u8 x.state, .slice av x.vars.length cv, .slice at_ x.toks.length ct] 45) none) (fun r e => by cases e)
      have hBa := (Below.refl Wb.heap.size Wb).alloc (Nat.le_refl _) (.cells #[.int .i64 x.id, .string x.model, .int .u8 x.state, .slice av x.vars.length cv, .slice at_ x.toks.length ct] 45)
      have hnx2 := hnx.trans (hBa.mono (Nat.le_trans hn0 hzr))
      have hT2 := rT.mono (hBa.mono (Nat.le_trans hn0 hzr)) (Nat.le_refl _)
      have hz2 : W.heap.size ≤ (Wb.alloc (.cells #[.int .i64 x.id, .string x.model, .int .u8 x.state, .slice av x.vars.length cv, .slice at_ x.toks.length ct] 45)).heap.size := by simp; omega
      have hnw := heap_alloc_new Wb (.cells #[.int .i64 x.id, .string x.model, .int .u8 x.state, .slice av x.vars.length cv, .slice at_ x.toks.length ct] 45)
      have HTl := rT.len
      clear hx hIr rT hBa
      by_cases hs : x.state = 1
      · have d1 : (x.state != 1) = false := by simp [hs]
        have HS := Lib.hid hs
        clear hs
        obtain ⟨w2, hw2⟩ : ∃ w2, Wb.alloc (.cells #[.int .i64 x.id, .string x.model, .int .u8 x.state, .slice av x.vars.length cv, .slice at_ x.toks.length ct] 45) = w2 := ⟨_, rfl⟩
        rw [hw2] at hJa hnx2 hT2 hz2 hnw
        have y2 : w2.cell? ⟨Wb.heap.size, 2, none⟩ = some (.int .u8 x.state) := by rw [cell_of_block hnw]; rfl
        have y4 : w2.cell? ⟨Wb.heap.size, 4, none⟩ = some (.slice at_ x.toks.length ct) := by rw [cell_of_block hnw]; rfl
        have HJa := Lib.hid hJa
        have HT2 := Lib.hid hT2
        clear hnw hJs
        gi_wp2
        gi_loopw [20] (fun j ws => ∃ k : Nat, k ≤ x.toks.length ∧ j = .int .i64 (k : Int) ∧ J (allN l i ++ tokN i x k) ws ∧ Below n₀ w2 ws ∧ W.heap.size ≤ ws.heap.size)
          (fun j _ => x.toks.length - (intOf j).toNat)
        case atStart => exact ⟨0, Nat.zero_le _, rfl, by simpa [tokN] using HJa.out, Below.refl _ _, hz2⟩
        case round =>
          obtain ⟨k, hk, rfl, hJk, hnk, hzk⟩ := hrel
          by_cases hkl : k < x.toks.length
          · have hT3 := HT2.out.mono hnk (Nat.le_refl _)
            obtain ⟨bt, ot, rfl, hbt⟩ := hT3.addr (show 0 < x.toks.length by omega)
            obtain ⟨t, ht⟩ : ∃ t, x.toks[k] = t := ⟨_, rfl⟩
            obtain ⟨t0, t1, t2, t3, t4, t5, t6, t7, t8⟩ := tsR_at hT3 hkl ht
            have htl : Hid (atL x.toks k = t) := Lib.hid (by rw [atL_eq hkl]; exact ht)
            have hJ3 := hJ _ wr _ none hJk (World.grownBy_alloc wr (.cells #[.int .i64 t.id, .string t.here, .string t.on, .int .i64 t.born, .int .i64 t.tries, .string t.worker, .int .i64 t.til, .int .u8 t.inc, .int .i64 t.err] 41) none) (fun r e => by cases e)
            have hBa := (Below.refl wr.heap.size wr).alloc (Nat.le_refl _) (.cells #[.int .i64 t.id, .string t.here, .string t.on, .int .i64 t.born, .int .i64 t.tries, .string t.worker, .int .i64 t.til, .int .u8 t.inc, .int .i64 t.err] 41)
            have hnw3 := heap_alloc_new wr (.cells #[.int .i64 t.id, .string t.here, .string t.on, .int .i64 t.born, .int .i64 t.tries, .string t.worker, .int .i64 t.til, .int .u8 t.inc, .int .i64 t.err] 41)
            obtain ⟨w3, hw3⟩ : ∃ w3, wr.alloc (.cells #[.int .i64 t.id, .string t.here, .string t.on, .int .i64 t.born, .int .i64 t.tries, .string t.worker, .int .i64 t.til, .int .u8 t.inc, .int .i64 t.err] 41) = w3 := ⟨_, rfl⟩
            rw [hw3] at hJ3 hBa hnw3
            have hn3 := hnk.trans (hBa.mono (Nat.le_trans hn0 hzk))
            have hz3 : W.heap.size ≤ w3.heap.size := Nat.le_trans hzk hBa.size
            obtain ⟨fn, tmps, assign, body, hy, hR⟩ := hY _ ⟨i, k, t⟩ w3 hJ3 (mid_lt hlt hxl.out HS.out hkl)
            dsimp only [encP, valT] at hy
            have HR := Lib.hid hR
            have q0 : w3.cell? ⟨wr.heap.size, 0, none⟩ = some (.int .i64 t.id) := by rw [cell_of_block hnw3]; rfl
            have q1 : w3.cell? ⟨wr.heap.size, 1, none⟩ = some (.string t.here) := by rw [cell_of_block hnw3]; rfl
            have q2 : w3.cell? ⟨wr.heap.size, 2, none⟩ = some (.string t.on) := by rw [cell_of_block hnw3]; rfl
            have q3 : w3.cell? ⟨wr.heap.size, 3, none⟩ = some (.int .i64 t.born) := by rw [cell_of_block hnw3]; rfl
            have q4 : w3.cell? ⟨wr.heap.size, 4, none⟩ = some (.int .i64 t.tries) := by rw [cell_of_block hnw3]; rfl
            have q5 : w3.cell? ⟨wr.heap.size, 5, none⟩ = some (.string t.worker) := by rw [cell_of_block hnw3]; rfl
            have q6 : w3.cell? ⟨wr.heap.size, 6, none⟩ = some (.int .i64 t.til) := by rw [cell_of_block hnw3]; rfl
            have q7 : w3.cell? ⟨wr.heap.size, 7, none⟩ = some (.int .u8 t.inc) := by rw [cell_of_block hnw3]; rfl
            have q8 : w3.cell? ⟨wr.heap.size, 8, none⟩ = some (.int .i64 t.err) := by rw [cell_of_block hnw3]; rfl
            clear hT3 ht hBa hnw3 hR hJ3 hJk
            gi_wp2
            refine HR.out.mono ?_
            rintro e W4 (⟨rfl, hJ4, hk4⟩ | ⟨rfl, hJx4⟩)
            · have HJ4 := Lib.hid hJ4
              clear hJ4
              gi_wp2
              go_roundw
              case rel => exact ⟨k + 1, by omega, by simp, by rw [tokN_succ, htl.out, ← List.append_assoc]; exact HJ4.out, hn3.trans hk4, Nat.le_trans hz3 hk4.size⟩
              case measure => simp [intOf]; omega
            · have HJ4 := Lib.hid hJx4
              clear hJx4
              gi_wp2
              refine bodyPost_ret (results_none rfl _ _ _) rfl ?_
              refine ⟨⟨_, rfl⟩, .inr ⟨_, ?_, HJ4.out⟩⟩
              have := mid_pre (k := k + 1) hlt hxl.out HS.out (by omega)
              rwa [tokN_succ, htl.out, ← List.append_assoc] at this
          · obtain rfl : k = x.toks.length := by omega
            have hRn : Hid (allN l (i + 1) = allN l i ++ tokN i x x.toks.length) := Lib.hid (allN_run hxl.out HS.out)
            have HJk := Lib.hid hJk
            clear hJk
            gi_wp2
            go_roundw
            case rel => exact ⟨i + 1, by omega, by simp, by rw [hRn.out]; exact HJk.out, hnx2.trans hnk, hzk⟩
            case measure => simp [intOf]; omega
      · have d1 : (x.state != 1) = true := by simpa using hs
        have hN : Hid (allN l (i + 1) = allN l i) := Lib.hid (allN_not hxl.out hs)
        clear hs
        gi_wp2
        go_roundw
        case rel => exact ⟨i + 1, by omega, by simp, by rw [hN.out]; exact hJa, hnx2, hz2⟩
        case measure => simp [intOf]; omega
    · obtain rfl : i = l.length := by omega
      gi_wp2
      go_end0
      exact ⟨⟨_, rfl⟩, .inl ⟨_, rfl, hJs⟩⟩

/-- job.tokens: the instances are boxed; the function value captures the box. -/
theorem tokens_in (F : Fence) (n : Nat) (h1 : F.fn 38) (hro : F.round = none) (a : Option Addr) (len cap : Nat) (w : World) :
    CallsIn F n Try.prog 38 #[.slice a len cap] w fun e w' => e = .returned (.func (.func 54) #[] #[.pointer (some ⟨w.heap.size, 0, none⟩)]) ∧ w' = w.alloc (.cells #[.slice a len cap] 22) := by
  refine callsIn_of_wp Try.func38 rfl h1 ?_ hro
  simp only [Try.ntmps38, List.size_toArray, List.length_cons, List.length_nil, Nat.reduceAdd, Nat.reduceSub, Array.replicate_succ, Array.replicate_zero, List.push_toArray, List.append_toArray, List.nil_append, List.cons_append]
  gi_wp2
  go_ret
  exact ⟨rfl, rfl⟩

theorem tokens_stops (F : Fence) (n : Nat) (h1 : F.fn 54) (hro : F.round = none) (hn : 1 ≤ n) (Bl n₀ : Nat) (v : Value) (l : List Ins) (w : World) (hBl : Bl < w.heap.size) (hn₀ : n₀ ≤ w.heap.size)
    (hc : w.cell? ⟨Bl, 0, none⟩ = some v) (hI : InsR w n₀ v l) :
    SeqStopsK F n Try.prog 54 #[.pointer (some ⟨Bl, 0, none⟩)] encP (Below n₀) (fun ys => ys = allT l) (fun pre => pre <+: allT l) (allT l).length w := fun lr J Jx W hW hJ hJx hY h0 =>
  tokens1_in F n h1 hro hn lr Bl n₀ v l J Jx W hJ hJx hY ((hW.cell (p := ⟨Bl, 0, none⟩) hBl).trans hc) (hI.mono (hW.mono hn₀) (Nat.le_refl _)) (Nat.le_trans hn₀ hW.size) h0

/-- A block of cells stands where others turn that are none. -/
theorem blk_own {W W' : World} {row : Option Nat} {b : Nat} {cs : Array Value} {t : TypeId} {fr : Nat × Nat} (h : W.heap[b]? = some (.cells cs t fr)) (hg : W.grownBy W' row) (hr : ∀ r, row = some r → ∃ o : Obj, W.heap[r]? = some o ∧ o.isCells = false) : W'.heap[b]? = some (.cells cs t fr) := by
  refine (hg.block b (lt_of_block h) (fun e => ?_)).trans h
  obtain ⟨o, ho, hc⟩ := hr b e.symm
  rw [h] at ho
  cases ho
  cases hc

end Go.Proofs.Ytggnheekkbideaa
