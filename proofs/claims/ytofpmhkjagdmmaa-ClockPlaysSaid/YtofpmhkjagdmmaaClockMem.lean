/- A clock in memory of the call's own; the order of its entries (clock.entry.cmp). -/
import Derived.Test.YtofpmhkjagdmmaaClockRefP
import Derived.Test.YtofpmhkjagdmmaaAppCol
import Derived.Test.YtofpmhkjagdmmaaShelf
import Derived.Laws.OwnMore
import Derived.Laws.NewBlocks
set_option maxRecDepth 100000
namespace Go.Proofs.Ytofpmhkjagdmmaa
open Go.RowKit

def cellA (a : Al) : List Value := [.int .i64 a.due, .int .i64 a.token, .string a.via, .int .i64 a.inst]
def cellE (e : Ent) : List Value := [.int .i64 e.al.due, .int .i64 e.al.token, .string e.al.via, .int .i64 e.al.inst, .int .i64 e.n]
abbrev valA (a : Al) : Value := .agg #[.int .i64 a.due, .int .i64 a.token, .string a.via, .int .i64 a.inst]
abbrev valE (e : Ent) : Value := .agg #[.int .i64 e.al.due, .int .i64 e.al.token, .string e.al.via, .int .i64 e.al.inst, .int .i64 e.n]

theorem compare_cmpI (a b : Int) : Lib.compareInt a b = cmpI a b := by
  unfold Lib.compareInt cmpI
  by_cases h1 : a < b
  · simp [h1]
  · by_cases h2 : b < a <;> simp [h1, h2]
theorem cmpI_range (a b : Int) : -1 ≤ cmpI a b ∧ cmpI a b ≤ 1 := by
  unfold cmpI
  split
  · omega
  · split <;> omega

theorem compare_any (w : World) (a b : Int) : Calls Try.prog 40 #[.int .i64 a, .int .i64 b] w fun e w' => e = .returned (.int .i64 (cmpI a b)) ∧ w = w' :=
  (Try.cmp_Compare_int a b w).mono fun _ _ ⟨h1, h2⟩ => ⟨by rw [h1, compare_cmpI], h2.symm⟩

set_option maxHeartbeats 1000000 in
/-- cmp.Or of three numbers in a new block. -/
theorem or_any (w : World) (b : Nat) (x y z : Int) (hb : w.heap[b]? = some (.cells #[.int .i64 x, .int .i64 y, .int .i64 z] 3)) :
    Calls Try.prog 39 #[.slice (some ⟨b, 0, none⟩) 3 3] w fun e w' => e = .returned (.int .i64 (orI x y z)) ∧ w = w' := by
  have c0 : w.cell? ⟨b, 0, none⟩ = some (.int .i64 x) := by rw [cell_of_block hb]; rfl
  have c1 : w.cell? ⟨b, 1, none⟩ = some (.int .i64 y) := by rw [cell_of_block hb]; rfl
  have c2 : w.cell? ⟨b, 2, none⟩ = some (.int .i64 z) := by rw [cell_of_block hb]; rfl
  have o : ∀ v, v = orI x y z → Ending.returned (.int .i64 v) = .returned (.int .i64 (orI x y z)) := fun v h => by rw [h]
  have O := Lib.hid o
  clear o hb
  go_enter Try.func39, Try.ntmps39
  go_wp2_with fail
  go_loopg [8] 3 (fun gh s8 wx => w = wx ∧ ∃ i : Nat, i + gh = 3 ∧ s8 = .int .i64 (i : Int) ∧ (0 < i → x = 0) ∧ (1 < i → y = 0) ∧ (2 < i → z = 0))
  case atStart => exact ⟨rfl, 0, by omega, rfl, fun h => by omega, fun h => by omega, fun h => by omega⟩
  case round =>
    obtain ⟨rfl, i, hi, rfl, hx, hy, hz⟩ := hrel
    rcases (show i = 0 ∨ i = 1 ∨ i = 2 ∨ i = 3 by omega) with rfl | rfl | rfl | rfl
    · by_cases h0 : x = 0
      · subst h0
        go_wp2_with fail
        go_roundg 2
        case measure => omega
        case rel => exact ⟨rfl, 1, by omega, rfl, fun _ => by trivial, fun h => by omega, fun h => by omega⟩
      · have d0 : (x == 0) = false := by rw [beq_eq_false_iff_ne]; exact h0
        have d1 : (x != 0) = true := by rw [bne, d0]; rfl
        go_wp2_with fail
        go_ret
        exact ⟨O.out _ (by unfold orI; rw [if_pos h0]), rfl⟩
    · obtain rfl := hx (by omega)
      by_cases h0 : y = 0
      · subst h0
        go_wp2_with fail
        go_roundg 1
        case measure => omega
        case rel => exact ⟨rfl, 2, by omega, rfl, fun _ => by trivial, fun _ => by trivial, fun h => by omega⟩
      · have d0 : (y == 0) = false := by rw [beq_eq_false_iff_ne]; exact h0
        have d1 : (y != 0) = true := by rw [bne, d0]; rfl
        go_wp2_with fail
        go_ret
        exact ⟨O.out _ (by unfold orI; rw [if_neg (by omega), if_pos h0]), rfl⟩
    · obtain rfl := hx (by omega)
      obtain rfl := hy (by omega)
      by_cases h0 : z = 0
      · subst h0
        go_wp2_with fail
        go_roundg 0
        case measure => omega
        case rel => exact ⟨rfl, 3, by omega, rfl, fun _ => by trivial, fun _ => by trivial, fun _ => by trivial⟩
      · have d0 : (z == 0) = false := by rw [beq_eq_false_iff_ne]; exact h0
        have d1 : (z != 0) = true := by rw [bne, d0]; rfl
        go_wp2_with fail
        go_ret
        exact ⟨O.out _ (by unfold orI; rw [if_neg (by omega), if_neg (by omega)]), rfl⟩
    · obtain rfl := hx (by omega)
      obtain rfl := hy (by omega)
      obtain rfl := hz (by omega)
      go_wp2_with fail
      go_ret
      exact ⟨O.out _ rfl, rfl⟩

theorem box5 {w : World} {b : Nat} {v0 v1 v2 v3 v4 : Value} {t : TypeId} {fr : Nat × Nat} (h : w.heap[b]? = some (.cells #[v0, v1, v2, v3, v4] t fr)) :
    w.cell? ⟨b, 0, none⟩ = some v0 ∧ w.cell? ⟨b, 1, none⟩ = some v1 ∧ w.cell? ⟨b, 2, none⟩ = some v2 ∧ w.cell? ⟨b, 3, none⟩ = some v3 ∧ w.cell? ⟨b, 4, none⟩ = some v4 := by
  refine ⟨?_, ?_, ?_, ?_, ?_⟩ <;> (rw [cell_of_block h]; rfl)

set_option maxHeartbeats 2000000 in
theorem ent_cmp (w : World) (e f : Ent) : Calls Try.prog 33 #[valE e, valE f] w fun r w' => r = .returned (.int .i64 (cmpEnt e f)) ∧ Below w.heap.size w w' := by
  obtain ⟨⟨ed, et, ev, ei⟩, en⟩ := e
  obtain ⟨⟨fd, ft, fv, fi⟩, fn⟩ := f
  have hb1 := (Below.refl w.heap.size w).alloc (Nat.le_refl _) (.cells #[.int .i64 ed, .int .i64 et, .string ev, .int .i64 ei, .int .i64 en] 67)
  have hx1 := heap_alloc_new w (.cells #[.int .i64 ed, .int .i64 et, .string ev, .int .i64 ei, .int .i64 en] 67)
  obtain ⟨w1, hw1⟩ : ∃ w1, w.alloc (.cells #[.int .i64 ed, .int .i64 et, .string ev, .int .i64 ei, .int .i64 en] 67) = w1 := ⟨_, rfl⟩
  have hs1 : w1.heap.size = w.heap.size + 1 := by rw [← hw1]; exact World.size_alloc _ _
  rw [hw1] at hb1 hx1
  have hb2 := (Below.refl w1.heap.size w1).alloc (Nat.le_refl _) (.cells #[.int .i64 fd, .int .i64 ft, .string fv, .int .i64 fi, .int .i64 fn] 67)
  have hx2 := heap_alloc_new w1 (.cells #[.int .i64 fd, .int .i64 ft, .string fv, .int .i64 fi, .int .i64 fn] 67)
  have hx1' := (hb2.block _ (by omega)).trans hx1
  obtain ⟨w2, hw2⟩ : ∃ w2, w1.alloc (.cells #[.int .i64 fd, .int .i64 ft, .string fv, .int .i64 fi, .int .i64 fn] 67) = w2 := ⟨_, rfl⟩
  have hs2 : w2.heap.size = w1.heap.size + 1 := by rw [← hw2]; exact World.size_alloc _ _
  rw [hw2] at hb2 hx2 hx1'
  obtain ⟨a0, a1, a2, a3, a4⟩ := box5 hx1'
  obtain ⟨b0, b1, b2, b3, b4⟩ := box5 hx2
  have B2 := hb1.trans (hb2.mono (by omega))
  have g0 : w.heap.size < w2.heap.size := by omega
  have g1 : w1.heap.size < w2.heap.size := by omega
  have HW1 := Lib.hid hw1
  have HW2 := Lib.hid hw2
  clear hx1 hx1' hx2 hb1 hb2 hs1 hs2 a2 a3 b2 b3
  go_enter Try.func33, Try.ntmps33
  go_wp2_with fail
  clear hw1 hw2
  go_region_held3 (fun w' => w'.cell? ⟨w.heap.size, 0, none⟩ = some (.int .i64 ed) ∧ w'.cell? ⟨w.heap.size, 1, none⟩ = some (.int .i64 et) ∧ w'.cell? ⟨w.heap.size, 4, none⟩ = some (.int .i64 en) ∧ w'.cell? ⟨w1.heap.size, 0, none⟩ = some (.int .i64 fd) ∧ w'.cell? ⟨w1.heap.size, 1, none⟩ = some (.int .i64 ft) ∧ w'.cell? ⟨w1.heap.size, 4, none⟩ = some (.int .i64 fn))
    (first | go_keep)
    (first | (go_at_call 40; refine (compare_any _ _ _).mono ?_; rintro e w7 ⟨rfl, rfl⟩) | (go_at_call 39; refine (or_any _ _ _ _ _ (show (World.alloc w2 _).drew.heap[w2.heap.size]? = _ from heap_alloc_new w2 _)).mono ?_; rintro e w7 ⟨rfl, rfl⟩))
  go_wp2_with fail
  go_ret
  exact ⟨rfl, B2.trans ((((Below.refl w2.heap.size w2).alloc (Nat.le_refl _) _).drew).mono B2.size)⟩

end Go.Proofs.Ytofpmhkjagdmmaa
