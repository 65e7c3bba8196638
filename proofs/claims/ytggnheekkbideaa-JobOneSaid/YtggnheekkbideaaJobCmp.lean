/- The comparison that job.some hands over. -/
import Derived.Test.YtggnheekkbideaaJobStable
import Derived.Test.YtggnheekkbideaaShelf
set_option maxRecDepth 100000
namespace Go.Proofs.Ytggnheekkbideaa
open Go.RowKit

theorem cmpP_eq (x y : PT) : Lib.compareInt x.t.id y.t.id = cmpP x y := by
  unfold Lib.compareInt cmpP
  rfl
theorem compare_any (w : World) (x y : PT) : Calls Try.prog 53 #[.int .i64 x.t.id, .int .i64 y.t.id] w fun e w' => e = .returned (.int .i64 (cmpP x y)) ∧ w = w' :=
  (Try.cmp_Compare_int _ _ w).mono fun _ _ ⟨h1, h2⟩ => ⟨by rw [h1, cmpP_eq], h2.symm⟩

/-- The cells of a token at a place. -/
theorem InsR.place {w : World} {B b o n cap : Nat} {l : List Ins} (h : InsR w B (.slice (some ⟨b, o, none⟩) n cap) l) {p : PT} (hp : p ∈ allT l) :
    ∃ bt ot ct, w.cell? ⟨b, o + p.i * 5 + 4, none⟩ = some (.slice (some ⟨bt, ot, none⟩) (atL l p.i).toks.length ct) ∧ w.cell? ⟨bt, ot + p.k * 9, none⟩ = some (.int .i64 p.t.id) := by
  obtain ⟨h1, h2, h3, _⟩ := allT_at hp
  obtain ⟨av, cv, at_, ct, _, _, _, _, r4, _, rT⟩ := h.at h1 (x := atL l p.i) (by rw [atL_eq h1])
  obtain ⟨bt, ot, rfl, _⟩ := rT.addr (by omega)
  obtain ⟨t0, _⟩ := tsR_at rT h2 (x := p.t) (by rw [h3, atL_eq h2])
  exact ⟨bt, ot, ct, r4, t0⟩

set_option maxHeartbeats 4000000 in
theorem some1_any (W : World) (B b : Nat) (v : Value) (l : List Ins) (hb : W.cell? ⟨b, 0, none⟩ = some v) (hbB : b < B) (hB : B ≤ W.heap.size) (hI : InsR W B v l) (x y : PT) (hx : x ∈ allT l) (hy : y ∈ allT l) :
    Calls Try.prog 52 #[valP x, valP y, .pointer (some ⟨b, 0, none⟩)] W fun e w' => e = .returned (.int .i64 (cmpP x y)) ∧ Below W.heap.size W w' := by
  obtain ⟨a, c, rfl⟩ := hI.val
  obtain ⟨x1, x2, -, -⟩ := allT_at hx
  obtain ⟨y1, y2, -, -⟩ := allT_at hy
  obtain ⟨bl, ol, rfl, hbl⟩ := hI.addr (show 0 < l.length by omega)
  have hll := hI.len
  have hB1 := (Below.refl W.heap.size W).alloc (Nat.le_refl _) (.cells #[.int .i64 (x.i : Int), .int .i64 (x.k : Int)] 72)
  have hn1 := heap_alloc_new W (.cells #[.int .i64 (x.i : Int), .int .i64 (x.k : Int)] 72)
  have hs1 : W.heap.size < (W.alloc (.cells #[.int .i64 (x.i : Int), .int .i64 (x.k : Int)] 72)).heap.size := by simp
  obtain ⟨W1, hW1⟩ : ∃ W1, W.alloc (.cells #[.int .i64 (x.i : Int), .int .i64 (x.k : Int)] 72) = W1 := ⟨_, rfl⟩
  rw [hW1] at hB1 hn1 hs1
  have hB2 := (Below.refl W1.heap.size W1).alloc (Nat.le_refl _) (.cells #[.int .i64 (y.i : Int), .int .i64 (y.k : Int)] 72)
  have hn2 := heap_alloc_new W1 (.cells #[.int .i64 (y.i : Int), .int .i64 (y.k : Int)] 72)
  obtain ⟨W2, hW2⟩ : ∃ W2, W1.alloc (.cells #[.int .i64 (y.i : Int), .int .i64 (y.k : Int)] 72) = W2 := ⟨_, rfl⟩
  rw [hW2] at hB2 hn2
  have hn1' := (hB2.block _ hs1).trans hn1
  have hBB := hB1.trans (hB2.mono hB1.size)
  obtain ⟨bt, ot, ct, p4, pt⟩ := (hI.mono (hBB.mono hB) (Nat.le_refl _)).place hx
  obtain ⟨bu, ou, cu, q4, qt⟩ := (hI.mono (hBB.mono hB) (Nat.le_refl _)).place hy
  have c0 : W2.cell? ⟨b, 0, none⟩ = some _ := (Below.cellB hBB (Nat.lt_of_lt_of_le hbB hB)).trans hb
  have z0 : W2.cell? ⟨W.heap.size, 0, none⟩ = some (.int .i64 (x.i : Int)) := by rw [cell_of_block hn1']; rfl
  have z1 : W2.cell? ⟨W.heap.size, 1, none⟩ = some (.int .i64 (x.k : Int)) := by rw [cell_of_block hn1']; rfl
  have z2 : W2.cell? ⟨W1.heap.size, 0, none⟩ = some (.int .i64 (y.i : Int)) := by rw [cell_of_block hn2]; rfl
  have z3 : W2.cell? ⟨W1.heap.size, 1, none⟩ = some (.int .i64 (y.k : Int)) := by rw [cell_of_block hn2]; rfl
  have i1 : (x.i : Int) < (l.length : Int) := by omega
  have i2 : (x.k : Int) < ((atL l x.i).toks.length : Int) := by omega
  have i3 : (y.i : Int) < (l.length : Int) := by omega
  have i4 : (y.k : Int) < ((atL l y.i).toks.length : Int) := by omega
  have HBB := Lib.hid hBB
  obtain ⟨n1, hn1x⟩ : ∃ n, (atL l x.i).toks.length = n := ⟨_, rfl⟩
  obtain ⟨n2, hn2x⟩ : ∃ n, (atL l y.i).toks.length = n := ⟨_, rfl⟩
  rw [hn1x] at x2 p4 i2
  rw [hn2x] at y2 q4 i4
  clear hn1 hn2 hn1' hB1 hB2 hBB hb hI hx hy hn1x hn2x
  go_enter Try.func52, Try.ntmps52
  go_wp2_with fail
  go_quiet ((go_at_call 53; (first | exact quiet_left (compare_any _ x y) | exact quiet_add_left (compare_any _ x y))))
  go_wp2_with fail
  go_ret
  exact ⟨rfl, below_drewN HBB.out _⟩

end Go.Proofs.Ytggnheekkbideaa
