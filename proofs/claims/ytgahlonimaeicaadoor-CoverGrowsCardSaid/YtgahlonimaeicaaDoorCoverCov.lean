/- (*Tree).Covered. -/
import Derived.Test.YtgahlonimaeicaaDoorCoverNode
import Derived.Test.YtgahlonimaeicaaDoorCoverAllP
set_option maxRecDepth 100000
namespace Go.Proofs.YtgahlonimaeicaaDoor
open Go.RowKit

theorem idxN_range (p : Nd → Bool) : ∀ (l : List Nd) (k : Nat), idxN p l k = -1 ∨ ∃ j, idxN p l k = ((k + j : Nat) : Int) ∧ j < l.length
  | [], k => Or.inl rfl
  | x :: l, k => by
    simp only [idxN]
    split
    · exact Or.inr ⟨0, rfl, by simp⟩
    · rcases idxN_range p l (k + 1) with h | ⟨j, h, hj⟩
      · left; rw [← h]; rfl
      · right; exact ⟨j + 1, by rw [show k + (j + 1) = k + 1 + j by omega, ← h]; rfl, by simpa using hj⟩
theorem idxN_some {p : Nd → Bool} {l : List Nd} (h : l.any p = true) : ∃ j : Nat, idxN p l 0 = (j : Int) ∧ j < l.length := by
  have h0 := idxN_any p l 0 (by omega)
  rw [h] at h0
  rcases idxN_range p l 0 with e | ⟨j, e, hj⟩
  · have e' : idxN p l 0 = -1 := e
    rw [e'] at h0; simp at h0
  · exact ⟨j, by rw [show (0 : Int) = ((0 : Nat) : Int) from rfl, e]; simp, hj⟩
theorem idxN_none {p : Nd → Bool} {l : List Nd} (h : l.any p = false) : idxN p l 0 = -1 := by
  have h0 := idxN_any p l 0 (by omega)
  rw [h] at h0
  rcases idxN_range p l 0 with e | ⟨j, e, hj⟩
  · exact e
  · have e' : idxN p l 0 = ((0 + j : Nat) : Int) := e
    rw [e'] at h0
    exact absurd (of_decide_eq_false h0) (by omega)

theorem covered1 (w : World) (B b : Nat) (hB : B ≤ w.heap.size) (hb : b < w.heap.size) (d : Nd) (v vm : Value) (m : List Int) (hd : Ints w B v d.mark) (hm : Ints w B vm m) (hc : w.cell? ⟨b, 0, none⟩ = some vm) :
    Calls Tryd.prog 45 #[.agg #[.int .i64 d.par, .int .i64 d.tr, v, .int .i64 d.again], .pointer (some ⟨b, 0, none⟩)] w fun e w' => e = .returned (.bool (wcoversB d.mark m)) ∧ Below w.heap.size w w' := by
  have hb1 := (Below.refl w.heap.size w).alloc (Nat.le_refl _) (.cells #[.int .i64 d.par, .int .i64 d.tr, v, .int .i64 d.again] 36)
  obtain ⟨t, ht⟩ : ∃ t, wcoversB d.mark m = t := ⟨_, rfl⟩
  have HC := wcovers_any _ _ v vm d.mark m (hd.mono (hb1.mono hB) (Nat.le_refl _)) (hm.mono (hb1.mono hB) (Nat.le_refl _))
  rw [ht] at HC ⊢
  have HC' := Lib.hid HC
  clear ht HC
  obtain ⟨a, c, rfl⟩ := hd.val
  obtain ⟨a2, c2, rfl⟩ := hm.val
  go_enter Tryd.func45, Tryd.ntmps45
  go_wp2_with (go_at_call 16; go_must (refine HC'.out.mono ?_; rintro e w2 ⟨rfl, nd, rfl⟩))
  go_ret
  exact ⟨rfl, hb1.trans ((below_drewN' nd).mono (by simp))⟩

theorem run_covered1 (b : Nat) (x : Value) (W : World) : (callFunc 45 (#[x] ++ #[.pointer (some ⟨b, 0, none⟩)])).run Tryd.prog W = .ok (.enter 45 (#[x] ++ #[.pointer (some ⟨b, 0, none⟩)])) W := by kernel_rfl

theorem covered_idx (w : World) (B p : Nat) (l : List Nd) (h : TreeR w B p l) (hB : B ≤ w.heap.size) (vm : Value) (m : List Int) (hm : Ints w B vm m) (i : Int) (hi : idxN (fun d => wcoversB d.mark m) l 0 = i) :
    Calls Tryd.prog 20 #[.pointer (some ⟨p, 0, none⟩), vm] w fun e w' => e = .returned (.tuple #[.int .i64 (max i 0), .bool (decide (0 ≤ i))]) ∧ Below w.heap.size w w' := by
  have hb1 := (Below.refl w.heap.size w).alloc (Nat.le_refl _) (.cells #[vm] 33)
  have hz : (w.alloc (.cells #[vm] 33)).heap.size = w.heap.size + 1 := World.size_alloc _ _
  have hT1 := h.mono (hb1.mono hB) (show B ≤ B by omega)
  have hm1 := hm.mono (hb1.mono hB) (show B ≤ B by omega)
  have hx1 : (w.alloc (.cells #[vm] 33)).heap[w.heap.size]? = some (.cells #[vm] 33) := heap_alloc_new _ _
  obtain ⟨a, cap, hp, hl, hc, hn⟩ := h
  obtain ⟨a', cap', hp', hl', hc', hn'⟩ := hT1
  have hcc : a' = a ∧ cap' = cap := by
    rw [Below.cellB (hb1.mono hB) hp, hc] at hc'
    cases hc'; exact ⟨rfl, rfl⟩
  obtain ⟨rfl, rfl⟩ := hcc
  have HI := indexFuncN_any (w.alloc (.cells #[vm] 33)) B (by omega) a' cap' l hn' hl 45 #[.pointer (some ⟨w.heap.size, 0, none⟩)] (fun d => wcoversB d.mark m) (run_covered1 _)
    (fun W hW d _ v hv => covered1 W B w.heap.size (by have := hW.size; omega) (by have := hW.size; omega) d v vm m hv (hm1.mono (hW.mono (by omega)) (Nat.le_refl _)) (by rw [Below.cellB hW (by omega), cell_of_block hx1]; rfl))
  rw [hi] at HI
  have HI' := Lib.hid HI
  clear HI hi hn hn' hc' hm1
  have hpw : p < w.heap.size := by omega
  obtain ⟨am, cm, rfl⟩ := hm.val
  go_enter Tryd.func20, Tryd.ntmps20
  go_wp2_with (go_at_call 44; go_must (refine HI'.out.mono ?_; rintro e w2 ⟨rfl, hb2⟩))
  go_ret2
  exact ⟨rfl, hb1.trans (hb2.mono (by omega))⟩

theorem covered_yes (w : World) (B p : Nat) (l : List Nd) (h : TreeR w B p l) (hB : B ≤ w.heap.size) (vm : Value) (m : List Int) (hm : Ints w B vm m) (hc : Covd l m) :
    Calls Tryd.prog 20 #[.pointer (some ⟨p, 0, none⟩), vm] w fun e w' => ∃ j : Nat, j < l.length ∧ e = .returned (.tuple #[.int .i64 (j : Int), .bool true]) ∧ Below w.heap.size w w' := by
  obtain ⟨c, hcl, hcv⟩ := hc
  have hany : l.any (fun d => wcoversB d.mark m) = true := List.any_eq_true.2 ⟨l[c], List.getElem_mem hcl, by rw [← ndAt_eq hcl]; exact hcv⟩
  obtain ⟨j, hj, hjl⟩ := idxN_some hany
  refine (covered_idx w B p l h hB vm m hm _ hj).mono fun e w' ⟨h1, h2⟩ => ⟨j, hjl, ?_, h2⟩
  rw [h1]
  have e1 : max (j : Int) 0 = j := by omega
  have e2 : decide (0 ≤ (j : Int)) = true := decide_eq_true (by omega)
  rw [e1, e2]

end Go.Proofs.YtgahlonimaeicaaDoor
