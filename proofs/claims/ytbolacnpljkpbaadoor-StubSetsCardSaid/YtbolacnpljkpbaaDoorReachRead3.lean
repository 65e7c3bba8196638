/- Readers of a graph: Way, Deadlocks, Dead. -/
import Derived.Test.YtbolacnpljkpbaaDoorReachRead2
import Derived.Lib.OwnBridge
set_option maxRecDepth 100000
namespace Go.Proofs.YtbolacnpljkpbaaDoor
open Go.RowKit Go.Maps Go.WideMaps

theorem gdeadl_nil (w : World) : Calls Tryd.prog 26 #[.pointer none] w fun e w' => ∃ v, e = .returned v ∧ OwnI w' w.heap.size v [] ∧ Below w.heap.size w w' := by
  go_enter Tryd.func26, Tryd.ntmps26
  go_wp2_with fail
  go_ret
  exact ⟨_, rfl, OwnI.nil _ _, Below.refl _ _⟩
/-- The markings without edges. -/
def deadTo (E : List (List (Int × Int))) (k : Nat) : List Int := ((List.range k).filter (fun i => (E.getD i []).isEmpty)).map (fun i : Nat => (i : Int))
def deadE (E : List (List (Int × Int))) : List Int := deadTo E E.length
theorem deadTo_len (E : List (List (Int × Int))) (k : Nat) : (deadTo E k).length ≤ k := by
  have := List.length_filter_le (fun i => (E.getD i []).isEmpty) (List.range k)
  unfold deadTo
  simpa using this
theorem deadTo_succ {E : List (List (Int × Int))} {k : Nat} (h : k < E.length) : deadTo E (k + 1) = if E[k].length = 0 then deadTo E k ++ [(k : Int)] else deadTo E k := by
  unfold deadTo
  have e : E.getD k [] = E[k] := by simp [h]
  rw [List.range_succ, List.filter_append, List.map_append, List.filter_cons, List.filter_nil, e]
  cases E[k] <;> simp
set_option maxHeartbeats 1000000 in
theorem gdeadl_any (w : World) (B p nt : Nat) (g : Gr) (hs : List Int) (h : GrR w B p nt g hs) (hB : B ≤ w.heap.size) (hE : EOk g.edges) :
    Calls Tryd.prog 26 #[.pointer (some ⟨p, 0, none⟩)] w fun e w' => ∃ v, e = .returned v ∧ OwnI w' w.heap.size v (deadE g.edges) ∧ Below w.heap.size w w' := by
  obtain ⟨v0, a1, c1, x, y, vM, mp, vE, vF, vH, h1, h2, h3, h4, h5, h6, h7, h8, h10⟩ := h
  obtain ⟨k1, k4, k5, k6, k7, k8⟩ := gbox h1
  obtain ⟨aE, cE, rfl⟩ := h4.val
  obtain ⟨i0, hti, hz0, hz1, hz2⟩ := info_parts info_int
  have hl := hE.len
  have HV := Lib.hid h4
  unfold deadE
  obtain ⟨E, hEE⟩ : ∃ E, g.edges = E := ⟨_, rfl⟩
  rw [hEE] at hl HV hE k6 ⊢
  clear h1 h8 h3 h4 h5 h6 hEE
  go_enter Tryd.func26, Tryd.ntmps26
  go_wp2_with fail
  go_loopg [3, 13] E.length (fun gh s3 s13 wr => ∃ k : Nat, k + gh = E.length ∧ s13 = .int .i64 (k : Int) ∧ OwnI wr w.heap.size s3 (deadTo E k) ∧ Below w.heap.size w wr)
  case atStart => exact ⟨0, by omega, rfl, OwnI.nil _ _, Below.refl _ _⟩
  case round =>
    obtain ⟨k, hkg, rfl, hO, hbel⟩ := hrel
    by_cases hk : k < E.length
    · obtain ⟨b, o, u, rfl, hb, hc, hu⟩ := HV.out.at k hk
      rw [← Below.cellB hbel (by omega)] at hc
      have hsn := Lib.hid (deadTo_succ hk)
      have hdl := deadTo_len E k
      obtain ⟨row, hrow⟩ : ∃ row, E[k] = row := ⟨_, rfl⟩
      rw [hrow] at hu hsn
      obtain ⟨l, hll⟩ : ∃ l, deadTo E k = l := ⟨_, rfl⟩
      rw [hll] at hO hsn hdl
      obtain ⟨au, cu, rfl⟩ := hu.val
      obtain ⟨a3, c3, rfl⟩ := hO.shape
      clear hrow hll
      have hul := hu.len
      by_cases h0 : row.length = 0
      · rw [if_pos h0] at hsn
        have hx3 := (Below.refl wr.heap.size wr).alloc (Nat.le_refl _) (.cells #[.int .i64 (k : Int)] 3)
        have hT4 := hO.kept hx3 (Nat.le_refl _)
        have HX := Lib.hid (hbel.trans (hx3.mono hbel.size))
        have hws := hbel.size
        rw [h0] at hc
        clear hx3 h0
        go_wp2_with (at_builtin; refine wpList_append_own_at _ rfl _ _ 26 rfl w.heap.size 3 i0 (.int .i64 0) 1 8 Tryd.underlying26 hti hz0 hz1 hz2 rfl (by decide) _ _ _ rfl hT4 ⟨wr.heap.size, 0, none⟩ 1 1 [.int .i64 (k : Int)] rfl rfl (cell_one_new _ _ _) (by intro u hu; simp at hu; subst hu; rfl) (by unfold maxLen; omega) (by omega) (by simp; omega) ?_; intro v6 w6 hown6 hg6 _ hat6)
        go_roundg (gk - 1)
        case measure => omega
        case rel => exact ⟨k + 1, by omega, by go_num, by rw [hsn.out]; unfold OwnI; simpa using hown6, HX.out.grown hg6 HX.out.size (fun k hk => (World.ownsRow.lt hT4 k hk).1)⟩
      · rw [if_neg h0] at hsn
        have h0' : 0 < row.length := by omega
        have hd0 : ((row.length : Int) == 0) = false := by rw [beq_eq_false_iff_ne]; omega
        clear h0
        go_wp2_with fail
        go_roundg (gk - 1)
        case measure => omega
        case rel => exact ⟨k + 1, by omega, by go_num, by rw [hsn.out]; exact hO, hbel⟩
    · have hk' : ¬ ((k : Int) < (E.length : Int)) := by omega
      obtain rfl : k = E.length := by omega
      go_wp2_with fail
      go_ret
      exact ⟨_, rfl, hO, hbel⟩

end Go.Proofs.YtbolacnpljkpbaaDoor
