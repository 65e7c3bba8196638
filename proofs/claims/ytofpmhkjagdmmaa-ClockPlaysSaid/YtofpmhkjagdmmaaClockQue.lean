/- The queue of a clock: Len, Push, Pop as package heap calls them. -/
import Derived.Test.YtofpmhkjagdmmaaClockRow
import Derived.Test.YtofpmhkjagdmmaaStepOwn
set_option maxRecDepth 100000
namespace Go.Proofs.Ytofpmhkjagdmmaa
open Go.RowKit

theorem info_ent : (Try.prog.info? 67).map (fun i => (i.zero, i.size, i.bytes)) = some (some (.agg #[.int .i64 0, .int .i64 0, .string default, .int .i64 0, .int .i64 0]), 5, 48) := by kernel_rfl
theorem cellE_one (e : Ent) : ∀ u ∈ cellE e, u.oneCell' = true := by
  intro u hu
  simp only [cellE, List.mem_cons, List.mem_nil_iff, or_false] at hu
  rcases hu with rfl | rfl | rfl | rfl | rfl <;> rfl

/-- A clock: its block. -/
def Clk (w : World) (p : Nat) (now : Int) (v : Value) (many : Int) : Prop := w.heap[p]? = some (.cells #[.int .i64 now, v, .int .i64 many] 64)

theorem Row.own {w : World} {base : Nat} {v : Value} {l : List Ent} (h : Row w base v l) : (v = .slice none 0 0 ∧ l = []) ∨ ∃ g cap, v = .slice (some ⟨g, 0, none⟩) l.length cap ∧ base ≤ g ∧ g < w.heap.size := by
  rcases h.2 with ⟨rfl, h0⟩ | ⟨g, cap, cur, rfl, hb, hg, _⟩
  · exact Or.inl ⟨rfl, List.eq_nil_of_length_eq_zero h0⟩
  · exact Or.inr ⟨g, cap, rfl, hb, lt_of_block hg⟩
theorem Row.ne {w : World} {base p : Nat} {v : Value} {l : List Ent} {c : Array Value} {t : TypeId} (h : Row w base v l) (hp : w.heap[p]? = some (.cells c t)) (ht : t ≠ 67) : v.ownBlock ≠ some p := by
  rcases h.own with ⟨rfl, _⟩ | ⟨g, cap, rfl, _⟩
  · simp [Value.ownBlock]
  · obtain ⟨_, _, _, _, _, cur, hg⟩ := h.block
    have := type_ne hg hp (Ne.symm ht)
    simpa [Value.ownBlock] using this
theorem Row.frm {S : List (Option Nat)} {w w' : World} {base : Nat} {v : Value} {l : List Ent} (h : Row w base v l) (hf : Frm S w w') (hs : ∀ r ∈ S, r = none ∨ r ≠ v.ownBlock) : Row w' base v l := by
  refine ⟨h.1, ?_⟩
  rcases h.2 with h0 | ⟨g, cap, cur, hv, hbg, hg, r⟩
  · exact Or.inl h0
  · refine Or.inr ⟨g, cap, cur, hv, hbg, hf.block hg (fun r hr e => ?_), r⟩
    rcases hs r hr with h1 | h1
    · rw [h1] at e; cases e
    · apply h1; rw [e, hv]; rfl
theorem Row.shape {w : World} {base : Nat} {v : Value} {l : List Ent} (h : Row w base v l) : ∃ a cap, v = .slice a l.length cap := by
  rcases h.own with ⟨rfl, rfl⟩ | ⟨g, cap, rfl, _⟩
  · exact ⟨none, 0, rfl⟩
  · exact ⟨_, cap, rfl⟩

theorem Row.push {w : World} {base : Nat} {v : Value} {l : List Ent} {e : Ent} (h : w.ownsRow base 67 5 v (l.length + 1) (cellsE l ++ cellE e)) : Row w base v (l ++ [e]) := by
  unfold Row
  rw [List.length_append, List.length_singleton, cellsE_app]
  simpa [cellsE] using h

theorem Row.shape1 {w : World} {base : Nat} {v : Value} {l : List Ent} {e : Ent} (h : Row w base v (l ++ [e])) : ∃ a cap, v = .slice a (l.length + 1) cap := by
  obtain ⟨a, cap, hv⟩ := h.shape
  exact ⟨a, cap, by rw [hv, List.length_append, List.length_singleton]⟩

theorem qlen_any (w : World) (a : Option Addr) (n cap : Nat) : Calls Try.prog 75 #[.slice a n cap] w fun e w' => e = .returned (.int .i64 (n : Int)) ∧ w = w' := by
  go_enter Try.func75, Try.ntmps75
  go_wp2_with fail
  go_ret
  exact ⟨rfl, rfl⟩

theorem assert_ent (e : Ent) (w : World) : (Instr.typeAssert (.iface 67 (valE e)) 20 67 false).run Try.prog w = .ok (valE e) w := by kernel_rfl

set_option maxHeartbeats 1000000 in
theorem qpush_any (w : World) (base p : Nat) (now many : Int) (v : Value) (l : List Ent) (e : Ent) (hc : Clk w p now v many) (hr : Row w base v l) (hb : base ≤ w.heap.size) (hl : l.length ≤ 1048576) :
    Calls Try.prog 79 #[.pointer (some ⟨p, 1, none⟩), .iface 67 (valE e)] w fun r w' => r = .returned (.tuple #[]) ∧ ∃ v', Clk w' p now v' many ∧ Row w' base v' (l ++ [e]) ∧ Frm [some p, v.ownBlock] w w' ∧ Fresh w v v' := by
  obtain ⟨i1, hti, hz0, hz1, hz2⟩ := info_parts info_ent
  unfold Clk at hc
  obtain ⟨c0, c1, c2⟩ := box3 hc
  have f1 := free_of_block hc 1
  have hp := lt_of_block hc
  obtain ⟨a, cap, rfl⟩ := hr.shape
  have hne := hr.ne hc (by decide)
  have hW := ((Below.refl w.heap.size w).alloc (Nat.le_refl _) (.cells #[.int .i64 e.al.due, .int .i64 e.al.token, .string e.al.via, .int .i64 e.al.inst, .int .i64 e.n] 67)).drew
  have hcW := (hW.block _ hp).trans hc
  have hrW := hr.kept hW (Nat.le_refl _)
  have HW := Lib.hid hW
  clear hW
  have ta := assert_ent e
  go_enter Try.func79, Try.ntmps79
  go_wp2_with fail
  go_region_law (first
    | (refine step_append_own _ (by rfl) (.tmp 7) (.tmp 10) 62 (by rfl) base 67 i1 _ 5 48 Try.underlying62 hti hz0 hz1 hz2 rfl (by decide) (.slice a l.length cap) l.length (cellsE l) (by rfl) hrW _ 1 1 (cellE e) (by rfl) rfl (cells_new _ _ _) (cellE_one e) (by unfold maxLen; omega) (by omega) (by simp; omega) ?_; intro v6 w6 hown6 hg6 hat6
       have hr6 := Row.push hown6; obtain ⟨a6, cap6, rfl⟩ := hr6.shape1
       have hc6 := (hg6.block p (by simp; omega) (fun h => hne h.symm)).trans hcW; obtain ⟨-, d1, -⟩ := box3 hc6; have df := free_of_block hc6 1))
  all_goals go_wp2_with fail
  all_goals (refine bodyPost_end (results_none rfl _ _ _) rfl ⟨rfl, .slice a6 (l.length + 1) cap6, heap_setCell_self _ hc6, hr6.frm ((Frm.refl [some p] _).grown (grownBy_setCell _ _ _ _) (by simp)) (fun r hr => ?_), ((Frm.ofBelow HW.out).grown hg6 (by simp)).grown (grownBy_setCell _ _ _ _) (by simp), hat6.imp id (fun h => ⟨_, h, by simp⟩)⟩)
  all_goals (obtain rfl : r = some p := (by simpa using hr))
  all_goals exact Or.inr (Ne.symm (hr6.ne hc6 (by decide)))

theorem cellsE_take : ∀ (l : List Ent) (k : Nat), cellsE (l.take k) = (cellsE l).take (k * 5)
  | _, 0 => by simp [cellsE]
  | [], k + 1 => by simp [cellsE]
  | x :: l, k + 1 => by
    have ih := cellsE_take l k
    simp only [cellsE, List.take_succ_cons, List.flatMap_cons] at *
    rw [ih, show (k + 1) * 5 = (cellE x).length + k * 5 by simp [cellE]; omega, List.take_length_add_append]
theorem Row.cut {w : World} {base g n cap : Nat} {l : List Ent} (h : Row w base (.slice (some ⟨g, 0, none⟩) n cap) l) {k : Nat} (hk : k ≤ l.length) : Row w base (.slice (some ⟨g, 0, none⟩) k cap) (l.take k) := by
  have hlen : (l.take k).length = k := by rw [List.length_take, Nat.min_eq_left hk]
  refine ⟨by rw [cellsE_len], ?_⟩
  rcases h.2 with ⟨h0, _⟩ | ⟨g', cap', cur, hv, hb, hg, hc, hm, hs, ht⟩
  · cases h0
  · cases hv
    refine Or.inr ⟨g, cap, cur, by rw [hlen], hb, hg, by omega, hm, hs, ?_⟩
    rw [hlen, cellsE_take, ← ht, List.take_take, Nat.min_eq_left (by omega)]

set_option maxHeartbeats 2000000 in
theorem qpop_any (w : World) (base p : Nat) (now many : Int) (v : Value) (l : List Ent) (k : Nat) (hk : l.length = k + 1) (hc : Clk w p now v many) (hr : Row w base v l) (hl : l.length ≤ 1048576) :
    Calls Try.prog 78 #[.pointer (some ⟨p, 1, none⟩)] w fun r w' => r = .returned (.iface 67 (valE (atL l k))) ∧ ∃ v', Clk w' p now v' many ∧ Row w' base v' (l.take k) ∧ Frm [some p] w w' ∧ Fresh w v v' := by
  unfold Clk at hc
  obtain ⟨c0, c1, c2⟩ := box3 hc
  have f1 := free_of_block hc 1
  have hp := lt_of_block hc
  rcases hr.own with ⟨_, h0⟩ | ⟨g, cap, rfl, hbg, hg⟩
  · rw [h0] at hk; cases hk
  have hcap := hr.block.2.2.2.1
  obtain ⟨a0, a1, a2, a3, a4⟩ := hr.at (i := k) (by omega)
  obtain ⟨x, hx⟩ : ∃ x, atL l k = x := ⟨_, rfl⟩
  have HR := Lib.hid (hr.cut (k := k) (by omega))
  have hpg := hr.ne hc (by decide)
  rw [hx] at a0 a1 a2 a3 a4
  rw [hx]
  obtain ⟨⟨xd, xt, xv, xi⟩, xn⟩ := x
  rw [hk] at c1 hc hcap hl
  rw [hk]
  have HX := Lib.hid hx
  have HC := Lib.hid hc
  have hk1 : (k : Int) < (k : Int) + 1 := by omega
  have hwk : IntKind.i64.wrap (k : Int) = (k : Int) := by rw [IntKind.wrap_i64]; omega
  clear hx hr hk hc
  go_enter Try.func78, Try.ntmps78
  go_wp2_with fail
  go_cut [3] (fun s3 wx => s3 = .pointer (some ⟨w.heap.size, 0, none⟩) ∧ wx = (w.alloc (.cells #[.int .i64 xd, .int .i64 xt, .string xv, .int .i64 xi, .int .i64 xn] 67)).drew)
  case first =>
    go_region_law (fail)
    all_goals go_wp2_with fail
    all_goals go_meet
    all_goals exact ⟨rfl, rfl⟩
  case rest =>
    obtain ⟨rfl, rfl⟩ := hcut
    have hW := ((Below.refl w.heap.size w).alloc (Nat.le_refl _) (.cells #[.int .i64 xd, .int .i64 xt, .string xv, .int .i64 xi, .int .i64 xn] 67)).drew
    have HW := Lib.hid hW
    have HN := Lib.hid (heap_alloc_new w (.cells #[.int .i64 xd, .int .i64 xt, .string xv, .int .i64 xi, .int .i64 xn] 67))
    have e1 : (w.alloc (.cells #[.int .i64 xd, .int .i64 xt, .string xv, .int .i64 xi, .int .i64 xn] 67)).drew.cell? ⟨p, 1, none⟩ = some (.slice (some ⟨g, 0, none⟩) (k + 1) cap) := (hW.cell (p := ⟨p, 1, none⟩) hp).trans c1
    have e2 : (w.alloc (.cells #[.int .i64 xd, .int .i64 xt, .string xv, .int .i64 xi, .int .i64 xn] 67)).drew.frozen? ⟨p, 1, none⟩ = false := (hW.frozen (p := ⟨p, 1, none⟩) hp).trans f1
    obtain ⟨w2, hw2⟩ : ∃ w2, (w.alloc (.cells #[.int .i64 xd, .int .i64 xt, .string xv, .int .i64 xi, .int .i64 xn] 67)).drew = w2 := ⟨_, rfl⟩
    have HN2 : Hid (w2.heap[w.heap.size]? = some (.cells #[.int .i64 xd, .int .i64 xt, .string xv, .int .i64 xi, .int .i64 xn] 67)) := by rw [← hw2]; exact HN.out
    rw [hw2] at e1 e2 HW ⊢
    clear hW hw2 a0 a1 a2 a3 a4 c0 c1 c2 f1 HN
    have hkc : k ≤ cap := by omega
    have hkc1 : (k : Int) ≤ (cap : Int) := by omega
    have hk0 : (0 : Int) ≤ (k : Int) := by omega
    go_wp2_with fail
    go_region_law (fail)
    all_goals have HC2 := Lib.hid ((HW.out.block p hp).trans HC.out)
    all_goals have HN3 : (w2.setCell ⟨p, 1, none⟩ (.slice (some ⟨g, 0, none⟩) k cap)).heap[w.heap.size]? = _ := (heap_setCell_other w2 ⟨p, 1, none⟩ w.heap.size _ (by simp; omega)).trans HN2.out
    all_goals obtain ⟨b0, b1, b2, b3, b4⟩ := box5 HN3
    all_goals go_wp2_with fail
    all_goals go_ret
    all_goals (refine ⟨rfl, .slice (some ⟨g, 0, none⟩) k cap, (show (w2.setCell _ _).heap[p]? = _ from heap_setCell_self _ HC2.out), (show Row (w2.setCell ⟨p, 1, none⟩ (.slice (some ⟨g, 0, none⟩) k cap)) base _ _ from (HR.out.kept HW.out (Nat.le_refl _)).frm ((Frm.refl [some p] w2).grown (grownBy_setCell w2 p 1 _) (by simp)) (fun r hr => Or.inr (fun e => hpg (by rw [List.mem_singleton.1 hr] at e; exact e.symm)))), ((Frm.ofBelow HW.out).grown (grownBy_setCell w2 p 1 _) (by simp)).below ((Below.refl _ _).drew), Or.inl rfl⟩)

end Go.Proofs.Ytofpmhkjagdmmaa
