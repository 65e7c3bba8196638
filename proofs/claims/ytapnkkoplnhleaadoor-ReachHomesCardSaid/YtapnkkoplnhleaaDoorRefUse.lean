/- What the laws on the document's graph use. -/
import Derived.Test.YtapnkkoplnhleaaDoorRefExplore
import Derived.Test.YtapnkkoplnhleaaDoorReachWorks
set_option maxRecDepth 100000
namespace Go.Proofs.YtapnkkoplnhleaaDoor
open Go.RowKit

theorem box_up2 {w w' : World} {N : Nat} {o : Obj} (h : w.heap[N]? = some o) (hb : Below w.heap.size w w') : w'.heap[N]? = some o := (hb.block N (lt_of_block h)).trans h
theorem glen_N2 (w : World) (B p nt : Nat) (g : Gr) (hs : List Int) (h : GrR w B p nt g hs) {N : Nat} (hN : g.marks.length = N) : Calls Tryd.prog 18 #[.pointer (some ⟨p, 0, none⟩)] w fun e w' => e = .returned (.int .i64 (N : Int)) ∧ w = w' := by
  rw [← hN]; exact glen_any w B p nt g hs h
theorem refexp_ok (w : World) (B : Nat) (hB : B ≤ w.heap.size) (vp vt : Value) (n : Nt) (hn : NtR w B vp vt n) (most : Int) {g : Gr} (h : expR n most = .inr g) :
    Calls Tryd.prog 14 #[.agg #[vp, vt, .int .i64 n.init, .int .i64 n.final], .int .i64 most] w fun e w' => ∃ p, e = .returned (.tuple #[.pointer (some ⟨p, 0, none⟩), .int .i64 0]) ∧ RgR w' w'.heap.size p n.trans.length g ∧ Below w.heap.size w w' :=
  (refexplore_any w B hB vp vt n hn most).mono fun e w' hp => by
    obtain ⟨hb, ⟨c, h1, _⟩ | ⟨g', p, h1, h2, h3⟩⟩ := hp
    · rw [h] at h1; cases h1
    · rw [h] at h1; cases h1; exact ⟨p, h2, h3, hb⟩
theorem refexp_no (w : World) (B : Nat) (hB : B ≤ w.heap.size) (vp vt : Value) (n : Nt) (hn : NtR w B vp vt n) (most : Int) {c : Int} (h : expR n most = .inl c) :
    Calls Tryd.prog 14 #[.agg #[vp, vt, .int .i64 n.init, .int .i64 n.final], .int .i64 most] w fun e w' => e = .returned (.tuple #[.pointer none, .int .i64 c]) ∧ Below w.heap.size w w' :=
  (refexplore_any w B hB vp vt n hn most).mono fun e w' hp => by
    obtain ⟨hb, ⟨c, h1, h2⟩ | ⟨g', p, h1, h2, h3⟩⟩ := hp
    · rw [h] at h1; cases h1; exact ⟨h2, hb⟩
    · rw [h] at h1; cases h1
theorem refcmp_same (w : World) (B : Nat) (va vb : Value) (a : List Int) (ha : Ints w B va a) (hb : Ints w B vb a) :
    Calls Tryd.prog 22 #[va, vb] w fun e w' => e = .returned (.int .i64 0) ∧ Below w.heap.size w w' := refcmp_is w B va vb a a ha hb (cmpL_eq_zero.2 rfl)
/-- A store into another list. -/
theorem OwnI.aside {w : World} {base g i : Nat} {v x : Value} {l : List Int} (h : OwnI w base v l) (hne : ∀ q, v.ownBlock = some q → q ≠ g) : OwnI (w.setCell ⟨g, i, none⟩ x) base v l := by
  refine World.ownsRow.kept h (grownBy_setCell w g i x) ?_
  rcases h.val with ⟨e, _⟩ | ⟨q, cap, e, _⟩
  · exact Or.inl (by rw [e]; rfl)
  · exact Or.inr (by rw [e]; intro h2; exact hne q (by rw [e]; rfl) (Option.some.inj h2))
theorem OwnI.own_at {w : World} {base : Nat} {v : Value} {l : List Int} (h : OwnI w base v l) {q : Nat} (hq : v.ownBlock = some q) : base ≤ q ∧ q < w.heap.size := by
  rcases h.val with ⟨rfl, _⟩ | ⟨g, cap, rfl, h1, h2⟩
  · cases hq
  · obtain rfl := Option.some.inj hq; exact ⟨h1, h2⟩

end Go.Proofs.YtapnkkoplnhleaaDoor
