/- Explore's contract, cut by its answer (for a seat that has not the stage's own examples). -/
import Derived.Test.YtbolacnpljkpbaaDoorReachExplore
set_option maxRecDepth 100000
namespace Go.Proofs.YtbolacnpljkpbaaDoor
open Go.RowKit

/-- A graph that was explored. -/
def ExpOk (w : World) (n : Nt) (_most : Nat) (g : Gr) (e : Ending) (w' : World) : Prop :=
  ∃ p, e = .returned (.tuple #[.pointer (some ⟨p, 0, none⟩), .int .i64 0]) ∧ GrR w' w'.heap.size p n.trans.length g (homesE g.edges) ∧ Below w.heap.size w w'
theorem exp_ok (w : World) (B : Nat) (hB : B ≤ w.heap.size) (vp vt : Value) (n : Nt) (hn : NtR w B vp vt n) (most : Int) (htab : Pow10 B w) {g : Gr} (h : expR n most = .inr g) :
    Calls Tryd.prog 19 #[.agg #[vp, vt, .int .i64 n.init, .int .i64 n.final], .int .i64 most] w (ExpOk w n most.toNat g) :=
  (explore_any w B hB vp vt n hn most htab).mono fun e w' hp => by
    obtain ⟨hb, ⟨c, h1, _⟩ | ⟨g', p, h1, h2, h3⟩⟩ := hp
    · rw [h] at h1; cases h1
    · rw [h] at h1; cases h1; exact ⟨p, h2, h3, hb⟩
theorem exp_no (w : World) (B : Nat) (hB : B ≤ w.heap.size) (vp vt : Value) (n : Nt) (hn : NtR w B vp vt n) (most : Int) (htab : Pow10 B w) {c : Int} (h : expR n most = .inl c) :
    Calls Tryd.prog 19 #[.agg #[vp, vt, .int .i64 n.init, .int .i64 n.final], .int .i64 most] w fun e w' => e = .returned (.tuple #[.pointer none, .int .i64 c]) ∧ Below w.heap.size w w' :=
  (explore_any w B hB vp vt n hn most htab).mono fun e w' hp => by
    obtain ⟨hb, ⟨c, h1, h2⟩ | ⟨g', p, h1, h2, h3⟩⟩ := hp
    · rw [h] at h1; cases h1; exact ⟨h2, hb⟩
    · rw [h] at h1; cases h1

end Go.Proofs.YtbolacnpljkpbaaDoor
