/- works: what each statement on trees asks first. -/
import Derived.Test.YtgahlonimaeicaaDoorCoverGrow
import Derived.Test.YtgahlonimaeicaaDoorCoverNode
set_option maxRecDepth 100000
namespace Go.Proofs.YtgahlonimaeicaaDoor
open Go.RowKit

theorem grow_ok (w : World) (B : Nat) (hB : B ≤ w.heap.size) (vp vt : Value) (n : Nt) (hn : NtR w B vp vt n) (most : Int) (htab : Pow10 B w) {l : List Nd} (h : growR n most = .inr l) :
    Calls Tryd.prog 12 #[.agg #[vp, vt, .int .i64 n.init, .int .i64 n.final], .int .i64 most] w fun e w' => ∃ p, e = .returned (.tuple #[.pointer (some ⟨p, 0, none⟩), .int .i64 0]) ∧ TreeR w' w'.heap.size p l ∧ GOk n most.toNat l ∧ Below w.heap.size w w' :=
  (grow_any w B hB vp vt n hn most htab).mono fun e w' hp => by
    obtain ⟨hb, ⟨c, h1, _⟩ | ⟨l', p, h1, h2, h3, h4, _⟩⟩ := hp
    · rw [h] at h1; cases h1
    · rw [h] at h1; cases h1; exact ⟨p, h2, h3, h4, hb⟩
theorem grow_no (w : World) (B : Nat) (hB : B ≤ w.heap.size) (vp vt : Value) (n : Nt) (hn : NtR w B vp vt n) (most : Int) (htab : Pow10 B w) {c : Int} (h : growR n most = .inl c) :
    Calls Tryd.prog 12 #[.agg #[vp, vt, .int .i64 n.init, .int .i64 n.final], .int .i64 most] w fun e w' => e = .returned (.tuple #[.pointer none, .int .i64 c]) ∧ Below w.heap.size w w' :=
  (grow_any w B hB vp vt n hn most htab).mono fun e w' hp => by
    obtain ⟨hb, ⟨c, h1, h2⟩ | ⟨l', p, h1, h2, h3, h4, _⟩⟩ := hp
    · rw [h] at h1; cases h1; exact ⟨h2, hb⟩
    · rw [h] at h1; cases h1

/-- The nets of the examples. -/
def smallC : Nt := ⟨[⟨#[40, 105, 110, 41]⟩, ⟨#[97]⟩, ⟨#[40, 111, 117, 116, 41]⟩], [⟨⟨#[115]⟩, [0], [1]⟩, ⟨⟨#[101]⟩, [1], [2]⟩], 0, 2⟩
def moreC : Nt := ⟨[⟨#[40, 105, 110, 41]⟩, ⟨#[97]⟩, ⟨#[40, 111, 117, 116, 41]⟩], [⟨⟨#[115]⟩, [0], [1]⟩, ⟨⟨#[109]⟩, [1], [1, 2]⟩], 0, 2⟩

/-- What a function that makes a net hands back. -/
def NetPostC (w : World) (n : Nt) (e : Ending) (w' : World) : Prop :=
  ∃ vp vt, e = .returned (.agg #[vp, vt, .int .i64 n.init, .int .i64 n.final]) ∧ NtR w' w'.heap.size vp vt n ∧ Below w.heap.size w w'

theorem net2_reads {W : World} {N : Nat} {p0 p1 p2 la lb : ByteArray} {i0 o0 i1 o1 : List Int} {i f : Int} (h1 : W.heap[N + 1]? = some (.cells #[.string p0, .string p1, .string p2] 9))
    (h2 : W.heap[N + 2]? = some (.cells (i0.map (Value.int .i64)).toArray 3)) (h3 : W.heap[N + 3]? = some (.cells (o0.map (Value.int .i64)).toArray 3)) (h4 : W.heap[N + 4]? = some (.cells (i1.map (Value.int .i64)).toArray 3)) (h5 : W.heap[N + 5]? = some (.cells (o1.map (Value.int .i64)).toArray 3))
    (l2 : i0.length ≤ 1000) (l3 : o0.length ≤ 1000) (l4 : i1.length ≤ 1000) (l5 : o1.length ≤ 1000)
    (h6 : W.heap[N + 6]? = some (.cells #[.string la, .slice (some ⟨N + 2, 0, none⟩) i0.length i0.length, .slice (some ⟨N + 3, 0, none⟩) o0.length o0.length, .string lb, .slice (some ⟨N + 4, 0, none⟩) i1.length i1.length, .slice (some ⟨N + 5, 0, none⟩) o1.length o1.length] 42)) :
    NtR W W.heap.size (.slice (some ⟨N + 1, 0, none⟩) 3 3) (.slice (some ⟨N + 6, 0, none⟩) 2 2) ⟨[p0, p1, p2], [⟨la, i0, o0⟩, ⟨lb, i1, o1⟩], i, f⟩ := by
  have l6 := lt_of_block h6
  have j2 := ints_lit (B := W.heap.size) (cap := i0.length) h2 (by omega) (by omega)
  have j3 := ints_lit (B := W.heap.size) (cap := o0.length) h3 (by omega) (by omega)
  have j4 := ints_lit (B := W.heap.size) (cap := i1.length) h4 (by omega) (by omega)
  have j5 := ints_lit (B := W.heap.size) (cap := o1.length) h5 (by omega) (by omega)
  refine ⟨⟨_, 3, rfl, by simp, by simp, ?_⟩, ⟨_, 2, rfl, by simp, ?_⟩⟩
  · intro i hi
    refine ⟨N + 1, 0, rfl, by omega, ?_⟩
    rw [cell_of_block h1]
    have hi3 : i < 3 := hi
    rcases (by omega : i = 0 ∨ i = 1 ∨ i = 2) with rfl | rfl | rfl <;> rfl
  · intro i hi
    have hi2 : i < 2 := hi
    rcases (by omega : i = 0 ∨ i = 1) with rfl | rfl
    · refine ⟨N + 6, 0, _, _, rfl, by omega, ?_, ?_, ?_, j2, j3⟩
      all_goals rw [cell_of_block h6]; rfl
    · refine ⟨N + 6, 0, _, _, rfl, by omega, ?_, ?_, ?_, j4, j5⟩
      all_goals rw [cell_of_block h6]; rfl

set_option maxHeartbeats 400000 in
theorem small_any (w : World) : Calls Tryd.prog 17 #[] w (NetPostC w smallC) := by
  go_enter Tryd.func17, Tryd.ntmps17
  go_wp2_with fail
  refine bodyPost_ret (v := .agg #[.slice (some ⟨w.heap.size + 1, 0, none⟩) 3 3, .slice (some ⟨w.heap.size + 6, 0, none⟩) 2 2, .int .i64 0, .int .i64 2]) (by simp [results, Tryd.results17, go_sem]) rfl ⟨_, _, rfl, ?_, ?_⟩
  · refine net2_reads (i0 := [0]) (o0 := [1]) (i1 := [1]) (o1 := [2]) ?_ ?_ ?_ ?_ ?_ (by decide) (by decide) (by decide) (by decide) ?_
    all_goals (simp only [alloc_get', World.size_alloc]; repeat (first | rfl | rw [if_pos trivial] | rw [if_pos (by omega)] | rw [if_neg (by omega)]))
  · repeat (first | exact Below.refl _ _ | refine Below.alloc ?_ (by simp <;> omega) _)
set_option maxHeartbeats 400000 in
theorem moreNet_any (w : World) : Calls Tryd.prog 21 #[] w (NetPostC w moreC) := by
  go_enter Tryd.func21, Tryd.ntmps21
  go_wp2_with fail
  refine bodyPost_ret (v := .agg #[.slice (some ⟨w.heap.size + 1, 0, none⟩) 3 3, .slice (some ⟨w.heap.size + 6, 0, none⟩) 2 2, .int .i64 0, .int .i64 2]) (by simp [results, Tryd.results21, go_sem]) rfl ⟨_, _, rfl, ?_, ?_⟩
  · refine net2_reads (i0 := [0]) (o0 := [1]) (i1 := [1]) (o1 := [1, 2]) ?_ ?_ ?_ ?_ ?_ (by decide) (by decide) (by decide) (by decide) ?_
    all_goals (simp only [alloc_get', World.size_alloc]; repeat (first | rfl | rw [if_pos trivial] | rw [if_pos (by omega)] | rw [if_neg (by omega)]))
  · repeat (first | exact Below.refl _ _ | refine Below.alloc ?_ (by simp <;> omega) _)

/-- The trees of the examples. -/
def smallT : List Nd := [⟨-1, -1, [1, 0, 0], -1⟩, ⟨0, 0, [0, 1, 0], -1⟩, ⟨1, 1, [0, 0, 1], -1⟩]
def moreT : List Nd := [⟨-1, -1, [1, 0, 0], -1⟩, ⟨0, 0, [0, 1, 0], -1⟩, ⟨1, 1, [0, 1, -1], -1⟩, ⟨2, 1, [0, 1, -1], 2⟩]
theorem small_grows : growR smallC 9 = .inr smallT := by rfl
theorem more_grows : growR moreC 9 = .inr moreT := by rfl

end Go.Proofs.YtgahlonimaeicaaDoor
