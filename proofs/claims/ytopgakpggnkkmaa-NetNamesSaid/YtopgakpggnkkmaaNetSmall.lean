/- The net of the examples; has, small31, shares, works. -/
import Derived.Test.YtopgakpggnkkmaaNetOne
import Derived.Test.YtopgakpggnkkmaaNetCmp
set_option maxRecDepth 100000
namespace Go.Proofs.Ytopgakpggnkkmaa
open Go.RowKit

/-- The net of the examples. -/
def smallN : Nt := ⟨[⟨#[40, 105, 110, 41]⟩, ⟨#[97]⟩, ⟨#[40, 111, 117, 116, 41]⟩], [⟨⟨#[115]⟩, [0], [1]⟩, ⟨⟨#[101]⟩, [1], [2]⟩], 0, 2⟩

/-- What a function that makes a net hands back. -/
def NetPost (w : World) (n : Nt) (e : Ending) (w' : World) : Prop :=
  ∃ vp vt, e = .returned (.agg #[vp, vt, .int .i64 n.init, .int .i64 n.final]) ∧ NtR w' w'.heap.size vp vt n ∧ Below w.heap.size w w'

theorem alloc_get (w : World) (o : Obj) (k : Nat) : (w.alloc o).heap[k]? = if k = w.heap.size then some o else w.heap[k]? := by
  show (w.heap.push o)[k]? = _
  rw [Array.getElem?_push]

theorem small_reads {W : World} {N : Nat} (h1 : W.heap[N + 1]? = some (.cells #[.string ⟨#[40, 105, 110, 41]⟩, .string ⟨#[97]⟩, .string ⟨#[40, 111, 117, 116, 41]⟩] 9))
    (h2 : W.heap[N + 2]? = some (.cells #[.int .i64 0] 3)) (h3 : W.heap[N + 3]? = some (.cells #[.int .i64 1] 3)) (h4 : W.heap[N + 4]? = some (.cells #[.int .i64 1] 3)) (h5 : W.heap[N + 5]? = some (.cells #[.int .i64 2] 3))
    (h6 : W.heap[N + 6]? = some (.cells #[.string ⟨#[115]⟩, .slice (some ⟨N + 2, 0, none⟩) 1 1, .slice (some ⟨N + 3, 0, none⟩) 1 1, .string ⟨#[101]⟩, .slice (some ⟨N + 4, 0, none⟩) 1 1, .slice (some ⟨N + 5, 0, none⟩) 1 1] 38)) :
    NtR W W.heap.size (.slice (some ⟨N + 1, 0, none⟩) 3 3) (.slice (some ⟨N + 6, 0, none⟩) 2 2) smallN := by
  have l6 := lt_of_block h6
  have i2 : Ints W W.heap.size (.slice (some ⟨N + 2, 0, none⟩) 1 1) [0] := ints_lit (l := [0]) h2 (by simp) (by omega)
  have i3 : Ints W W.heap.size (.slice (some ⟨N + 3, 0, none⟩) 1 1) [1] := ints_lit (l := [1]) h3 (by simp) (by omega)
  have i4 : Ints W W.heap.size (.slice (some ⟨N + 4, 0, none⟩) 1 1) [1] := ints_lit (l := [1]) h4 (by simp) (by omega)
  have i5 : Ints W W.heap.size (.slice (some ⟨N + 5, 0, none⟩) 1 1) [2] := ints_lit (l := [2]) h5 (by simp) (by omega)
  refine ⟨⟨_, 3, rfl, by simp [smallN], by simp [smallN], ?_⟩, ⟨_, 2, rfl, by simp [smallN], ?_⟩⟩
  · intro i hi
    refine ⟨N + 1, 0, rfl, by omega, ?_⟩
    rw [cell_of_block h1]
    have hi3 : i < 3 := hi
    rcases (by omega : i = 0 ∨ i = 1 ∨ i = 2) with rfl | rfl | rfl <;> rfl
  · intro i hi
    have hi2 : i < 2 := hi
    rcases (by omega : i = 0 ∨ i = 1) with rfl | rfl
    · refine ⟨N + 6, 0, _, _, rfl, by omega, ?_, ?_, ?_, i2, i3⟩
      all_goals rw [cell_of_block h6]; rfl
    · refine ⟨N + 6, 0, _, _, rfl, by omega, ?_, ?_, ?_, i4, i5⟩
      all_goals rw [cell_of_block h6]; rfl

set_option maxHeartbeats 400000 in
theorem small_any (w : World) : Calls Try.prog 22 #[] w (NetPost w smallN) := by
  go_enter Try.func22, Try.ntmps22
  go_wp2_with fail
  refine bodyPost_ret (v := .agg #[.slice (some ⟨w.heap.size + 1, 0, none⟩) 3 3, .slice (some ⟨w.heap.size + 6, 0, none⟩) 2 2, .int .i64 0, .int .i64 2]) (by simp [results, Try.results22, go_sem]) rfl ⟨_, _, rfl, ?_, ?_⟩
  · refine small_reads ?_ ?_ ?_ ?_ ?_ ?_
    all_goals (simp only [alloc_get, World.size_alloc]; repeat (first | rfl | rw [if_pos trivial] | rw [if_pos (by omega)] | rw [if_neg (by omega)]))
  · repeat (first | exact Below.refl _ _ | refine Below.alloc ?_ (by simp <;> omega) _)

/-- Does a list have a number? 1 or 0. -/
def hasI : List Int → Int → Int
  | [], _ => 0
  | x :: l, p => if x == p then 1 else hasI l p

theorem hasI_drop {l : List Int} {p : Int} {k : Nat} (h : k < l.length) : hasI (l.drop k) p = if l[k] == p then 1 else hasI (l.drop (k + 1)) p := by
  rw [List.drop_eq_getElem_cons h]; rfl

set_option maxHeartbeats 400000 in
theorem has_any (w : World) (B : Nat) (v : Value) (l : List Int) (p : Int) (h : Ints w B v l) :
    Calls Try.prog 21 #[v, .int .i64 p] w fun e w' => e = .returned (.int .i64 (hasI l p)) ∧ w = w' := by
  obtain ⟨a, c, rfl⟩ := h.val
  have hl := h.len
  go_enter Try.func21, Try.ntmps21
  go_wp2_with fail
  go_loopg [5] l.length (fun g s5 wr => ∃ k : Nat, k + g = l.length ∧ s5 = .int .i64 k ∧ Hid (hasI (l.drop k) p = hasI l p) ∧ w = wr)
  case atStart => exact ⟨0, by omega, rfl, rfl, rfl⟩
  case round =>
    obtain ⟨k, hkg, rfl, hI, rfl⟩ := hrel
    by_cases hk : k < l.length
    · obtain ⟨b, o, rfl, _, hc⟩ := h.col k hk
      have hd := Lib.hid (hasI_drop (p := p) hk)
      cases hp : (l[k] == p) with
      | true =>
        have Hf : Hid (1 = hasI l p) := by rw [← hI.out, hd.out, hp]; exact rfl
        go_wp2_with fail
        go_ret
        exact ⟨ret_int Hf.out, rfl⟩
      | false =>
        have Hf : Hid (hasI (l.drop (k + 1)) p = hasI l p) := by rw [← hI.out, hd.out, hp]; exact rfl
        go_wp2_with fail
        go_roundg (gk - 1)
        case measure => omega
        case rel => exact ⟨k + 1, by omega, by go_num, Hf, rfl⟩
    · have hk' : ¬ ((k : Int) < (l.length : Int)) := by omega
      have Hf : Hid (0 = hasI l p) := by rw [← hI.out, List.drop_eq_nil_of_le (by omega)]; exact rfl
      go_wp2_with fail
      go_ret
      exact ⟨ret_int Hf.out, rfl⟩

/-- Are all numbers at most the greatest count of tokens? -/
def small31B : List Int → Bool
  | [] => true
  | x :: l => !decide (2147483647 < x) && small31B l
theorem small31B_drop {l : List Int} {k : Nat} (h : k < l.length) : small31B (l.drop k) = (!decide (2147483647 < l[k]) && small31B (l.drop (k + 1))) := by
  rw [List.drop_eq_getElem_cons h]; rfl

set_option maxHeartbeats 400000 in
theorem small31_any (w : World) (B : Nat) (v : Value) (l : List Int) (h : Ints w B v l) :
    Calls Try.prog 17 #[v] w fun e w' => e = .returned (.bool (small31B l)) ∧ w = w' := by
  obtain ⟨a, c, rfl⟩ := h.val
  have hl := h.len
  go_enter Try.func17, Try.ntmps17
  go_wp2_with fail
  go_loopg [3] l.length (fun g s5 wr => ∃ k : Nat, k + g = l.length ∧ s5 = .int .i64 k ∧ Hid (small31B (l.drop k) = small31B l) ∧ w = wr)
  case atStart => exact ⟨0, by omega, rfl, rfl, rfl⟩
  case round =>
    obtain ⟨k, hkg, rfl, hI, rfl⟩ := hrel
    by_cases hk : k < l.length
    · obtain ⟨b, o, rfl, _, hc⟩ := h.col k hk
      have hd := Lib.hid (small31B_drop hk)
      by_cases hp : 2147483647 < l[k]
      · have Hf : Hid (false = small31B l) := by rw [← hI.out, hd.out, decide_eq_true hp]; exact rfl
        go_wp2_with fail
        go_ret
        exact ⟨ret_bool Hf.out, rfl⟩
      · have Hf : Hid (small31B (l.drop (k + 1)) = small31B l) := by rw [← hI.out, hd.out, decide_eq_false hp]; exact rfl
        go_wp2_with fail
        go_roundg (gk - 1)
        case measure => omega
        case rel => exact ⟨k + 1, by omega, by go_num, Hf, rfl⟩
    · have hk' : ¬ ((k : Int) < (l.length : Int)) := by omega
      have Hf : Hid (true = small31B l) := by rw [← hI.out, List.drop_eq_nil_of_le (by omega)]; exact rfl
      go_wp2_with fail
      go_ret
      exact ⟨ret_bool Hf.out, rfl⟩

end Go.Proofs.Ytopgakpggnkkmaa
