/- The walk of the closed law CoverNames. -/
import Derived.Test.YtgahlonimaeicaaDoorCoverMost
import Derived.Test.YtgahlonimaeicaaDoorCoverWorks2
set_option maxRecDepth 100000
namespace Go.Proofs.YtgahlonimaeicaaDoor
open Go.RowKit

theorem small_no2 : growR smallC 2 = .inl 170 := by rfl
theorem small_no0 : growR smallC 0 = .inl 1 := by rfl
theorem small_no4097 : growR smallC 4097 = .inl 1 := by rfl
def emptyC : Nt := ⟨[], [], 0, 0⟩
theorem empty_no : growR emptyC 9 = .inl 1 := by rfl
def ringC : Nt := ⟨[⟨#[40, 105, 110, 41]⟩, ⟨#[97]⟩, ⟨#[40, 111, 117, 116, 41]⟩], [⟨⟨#[115]⟩, [0], [1]⟩, ⟨⟨#[101]⟩, [1], [0]⟩], 0, 2⟩
def ringT : List Nd := [⟨-1, -1, [1, 0, 0], -1⟩, ⟨0, 0, [0, 1, 0], -1⟩, ⟨1, 1, [1, 0, 0], 0⟩]
theorem ring_grows : growR ringC 9 = .inr ringT := by rfl
def twoC : Nt := ⟨[⟨#[40, 105, 110, 41]⟩, ⟨#[97]⟩, ⟨#[98]⟩, ⟨#[40, 111, 117, 116, 41]⟩], [⟨⟨#[]⟩, [0], [1, 2]⟩, ⟨⟨#[]⟩, [2], [1]⟩], 0, 3⟩
def twoT : List Nd := [⟨-1, -1, [1, 0, 0, 0], -1⟩, ⟨0, 0, [0, 1, 1, 0], -1⟩, ⟨1, 1, [0, 2, 0, 0], -1⟩]
theorem two_grows : growR twoC 9 = .inr twoT := by rfl
theorem more_grows4096 : growR moreC 4096 = .inr moreT := by rfl

theorem two_reads {W : World} {N : Nat} (h1 : W.heap[N + 1]? = some (.cells #[.string ⟨#[40, 105, 110, 41]⟩, .string ⟨#[97]⟩, .string ⟨#[98]⟩, .string ⟨#[40, 111, 117, 116, 41]⟩] 9)) (h2 : W.heap[N + 2]? = some (.cells #[.int .i64 0] 3)) (h3 : W.heap[N + 3]? = some (.cells #[.int .i64 1, .int .i64 2] 3))
    (h4 : W.heap[N + 4]? = some (.cells #[.int .i64 2] 3)) (h5 : W.heap[N + 5]? = some (.cells #[.int .i64 1] 3))
    (h6 : W.heap[N + 6]? = some (.cells #[.string ⟨#[]⟩, .slice (some ⟨N + 2, 0, none⟩) 1 1, .slice (some ⟨N + 3, 0, none⟩) 2 2, .string ⟨#[]⟩, .slice (some ⟨N + 4, 0, none⟩) 1 1, .slice (some ⟨N + 5, 0, none⟩) 1 1] 42)) :
    NtR W W.heap.size (.slice (some ⟨N + 1, 0, none⟩) 4 4) (.slice (some ⟨N + 6, 0, none⟩) 2 2) twoC := by
  have l6 := lt_of_block h6
  refine ⟨⟨_, 4, rfl, by simp [twoC], by simp [twoC], ?_⟩, ⟨_, 2, rfl, by simp [twoC], ?_⟩⟩
  · intro i hi
    refine ⟨N + 1, 0, rfl, by omega, ?_⟩
    rw [cell_of_block h1]
    have hi3 : i < 4 := hi
    rcases (by omega : i = 0 ∨ i = 1 ∨ i = 2 ∨ i = 3) with rfl | rfl | rfl | rfl <;> rfl
  · have j2 := ints_lit (B := W.heap.size) (cap := 1) (l := [0]) h2 (by simp) (by omega)
    have j3 := ints_lit (B := W.heap.size) (cap := 2) (l := [1, 2]) h3 (by simp) (by omega)
    have j4 := ints_lit (B := W.heap.size) (cap := 1) (l := [2]) h4 (by simp) (by omega)
    have j5 := ints_lit (B := W.heap.size) (cap := 1) (l := [1]) h5 (by simp) (by omega)
    intro i hi
    have hi2 : i < 2 := hi
    rcases (by omega : i = 0 ∨ i = 1) with rfl | rfl
    · refine ⟨N + 6, 0, _, _, rfl, by omega, ?_, ?_, ?_, j2, j3⟩
      all_goals rw [cell_of_block h6]; rfl
    · refine ⟨N + 6, 0, _, _, rfl, by omega, ?_, ?_, ?_, j4, j5⟩
      all_goals rw [cell_of_block h6]; rfl

/-- The small net's blocks. -/
def SmallAt (W : World) (N : Nat) : Prop :=
  W.heap[N + 1]? = some (.cells #[.string ⟨#[40, 105, 110, 41]⟩, .string ⟨#[97]⟩, .string ⟨#[40, 111, 117, 116, 41]⟩] 9) ∧ W.heap[N + 2]? = some (.cells #[.int .i64 0] 3) ∧ W.heap[N + 3]? = some (.cells #[.int .i64 1] 3) ∧ W.heap[N + 4]? = some (.cells #[.int .i64 1] 3) ∧
  W.heap[N + 6]? = some (.cells #[.string ⟨#[115]⟩, .slice (some ⟨N + 2, 0, none⟩) 1 1, .slice (some ⟨N + 3, 0, none⟩) 1 1, .string ⟨#[101]⟩, .slice (some ⟨N + 4, 0, none⟩) 1 1, .slice (some ⟨N + 5, 0, none⟩) 1 1] 42)
set_option maxHeartbeats 400000 in
theorem small_at (w : World) : Calls Tryd.prog 17 #[] w fun e w' => e = .returned (.agg #[.slice (some ⟨w.heap.size + 1, 0, none⟩) 3 3, .slice (some ⟨w.heap.size + 6, 0, none⟩) 2 2, .int .i64 0, .int .i64 2]) ∧ SmallAt w' w.heap.size ∧ Below w.heap.size w w' := by
  go_enter Tryd.func17, Tryd.ntmps17
  go_wp2_with fail
  refine bodyPost_ret (v := .agg #[.slice (some ⟨w.heap.size + 1, 0, none⟩) 3 3, .slice (some ⟨w.heap.size + 6, 0, none⟩) 2 2, .int .i64 0, .int .i64 2]) (by simp [results, Tryd.results17, go_sem]) rfl ⟨rfl, ?_, ?_⟩
  · refine ⟨?_, ?_, ?_, ?_, ?_⟩
    all_goals (simp only [alloc_get', World.size_alloc]; repeat (first | rfl | rw [if_pos trivial] | rw [if_pos (by omega)] | rw [if_neg (by omega)]))
  · repeat (first | exact Below.refl _ _ | refine Below.alloc ?_ (by simp <;> omega) _)

theorem covered_at (w : World) (B p : Nat) (l : List Nd) (h : TreeR w B p l) (hB : B ≤ w.heap.size) (vm : Value) (m : List Int) (hm : Ints w B vm m) {r : Int} {b : Bool} (hr : max (idxN (fun d => wcoversB d.mark m) l 0) 0 = r) (hb : decide (0 ≤ idxN (fun d => wcoversB d.mark m) l 0) = b) :
    Calls Tryd.prog 20 #[.pointer (some ⟨p, 0, none⟩), vm] w fun e w' => e = .returned (.tuple #[.int .i64 r, .bool b]) ∧ Below w.heap.size w w' := by
  rw [← hr, ← hb]
  exact covered_idx w B p l h hB vm m hm _ rfl
theorem most_at (w : World) (B b : Nat) (l : List Nd) (h : TreeR w B b l) (hB : B ≤ w.heap.size) (hl : 0 < l.length) (p : Nat) (hp : ∀ d ∈ l, p < d.mark.length) {q r : Int} (hq : (p : Int) = q) (hr : mostF p l 0 = r) :
    Calls Tryd.prog 19 #[.pointer (some ⟨b, 0, none⟩), .int .i64 q] w fun e w' => e = .returned (.tuple #[.int .i64 r, .int .i64 0]) ∧ Below w.heap.size w w' := by
  rw [← hq, ← hr]
  exact most_any w B b l h hB hl p hp

theorem covers_at (w : World) (B : Nat) (va vb : Value) (a b : List Int) (ha : Ints w B va a) (hb : Ints w B vb b) {t : Bool} (h : wcoversB a b = t) :
    Calls Tryd.prog 16 #[va, vb] w fun e w' => e = .returned (.bool t) ∧ Below w.heap.size w w' := by
  rw [← h]
  exact (wcovers_any w B va vb a b ha hb).mono fun e w' ⟨h1, n, h2⟩ => ⟨h1, by rw [h2]; exact below_drewN' n⟩
theorem lit_new (w : World) (l : List Int) (hl : l.length ≤ 1000) : Ints (w.alloc (.cells (l.map (Value.int .i64)).toArray 3)) (w.heap.size + 1) (.slice (some ⟨w.heap.size, 0, none⟩) l.length l.length) l := ints_lit (heap_alloc_new _ _) (by omega) (by omega) (Nat.le_refl _)

set_option maxHeartbeats 8000000 in
theorem coverNames_walk (W : World) (htab : Pow10 W.heap.size W) : Calls Tryd.prog 4 #[] W fun e w' => e = .returned (.bool true) ∧ Below W.heap.size W w' := by
  have tb : ∀ w : World, Below W.heap.size W w → Pow10 w.heap.size w := fun w hb => tab_up (htab.on hb) hb.size
  go_enter Tryd.func4, Tryd.ntmps4
  go_wp2_with fail
  refine (works_any _ _ (Nat.le_refl _) htab).mono ?_
  rintro e w1 ⟨rfl, B1⟩
  go_wp2_with fail
  refine (small_any _).mono ?_
  rintro e w2 ⟨vp2, vt2, rfl, hn2, hb2⟩
  have B2 := B1.trans (hb2.mono B1.size)
  go_wp2_with fail
  refine (grow_no _ _ (Nat.le_refl _) _ _ smallC hn2 2 (tb _ B2) small_no2).mono ?_
  rintro e w3 ⟨rfl, hb3⟩
  have B3 := B2.trans (hb3.mono B2.size)
  clear hn2
  go_wp2_with fail
  refine (small_any _).mono ?_
  rintro e w4 ⟨vp4, vt4, rfl, hn4, hb4⟩
  have B4 := B3.trans (hb4.mono B3.size)
  go_wp2_with fail
  refine (grow_no _ _ (Nat.le_refl _) _ _ smallC hn4 0 (tb _ B4) small_no0).mono ?_
  rintro e w5 ⟨rfl, hb5⟩
  have B5 := B4.trans (hb5.mono B4.size)
  clear hn4
  go_wp2_with fail
  refine (small_any _).mono ?_
  rintro e w6 ⟨vp6, vt6, rfl, hn6, hb6⟩
  have B6 := B5.trans (hb6.mono B5.size)
  go_wp2_with fail
  refine (boundedNet_no _ _ (Nat.le_refl _) _ _ smallC hn6 4097 (tb _ B6) small_no4097).mono ?_
  rintro e w7 ⟨rfl, hb7⟩
  have B7 := B6.trans (hb7.mono B6.size)
  clear hn6 hb2 hb3 hb4 hb5 hb6 hb7
  have hnE : NtR w7 w7.heap.size (.slice none 0 0) (.slice none 0 0) emptyC := ⟨ColV.nil _ _ _ _, ⟨none, 0, rfl, by simp [emptyC], fun i hi => by simp [emptyC] at hi⟩⟩
  go_wp2_with fail
  refine (grow_no _ _ (Nat.le_refl _) _ _ emptyC hnE 9 (tb _ B7) empty_no).mono ?_
  rintro e w8 ⟨rfl, hb8⟩
  have B8 := B7.trans (hb8.mono B7.size)
  clear hnE hb8
  go_wp2_with fail
  refine (small_at _).mono ?_
  rintro e w9 ⟨rfl, hS9, hb9⟩
  have B9 := B8.trans (hb9.mono B8.size)
  obtain ⟨N, hN⟩ : ∃ N, w8.heap.size = N := ⟨_, rfl⟩
  have hz9 := hb9.size
  rw [hN] at hS9 hz9
  rw [hN]
  obtain ⟨s1, s2, s3, s4, s6⟩ := hS9
  have hN9 := lt_of_block s6
  obtain ⟨Wa, hWa⟩ : ∃ Wa, w9.alloc (.cells #[.slice (some ⟨N + 1, 0, none⟩) 3 3, .slice (some ⟨N + 6, 0, none⟩) 2 2, .int .i64 0, .int .i64 2] 25) = Wa := ⟨_, rfl⟩
  have hba : Below w9.heap.size w9 Wa := by rw [← hWa]; exact (Below.refl _ _).alloc (Nat.le_refl _) _
  have hza : Wa.heap.size = w9.heap.size + 1 := by rw [← hWa]; exact World.size_alloc _ _
  have hxa : Wa.heap[w9.heap.size]? = some (.cells #[.slice (some ⟨N + 1, 0, none⟩) 3 3, .slice (some ⟨N + 6, 0, none⟩) 2 2, .int .i64 0, .int .i64 2] 25) := by rw [← hWa]; exact heap_alloc_new _ _
  obtain ⟨Wb, hWb⟩ : ∃ Wb, Wa.alloc (.cells #[.int .i64 0] 3) = Wb := ⟨_, rfl⟩
  have hbb : Below Wa.heap.size Wa Wb := by rw [← hWb]; exact (Below.refl _ _).alloc (Nat.le_refl _) _
  have hzb : Wb.heap.size = Wa.heap.size + 1 := by rw [← hWb]; exact World.size_alloc _ _
  have hxb : Wb.heap[Wa.heap.size]? = some (.cells #[.int .i64 0] 3) := by rw [← hWb]; exact heap_alloc_new _ _
  obtain ⟨R, hR⟩ : ∃ R, Wa.heap.size = R := ⟨_, rfl⟩
  obtain ⟨Wc, hWc⟩ : ∃ Wc, Wb.setCell ⟨N + 6, 5, none⟩ (.slice (some ⟨R, 0, none⟩) 1 1) = Wc := ⟨_, rfl⟩
  have hab : Below w9.heap.size w9 Wb := hba.trans (hbb.mono (by omega))
  have s6b : Wb.heap[N + 6]? = some (.cells #[.string ⟨#[115]⟩, .slice (some ⟨N + 2, 0, none⟩) 1 1, .slice (some ⟨N + 3, 0, none⟩) 1 1, .string ⟨#[101]⟩, .slice (some ⟨N + 4, 0, none⟩) 1 1, .slice (some ⟨N + 5, 0, none⟩) 1 1] 42) := (hab.block _ hN9).trans s6
  have s6c : Wc.heap[N + 6]? = some (.cells #[.string ⟨#[115]⟩, .slice (some ⟨N + 2, 0, none⟩) 1 1, .slice (some ⟨N + 3, 0, none⟩) 1 1, .string ⟨#[101]⟩, .slice (some ⟨N + 4, 0, none⟩) 1 1, .slice (some ⟨R, 0, none⟩) 1 1] 42) := by rw [← hWc]; exact set_self _ s6b
  have oc : ∀ (k : Nat) o, k ≠ N + 6 → Wb.heap[k]? = some o → Wc.heap[k]? = some o := fun k o hk h => by rw [← hWc, heap_setCell_ne _ _ hk]; exact h
  have s1c := oc _ _ (by omega) ((hab.block _ (lt_of_block s1)).trans s1)
  have s2c := oc _ _ (by omega) ((hab.block _ (lt_of_block s2)).trans s2)
  have s3c := oc _ _ (by omega) ((hab.block _ (lt_of_block s3)).trans s3)
  have s4c := oc _ _ (by omega) ((hab.block _ (lt_of_block s4)).trans s4)
  have sRc := oc R _ (by omega) (by rw [← hR]; exact hxb)
  have sBc := oc _ _ (by omega) ((hbb.block _ (by omega)).trans hxa)
  have hzc : Wc.heap.size = Wb.heap.size := by rw [← hWc]; simp
  have hbN : N ≤ w9.heap.size := hz9
  have Bb := B9.trans (hab.mono B9.size)
  have hWN : W.heap.size ≤ N := by rw [← hN]; exact B8.size
  have Bc : Below W.heap.size W Wc := by rw [← hWc]; exact Bb.setCell (by show W.heap.size ≤ N + 6; omega) _
  have hnR : NtR Wc Wc.heap.size (.slice (some ⟨N + 1, 0, none⟩) 3 3) (.slice (some ⟨N + 6, 0, none⟩) 2 2) ringC := by
    refine ⟨⟨_, 3, rfl, by simp [ringC], by simp [ringC], ?_⟩, ⟨_, 2, rfl, by simp [ringC], ?_⟩⟩
    · intro i hi
      refine ⟨N + 1, 0, rfl, by omega, ?_⟩
      rw [cell_of_block s1c]
      have hi3 : i < 3 := hi
      rcases (by omega : i = 0 ∨ i = 1 ∨ i = 2) with rfl | rfl | rfl <;> rfl
    · have j2 := ints_lit (B := Wc.heap.size) (cap := 1) (l := [0]) s2c (by simp) (by omega)
      have j3 := ints_lit (B := Wc.heap.size) (cap := 1) (l := [1]) s3c (by simp) (by omega)
      have j4 := ints_lit (B := Wc.heap.size) (cap := 1) (l := [1]) s4c (by simp) (by omega)
      have jR := ints_lit (B := Wc.heap.size) (cap := 1) (l := [0]) sRc (by simp) (by omega)
      intro i hi
      have hi2 : i < 2 := hi
      rcases (by omega : i = 0 ∨ i = 1) with rfl | rfl
      · refine ⟨N + 6, 0, _, _, rfl, by omega, ?_, ?_, ?_, j2, j3⟩
        all_goals rw [cell_of_block s6c]; rfl
      · refine ⟨N + 6, 0, _, _, rfl, by omega, ?_, ?_, ?_, j4, jR⟩
        all_goals rw [cell_of_block s6c]; rfl
  have hb6c := Lib.hid s6b
  obtain ⟨x0, x1, x2, x3⟩ := box4 hxa
  have y5 : Wb.cell? ⟨N + 6, 5, none⟩ = some (.slice (some ⟨N + 5, 0, none⟩) 1 1) := by rw [cell_of_block s6b]; rfl
  have f5 : Wb.frozen? ⟨N + 6, 5, none⟩ = false := free_of_block s6b 5
  obtain ⟨z0, z1, z2, z3⟩ := box4 sBc
  rw [hR] at hza hzb
  have hz1' : w9.heap.size + 1 ≤ R := by omega
  have hz2' : R ≤ w9.heap.size + 1 := by omega
  have HC := Lib.hid (grow_ok _ _ (Nat.le_refl _) _ _ ringC hnR 9 (tb _ Bc) ring_grows)
  clear hza hzb hzc s1 s2 s3 s4 s6 hxa hxb s6b s6c s1c s2c s3c s4c sRc sBc oc hN hnR hbb hba hab Bb
  go_wp2_with fail
  refine HC.out.mono ?_
  rintro e w10 ⟨po, rfl, hTo, -, hb10⟩
  have B10 := Bc.trans (hb10.mono Bc.size)
  clear x0 x1 x2 x3 y5 f5 z0 z1 z2 z3 hb6c HC hWa hWb hWc hR hz1' hz2' hN9 hbN hWN hb9 hz9
  go_wp2_with fail
  refine (len_is _ _ _ ringT hTo (t := 3) rfl).mono ?_
  rintro e w11 ⟨rfl, rfl⟩
  go_wp2_with fail
  refine (node_is _ _ po ringT hTo (Nat.le_refl _) 2 (by decide) (a := 1) (b := 1) (c := 0) (m := [1, 0, 0]) rfl rfl).mono ?_
  rintro e w11 ⟨v11, rfl, how11, hb11⟩
  have B11 := B10.trans (hb11.mono B10.size)
  rcases how11.val with ⟨-, h0⟩ | ⟨g11, cap11, rfl, -, -⟩
  · cases h0
  clear hTo how11 hb10
  go_wp2_with fail
  refine (grow_ok _ _ (Nat.le_refl _) _ _ twoC (two_reads (N := w11.heap.size) ?_ ?_ ?_ ?_ ?_ ?_) 9 (tb _ ?_) two_grows).mono ?_
  case refine_8 =>
    rintro e w12 ⟨pt, rfl, hTt, -, hb12⟩
    have B12 : Below W.heap.size W w12 := by
      refine Below.trans ?_ (hb12.mono ?_)
      · exact B11.trans (by repeat (first | exact Below.refl _ _ | refine Below.alloc ?_ (by have := B11.size; simp <;> omega) _))
      · have := B11.size; simp; omega
    clear hb12 hb11 B1 B2 B3 B4 B5 B6 B7 B8 B9 B10 Bc
    go_wp2_with fail
    refine (most_at _ _ pt twoT hTt (Nat.le_refl _) (by decide) 1 (by decide) (q := 1) (r := 2) rfl rfl).mono ?_
    rintro e w14 ⟨rfl, hb14⟩
    have B14 := B12.trans (hb14.mono B12.size)
    clear hTt hb14 B11 B12
    go_wp2_with fail
    refine (node_nil _ 0).mono ?_
    rintro e w15 ⟨rfl, hb15⟩
    have B15 := (B14.trans (hb15.mono B14.size)).alloc (B14.trans (hb15.mono B14.size)).size (.cells #[.int .i64 0, .int .i64 0, .slice none 0 0, .int .i64 0] 36)
    clear hb15 B14
    unfold noNode
    go_wp2_with fail
    refine (most_nil _ 0).mono ?_
    rintro e w16 ⟨rfl, rfl⟩
    go_wp2_with fail
    refine (covered_nil _ none 0 0).mono ?_
    rintro e w17 ⟨rfl, hb17⟩
    have B17 := B15.trans (hb17.mono B15.size)
    clear hb17 B15
    go_wp2_with fail
    refine (moreNet_any _).mono ?_
    rintro e w18 ⟨vp18, vt18, rfl, hn18, hb18⟩
    have B18 := B17.trans (hb18.mono B17.size)
    clear hb18 B17
    go_wp2_with fail
    refine (grow_ok _ _ (Nat.le_refl _) _ _ moreC hn18 4096 (tb _ B18) more_grows4096).mono ?_
    rintro e w19 ⟨pm, rfl, hTm, -, hb19⟩
    have B19 := B18.trans (hb19.mono B18.size)
    clear hb19 B18 hn18
    go_wp2_with fail
    refine (node_bad _ _ pm moreT hTm (Nat.le_refl _) 4 (by decide)).mono ?_
    rintro e w20 ⟨rfl, hb20⟩
    have hx20 := hb20.alloc hb20.size (.cells #[.int .i64 0, .int .i64 0, .slice none 0 0, .int .i64 0] 36)
    have B20 := B19.trans (hx20.mono B19.size)
    have hT20 := hTm.mono hx20 (Nat.le_refl _)
    unfold noNode
    go_wp2_with fail
    refine (most_bad _ _ pm moreT hT20 hx20.size (by decide) 3 (by decide)).mono ?_
    rintro e w21 ⟨rfl, rfl⟩
    go_wp2_with fail
    refine (most_at _ _ pm moreT hT20 hx20.size (by decide) 2 (by decide) (q := 2) (r := -1) rfl rfl).mono ?_
    rintro e w22 ⟨rfl, hb22⟩
    have h1922 := hx20.trans (hb22.mono hx20.size)
    have B22 := B19.trans (h1922.mono B19.size)
    have haw23 := (Below.refl w22.heap.size w22).alloc (Nat.le_refl _) (.cells #[.int .i64 0, .int .i64 1, .int .i64 99] 3)
    have hzw23 : (w22.alloc (.cells #[.int .i64 0, .int .i64 1, .int .i64 99] 3)).heap.size = w22.heap.size + 1 := World.size_alloc _ _
    have hTvw23 := hTm.mono (h1922.trans (haw23.mono h1922.size)) (show w19.heap.size ≤ w22.heap.size + 1 by have := h1922.size; omega)
    have HCw23 := Lib.hid (covered_at _ (w22.heap.size + 1) pm moreT hTvw23 (by omega) _ [0, 1, 99] (lit_new w22 [0, 1, 99] (by decide)) (r := 2) (b := true) rfl rfl)
    clear hzw23
    go_wp2_with fail
    refine HCw23.out.mono ?_
    rintro e w23 ⟨rfl, hbw23⟩
    have h19w23 := (h1922.trans (haw23.mono h1922.size)).trans (hbw23.mono (h1922.trans (haw23.mono h1922.size)).size)
    have Bw23 := B19.trans (h19w23.mono B19.size)
    have haw24 := (Below.refl w23.heap.size w23).alloc (Nat.le_refl _) (.cells #[.int .i64 0, .int .i64 2, .int .i64 0] 3)
    have hzw24 : (w23.alloc (.cells #[.int .i64 0, .int .i64 2, .int .i64 0] 3)).heap.size = w23.heap.size + 1 := World.size_alloc _ _
    have hTvw24 := hTm.mono (h19w23.trans (haw24.mono h19w23.size)) (show w19.heap.size ≤ w23.heap.size + 1 by have := h19w23.size; omega)
    have HCw24 := Lib.hid (covered_at _ (w23.heap.size + 1) pm moreT hTvw24 (by omega) _ [0, 2, 0] (lit_new w23 [0, 2, 0] (by decide)) (r := 0) (b := false) rfl rfl)
    clear hzw24
    go_wp2_with fail
    refine HCw24.out.mono ?_
    rintro e w24 ⟨rfl, hbw24⟩
    have h19w24 := (h19w23.trans (haw24.mono h19w23.size)).trans (hbw24.mono (h19w23.trans (haw24.mono h19w23.size)).size)
    have Bw24 := B19.trans (h19w24.mono B19.size)
    clear hTvw23 hTvw24 HCw23 HCw24 hT20
    go_wp2_with (first | (go_at_call 13; refine (len_nil _).mono ?_; rintro e w25 ⟨rfl, rfl⟩; refine Hid.out ?_))
    refine Lib.hid ?_
    go_wp2_with (first | (go_at_call 22; refine (bounded_nil _).mono ?_; rintro e w25 ⟨rfl, rfl⟩; refine Hid.out ?_))
    refine Lib.hid ?_
    have hpw25 := ((Below.refl w24.heap.size w24).alloc (Nat.le_refl _) (.cells #[.int .i64 (-1), .int .i64 0] 3)).alloc (by simp) (.cells #[.int .i64 7, .int .i64 0] 3)
    have HCw25 := Lib.hid (covers_at ((w24.alloc (.cells #[.int .i64 (-1), .int .i64 0] 3)).alloc (.cells #[.int .i64 7, .int .i64 0] 3)) (w24.heap.size + 2) (.slice (some ⟨w24.heap.size, 0, none⟩) 2 2) (.slice (some ⟨w24.heap.size + 1, 0, none⟩) 2 2) [-1, 0] [7, 0] (ints_lit (l := [-1, 0]) (heap_alloc2_old _ _ _) (by simp) (by omega)) (ints_lit (l := [7, 0]) (heap_alloc2_new _ _ _) (by simp) (by omega)) (t := true) rfl)
    go_wp2_with (go_at_call 16; refine HCw25.out.mono ?_; rintro e w25 ⟨rfl, hbw25⟩; refine Hid.out ?_)
    refine Lib.hid ?_
    have hqw25 := hpw25.trans (hbw25.mono hpw25.size)
    have Bw25 := Bw24.trans (hqw25.mono Bw24.size)
    have hpw26 := ((Below.refl w25.heap.size w25).alloc (Nat.le_refl _) (.cells #[.int .i64 7, .int .i64 0] 3)).alloc (by simp) (.cells #[.int .i64 (-1), .int .i64 0] 3)
    have HCw26 := Lib.hid (covers_at ((w25.alloc (.cells #[.int .i64 7, .int .i64 0] 3)).alloc (.cells #[.int .i64 (-1), .int .i64 0] 3)) (w25.heap.size + 2) (.slice (some ⟨w25.heap.size, 0, none⟩) 2 2) (.slice (some ⟨w25.heap.size + 1, 0, none⟩) 2 2) [7, 0] [-1, 0] (ints_lit (l := [7, 0]) (heap_alloc2_old _ _ _) (by simp) (by omega)) (ints_lit (l := [-1, 0]) (heap_alloc2_new _ _ _) (by simp) (by omega)) (t := false) rfl)
    go_wp2_with (go_at_call 16; refine HCw26.out.mono ?_; rintro e w26 ⟨rfl, hbw26⟩; refine Hid.out ?_)
    refine Lib.hid ?_
    have hqw26 := hpw26.trans (hbw26.mono hpw26.size)
    have Bw26 := Bw25.trans (hqw26.mono Bw25.size)
    have hpw27 := ((Below.refl w26.heap.size w26).alloc (Nat.le_refl _) (.cells #[.int .i64 1] 3)).alloc (by simp) (.cells #[.int .i64 1, .int .i64 0] 3)
    have HCw27 := Lib.hid (covers_at ((w26.alloc (.cells #[.int .i64 1] 3)).alloc (.cells #[.int .i64 1, .int .i64 0] 3)) (w26.heap.size + 2) (.slice (some ⟨w26.heap.size, 0, none⟩) 1 1) (.slice (some ⟨w26.heap.size + 1, 0, none⟩) 2 2) [1] [1, 0] (ints_lit (l := [1]) (heap_alloc2_old _ _ _) (by simp) (by omega)) (ints_lit (l := [1, 0]) (heap_alloc2_new _ _ _) (by simp) (by omega)) (t := false) rfl)
    go_wp2_with (go_at_call 16; refine HCw27.out.mono ?_; rintro e w27 ⟨rfl, hbw27⟩; refine Hid.out ?_)
    refine Lib.hid ?_
    have hqw27 := hpw27.trans (hbw27.mono hpw27.size)
    have Bw27 := Bw26.trans (hqw27.mono Bw26.size)
    go_wp2_with fail
    go_ret
    exact ⟨rfl, Bw27⟩
  case refine_7 => exact B11.trans (by repeat (first | exact Below.refl _ _ | refine Below.alloc ?_ (by have := B11.size; simp <;> omega) _))
  all_goals (simp only [alloc_get', World.size_alloc]; repeat (first | rfl | rw [if_pos trivial] | rw [if_pos (by omega)] | rw [if_neg (by omega)]))

end Go.Proofs.YtgahlonimaeicaaDoor
