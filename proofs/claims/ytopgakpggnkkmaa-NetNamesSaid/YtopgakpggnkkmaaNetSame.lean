/- net.Same: slices.Equal at []int and []string, slices.EqualFunc at []api.Trans. -/
import Derived.Test.YtopgakpggnkkmaaNetFire
import Derived.Test.YtopgakpggnkkmaaBoxes
import Derived.Laws.StructEq
import Derived.Laws.NewBlocks
set_option maxRecDepth 100000
namespace Go.Proofs.Ytopgakpggnkkmaa
open Go.RowKit

theorem eq_drop {α : Type} [BEq α] {a b : List α} {k : Nat} (ha : k < a.length) (hb : k < b.length) : (a.drop k == b.drop k) = (a[k] == b[k] && (a.drop (k + 1) == b.drop (k + 1))) := by
  rw [List.drop_eq_getElem_cons ha, List.drop_eq_getElem_cons hb]; rfl
theorem eq_end {α : Type} [BEq α] {a b : List α} {k : Nat} (ha : a.length ≤ k) (hb : b.length ≤ k) : (a.drop k == b.drop k) = true := by
  rw [List.drop_eq_nil_of_le ha, List.drop_eq_nil_of_le hb]; rfl
theorem eq_ne {α : Type} [BEq α] : ∀ (a b : List α), a.length ≠ b.length → (a == b) = false
  | [], [], h => absurd rfl h
  | [], _ :: _, _ => rfl
  | _ :: _, [], _ => rfl
  | x :: a, y :: b, h => by show (x == y && a == b) = false; rw [eq_ne a b (by simpa using h), Bool.and_false]

set_option maxHeartbeats 400000 in
theorem equalI_any (w : World) (B : Nat) (va vb : Value) (a b : List Int) (ha : Ints w B va a) (hb : Ints w B vb b) :
    Calls Try.prog 41 #[va, vb] w fun e w' => e = .returned (.bool (a == b)) ∧ ∃ n, w' = w.drewN n := by
  obtain ⟨aa, ca, rfl⟩ := ha.val
  obtain ⟨ab, cb, rfl⟩ := hb.val
  have hla := ha.len
  have hlb := hb.len
  by_cases hne : a.length = b.length
  · have H := Lib.hid hne
    have hz : ((a.length : Int) != (b.length : Int)) = false := by simp [hne]
    clear hne
    go_enter Try.func41, Try.ntmps41
    go_wp2_with fail
    go_loopg [13] a.length (fun g s13 wr => ∃ (k : Nat) (n : Nat), k + g = a.length ∧ s13 = .int .i64 k ∧ Hid ((a.drop k == b.drop k) = (a == b)) ∧ wr = w.drewN n)
    case atStart => exact ⟨0, 0, by omega, rfl, rfl, rfl⟩
    case round =>
      obtain ⟨k, n, hkg, rfl, hcov, rfl⟩ := hrel
      by_cases hk : k < a.length
      · obtain ⟨ba, oa, rfl, _, hca⟩ := ha.col k hk
        have hkb : k < b.length := by have := H.out; omega
        obtain ⟨bb, ob, rfl, _, hcb⟩ := hb.col k hkb
        have hdr := Lib.hid (eq_drop (a := a) (b := b) (k := k) hk hkb)
        cases hm : (a[k] == b[k]) with
        | false =>
          have Hf : Hid (false = (a == b)) := by rw [← hcov.out, hdr.out, hm]; exact rfl
          have Hm : (a[k] != b[k]) = true := by simp [bne, hm]
          clear hm
          go_wp2_with fail
          go_quiet (fail)
          go_wp2_with fail
          go_ret
          exact ⟨ret_bool Hf.out, drewN2 _ _ _⟩
        | true =>
          have Hf : Hid ((a.drop (k + 1) == b.drop (k + 1)) = (a == b)) := by rw [← hcov.out, hdr.out, hm]; exact rfl
          have Hm : (a[k] != b[k]) = false := by simp [bne, hm]
          clear hm
          go_wp2_with fail
          go_quiet (fail)
          go_wp2_with fail
          go_roundg (gk - 1)
          case measure => omega
          case rel => exact ⟨k + 1, _, by omega, by go_num, Hf, rfl⟩
      · have hk' : ¬ ((k : Int) < (a.length : Int)) := by omega
        have Hf : Hid (true = (a == b)) := by rw [← hcov.out, eq_end (by omega) (by have := H.out; omega)]; exact rfl
        go_wp2_with fail
        go_ret
        exact ⟨ret_bool Hf.out, _, rfl⟩
  · have hz : ((a.length : Int) != (b.length : Int)) = true := by simp; omega
    have Hf : Hid (false = (a == b)) := (eq_ne a b hne).symm
    clear hne
    go_enter Try.func41, Try.ntmps41
    go_wp2_with fail
    go_ret
    exact ⟨ret_bool Hf.out, 0, rfl⟩

set_option maxHeartbeats 400000 in
theorem equalS_any (w : World) (B : Nat) (va vb : Value) (a b : List ByteArray) (ha : Strs w B va a) (hb : Strs w B vb b) :
    Calls Try.prog 38 #[va, vb] w fun e w' => e = .returned (.bool (a == b)) ∧ ∃ n, w' = w.drewN n := by
  obtain ⟨aa, ca, rfl⟩ := ha.val
  obtain ⟨ab, cb, rfl⟩ := hb.val
  have hla := ha.len
  have hlb := hb.len
  by_cases hne : a.length = b.length
  · have H := Lib.hid hne
    have hz : ((a.length : Int) != (b.length : Int)) = false := by simp [hne]
    clear hne
    go_enter Try.func38, Try.ntmps38
    go_wp2_with fail
    go_loopg [13] a.length (fun g s13 wr => ∃ (k : Nat) (n : Nat), k + g = a.length ∧ s13 = .int .i64 k ∧ Hid ((a.drop k == b.drop k) = (a == b)) ∧ wr = w.drewN n)
    case atStart => exact ⟨0, 0, by omega, rfl, rfl, rfl⟩
    case round =>
      obtain ⟨k, n, hkg, rfl, hcov, rfl⟩ := hrel
      by_cases hk : k < a.length
      · obtain ⟨ba, oa, rfl, _, hca⟩ := ha.col k hk
        have hkb : k < b.length := by have := H.out; omega
        obtain ⟨bb, ob, rfl, _, hcb⟩ := hb.col k hkb
        have hdr := Lib.hid (eq_drop (a := a) (b := b) (k := k) hk hkb)
        cases hm : (a[k] == b[k]) with
        | false =>
          have Hf : Hid (false = (a == b)) := by rw [← hcov.out, hdr.out, hm]; exact rfl
          have Hm : (a[k].toList == b[k].toList) = false := by rw [← beq_toListBytes]; exact hm
          clear hm
          go_wp2_with fail
          go_quiet (fail)
          go_wp2_with fail
          go_ret
          exact ⟨ret_bool Hf.out, drewN2 _ _ _⟩
        | true =>
          have Hf : Hid ((a.drop (k + 1) == b.drop (k + 1)) = (a == b)) := by rw [← hcov.out, hdr.out, hm]; exact rfl
          have Hm : (a[k].toList == b[k].toList) = true := by rw [← beq_toListBytes]; exact hm
          clear hm
          go_wp2_with fail
          go_quiet (fail)
          go_wp2_with fail
          go_roundg (gk - 1)
          case measure => omega
          case rel => exact ⟨k + 1, _, by omega, by go_num, Hf, rfl⟩
      · have hk' : ¬ ((k : Int) < (a.length : Int)) := by omega
        have Hf : Hid (true = (a == b)) := by rw [← hcov.out, eq_end (by omega) (by have := H.out; omega)]; exact rfl
        go_wp2_with fail
        go_ret
        exact ⟨ret_bool Hf.out, _, rfl⟩
  · have hz : ((a.length : Int) != (b.length : Int)) = true := by simp; omega
    have Hf : Hid (false = (a == b)) := (eq_ne a b hne).symm
    clear hne
    go_enter Try.func38, Try.ntmps38
    go_wp2_with fail
    go_ret
    exact ⟨ret_bool Hf.out, 0, rfl⟩

def sameT (x y : Tr) : Bool := x.label == y.label && (x.inn == y.inn && x.out == y.out)
theorem sameT_1 {x y : Tr} (h : (x.label == y.label) = false) : false = sameT x y := by simp only [sameT, h, Bool.false_and]
theorem sameT_2 {x y : Tr} (h : (x.label == y.label) = true) (h2 : (x.inn == y.inn) = false) : false = sameT x y := by simp only [sameT, h, h2, Bool.true_and, Bool.false_and]
theorem sameT_3 {x y : Tr} (h : (x.label == y.label) = true) (h2 : (x.inn == y.inn) = true) : (x.out == y.out) = sameT x y := by simp only [sameT, h, h2, Bool.true_and]
theorem equalI_is (w : World) (B : Nat) (va vb : Value) (a b : List Int) (ha : Ints w B va a) (hb : Ints w B vb b) {t : Bool} (h : (a == b) = t) :
    Calls Try.prog 41 #[va, vb] w fun e w' => e = .returned (.bool t) ∧ ∃ n, w' = w.drewN n := by
  rw [← h]; exact equalI_any w B va vb a b ha hb

set_option maxHeartbeats 800000 in
theorem sameT_any (w : World) (B : Nat) (hB : B ≤ w.heap.size) (xi xo yi yo : Value) (x y : Tr) (h1 : Ints w B xi x.inn) (h2 : Ints w B xo x.out) (h3 : Ints w B yi y.inn) (h4 : Ints w B yo y.out) :
    Calls Try.prog 40 #[.agg #[.string x.label, xi, xo], .agg #[.string y.label, yi, yo]] w fun e w' => e = .returned (.bool (sameT x y)) ∧ Below w.heap.size w w' := by
  have hb := ((Below.refl w.heap.size w).alloc (Nat.le_refl _) (.cells #[.string x.label, xi, xo] 38)).alloc (by simp) (.cells #[.string y.label, yi, yo] 38)
  have hx := heap_alloc2_old w (.cells #[.string x.label, xi, xo] 38) (.cells #[.string y.label, yi, yo] 38)
  have hy := heap_alloc2_new w (.cells #[.string x.label, xi, xo] 38) (.cells #[.string y.label, yi, yo] 38)
  obtain ⟨W1, hW1⟩ : ∃ W1, (w.alloc (.cells #[.string x.label, xi, xo] 38)).alloc (.cells #[.string y.label, yi, yo] 38) = W1 := ⟨_, rfl⟩
  rw [hW1] at hb hx hy
  have hB1 := hb.mono hB
  have i1 := h1.mono hB1 (show B ≤ W1.heap.size by have := hb.size; omega)
  have i2 := h2.mono hB1 (show B ≤ W1.heap.size by have := hb.size; omega)
  have i3 := h3.mono hB1 (show B ≤ W1.heap.size by have := hb.size; omega)
  have i4 := h4.mono hB1 (show B ≤ W1.heap.size by have := hb.size; omega)
  obtain ⟨a1, c1, rfl⟩ := h1.val
  obtain ⟨a2, c2, rfl⟩ := h2.val
  obtain ⟨a3, c3, rfl⟩ := h3.val
  obtain ⟨a4, c4, rfl⟩ := h4.val
  have xc0 : W1.cell? ⟨w.heap.size, 0, none⟩ = some (.string x.label) := by rw [cell_of_block hx]; rfl
  have xc1 : W1.cell? ⟨w.heap.size, 1, none⟩ = some (.slice a1 x.inn.length c1) := by rw [cell_of_block hx]; rfl
  have xc2 : W1.cell? ⟨w.heap.size, 2, none⟩ = some (.slice a2 x.out.length c2) := by rw [cell_of_block hx]; rfl
  have yc0 : W1.cell? ⟨w.heap.size + 1, 0, none⟩ = some (.string y.label) := by rw [cell_of_block hy]; rfl
  have yc1 : W1.cell? ⟨w.heap.size + 1, 1, none⟩ = some (.slice a3 y.inn.length c3) := by rw [cell_of_block hy]; rfl
  have yc2 : W1.cell? ⟨w.heap.size + 1, 2, none⟩ = some (.slice a4 y.out.length c4) := by rw [cell_of_block hy]; rfl
  clear hx hy h1 h2 h3 h4
  cases hl : (x.label == y.label) with
  | false =>
    have H1 := Lib.hid (sameT_1 hl)
    have hl2 : (x.label.toList == y.label.toList) = false := by rw [← beq_toListBytes]; exact hl
    go_enter Try.func40, Try.ntmps40
    go_wp2_with fail
    go_ret
    exact ⟨ret_bool H1.out, hb⟩
  | true =>
    have hl2 : (x.label.toList == y.label.toList) = true := by rw [← beq_toListBytes]; exact hl
    cases hi : (x.inn == y.inn) with
    | false =>
      have H1 := Lib.hid (sameT_2 hl hi)
      have HC := Lib.hid (equalI_is W1 _ _ _ _ _ i1 i3 hi)
      clear hi
      go_enter Try.func40, Try.ntmps40
      go_wp2_with fail
      refine HC.out.mono ?_
      rintro e w2 ⟨rfl, n, rfl⟩
      go_wp2_with fail
      go_ret
      exact ⟨ret_bool H1.out, hb.trans ((below_drewN' n).mono (by have := hb.size; omega))⟩
    | true =>
      have H1 := Lib.hid (sameT_3 hl hi)
      have HC := Lib.hid (equalI_is W1 _ _ _ _ _ i1 i3 hi)
      clear hi
      go_enter Try.func40, Try.ntmps40
      go_wp2_with fail
      refine HC.out.mono ?_
      rintro e w2 ⟨rfl, n, rfl⟩
      have hbn : Below W1.heap.size W1 (W1.drewN n) := below_drewN' n
      have j2 := i2.mono hbn hbn.size
      have j4 := i4.mono hbn hbn.size
      go_wp2_with fail
      refine (equalI_any _ _ _ _ _ _ j2 j4).mono ?_
      rintro e w3 ⟨rfl, m, rfl⟩
      go_wp2_with fail
      go_ret
      exact ⟨ret_bool H1.out, hb.trans ((below_drewN' _).mono (by have := hb.size; omega))⟩

theorem sameT_is (w : World) (B : Nat) (hB : B ≤ w.heap.size) (xi xo yi yo : Value) (x y : Tr) (h1 : Ints w B xi x.inn) (h2 : Ints w B xo x.out) (h3 : Ints w B yi y.inn) (h4 : Ints w B yo y.out) {t : Bool} (h : sameT x y = t) :
    Calls Try.prog 40 #[.agg #[.string x.label, xi, xo], .agg #[.string y.label, yi, yo]] w fun e w' => e = .returned (.bool t) ∧ Below w.heap.size w w' := by
  rw [← h]; exact sameT_any w B hB xi xo yi yo x y h1 h2 h3 h4
def sameTs : List Tr → List Tr → Bool
  | [], [] => true
  | x :: a, y :: b => sameT x y && sameTs a b
  | _, _ => false
theorem sameTs_len : ∀ (a b : List Tr), a.length ≠ b.length → sameTs a b = false
  | [], [], h => absurd rfl h
  | [], _ :: _, _ => rfl
  | _ :: _, [], _ => rfl
  | x :: a, y :: b, h => by show (sameT x y && sameTs a b) = false; rw [sameTs_len a b (by simpa using h), Bool.and_false]
theorem sameTs_drop {a b : List Tr} {k : Nat} (ha : k < a.length) (hb : k < b.length) : sameTs (a.drop k) (b.drop k) = (sameT a[k] b[k] && sameTs (a.drop (k + 1)) (b.drop (k + 1))) := by
  rw [List.drop_eq_getElem_cons ha, List.drop_eq_getElem_cons hb]; rfl
theorem sameTs_end {a b : List Tr} {k : Nat} (ha : a.length ≤ k) (hb : b.length ≤ k) : sameTs (a.drop k) (b.drop k) = true := by
  rw [List.drop_eq_nil_of_le ha, List.drop_eq_nil_of_le hb]; rfl

set_option maxHeartbeats 1600000 in
theorem equalF_any (w : World) (va vb : Value) (a b : List Tr) (ha : Trs w w.heap.size va a) (hb : Trs w w.heap.size vb b) :
    Calls Try.prog 39 #[va, vb, .func (.func 40) #[] #[]] w fun e w' => e = .returned (.bool (sameTs a b)) ∧ Below w.heap.size w w' := by
  have hla := ha.len
  have hlb := hb.len
  have ra := ha
  have rb := hb
  obtain ⟨aa, ca, rfl, _, hac⟩ := ha
  obtain ⟨ab, cb, rfl, _, hbc⟩ := hb
  by_cases hne : a.length = b.length
  · have H := Lib.hid hne
    have hz : ((a.length : Int) != (b.length : Int)) = false := by simp [hne]
    clear hne
    go_enter Try.func39, Try.ntmps39
    go_wp2_with fail
    go_loopg [17] a.length (fun g s17 wr => ∃ (k : Nat), k + g = a.length ∧ s17 = .int .i64 k ∧ Hid (sameTs (a.drop k) (b.drop k) = sameTs a b) ∧ Below w.heap.size w wr)
    case atStart => exact ⟨0, by omega, rfl, rfl, Below.refl _ _⟩
    case round =>
      obtain ⟨k, hkg, rfl, hcov, hbr⟩ := hrel
      have hbrs := hbr.size
      by_cases hk : k < a.length
      · have hkb : k < b.length := by have := H.out; omega
        obtain ⟨ba, oa, xi, xo, rfl, hba, x0, x1, x2, hxi, hxo⟩ := hac k hk
        obtain ⟨bb, ob, yi, yo, rfl, hbb, y0, y1, y2, hyi, hyo⟩ := hbc k hkb
        have hdr := Lib.hid (sameTs_drop (a := a) (b := b) (k := k) hk hkb)
        obtain ⟨x, hx⟩ : ∃ x, a[k] = x := ⟨_, rfl⟩
        obtain ⟨y, hy⟩ : ∃ y, b[k] = y := ⟨_, rfl⟩
        rw [hx] at x0 hxi hxo hdr
        rw [hy] at y0 hyi hyo hdr
        clear hx hy
        rw [← Below.cellB hbr hba] at x0 x1 x2
        have hba' : ba < wr.heap.size := by omega
        have hbb' : bb < wr.heap.size := by omega
        rw [← Below.cellB hbr hbb] at y0 y1 y2
        obtain ⟨W1, hW1⟩ : ∃ W1, (wr.alloc (.cells #[.string x.label, xi, xo] 38)).alloc (.cells #[.string y.label, yi, yo] 38) = W1 := ⟨_, rfl⟩
        have hb1 : Below wr.heap.size wr W1 := by rw [← hW1]; exact ((Below.refl _ _).alloc (Nat.le_refl _) _).alloc (by simp) _
        have hB1 := hbr.trans (hb1.mono hbrs)
        have i1 := hxi.mono hB1 (show w.heap.size ≤ W1.heap.size by have := hb1.size; omega)
        have i2 := hxo.mono hB1 (show w.heap.size ≤ W1.heap.size by have := hb1.size; omega)
        have i3 := hyi.mono hB1 (show w.heap.size ≤ W1.heap.size by have := hb1.size; omega)
        have i4 := hyo.mono hB1 (show w.heap.size ≤ W1.heap.size by have := hb1.size; omega)
        obtain ⟨a1, c1, rfl⟩ := hxi.val
        obtain ⟨a2, c2, rfl⟩ := hxo.val
        obtain ⟨a3, c3, rfl⟩ := hyi.val
        obtain ⟨a4, c4, rfl⟩ := hyo.val
        have hX := heap_alloc2_old wr (.cells #[.string x.label, .slice a1 x.inn.length c1, .slice a2 x.out.length c2] 38) (.cells #[.string y.label, .slice a3 y.inn.length c3, .slice a4 y.out.length c4] 38)
        have hY := heap_alloc2_new wr (.cells #[.string x.label, .slice a1 x.inn.length c1, .slice a2 x.out.length c2] 38) (.cells #[.string y.label, .slice a3 y.inn.length c3, .slice a4 y.out.length c4] 38)
        rw [hW1] at hX hY
        have zx0 : W1.cell? ⟨wr.heap.size, 0, none⟩ = some (.string x.label) := by rw [cell_of_block hX]; rfl
        have zx1 : W1.cell? ⟨wr.heap.size, 1, none⟩ = some (.slice a1 x.inn.length c1) := by rw [cell_of_block hX]; rfl
        have zx2 : W1.cell? ⟨wr.heap.size, 2, none⟩ = some (.slice a2 x.out.length c2) := by rw [cell_of_block hX]; rfl
        have zy0 : W1.cell? ⟨wr.heap.size + 1, 0, none⟩ = some (.string y.label) := by rw [cell_of_block hY]; rfl
        have zy1 : W1.cell? ⟨wr.heap.size + 1, 1, none⟩ = some (.slice a3 y.inn.length c3) := by rw [cell_of_block hY]; rfl
        have zy2 : W1.cell? ⟨wr.heap.size + 1, 2, none⟩ = some (.slice a4 y.out.length c4) := by rw [cell_of_block hY]; rfl
        clear hX hY
        cases hm : sameT x y with
        | false =>
          have Hf : Hid (false = sameTs a b) := by rw [← hcov.out, hdr.out, hm]; exact rfl
          have HC := Lib.hid (sameT_is W1 _ (Nat.le_refl _) _ _ _ _ x y i1 i2 i3 i4 hm)
          clear hm
          go_wp2_with (first | (go_at_call 40; refine HC.out.mono ?_; rintro e w7 ⟨rfl, hb7⟩; refine Hid.out ?_))
          refine Lib.hid ?_
          go_wp2_with fail
          go_ret
          exact ⟨ret_bool Hf.out, hB1.trans (hb7.mono hB1.size)⟩
        | true =>
          have Hf : Hid (sameTs (a.drop (k + 1)) (b.drop (k + 1)) = sameTs a b) := by rw [← hcov.out, hdr.out, hm]; exact rfl
          have HC := Lib.hid (sameT_is W1 _ (Nat.le_refl _) _ _ _ _ x y i1 i2 i3 i4 hm)
          clear hm
          go_wp2_with (first | (go_at_call 40; refine HC.out.mono ?_; rintro e w7 ⟨rfl, hb7⟩; refine Hid.out ?_))
          refine Lib.hid ?_
          go_wp2_with fail
          go_roundg (gk - 1)
          case measure => omega
          case rel => exact ⟨k + 1, by omega, by go_num, Hf, hB1.trans (hb7.mono hB1.size)⟩
      · have hk' : ¬ ((k : Int) < (a.length : Int)) := by omega
        have Hf : Hid (true = sameTs a b) := by rw [← hcov.out, sameTs_end (by omega) (by have := H.out; omega)]; exact rfl
        go_wp2_with fail
        go_ret
        exact ⟨ret_bool Hf.out, hbr⟩
  · have hz : ((a.length : Int) != (b.length : Int)) = true := by simp; omega
    have Hf : Hid (false = sameTs a b) := (sameTs_len a b hne).symm
    clear hne
    go_enter Try.func39, Try.ntmps39
    go_wp2_with fail
    go_ret
    exact ⟨ret_bool Hf.out, Below.refl _ _⟩

def sameN (a b : Nt) : Bool := a.init == b.init && (a.final == b.final && (a.places == b.places && sameTs a.trans b.trans))
theorem sameN_1 {a b : Nt} (h : (a.init == b.init) = false) : false = sameN a b := by simp only [sameN, h, Bool.false_and]
theorem sameN_2 {a b : Nt} (h : (a.init == b.init) = true) (h2 : (a.final == b.final) = false) : false = sameN a b := by simp only [sameN, h, h2, Bool.true_and, Bool.false_and]
theorem sameN_3 {a b : Nt} (h : (a.init == b.init) = true) (h2 : (a.final == b.final) = true) (h3 : (a.places == b.places) = false) : false = sameN a b := by simp only [sameN, h, h2, h3, Bool.true_and, Bool.false_and]
theorem sameN_4 {a b : Nt} (h : (a.init == b.init) = true) (h2 : (a.final == b.final) = true) (h3 : (a.places == b.places) = true) : sameTs a.trans b.trans = sameN a b := by simp only [sameN, h, h2, h3, Bool.true_and]
theorem equalS_is (w : World) (B : Nat) (va vb : Value) (a b : List ByteArray) (ha : Strs w B va a) (hb : Strs w B vb b) {t : Bool} (h : (a == b) = t) :
    Calls Try.prog 38 #[va, vb] w fun e w' => e = .returned (.bool t) ∧ ∃ n, w' = w.drewN n := by
  rw [← h]; exact equalS_any w B va vb a b ha hb

set_option maxHeartbeats 800000 in
theorem same_any (w : World) (B : Nat) (hB : B ≤ w.heap.size) (pa ta pb tb : Value) (a b : Nt) (ha : NtR w B pa ta a) (hb : NtR w B pb tb b) :
    Calls Try.prog 25 #[.agg #[pa, ta, .int .i64 a.init, .int .i64 a.final], .agg #[pb, tb, .int .i64 b.init, .int .i64 b.final]] w fun e w' => e = .returned (.bool (sameN a b)) ∧ Below w.heap.size w w' := by
  obtain ⟨aa, ca, rfl⟩ := ha.1.val
  obtain ⟨ab, cb, rfl⟩ := hb.1.val
  obtain ⟨at_, ct, rfl⟩ := ha.2.val
  obtain ⟨au, cu, rfl⟩ := hb.2.val
  obtain ⟨cA, hcA⟩ : ∃ c : Array Value, #[.slice aa a.places.length ca, .slice at_ a.trans.length ct, .int .i64 a.init, .int .i64 a.final] = c := ⟨_, rfl⟩
  obtain ⟨cB, hcB⟩ : ∃ c : Array Value, #[.slice ab b.places.length cb, .slice au b.trans.length cu, .int .i64 b.init, .int .i64 b.final] = c := ⟨_, rfl⟩
  have hbb := ((Below.refl w.heap.size w).alloc (Nat.le_refl _) (.cells cA 28)).alloc (by simp) (.cells cB 28)
  have hX := heap_alloc2_old w (.cells cA 28) (.cells cB 28)
  have hY := heap_alloc2_new w (.cells cA 28) (.cells cB 28)
  obtain ⟨W1, hW1⟩ : ∃ W1, (w.alloc (.cells cA 28)).alloc (.cells cB 28) = W1 := ⟨_, rfl⟩
  rw [hW1] at hbb hX hY
  rw [← hcA] at hX
  rw [← hcB] at hY
  rw [← hcA, ← hcB] at hW1
  clear hcA hcB
  have hs := hbb.size
  have ia := ha.mono (hbb.mono hB) (show B ≤ W1.heap.size by omega)
  have ib := hb.mono (hbb.mono hB) (show B ≤ W1.heap.size by omega)
  clear ha hb
  obtain ⟨x0, x1, x2, x3⟩ := box4' hX
  obtain ⟨y0, y1, y2, y3⟩ := box4' hY
  clear hX hY
  cases h1 : (a.init == b.init) with
  | false =>
    have H1 := Lib.hid (sameN_1 h1)
    go_enter Try.func25, Try.ntmps25
    go_wp2_with fail
    go_ret
    exact ⟨ret_bool H1.out, hbb⟩
  | true =>
    cases h2 : (a.final == b.final) with
    | false =>
      have H1 := Lib.hid (sameN_2 h1 h2)
      go_enter Try.func25, Try.ntmps25
      go_wp2_with fail
      go_ret
      exact ⟨ret_bool H1.out, hbb⟩
    | true =>
      cases h3 : (a.places == b.places) with
      | false =>
        have H1 := Lib.hid (sameN_3 h1 h2 h3)
        have HC := Lib.hid (equalS_is W1 _ _ _ _ _ ia.1 ib.1 h3)
        clear h3
        go_enter Try.func25, Try.ntmps25
        go_wp2_with fail
        refine HC.out.mono ?_
        rintro e w2 ⟨rfl, n, rfl⟩
        go_wp2_with fail
        go_ret
        exact ⟨ret_bool H1.out, hbb.trans ((below_drewN' n).mono hs)⟩
      | true =>
        have H1 := Lib.hid (sameN_4 h1 h2 h3)
        have HC := Lib.hid (equalS_is W1 _ _ _ _ _ ia.1 ib.1 h3)
        clear h3
        go_enter Try.func25, Try.ntmps25
        go_wp2_with fail
        refine HC.out.mono ?_
        rintro e w2 ⟨rfl, n, rfl⟩
        have hbn : Below W1.heap.size W1 (W1.drewN n) := below_drewN' n
        have ja := ia.2.mono hbn hbn.size
        have jb := ib.2.mono hbn hbn.size
        go_wp2_with fail
        refine (equalF_any _ _ _ _ _ ja jb).mono ?_
        rintro e w3 ⟨rfl, hb3⟩
        go_wp2_with fail
        go_ret
        exact ⟨ret_bool H1.out, hbb.trans ((hbn.trans (hb3.mono hbn.size)).mono hs)⟩
theorem same_is (w : World) (B : Nat) (hB : B ≤ w.heap.size) (pa ta pb tb : Value) (a b : Nt) (ha : NtR w B pa ta a) (hb : NtR w B pb tb b) {t : Bool} (h : sameN a b = t) :
    Calls Try.prog 25 #[.agg #[pa, ta, .int .i64 a.init, .int .i64 a.final], .agg #[pb, tb, .int .i64 b.init, .int .i64 b.final]] w fun e w' => e = .returned (.bool t) ∧ Below w.heap.size w w' := by
  rw [← h]; exact same_any w B hB pa ta pb tb a b ha hb

end Go.Proofs.Ytopgakpggnkkmaa
