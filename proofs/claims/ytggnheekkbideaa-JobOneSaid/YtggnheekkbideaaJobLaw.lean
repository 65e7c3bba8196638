/- The laws' helpers: numbers, two. -/
import Derived.Test.YtggnheekkbideaaJobDo
set_option maxRecDepth 100000
namespace Go.Proofs.Ytggnheekkbideaa
open Go.RowKit

set_option maxHeartbeats 2000000 in
theorem numbers_any (w : World) (va vb : Value) (a b : List Int) (ha : Ints w w.heap.size va a) (hb : Ints w w.heap.size vb b) :
    Calls Try.prog 30 #[va, vb] w fun e w' => e = .returned (.bool (a == b)) ∧ ∃ n, w' = w.drewN n := by
  obtain ⟨aa, ca, rfl⟩ := ha.val
  obtain ⟨ab, cb, rfl⟩ := hb.val
  have hla := ha.len
  have hlb := hb.len
  have HA := Lib.hid ha.col
  have HB := Lib.hid hb.col
  clear ha hb
  by_cases hl : a.length = b.length
  · obtain ⟨n, hn⟩ : ∃ n, a.length = n := ⟨_, rfl⟩
    have hnb : b.length = n := by rw [← hl]; exact hn
    have d1 : decide (n = n) = true := by simp
    rw [hn] at hla
    rw [hn, hnb]
    have HN := Lib.hid hn
    have HNb := Lib.hid hnb
    clear hn hnb hl hlb
    go_enter Try.func30, Try.ntmps30
    go_wp2_with fail
    go_loopg [5] n (fun gh s5 wx => ∃ i : Nat, i + gh = n ∧ s5 = .int .i64 (i : Int) ∧ Hid (a.take i = b.take i) ∧ ∃ k, wx = w.drewN k)
    case atStart => exact ⟨0, by omega, rfl, Lib.hid (by simp), 0, rfl⟩
    case round =>
      obtain ⟨i, hig, rfl, he, nd, rfl⟩ := hrel
      by_cases hi : i < n
      · obtain ⟨b1, o1, rfl, _, c1⟩ := HA.out i (by rw [HN.out]; exact hi)
        obtain ⟨b2, o2, rfl, _, c2⟩ := HB.out i (by rw [HNb.out]; exact hi)
        obtain ⟨x, hx⟩ : ∃ x, a[i]'(by rw [HN.out]; exact hi) = x := ⟨_, rfl⟩
        obtain ⟨y, hy⟩ : ∃ y, b[i]'(by rw [HNb.out]; exact hi) = y := ⟨_, rfl⟩
        rw [hx] at c1
        rw [hy] at c2
        have i1 : (0 : Int) ≤ (i : Int) := by omega
        have i2 : (i : Int) < (n : Int) := by omega
        have HX := Lib.hid hx
        have HY := Lib.hid hy
        clear hx hy
        by_cases hxy : x = y
        · have d2 : (x != y) = false := by simp [hxy]
          have hE : Hid (a.take (i + 1) = b.take (i + 1)) := Lib.hid (by
            rw [List.take_succ_eq_append_getElem (by rw [HN.out]; exact hi), List.take_succ_eq_append_getElem (by rw [HNb.out]; exact hi), HX.out, HY.out, he.out, hxy])
          clear hxy
          go_wp2_with fail
          go_quiet (fail)
          go_wp2_with fail
          go_roundg (n - (i + 1))
          case measure => omega
          case rel => exact ⟨i + 1, by omega, by go_num, hE, _, rfl⟩
        · have d2 : (x != y) = true := by simpa using hxy
          have hE : Hid ((a == b) = false) := Lib.hid (by
            rw [beq_eq_false_iff_ne]
            intro e
            subst e
            exact hxy (HX.out.symm.trans HY.out))
          clear hxy
          go_wp2_with fail
          go_quiet (fail)
          go_wp2_with fail
          go_ret
          exact ⟨ret_bool hE.out.symm, drewN2 _ _ _⟩
      · have e : i = n := by omega
        subst e
        have hE : Hid ((a == b) = true) := Lib.hid (by
          have := he.out
          rw [List.take_of_length_le (by rw [HN.out]; omega), List.take_of_length_le (by rw [HNb.out]; omega)] at this
          rw [this]; simp)
        go_wp2_with fail
        go_ret
        exact ⟨ret_bool hE.out.symm, _, rfl⟩
  · have hE : Hid ((a == b) = false) := Lib.hid (by
      rw [beq_eq_false_iff_ne]
      intro e
      subst e
      exact hl rfl)
    have d1 : ((a.length : Int) != (b.length : Int)) = true := by simp; omega
    clear hl
    go_enter Try.func30, Try.ntmps30
    go_wp2_with fail
    go_ret
    exact ⟨ret_bool hE.out.symm, 0, rfl⟩

/-- The examples' instances. -/
def tokW (id : Int) (c : UInt8) (tries : Int) : Tok := ⟨id, ⟨#[c]⟩, ⟨#[]⟩, 0, tries, ⟨#[]⟩, 0, 0, 0⟩
def twoL : List Ins := [⟨1, ⟨#[]⟩, 1, [], [tokW 2 119 2]⟩, ⟨3, ⟨#[]⟩, 1, [], [tokW 5 118 1, tokW 4 117 0]⟩]

/-- Literals that may be read. -/
theorem slF_lit {α : Type} {f : α → List Value} {k L : Nat} {W : World} {b B : Nat} {e : TypeId} {fr : Nat × Nat} (hf : ∀ x, (f x).length = k) {l : List α} {n : Nat} (hb : W.heap[b]? = some (.cells (cellsF f l).toArray e fr)) (hn : l.length = n) (hB : b < B) (hL : n ≤ L) : SlF f k L W B (.slice (some ⟨b, 0, none⟩) n n) l := by
  subst hn
  refine ⟨_, _, rfl, hL, Nat.le_refl _, fun i hi => ⟨b, 0, rfl, hB, fun j hj => ?_⟩⟩
  rw [cell_of_block hb, Nat.zero_add, List.getElem?_toArray, cellsF_at hf l i j hi hj]
theorem insR_lit {W : World} {b B n : Nat} {e : TypeId} {fr : Nat × Nat} {R : List Ih} (hb : W.heap[b]? = some (.cells (cellsF cellI R).toArray e fr)) (hn : R.length = n) (hB : b < B) (hL : n ≤ 1048576) (hR : ∀ h ∈ R, BsR W B (vvI h) h.x.vars ∧ TsR W B (tvI h) h.x.toks) : InsR W B (.slice (some ⟨b, 0, none⟩) n n) (R.map (·.x)) := by
  subst hn
  refine ⟨_, _, by rw [List.length_map], by rw [List.length_map]; omega, by rw [List.length_map]; exact Nat.le_refl _, fun i hi => ?_⟩
  rw [List.length_map] at hi
  have hat : ∀ j, j < 5 → W.cell? ⟨b, 0 + i * 5 + j, none⟩ = (cellI R[i])[j]? := fun j hj => by
    rw [cell_of_block hb, Nat.zero_add, List.getElem?_toArray, cellsF_at cellI_len R i j hi hj]
  have hx : (R.map (·.x))[i]'(by rw [List.length_map]; exact hi) = R[i].x := by simp
  obtain ⟨h1, h2⟩ := hR R[i] (List.getElem_mem _)
  refine ⟨b, 0, vvI R[i], tvI R[i], rfl, hB, ?_, ?_, ?_, hat 3 (by omega), hat 4 (by omega), ?_, ?_⟩
  · rw [hx]; exact hat 0 (by omega)
  · rw [hx]; exact hat 1 (by omega)
  · rw [hx]; exact hat 2 (by omega)
  · rw [hx]; exact h1
  · rw [hx]; exact h2

set_option maxHeartbeats 2000000 in
theorem two_any (w : World) : Calls Try.prog 32 #[] w fun e w' => ∃ v, e = .returned v ∧ InsR w' w'.heap.size v twoL ∧ Below w.heap.size w w' := by
  obtain ⟨p0, hp0⟩ : ∃ p0, w.heap.size = p0 := ⟨_, rfl⟩
  obtain ⟨w1, p1, hw1, hp1, ep1, hb1, hn1⟩ := alloc_named w (.cells (cellsF cellT [tokW 2 119 2]).toArray 41) hp0
  obtain ⟨w2, p2, hw2, hp2, ep2, hb2, hn2⟩ := alloc_named w1 (.cells (cellsF cellT [tokW 5 118 1, tokW 4 117 0]).toArray 41) hp1
  obtain ⟨w3, p3, hw3, hp3, ep3, hb3, hn3⟩ := alloc_named w2 (.cells (cellsF cellI [⟨⟨1, ⟨#[]⟩, 1, [], [tokW 2 119 2]⟩, none, 0, some ⟨p0, 0, none⟩, 1⟩, ⟨⟨3, ⟨#[]⟩, 1, [], [tokW 5 118 1, tokW 4 117 0]⟩, none, 0, some ⟨p1, 0, none⟩, 2⟩]).toArray 45) hp2
  have hB : Below w.heap.size w w3 := by rw [hp0]; exact hb1.trans ((hb2.mono (by omega)).trans (hb3.mono (by omega)))
  have hI : InsR w3 w3.heap.size (.slice (some ⟨p2, 0, none⟩) 2 2) twoL := insR_lit (R := [⟨⟨1, ⟨#[]⟩, 1, [], [tokW 2 119 2]⟩, none, 0, some ⟨p0, 0, none⟩, 1⟩, ⟨⟨3, ⟨#[]⟩, 1, [], [tokW 5 118 1, tokW 4 117 0]⟩, none, 0, some ⟨p1, 0, none⟩, 2⟩]) hn3 rfl (by omega) (by omega) (fun h hh => by
    simp only [List.mem_cons, List.mem_nil_iff, or_false] at hh
    rcases hh with rfl | rfl
    · exact ⟨SlF.nil, slF_lit cellT_len ((hb3.block p0 (by omega)).trans ((hb2.block p0 (by omega)).trans hn1)) rfl (by omega) (show 1 ≤ 1466015503658 by omega)⟩
    · exact ⟨SlF.nil, slF_lit cellT_len ((hb3.block p1 (by omega)).trans hn2) rfl (by omega) (show 2 ≤ 1466015503658 by omega)⟩)
  have HB := Lib.hid hB
  have HI := Lib.hid hI
  have hw1' : w.alloc (.cells #[.int .i64 2, .string ⟨#[119]⟩, .string ⟨#[]⟩, .int .i64 0, .int .i64 2, .string ⟨#[]⟩, .int .i64 0, .int .u8 0, .int .i64 0] 41) = w1 := hw1
  have hw2' : w1.alloc (.cells #[.int .i64 5, .string ⟨#[118]⟩, .string ⟨#[]⟩, .int .i64 0, .int .i64 1, .string ⟨#[]⟩, .int .i64 0, .int .u8 0, .int .i64 0, .int .i64 4, .string ⟨#[117]⟩, .string ⟨#[]⟩, .int .i64 0, .int .i64 0, .string ⟨#[]⟩, .int .i64 0, .int .u8 0, .int .i64 0] 41) = w2 := hw2
  have hw3' : w2.alloc (.cells #[.int .i64 1, .string ⟨#[]⟩, .int .u8 1, .slice none 0 0, .slice (some ⟨p0, 0, none⟩) 1 1, .int .i64 3, .string ⟨#[]⟩, .int .u8 1, .slice none 0 0, .slice (some ⟨p1, 0, none⟩) 2 2] 45) = w3 := hw3
  clear hw1 hw2 hw3 hn1 hn2 hn3 hb1 hb2 hb3 hB hI ep1 ep2 ep3
  go_enter Try.func32, Try.ntmps32
  go_wp2_with fail
  go_ret
  exact ⟨_, rfl, HI.out, HB.out⟩

end Go.Proofs.Ytggnheekkbideaa
