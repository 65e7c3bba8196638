/- tollgatelaw24.awake: the examples come out. -/
import Derived.Test.YtggnheekkbideaaJobExP
import Derived.Laws.StructEq
set_option maxRecDepth 100000
namespace Go.Proofs.Ytggnheekkbideaa
open Go.RowKit

theorem InsO.readL {w : World} {lo : Nat} {v : Value} {R : List Ih} {l : List Ins} (h : InsO w lo v R) (e : R.map (·.x) = l) (hs : SmL l) : InsR w w.heap.size v l := by
  subst e
  exact h.read h.und hs
theorem InsR.at_all {w w' : World} {v : Value} {l : List Ins} (h : InsR w w.heap.size v l) (hb : Below w.heap.size w w') : InsR w' w'.heap.size v l := (h.mono hb (Nat.le_refl _)).mono (Below.refl _ _) hb.size
theorem ints_lit1 {W : World} {b : Nat} {x : Int} {fr : Nat × Nat} (hb : W.heap[b]? = some (.cells #[.int .i64 x] 3 fr)) (hB : b < W.heap.size) : Ints W W.heap.size (.slice (some ⟨b, 0, none⟩) 1 1) [x] := by
  refine ⟨_, _, rfl, by simp, by simp, fun i hi => ⟨b, 0, rfl, hB, ?_⟩⟩
  obtain rfl : i = 0 := by simp at hi; omega
  rw [cell_of_block hb]; rfl
theorem jrow_len {w : World} {base n : Nat} {v : Value} {A : List Jb} (h : JRow w base v A) (hn : A.length = n) : ∃ a c, v = .slice a n c := by
  obtain ⟨a, c, e⟩ := OwnF.shape h
  rw [hn] at e
  exact ⟨a, c, e⟩

set_option maxHeartbeats 8000000 in
theorem awake_any (w : World) : Calls Try.prog 10 #[] w fun e w' => e = .returned (.bool true) ∧ Below w.heap.size w w' := by
  go_enter Try.func10, Try.ntmps10
  go_wp2_with (go_at_call 32; refine (two_any _).mono ?_; rintro e w1 ⟨v1, rfl, hI1, hb1⟩; refine Hid.out ?_)
  refine Lib.hid ?_
  have HB1 := Lib.hid hb1
  have S2 := Lib.hid (fetch_any w1 v1 twoL 10 exA 1 5 hI1 two_small two_many)
  rw [ex1, ex2, ex3] at S2
  unfold exA at S2
  clear hI1 hb1
  go_wp2_with (go_at_call 12; refine S2.out.mono ?_; rintro e w2 ⟨v2, vt, R2, rfl, hO2, hR2, hT2, hb2⟩; refine Hid.out ?_)
  refine Lib.hid ?_
  have HI2 := Lib.hid (hO2.readL hR2 one_small)
  have HB2 := Lib.hid (HB1.out.trans (hb2.mono HB1.out.size))
  obtain ⟨p2, hp2⟩ : ∃ p2, w2.heap.size = p2 := ⟨_, rfl⟩
  obtain ⟨w3, p3, hw3, hp3, ep3, hb3, hn3⟩ := alloc_named w2 (.cells #[.int .i64 2] 3) hp2
  have hb3' : Below w2.heap.size w2 w3 := by rw [hp2]; exact hb3
  have HB3 := Lib.hid hb3'
  have hI := ints_lit1 hn3 (by omega)
  have S3 := Lib.hid (numbers_any w3 vt _ [2] [2] ((OwnI.kept hT2 hb3' (Nat.le_refl _)).col (by simp) (Nat.le_refl _)) hI)
  rw [show (([2] : List Int) == [2]) = true from rfl] at S3
  clear hO2 hR2 hT2 hb2 hb3 hb3' hn3 ep3 hI
  go_wp2_with (go_at_call 30; refine S3.out.mono ?_; rintro e w4 ⟨rfl, nd, rfl⟩; refine Hid.out ?_)
  refine Lib.hid ?_
  obtain ⟨w4, hw4⟩ : ∃ w4, w3.drewN nd = w4 := ⟨_, rfl⟩
  have hb4 : Below w2.heap.size w2 w4 := by rw [← hw4]; exact below_drewN HB3.out nd
  have HB4 := Lib.hid hb4
  rw [hw4]
  clear hw4
  have S4 := Lib.hid (jfree_any w4 v2 oneL 11 (HI2.out.at_all hb4) one_many)
  clear hb4
  go_wp2_with (go_at_call 19; refine S4.out.mono ?_; rintro e w5 ⟨v5, rfl, hJ5, hb5⟩; refine Hid.out ?_)
  refine Lib.hid ?_
  obtain ⟨a5, c5, rfl⟩ := jrow_len hJ5 ex4
  have hb5' := HB4.out.trans (hb5.mono HB4.out.size)
  have HB5 := Lib.hid hb5'
  have S5 := Lib.hid (jfree_any w5 v2 oneL 15 (HI2.out.at_all hb5') one_many)
  clear hJ5 hb5 hb5'
  go_wp2_with (go_at_call 19; refine S5.out.mono ?_; rintro e w6 ⟨v6, rfl, hJ6, hb6⟩; refine Hid.out ?_)
  refine Lib.hid ?_
  obtain ⟨a6, c6, rfl⟩ := jrow_len hJ6 ex5
  have hb6' := HB5.out.trans (hb6.mono HB5.out.size)
  have HB6 := Lib.hid hb6'
  have S6 := Lib.hid (fail_any w6 v2 oneL 12 exA 2 (HI2.out.at_all hb6') one_small one_tri)
  rw [ex6, ex7] at S6
  unfold exA at S6
  clear hJ6 hb6 hb6'
  go_wp2_with (go_at_call 15; refine S6.out.mono ?_; rintro e w7 ⟨v7, R7, rfl, hO7, hR7, hb7⟩; refine Hid.out ?_)
  refine Lib.hid ?_
  have HI7 := Lib.hid (hO7.readL hR7 (show SmL failedL from ⟨by show 2 ≤ 1048576; omega, fun x hx => by
    simp only [failedL, List.mem_cons, List.mem_nil_iff, or_false] at hx
    rcases hx with rfl | rfl <;> simp⟩))
  have hb7' := HB6.out.trans (hb7.mono HB6.out.size)
  have HB7 := Lib.hid hb7'
  have S7 := Lib.hid (fail_any w7 v2 oneL 12 exB 2 (HI2.out.at_all hb7') one_small one_tri)
  rw [ex8] at S7
  unfold exB at S7
  clear hO7 hR7 hb7 hb7'
  go_wp2_with (go_at_call 15; refine S7.out.mono ?_; rintro e w8 ⟨v8, R8, rfl, hO8, hR8, hb8⟩; refine Hid.out ?_)
  refine Lib.hid ?_
  have HI8 := Lib.hid (HI7.out.at_all hb8)
  have hb8' := HB7.out.trans (hb8.mono HB7.out.size)
  have HB8 := Lib.hid hb8'
  have S8 := Lib.hid (fail_any w8 v2 oneL 15 exA 2 (HI2.out.at_all hb8') one_small one_tri)
  rw [ex9] at S8
  unfold exA at S8
  clear hO8 hR8 hb8 hb8'
  go_wp2_with (go_at_call 15; refine S8.out.mono ?_; rintro e w9 ⟨v9, R9, rfl, hO9, hR9, hb9⟩; refine Hid.out ?_)
  refine Lib.hid ?_
  have hI9 := HI8.out.at_all hb9
  have HB9 := Lib.hid (HB2.out.trans ((HB8.out.trans (hb9.mono HB8.out.size)).mono HB2.out.size))
  obtain ⟨a7, c7, rfl⟩ := hI9.val
  obtain ⟨b7, o7, rfl, _⟩ := hI9.addr (by show 0 < 2; omega)
  obtain ⟨av, cv, at_, ct, q0, q1, q2, q3, q4, -, qT⟩ := hI9.at (i := 0) (by show 0 < 2; omega) (x := ⟨1, ⟨#[]⟩, 1, [], [tokW 2 119 1]⟩) rfl
  obtain ⟨bt, ot, rfl, _⟩ := qT.addr (by show 0 < 1; omega)
  obtain ⟨t0, t1, t2, t3, t4, t5, t6, t7, t8⟩ := tsR_at qT (i := 0) (by show 0 < 1; omega) (x := tokW 2 119 1) rfl
  simp only [Nat.zero_mul, Nat.add_zero, tokW] at t0 t1 t2 t3 t4 t5 t6 t7 t8 q4
  clear hO9 hR9 hb9 hI9 qT q0 q1 q2 q3
  go_wp2_with fail
  go_ret
  exact ⟨ret_bool rfl, HB9.out⟩

end Go.Proofs.Ytggnheekkbideaa
