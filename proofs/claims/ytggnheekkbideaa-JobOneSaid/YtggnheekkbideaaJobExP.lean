/- The examples, reckoned. -/
import Derived.Test.YtggnheekkbideaaJobLaw
set_option maxRecDepth 100000
namespace Go.Proofs.Ytggnheekkbideaa
open Go.RowKit

def exA : ByteArray := ⟨#[97]⟩
def exB : ByteArray := ⟨#[98]⟩
def oneL : List Ins := [⟨1, ⟨#[]⟩, 1, [], [{ tokW 2 119 2 with worker := exA, til := 15 }]⟩, ⟨3, ⟨#[]⟩, 1, [], [tokW 5 118 1, tokW 4 117 0]⟩]
def failedL : List Ins := [⟨1, ⟨#[]⟩, 1, [], [tokW 2 119 1]⟩, ⟨3, ⟨#[]⟩, 1, [], [tokW 5 118 1, tokW 4 117 0]⟩]
theorem two_small : SmL twoL := by
  refine ⟨by show 2 ≤ 1048576; omega, fun x hx => ?_⟩
  simp only [twoL, List.mem_cons, List.mem_nil_iff, or_false] at hx
  rcases hx with rfl | rfl <;> simp
theorem one_small : SmL oneL := by
  refine ⟨by show 2 ≤ 1048576; omega, fun x hx => ?_⟩
  simp only [oneL, List.mem_cons, List.mem_nil_iff, or_false] at hx
  rcases hx with rfl | rfl <;> simp
theorem two_tri : TriL twoL := by
  intro x hx t ht
  simp only [twoL, List.mem_cons, List.mem_nil_iff, or_false] at hx
  rcases hx with rfl | rfl <;> simp only [List.mem_cons, List.mem_nil_iff, or_false] at ht
  · subst ht; decide
  · rcases ht with rfl | rfl <;> decide
theorem one_tri : TriL oneL := by
  intro x hx t ht
  simp only [oneL, List.mem_cons, List.mem_nil_iff, or_false] at hx
  rcases hx with rfl | rfl <;> simp only [List.mem_cons, List.mem_nil_iff, or_false] at ht
  · subst ht; decide
  · rcases ht with rfl | rfl <;> decide
theorem ex_ok : fetchOk 10 exA 1 5 := by unfold fetchOk; exact ⟨by omega, by omega, by kernel_rfl, by omega, by omega, by omega, by omega⟩
theorem ex1 : fetE 10 exA 1 5 = 0 := by unfold fetE; rw [if_pos ex_ok]
theorem ex2 : fetL twoL 10 exA 1 5 = oneL := by unfold fetL; rw [if_pos ex_ok]; kernel_rfl
theorem ex3 : fetT twoL 10 exA 1 5 = [2] := by unfold fetT; rw [if_pos ex_ok]; kernel_rfl
theorem ex4 : (jobsP (freeB 11) oneL).length = 1 := by kernel_rfl
theorem ex5 : (jobsP (freeB 15) oneL).length = 2 := by kernel_rfl
theorem ex6 : chgE (mayFail exA 12) oneL 2 = 0 := by kernel_rfl
theorem ex7 : chgL (mayFail exA 12) failF oneL 2 = failedL := by kernel_rfl
theorem ex8 : chgE (mayFail exB 12) oneL 2 = 250 := by kernel_rfl
theorem ex9 : chgE (mayFail exA 15) oneL 2 = 250 := by kernel_rfl
theorem two_many : (allT twoL).length ≤ 1048576 := by show 3 ≤ 1048576; omega
theorem one_many : (allT oneL).length ≤ 1048576 := by show 3 ≤ 1048576; omega

end Go.Proofs.Ytggnheekkbideaa
