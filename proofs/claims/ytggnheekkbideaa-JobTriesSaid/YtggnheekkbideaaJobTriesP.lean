/- One job that fails again and again; on lists. -/
import Derived.Test.YtggnheekkbideaaJobAwake
set_option maxRecDepth 100000
namespace Go.Proofs.Ytggnheekkbideaa
open Go.RowKit

def tokS (n inc : Int) : Tok := ⟨2, ⟨#[119]⟩, ⟨#[]⟩, 0, n, ⟨#[]⟩, 0, inc, 0⟩
def tokG (n i : Int) : Tok := ⟨2, ⟨#[119]⟩, ⟨#[]⟩, 0, n, ⟨#[97]⟩, i + 1, 0, 0⟩
def stO (t : Tok) : List Ins := [⟨1, ⟨#[]⟩, 1, [], [t]⟩]
theorem stO_small (t : Tok) : SmL (stO t) := by
  refine ⟨by show 1 ≤ 1048576; omega, fun x hx => ?_⟩
  rw [List.mem_singleton.1 hx]
  simp
theorem stO_tri (t : Tok) (h : t.tries ≤ 9223372036854775807) : TriL (stO t) := by
  intro x hx u hu
  rw [List.mem_singleton.1 hx] at hu
  rw [List.mem_singleton.1 hu]
  exact h
theorem stO_many (t : Tok) : (allT (stO t)).length ≤ 1048576 := by show 1 ≤ 1048576; omega
theorem stO_all (t : Tok) : allT (stO t) = [⟨0, 0, t⟩] := rfl
theorem stab_one (p : PT) : stableE ltP [p] = [p] := rfl
theorem stab_nil : stableE ltP [] = [] := rfl
theorem isB_S (n inc : Int) (h : 0 < n ∨ inc = 2) : isB (tokS n inc) = true := by
  unfold isB tokS
  rcases h with h | h <;> simp [h]
theorem fet_ok {i n : Int} (h0 : 0 ≤ i) (h1 : i ≤ 1000) (h2 : 1 ≤ n) (h3 : n ≤ 64) : fetchOk i ⟨#[97]⟩ n 1 := ⟨h0, by omega, by kernel_rfl, h2, h3, by omega, by omega⟩
theorem ts_fetE {i : Int} (h0 : 0 ≤ i) (h1 : i ≤ 1000) : fetE i ⟨#[97]⟩ 9 1 = 0 := by unfold fetE; rw [if_pos (fet_ok h0 h1 (by omega) (by omega))]
theorem ts_P {n i : Int} (hn : 0 < n) (h0 : 0 ≤ i) : fetchP (stO (tokS n 0)) i 9 = [⟨0, 0, tokS n 0⟩] := by
  unfold fetchP
  have : someL (freeB i) (allT (stO (tokS n 0))) = [⟨0, 0, tokS n 0⟩] := by
    rw [stO_all]
    unfold someL
    have hf : freeB i (tokS n 0) = true := by
      unfold freeB
      rw [isB_S n 0 (Or.inl hn)]
      simp [tokS, h0]
    simp [hf]
  rw [this, stab_one]
  rfl
theorem ts_fetL {n i : Int} (hn : 0 < n) (h0 : 0 ≤ i) (h1 : i ≤ 1000) : fetL (stO (tokS n 0)) i ⟨#[97]⟩ 9 1 = stO (tokG n i) := by
  unfold fetL
  rw [if_pos (fet_ok h0 h1 (by omega) (by omega)), ts_P hn h0]
  rfl
theorem ts_fetT {n i : Int} (hn : 0 < n) (h0 : 0 ≤ i) (h1 : i ≤ 1000) : fetT (stO (tokS n 0)) i ⟨#[97]⟩ 9 1 = [2] := by
  unfold fetT
  rw [if_pos (fet_ok h0 h1 (by omega) (by omega)), ts_P hn h0]
  rfl
theorem find_O (t : Tok) (h : t.id = 2) : findT (stO t) 2 = some ⟨0, 0, t⟩ := by
  unfold findT
  rw [stO_all]
  simp [isTok, h]
theorem mayF_G {n i : Int} (hn : 0 < n) : mayFail ⟨#[97]⟩ i (tokG n i) = 0 := by
  unfold mayFail
  rw [if_pos]
  unfold holdsB isB tokG
  simp [hn]
  omega
theorem ts_failE {n i : Int} (hn : 0 < n) : chgE (mayFail ⟨#[97]⟩ i) (stO (tokG n i)) 2 = 0 := by
  unfold chgE
  rw [find_O _ rfl]
  exact mayF_G hn
theorem ts_failL {n i : Int} (hn : 0 < n) : chgL (mayFail ⟨#[97]⟩ i) failF (stO (tokG n i)) 2 = stO (tokS (n - 1) (if n - 1 = 0 then 2 else 0)) := by
  unfold chgL
  rw [find_O _ rfl]
  simp only
  rw [mayF_G hn, if_pos rfl]
  rfl
theorem ts_endT : fetT (stO (tokS 0 2)) 1000 ⟨#[97]⟩ 9 1 = [] := by kernel_rfl
theorem ts_endE : chgE (mayFail ⟨#[97]⟩ 1000) (stO (tokS 0 2)) 2 = 250 := by kernel_rfl
theorem ts_revE {m : Int} (h0 : 1 ≤ m) (h1 : m ≤ 100) : chgE (mayRev m) (stO (tokS 0 2)) 2 = 0 := by
  unfold chgE
  rw [find_O _ rfl]
  show mayRev m (tokS 0 2) = 0
  unfold mayRev
  rw [if_pos ⟨isB_S 0 2 (Or.inr rfl), rfl⟩, if_pos ⟨h0, h1⟩]
theorem ts_revL {m : Int} (h0 : 1 ≤ m) (h1 : m ≤ 100) : chgL (mayRev m) (revF m) (stO (tokS 0 2)) 2 = stO (tokS m 0) := by
  have h := ts_revE h0 h1
  unfold chgE at h
  unfold chgL
  rw [find_O _ rfl] at h ⊢
  simp only at h ⊢
  rw [if_pos h]
  rfl
end Go.Proofs.Ytggnheekkbideaa
