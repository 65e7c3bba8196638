/- The document's first line, and its further lines: plain (seat wirez). -/
import Derived.Test.YtlgfhbfdjckdnaaGreatDoorWireRCut
import Derived.Test.YtlgfhbfdjckdnaaGreatDoorWireFirst
set_option maxRecDepth 100000
namespace Go.Proofs.YtlgfhbfdjckdnaaGreatDoor
open Go.Lib

/-- The first line by two cuts. -/
theorem firstS_cut {l m rest p v : List UInt8} {ok is : Bool} (h1 : cut l [32] = (m, rest, ok)) (h2 : cut rest [32] = (p, v, is)) :
    firstS l = if ok && is && methodL m && pathL p then (if v = http11 then (0, m, p) else if otherL v then (505, [], []) else (400, [], [])) else (400, [], []) := by
  -- what a cut says
  have key : ∀ {a x y : List UInt8} {b : Bool}, cut a [32] = (x, y, b) → (b = true → split a [32] = x :: split y [32]) ∧ (b = false → split a [32] = [a] ∧ y = []) := by
    intro a x y b h
    rcases index_spec a [32] with ⟨hm, _⟩ | ⟨i, hi, hi2, _, _⟩
    · unfold cut at h
      rw [hm, if_neg (by decide)] at h
      injection h with _ h
      injection h with h3 h4
      exact ⟨fun e => (by rw [← h4] at e; cases e), fun _ => ⟨split_miss hm, h3.symm⟩⟩
    · unfold cut at h
      rw [hi, if_pos (by omega), Int.toNat_natCast] at h
      injection h with hx h
      injection h with hy hb
      refine ⟨fun _ => ?_, fun e => (by rw [← hb] at e; cases e)⟩
      rw [split_hit (by decide) hi, hx, hy]
  obtain ⟨a1, a2⟩ := key h1
  obtain ⟨b1, b2⟩ := key h2
  cases ok with
  | false =>
    obtain ⟨e, -⟩ := a2 rfl
    unfold firstS
    rw [e]
    rfl
  | true =>
    have e1 := a1 rfl
    cases is with
    | false =>
      obtain ⟨e2, -⟩ := b2 rfl
      unfold firstS
      rw [e1, e2]
      rfl
    | true =>
      have e2 := b1 rfl
      rw [e1.trans (congrArg (m :: ·) e2) |> firstS_of]
      -- the third piece
      rcases index_spec v [32] with ⟨hm, _⟩ | ⟨i, hi, hi2, hocc, _⟩
      · rw [split_miss hm]
        rfl
      · have hne : split v [32] = v.take i :: split (v.drop (i + 1)) [32] := split_hit (by decide) hi
        have hsp : ∃ c r, split (v.drop (i + 1)) [32] = c :: r := by
          rcases index_spec (v.drop (i + 1)) [32] with ⟨hm, _⟩ | ⟨i', hi', _, _, _⟩
          · exact ⟨_, _, split_miss hm⟩
          · exact ⟨_, _, split_hit (by decide) hi'⟩
        obtain ⟨c, r, hc⟩ := hsp
        rw [hne, hc]
        have hv32 : v[i]? = some 32 := occAt_head rfl hocc
        have n1 : ¬ v = http11 := fun e => by
          subst e
          have : ∀ j : Nat, http11[j]? ≠ some 32 := by
            intro j hj
            have hm := List.mem_of_getElem? hj
            revert hm; decide
          exact this i hv32
        have n2 : otherL v = false := by
          cases ho : otherL v with
          | false => rfl
          | true =>
            exfalso
            unfold otherL at ho
            simp only [Bool.and_eq_true, decide_eq_true_eq] at ho
            obtain ⟨⟨⟨⟨q1, q2⟩, q3⟩, q4⟩, q5⟩ := ho
            match v, q1 with
            | [c0, c1, c2, c3, c4, c5, c6, c7], _ =>
              have hpre : [c0, c1, c2, c3, c4] = httpS := by
                unfold hasPrefix at q2
                have := List.isPrefixOf_iff_prefix.1 q2
                obtain ⟨t, ht⟩ := this
                simp only [httpS, List.cons_append, List.nil_append] at ht
                injection ht with g0 ht
                injection ht with g1 ht
                injection ht with g2 ht
                injection ht with g3 ht
                injection ht with g4 ht
                rw [← g0, ← g1, ← g2, ← g3, ← g4]; rfl
              have g6 : c6.toNat = 46 := q3
              have g5 : digC c5.toNat = true := q4
              have g7 : digC c7.toNat = true := q5
              injection hpre with g0 hpre
              injection hpre with g1 hpre
              injection hpre with g2 hpre
              injection hpre with g3 hpre
              injection hpre with g4 hpre
              have hmem : (32 : UInt8) ∈ [c0, c1, c2, c3, c4, c5, c6, c7] := List.mem_of_getElem? hv32
              simp only [List.mem_cons, List.not_mem_nil, or_false] at hmem
              rcases hmem with h | h | h | h | h | h | h | h
              · rw [← h] at g0; revert g0; decide
              · rw [← h] at g1; revert g1; decide
              · rw [← h] at g2; revert g2; decide
              · rw [← h] at g3; revert g3; decide
              · rw [← h] at g4; revert g4; decide
              · rw [← h] at g5; revert g5; decide
              · rw [← h] at g6; revert g6; decide
              · rw [← h] at g7; revert g7; decide
        rw [if_neg n1, n2]
        show (400, [], []) = _
        split
        · rfl
        · rfl
end Go.Proofs.YtlgfhbfdjckdnaaGreatDoor
