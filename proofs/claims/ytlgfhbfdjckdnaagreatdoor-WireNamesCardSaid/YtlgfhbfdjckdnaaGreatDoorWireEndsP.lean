/- What is told of bytes may be written; refusals have their statuses (wire; plain). -/
import Derived.Test.YtlgfhbfdjckdnaaGreatDoorWireReadP
set_option maxRecDepth 100000
namespace Go.Proofs.YtlgfhbfdjckdnaaGreatDoor
open Go.Lib

theorem firstS_facts (l : List UInt8) : ((firstS l).1 = 0 ∨ (firstS l).1 = 400 ∨ (firstS l).1 = 505) ∧ ((firstS l).1 = 0 → methodL (firstS l).2.1 = true ∧ pathL (firstS l).2.2 = true) := by
  unfold firstS
  split
  · split
    · next h =>
      simp only [Bool.and_eq_true] at h
      split
      · exact ⟨.inl rfl, fun _ => h⟩
      · split
        · exact ⟨.inr (.inr rfl), fun h => by cases h⟩
        · exact ⟨.inr (.inl rfl), fun h => by cases h⟩
    · exact ⟨.inr (.inl rfl), fun h => by cases h⟩
  · exact ⟨.inr (.inl rfl), fun h => by cases h⟩
def KeyOk (k : List UInt8) : Prop := k.length ≤ 32 ∧ allL visL k = true
theorem lengthS_st (v : List UInt8) : (lengthS v).1 = 0 ∨ (lengthS v).1 = 400 ∨ (lengthS v).1 = 413 := by
  unfold lengthS
  split
  · exact .inr (.inl rfl)
  · split
    · exact .inr (.inr rfl)
    · exact .inl rfl
theorem lengthS_sz (v : List UInt8) : (lengthS v).2 ≤ 65536 := by
  unfold lengthS
  split
  · exact Nat.zero_le _
  · split
    · exact Nat.zero_le _
    · show valD v ≤ 65536
      omega
def StOk (st : Int) : Prop := st = 0 ∨ st = 400 ∨ st = 413 ∨ st = 501 ∨ st = 505
theorem lineS_facts (h : HS) (l : List UInt8) (hh : KeyOk h.key ∧ h.size ≤ 65536) : StOk (lineS h l).1 ∧ KeyOk (lineS h l).2.key ∧ (lineS h l).2.size ≤ 65536 := by
  unfold lineS
  split
  · exact ⟨.inr (.inl rfl), hh⟩
  · unfold lineK
    split
    · exact ⟨.inr (.inl rfl), hh⟩
    · split
      · refine ⟨?_, hh.1, lengthS_sz _⟩
        rcases lengthS_st (trimS (cut l [58]).2.1 [32, 9]) with e | e | e
        · exact .inl e
        · exact .inr (.inl e)
        · exact .inr (.inr (.inl e))
      · split
        · split
          · exact ⟨.inr (.inl rfl), hh⟩
          · next hb =>
            refine ⟨.inl rfl, ⟨?_, ?_⟩, hh.2⟩
            · show (trimS (cut l [58]).2.1 [32, 9]).length ≤ 32
              rcases Nat.lt_or_ge 32 (trimS (cut l [58]).2.1 [32, 9]).length with e | e
              · exact absurd (.inr (.inl e)) hb
              · exact e
            · show allL visL (trimS (cut l [58]).2.1 [32, 9]) = true
              cases e : allL visL (trimS (cut l [58]).2.1 [32, 9])
              · exact absurd (.inr (.inr e)) hb
              · rfl
        · split
          · exact ⟨.inr (.inr (.inr (.inl rfl))), hh⟩
          · exact ⟨.inl rfl, hh⟩
theorem linesS_facts : ∀ (P : List (List UInt8)) (h : HS), KeyOk h.key ∧ h.size ≤ 65536 → StOk (linesS h P).1 ∧ KeyOk (linesS h P).2.key ∧ (linesS h P).2.size ≤ 65536
  | [], h, hh => ⟨.inl rfl, hh⟩
  | l :: r, h, hh => by
    obtain ⟨a, b, c⟩ := lineS_facts h l hh
    unfold linesS
    split
    · exact ⟨a, hh⟩
    · exact linesS_facts r _ ⟨b, c⟩
theorem keyOk_nil : KeyOk [] := ⟨Nat.zero_le _, rfl⟩
theorem headS_facts (l : List UInt8) : StOk (headS l).1 ∧ ((headS l).1 = 0 → methodL (headS l).2.1 = true ∧ pathL (headS l).2.2.1 = true ∧ KeyOk (headS l).2.2.2.1 ∧ (headS l).2.2.2.2 ≤ 65536) := by
  unfold headS headP
  split
  · exact ⟨.inr (.inl rfl), fun h => by cases h⟩
  · split
    · next h =>
      refine ⟨?_, fun h0 => absurd h0 h⟩
      rcases (firstS_facts ((split l [13, 10]).headD [])).1 with e | e | e
      · exact .inl e
      · exact .inr (.inl e)
      · exact .inr (.inr (.inr (.inr e)))
    · next h1 =>
      have hl := linesS_facts (split l [13, 10]).tail ⟨[], [], 0⟩ ⟨keyOk_nil, Nat.zero_le _⟩
      split
      · next h => exact ⟨hl.1, fun h0 => absurd h0 h⟩
      · split
        · exact ⟨.inr (.inl rfl), fun h => by cases h⟩
        · refine ⟨.inl rfl, fun _ => ?_⟩
          have hf := (firstS_facts ((split l [13, 10]).headD [])).2 (by
            by_cases e : (firstS ((split l [13, 10]).headD [])).1 = 0
            · exact e
            · exact absurd e h1)
          exact ⟨hf.1, hf.2, hl.2.1, hl.2.2⟩
/-- A request that may be written. -/
def MayG (g : Gp) : Prop := methodL g.m.data.toList = true ∧ pathL g.p.data.toList = true ∧ KeyOk g.k.data.toList ∧ g.b.size ≤ 65536 ∧ g.st = 0
theorem bytesL_dat (l : List UInt8) : (bytesL l).data.toList = l := by unfold bytesL; simp
theorem bytesL_siz (l : List UInt8) : (bytesL l).size = l.length := by unfold bytesL; exact List.size_toArray
theorem nextS_facts (l : List UInt8) : match nextS l with
    | .wait => l.length < 69632
    | .refuse st => 400 ≤ st ∧ st ≤ 505
    | .got g _ => MayG g := by
  by_cases hneg : index (l.take 4096) ends4 < 0
  · by_cases hfull : 4096 ≤ l.length
    · have e1 : nextS l = .refuse 431 := by unfold nextS; rw [if_pos hneg, if_pos hfull]
      rw [e1]; exact ⟨by decide, by decide⟩
    · have e1 : nextS l = .wait := by unfold nextS; rw [if_pos hneg, if_neg hfull]
      rw [e1]; show l.length < 69632; omega
  · obtain ⟨e, he, he1, he2⟩ := ends_pos l hneg
    have n1 : nextS l = if (headS (l.take e)).1 ≠ 0 then .refuse (headS (l.take e)).1 else if l.length < e + 4 + (headS (l.take e)).2.2.2.2 then .wait else
        .got ⟨bytesL (headS (l.take e)).2.1, bytesL (headS (l.take e)).2.2.1, bytesL (headS (l.take e)).2.2.2.1, bytesL ((l.drop (e + 4)).take (headS (l.take e)).2.2.2.2), 0⟩ (l.drop (e + 4 + (headS (l.take e)).2.2.2.2)) := by
      unfold nextS
      rw [if_neg hneg]
      simp only [he, Int.toNat_natCast]
    obtain ⟨hs, hf⟩ := headS_facts (l.take e)
    obtain ⟨h, hh⟩ : ∃ h, headS (l.take e) = h := ⟨_, rfl⟩
    rw [hh] at n1 hs hf
    rw [n1]
    by_cases h0 : h.1 ≠ 0
    · rw [if_pos h0]
      show 400 ≤ h.1 ∧ h.1 ≤ 505
      unfold StOk at hs
      omega
    · rw [if_neg h0]
      have h00 : h.1 = 0 := by
        by_cases q : h.1 = 0
        · exact q
        · exact absurd q h0
      obtain ⟨f1, f2, f3, f4⟩ := hf h00
      by_cases hsh : l.length < e + 4 + h.2.2.2.2
      · rw [if_pos hsh]; show l.length < 69632; omega
      · rw [if_neg hsh]
        refine ⟨by rw [bytesL_dat]; exact f1, by rw [bytesL_dat]; exact f2, by rw [bytesL_dat]; exact f3, ?_, rfl⟩
        show (bytesL _).size ≤ 65536
        rw [bytesL_siz, List.length_take]
        omega
/-- What is told: requests that may be written, and at last, where it is closed, one refusal. -/
theorem feedS_facts (l : List UInt8) : ((feedS l).2.2 = false → (∀ g ∈ (feedS l).1, MayG g) ∧ (feedS l).2.1.length < 69632) ∧
    ((feedS l).2.2 = true → ∃ (A : List Gp) (st : Int), (feedS l).1 = A ++ [refG st] ∧ (∀ g ∈ A, MayG g) ∧ 400 ≤ st ∧ st ≤ 505) := by
  induction hn : l.length using Nat.strongRecOn generalizing l with
  | _ n ih =>
    have h := nextS_more l []
    have hf := nextS_facts l
    cases e : nextS l with
    | wait =>
      rw [e] at hf
      rw [feedS_eq, e]
      exact ⟨fun _ => ⟨fun g hg => (by cases hg), hf⟩, fun h => by cases h⟩
    | refuse st =>
      rw [e] at hf
      rw [feedS_eq, e]
      exact ⟨fun h => (by cases h), fun _ => ⟨[], st, rfl, fun g hg => (by cases hg), hf⟩⟩
    | got g rest =>
      rw [e] at h hf
      have h2 : rest.length + 4 ≤ l.length := h.2
      rw [feedS_eq, e]
      obtain ⟨a, b⟩ := ih rest.length (by omega) rest rfl
      refine ⟨fun hc => ⟨fun x hx => ?_, (a hc).2⟩, fun hc => ?_⟩
      · rcases List.mem_cons.1 hx with rfl | hx
        · exact hf
        · exact (a hc).1 x hx
      · obtain ⟨A, st, h3, h4, h5⟩ := b hc
        refine ⟨g :: A, st, ?_, fun x hx => ?_, h5⟩
        · show g :: (feedS rest).1 = _
          rw [h3]; rfl
        · rcases List.mem_cons.1 hx with rfl | hx
          · exact hf
          · exact h4 x hx
end Go.Proofs.YtlgfhbfdjckdnaaGreatDoor
