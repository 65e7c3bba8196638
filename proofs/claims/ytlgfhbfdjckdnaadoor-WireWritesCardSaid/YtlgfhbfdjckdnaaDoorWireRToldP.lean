/- The document's Told, plain (seat wire). -/
import Derived.Test.YtlgfhbfdjckdnaaDoorWireToldP
set_option maxRecDepth 100000
namespace Go.Proofs.YtlgfhbfdjckdnaaDoor
open Go.Lib

theorem ctypL_length : ctypL.length = 36 := rfl
theorem rtold_succ {l d : List UInt8} {x : Int} {n : Nat} (hw : wordL x ≠ []) (hp : leadL x <+: l) (hd : d = (l.drop (leadL x).length).take d.length) (hpw : parseW d = some (n : Int)) (ht : (l.drop ((leadL x).length + d.length)).take 36 = ctypL)
    (hlen : (leadL x).length + d.length + 36 + n ≤ l.length) : ToldIs l x n ∧ (aheadL x n).length = (leadL x).length + d.length + 36 := by
  obtain ⟨r, rfl⟩ := hp
  rw [List.drop_left] at hd
  have e2 : (leadL x ++ r).drop ((leadL x).length + d.length) = r.drop d.length := by
    rw [List.drop_append, List.drop_of_length_le (by omega), List.nil_append]
    congr 1
    omega
  rw [e2] at ht
  have e3 : r = d ++ (ctypL ++ r.drop (d.length + 36)) := by
    rw [← ht, ← List.drop_drop, List.take_append_drop]
    conv => lhs; rw [← List.take_append_drop d.length r]
    rw [← hd]
  have hln : d.length + 36 + n ≤ r.length := by rw [List.length_append] at hlen; omega
  refine ⟨told_of hw (by omega) (d := d) (r := r.drop (d.length + 36)) (by rw [← e3]) hpw (by rw [List.length_drop]; omega), ?_⟩
  have e4 := (parseW_iff.1 hpw).2
  unfold aheadL
  rw [e4, List.length_append, List.length_append, ctypL_length]
  omega
theorem rtold_chk {l d : List UInt8} {x st n : Int} {m : Nat} (h : ToldIs l st n) (hs : l.length ≤ 200000) (hw : wordL x ≠ []) (hp : leadL x <+: l) (hd : d = (l.drop (leadL x).length).take m)
    (h1 : ∀ c ∈ (l.drop (leadL x).length).take m, isDig c) (h2 : ∀ q : m < (l.drop (leadL x).length).length, ¬ isDig (l.drop (leadL x).length)[m]) :
    parseW d = some n ∧ 0 ≤ n ∧ n ≤ l.length ∧ (leadL x).length + d.length + 36 + n.toNat ≤ l.length ∧ (l.drop ((leadL x).length + d.length)).take 36 = ctypL := by
  have hl := lead_len hw
  have h1' : ∀ c ∈ (l.drop (31 + (wordL x).length)).take m, isDig c := by rw [← hl]; exact h1
  have h2' : ∀ q : m < (l.drop (31 + (wordL x).length)).length, ¬ isDig (l.drop (31 + (wordL x).length))[m] := by
    revert h2
    rw [hl]
    exact fun h => h
  obtain ⟨rfl, q1, q2, q3⟩ := told_way h hs hw hp h1' h2'
  rw [← hl, ← hd] at q1 q3
  obtain ⟨rest, e, hr⟩ := told_parts h
  have hlen : l.length = (leadL x).length + ((itoa n).length + (36 + rest.length)) := by
    conv => lhs; rw [e]
    rw [List.length_append, List.length_append, List.length_append, ctypL_length]
  refine ⟨q1, h.2.1, q2, by rw [q3]; omega, ?_⟩
  rw [q3]
  conv => lhs; rw [e]
  rw [← List.append_assoc, List.drop_left' (by rw [List.length_append]), ← ctypL_length, List.take_left]
theorem rtold_none {l : List UInt8} (h : ∀ j x, j < 14 → stsL[j]? = some x → ¬ leadL x <+: l) : ∀ st n, ¬ ToldIs l st n := fun st n ht => by
  obtain ⟨j, hj, e⟩ := List.getElem_of_mem (sts_of_word ht.1)
  have hl : stsL.length = 14 := rfl
  refine h j st (by omega) (by rw [List.getElem?_eq_getElem hj, e]) ?_
  obtain ⟨rest, e2, _⟩ := told_parts ht
  rw [e2]
  exact List.prefix_append _ _
end Go.Proofs.YtlgfhbfdjckdnaaDoor
