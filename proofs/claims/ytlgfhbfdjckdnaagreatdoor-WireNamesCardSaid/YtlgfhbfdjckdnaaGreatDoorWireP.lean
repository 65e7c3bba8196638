/- Responses as texts (wire.Answer, Told; tollgateref29's): plain, no program in sight. -/
import Derived.Test.YtlgfhbfdjckdnaaGreatDoorWireNumP
set_option maxRecDepth 100000
namespace Go.Proofs.YtlgfhbfdjckdnaaGreatDoor
open Go.Lib

def httpL : List UInt8 := [72, 84, 84, 80, 47, 49, 46, 49, 32]
def clenL : List UInt8 := [13, 10, 99, 111, 110, 116, 101, 110, 116, 45, 108, 101, 110, 103, 116, 104, 58, 32]
def ctypL : List UInt8 := [13, 10, 99, 111, 110, 116, 101, 110, 116, 45, 116, 121, 112, 101, 58, 32, 97, 112, 112, 108, 105, 99, 97, 116, 105, 111, 110, 47, 106, 115, 111, 110, 13, 10, 13, 10]
def stsL : List Int := [200, 201, 400, 404, 405, 409, 413, 422, 431, 500, 501, 503, 505, 507]
/-- What a status says; none: it is no status. -/
def wordL (st : Int) : List UInt8 :=
  if st = 200 then [79, 75] else
  if st = 201 then [67, 114, 101, 97, 116, 101, 100] else
  if st = 400 then [66, 97, 100, 32, 82, 101, 113, 117, 101, 115, 116] else
  if st = 404 then [78, 111, 116, 32, 70, 111, 117, 110, 100] else
  if st = 405 then [77, 101, 116, 104, 111, 100, 32, 78, 111, 116, 32, 65, 108, 108, 111, 119, 101, 100] else
  if st = 409 then [67, 111, 110, 102, 108, 105, 99, 116] else
  if st = 413 then [67, 111, 110, 116, 101, 110, 116, 32, 84, 111, 111, 32, 76, 97, 114, 103, 101] else
  if st = 422 then [85, 110, 112, 114, 111, 99, 101, 115, 115, 97, 98, 108, 101, 32, 67, 111, 110, 116, 101, 110, 116] else
  if st = 431 then [82, 101, 113, 117, 101, 115, 116, 32, 72, 101, 97, 100, 101, 114, 32, 70, 105, 101, 108, 100, 115, 32, 84, 111, 111, 32, 76, 97, 114, 103, 101] else
  if st = 500 then [73, 110, 116, 101, 114, 110, 97, 108, 32, 83, 101, 114, 118, 101, 114, 32, 69, 114, 114, 111, 114] else
  if st = 501 then [78, 111, 116, 32, 73, 109, 112, 108, 101, 109, 101, 110, 116, 101, 100] else
  if st = 503 then [83, 101, 114, 118, 105, 99, 101, 32, 85, 110, 97, 118, 97, 105, 108, 97, 98, 108, 101] else
  if st = 505 then [72, 84, 84, 80, 32, 86, 101, 114, 115, 105, 111, 110, 32, 78, 111, 116, 32, 83, 117, 112, 112, 111, 114, 116, 101, 100] else
  if st = 507 then [73, 110, 115, 117, 102, 102, 105, 99, 105, 101, 110, 116, 32, 83, 116, 111, 114, 97, 103, 101] else
  []
def leadL (st : Int) : List UInt8 := httpL ++ (itoa st ++ (32 :: (wordL st ++ clenL)))
def aheadL (st n : Int) : List UInt8 := leadL st ++ (itoa n ++ ctypL)
theorem itoa_3 {a : Nat} (h1 : 100 ≤ a) (h2 : a < 1000) : (itoa (a : Int)).length = 3 := by
  unfold itoa
  rw [if_neg (by omega), decDigits_length, Int.toNat_natCast, nDigits_big (by omega), nDigits_big (by omega), nDigits_small (by omega)]
theorem wordL_sts {st : Int} (h : wordL st ≠ []) : (itoa st).length = 3 ∧ (∀ c ∈ wordL st, c.toNat ≠ 13) ∧ 1 ≤ (wordL st).length ∧ (wordL st).length ≤ 31 ∧ 0 ≤ st := by
  unfold wordL at h
  by_cases h200 : st = 200
  · subst h200
    exact ⟨itoa_3 (a := 200) (by omega) (by omega), by decide, by decide, by decide, by decide⟩
  rw [if_neg h200] at h
  by_cases h201 : st = 201
  · subst h201
    exact ⟨itoa_3 (a := 201) (by omega) (by omega), by decide, by decide, by decide, by decide⟩
  rw [if_neg h201] at h
  by_cases h400 : st = 400
  · subst h400
    exact ⟨itoa_3 (a := 400) (by omega) (by omega), by decide, by decide, by decide, by decide⟩
  rw [if_neg h400] at h
  by_cases h404 : st = 404
  · subst h404
    exact ⟨itoa_3 (a := 404) (by omega) (by omega), by decide, by decide, by decide, by decide⟩
  rw [if_neg h404] at h
  by_cases h405 : st = 405
  · subst h405
    exact ⟨itoa_3 (a := 405) (by omega) (by omega), by decide, by decide, by decide, by decide⟩
  rw [if_neg h405] at h
  by_cases h409 : st = 409
  · subst h409
    exact ⟨itoa_3 (a := 409) (by omega) (by omega), by decide, by decide, by decide, by decide⟩
  rw [if_neg h409] at h
  by_cases h413 : st = 413
  · subst h413
    exact ⟨itoa_3 (a := 413) (by omega) (by omega), by decide, by decide, by decide, by decide⟩
  rw [if_neg h413] at h
  by_cases h422 : st = 422
  · subst h422
    exact ⟨itoa_3 (a := 422) (by omega) (by omega), by decide, by decide, by decide, by decide⟩
  rw [if_neg h422] at h
  by_cases h431 : st = 431
  · subst h431
    exact ⟨itoa_3 (a := 431) (by omega) (by omega), by decide, by decide, by decide, by decide⟩
  rw [if_neg h431] at h
  by_cases h500 : st = 500
  · subst h500
    exact ⟨itoa_3 (a := 500) (by omega) (by omega), by decide, by decide, by decide, by decide⟩
  rw [if_neg h500] at h
  by_cases h501 : st = 501
  · subst h501
    exact ⟨itoa_3 (a := 501) (by omega) (by omega), by decide, by decide, by decide, by decide⟩
  rw [if_neg h501] at h
  by_cases h503 : st = 503
  · subst h503
    exact ⟨itoa_3 (a := 503) (by omega) (by omega), by decide, by decide, by decide, by decide⟩
  rw [if_neg h503] at h
  by_cases h505 : st = 505
  · subst h505
    exact ⟨itoa_3 (a := 505) (by omega) (by omega), by decide, by decide, by decide, by decide⟩
  rw [if_neg h505] at h
  by_cases h507 : st = 507
  · subst h507
    exact ⟨itoa_3 (a := 507) (by omega) (by omega), by decide, by decide, by decide, by decide⟩
  rw [if_neg h507] at h
  exact absurd rfl h

/-- A text begins with the response of a status with n bytes. -/
def ToldIs (s : List UInt8) (st n : Int) : Prop := wordL st ≠ [] ∧ 0 ≤ n ∧ aheadL st n <+: s ∧ (aheadL st n).length + n.toNat ≤ s.length
/-- The first place at which a text stands. -/
def FirstAt (sub s : List UInt8) (i : Nat) : Prop := sub <+: s.drop i ∧ ∀ j, j < i → ¬ sub <+: s.drop j
theorem firstAt_of {sub a b : List UInt8} {c : UInt8} (ha : ∀ x ∈ a, x ≠ c) : FirstAt (c :: sub) (a ++ (c :: sub ++ b)) a.length := by
  refine ⟨?_, fun j hj hp => ?_⟩
  · rw [List.drop_left]
    exact List.prefix_append _ _
  · obtain ⟨r, hr⟩ := hp
    rw [List.drop_append_of_le_length (by omega), List.drop_eq_getElem_cons hj, List.cons_append, List.cons_append] at hr
    injection hr with h1 _
    exact ha _ (List.getElem_mem hj) h1.symm
theorem FirstAt.uniq {sub s : List UInt8} {i j : Nat} (h1 : FirstAt sub s i) (h2 : FirstAt sub s j) : i = j := by
  rcases Nat.lt_trichotomy i j with h | h | h
  · exact absurd h1.1 (h2.2 i h)
  · exact h
  · exact absurd h2.1 (h1.2 j h)

theorem told_parts {s : List UInt8} {st n : Int} (h : ToldIs s st n) : ∃ rest, s = leadL st ++ (itoa n ++ (ctypL ++ rest)) ∧ n.toNat ≤ rest.length := by
  obtain ⟨_, _, ⟨r, rfl⟩, h4⟩ := h
  refine ⟨r, ?_, ?_⟩
  · unfold aheadL
    simp only [List.append_assoc]
  · rw [List.length_append] at h4
    omega
theorem itoa_no13 {v : Int} : ∀ c ∈ itoa v, c ≠ 13 := fun c hc e => by
  obtain ⟨k, hk, rfl⟩ := List.getElem_of_mem hc
  rcases itoa_at (v := v) rfl hk with h1 | ⟨_, h1⟩
  · unfold isDig at h1
    rw [e] at h1
    exact absurd h1.1 (by decide)
  · rw [e] at h1
    exact absurd h1 (by decide)
theorem told_status {s : List UInt8} {st n : Int} (h : ToldIs s st n) : (s.drop 9).take 3 = itoa st := by
  obtain ⟨rest, rfl, _⟩ := told_parts h
  have hl := (wordL_sts h.1).1
  unfold leadL
  rw [List.append_assoc, show (9 : Nat) = httpL.length from rfl, List.drop_left, List.append_assoc, ← hl, List.take_left]
theorem lead_split (st : Int) : leadL st = (httpL ++ (itoa st ++ (32 :: wordL st))) ++ clenL := by
  unfold leadL
  simp only [List.append_assoc, List.cons_append]
theorem told_index {s : List UInt8} {st n : Int} (h : ToldIs s st n) : FirstAt clenL s (13 + (wordL st).length) := by
  obtain ⟨rest, rfl, _⟩ := told_parts h
  obtain ⟨hl, h13, _⟩ := wordL_sts h.1
  rw [lead_split, List.append_assoc]
  have hlen : 13 + (wordL st).length = (httpL ++ (itoa st ++ (32 :: wordL st))).length := by
    simp only [List.length_append, List.length_cons, hl]
    show _ = 9 + _
    omega
  rw [hlen]
  refine firstAt_of fun x hx e => ?_
  subst e
  rcases List.mem_append.1 hx with hx | hx
  · exact absurd hx (by decide)
  rcases List.mem_append.1 hx with hx | hx
  · exact itoa_no13 _ hx rfl
  rcases List.mem_cons.1 hx with hx | hx
  · exact absurd hx (by decide)
  · exact h13 _ hx rfl
theorem told_drop {s : List UInt8} {st n : Int} (h : ToldIs s st n) : ∃ rest, s.drop (31 + (wordL st).length) = itoa n ++ (ctypL ++ rest) := by
  obtain ⟨rest, rfl, _⟩ := told_parts h
  have hlen : 31 + (wordL st).length = (leadL st).length := by
    unfold leadL
    simp only [List.length_append, List.length_cons, (wordL_sts h.1).1]
    show _ = 9 + (3 + (_ + 18 + 1))
    omega
  exact ⟨rest, by rw [hlen, List.drop_left]⟩
theorem told_digits {s : List UInt8} {st n : Int} (h : ToldIs s st n) : FirstAt [13, 10] (s.drop (31 + (wordL st).length)) (itoa n).length ∧ (s.drop (31 + (wordL st).length)).take (itoa n).length = itoa n := by
  obtain ⟨rest, hr⟩ := told_drop h
  rw [hr]
  exact ⟨firstAt_of (sub := [10]) itoa_no13, List.take_left⟩
theorem told_lead {s : List UInt8} {st st' n : Int} (h : ToldIs s st n) (hw : wordL st' ≠ []) (hp : leadL st' <+: s) : st' = st := by
  have h1 := told_status h
  obtain ⟨r, hr⟩ := hp
  have hl := (wordL_sts hw).1
  rw [← hr] at h1
  unfold leadL at h1
  rw [List.append_assoc, show (9 : Nat) = httpL.length from rfl, List.drop_left, List.append_assoc, ← hl, List.take_left] at h1
  rw [← sval_itoa st', h1, sval_itoa]
theorem told_uniq {s : List UInt8} {st st' n n' : Int} (h : ToldIs s st n) (h' : ToldIs s st' n') : st = st' ∧ n = n' := by
  have e : st = st' := by rw [← sval_itoa st, ← sval_itoa st', ← told_status h, told_status h']
  subst e
  refine ⟨rfl, ?_⟩
  obtain ⟨a1, a2⟩ := told_digits h
  obtain ⟨b1, b2⟩ := told_digits h'
  have e := a1.uniq b1
  rw [e] at a2
  rw [← sval_itoa n, ← a2, b2, sval_itoa]
theorem itoa_dig {n : Int} (h : 0 ≤ n) : ∀ c ∈ itoa n, isDig c := by
  unfold itoa
  rw [if_neg (by omega)]
  exact decDigits_dig _
/-- The run of digits at a text's beginning is one. -/
theorem run_uniq {d r : List UInt8} {c : UInt8} {m : Nat} (hd : ∀ x ∈ d, isDig x) (hc : ¬ isDig c) (h1 : ∀ x ∈ (d ++ c :: r).take m, isDig x) (h2 : ∀ h : m < (d ++ c :: r).length, ¬ isDig (d ++ c :: r)[m]) : m = d.length := by
  rcases Nat.lt_trichotomy m d.length with h | h | h
  · refine absurd ?_ (h2 (by rw [List.length_append]; omega))
    rw [List.getElem_append_left h]
    exact hd _ (List.getElem_mem h)
  · exact h
  · refine absurd (h1 c ?_) hc
    refine List.mem_iff_getElem.2 ⟨d.length, by rw [List.length_take, List.length_append, List.length_cons]; omega, ?_⟩
    rw [List.getElem_take, List.getElem_append_right (Nat.le_refl _)]
    simp
/-- The document's way: behind the lead, as many digits as there are. -/
theorem told_run {s : List UInt8} {st n : Int} {m : Nat} (h : ToldIs s st n) (h1 : ∀ x ∈ (s.drop (31 + (wordL st).length)).take m, isDig x) (h2 : ∀ q : m < (s.drop (31 + (wordL st).length)).length, ¬ isDig (s.drop (31 + (wordL st).length))[m]) :
    (s.drop (31 + (wordL st).length)).take m = itoa n := by
  obtain ⟨rest, hr⟩ := told_drop h
  have hc : ctypL ++ rest = 13 :: (ctypL.drop 1 ++ rest) := rfl
  rw [hc] at hr
  revert h1 h2
  rw [hr]
  intro h1 h2
  have := run_uniq (itoa_dig h.2.1) (by unfold isDig; decide) h1 h2
  rw [this, List.take_left]
/-- What the document's digits come to is a response, where the rest fits. -/
theorem told_of {s d r : List UInt8} {st n : Int} (hw : wordL st ≠ []) (hn : 0 ≤ n) (hs : s = leadL st ++ (d ++ (ctypL ++ r))) (hp : parseW d = some n) (hr : n.toNat ≤ r.length) : ToldIs s st n := by
  obtain ⟨_, rfl⟩ := parseW_iff.1 hp
  refine ⟨hw, hn, ⟨r, ?_⟩, ?_⟩
  · rw [hs]; unfold aheadL; simp only [List.append_assoc]
  · rw [hs]; unfold aheadL; simp only [List.length_append]; omega
theorem lead_len {st : Int} (hw : wordL st ≠ []) : (leadL st).length = 31 + (wordL st).length := by
  unfold leadL
  simp only [List.length_append, List.length_cons, (wordL_sts hw).1]
  show 9 + (3 + (_ + 18 + 1)) = _
  omega
end Go.Proofs.YtlgfhbfdjckdnaaGreatDoor
