/- Numbers and their texts (word.Number, Parse; tollgateref01's): plain, no program in sight. -/
import Derived.Lib.AtoiAllCases
import Derived.Lib.ItoaNum
set_option maxRecDepth 100000
namespace Go.Proofs.YtlgfhbfdjckdnaaGreatDoor
open Go.Lib

def isDig (c : UInt8) : Prop := 48 ≤ c.toNat ∧ c.toNat ≤ 57
def stepD (a : Nat) (c : UInt8) : Nat := a * 10 + (c.toNat - 48)
def valD (l : List UInt8) : Nat := l.foldl stepD 0
theorem ofNat_dig {k : Nat} (h : k < 10) : (UInt8.ofNat (48 + k)).toNat = 48 + k := by
  rw [UInt8.toNat_ofNat']
  omega
theorem decDigits_dig (u : Nat) : ∀ c ∈ decDigits u, isDig c := by
  induction u using Nat.strongRecOn with
  | _ u ih =>
    intro c hc
    rw [decDigits] at hc
    split at hc
    · next h =>
      rw [List.mem_singleton] at hc
      subst hc
      unfold isDig
      rw [ofNat_dig h]
      omega
    · next h =>
      rw [List.mem_append, List.mem_singleton] at hc
      rcases hc with hc | hc
      · exact ih (u / 10) (by omega) c hc
      · subst hc
        unfold isDig
        rw [ofNat_dig (by omega)]
        omega
theorem valD_app (l : List UInt8) (c : UInt8) : valD (l ++ [c]) = valD l * 10 + (c.toNat - 48) := by
  unfold valD
  rw [List.foldl_append]
  rfl
theorem valD_dec (u : Nat) : valD (decDigits u) = u := by
  induction u using Nat.strongRecOn with
  | _ u ih =>
    rw [decDigits]
    split
    · next h =>
      have := valD_app [] (UInt8.ofNat (48 + u))
      rw [List.nil_append, ofNat_dig h] at this
      rw [this]
      show 0 * 10 + _ = _
      omega
    · next h =>
      rw [valD_app, ih (u / 10) (by omega), ofNat_dig (by omega)]
      omega
theorem decDigits_ne (u : Nat) : decDigits u ≠ [] := by
  intro h
  have := decDigits_length u
  rw [h] at this
  have := nDigits_pos u
  simp at *
  omega
theorem nDigits_le : ∀ (k u : Nat), u < 10 ^ (k + 1) → nDigits u ≤ k + 1
  | 0, u, h => by rw [nDigits_small (by simpa using h)]; exact Nat.le_refl _
  | k + 1, u, h => by
    by_cases h1 : u < 10
    · rw [nDigits_small h1]; omega
    · rw [nDigits_big h1]
      have := nDigits_le k (u / 10) (by rw [Nat.pow_succ] at h; omega)
      omega
theorem foldl_ge : ∀ (l : List UInt8) (a : Nat), a ≤ l.foldl stepD a
  | [], _ => Nat.le_refl _
  | c :: r, a => Nat.le_trans (by unfold stepD; omega) (foldl_ge r (stepD a c))
theorem parseUint10_val : ∀ (l : List UInt8) (a : Nat), (∀ c ∈ l, isDig c) → l.foldl stepD a < 18446744073709551616 → parseUint10 a l = .ok (l.foldl stepD a)
  | [], a, _, _ => rfl
  | c :: r, a, hd, hv => by
    have hc := hd c List.mem_cons_self
    have hge := foldl_ge r (stepD a c)
    have e : (c :: r).foldl stepD a = r.foldl stepD (stepD a c) := rfl
    rw [e] at hv ⊢
    have h2 : stepD a c = a * 10 + (c.toNat - 48) := rfl
    unfold isDig at hc
    simp only [parseUint10]
    rw [if_pos hc, if_neg (by omega), if_neg (by omega), ← h2]
    exact parseUint10_val r _ (fun x hx => hd x (List.mem_cons_of_mem _ hx)) hv
theorem parseMag_dec {u : Nat} (h : u < 18446744073709551616) : parseMag (decDigits u) = .ok u := by
  have hv := valD_dec u
  unfold valD at hv
  unfold parseMag
  rw [if_neg (decDigits_ne u), parseUint10_val _ 0 (decDigits_dig u) (by rw [hv]; exact h), hv]

/-- A number that an int64 holds. -/
def I64n (v : Int) : Prop := -9223372036854775808 ≤ v ∧ v ≤ 9223372036854775807
theorem atoiAll_itoa {v : Int} (h : I64n v) : atoiAll (itoa v) = .ok v := by
  unfold I64n at h
  unfold itoa
  split
  · next hn =>
    rw [atoiAll_minus, parseMag_dec (by omega)]
    unfold signed
    simp only
    rw [if_neg (by omega)]
    congr 1
    omega
  · next hn =>
    cases hd : decDigits v.toNat with
    | nil => exact absurd hd (decDigits_ne _)
    | cons c r =>
      have hc := decDigits_dig v.toNat c (by rw [hd]; exact List.mem_cons_self)
      unfold isDig at hc
      rw [atoiAll_plain c r (by omega) (by omega), ← hd, parseMag_dec (by omega)]
      unfold signless
      simp only
      rw [if_neg (by omega)]
      congr 1
      omega

/-- The number whose text stands there. -/
def parseW (s : List UInt8) : Option Int :=
  match atoiAll s with
  | .ok v => if itoa v = s then some v else none
  | _ => none
theorem parseW_iff {s : List UInt8} {v : Int} : parseW s = some v ↔ I64n v ∧ itoa v = s := by
  unfold parseW
  constructor
  · intro h
    split at h
    · next x hx =>
      split at h
      · next he =>
        injection h with h
        subst h
        exact ⟨atoiAll_bounds hx, he⟩
      · cases h
    · cases h
  · rintro ⟨hv, rfl⟩
    rw [atoiAll_itoa hv]
    simp
theorem parseW_none {s : List UInt8} (h : ∀ v, I64n v → itoa v ≠ s) : parseW s = none := by
  cases hp : parseW s with
  | none => rfl
  | some v => exact absurd (parseW_iff.1 hp).2 (h v (parseW_iff.1 hp).1)

/-- What the digits come to, with the sign. -/
def sval (s : List UInt8) : Int :=
  match s with
  | [] => 0
  | c :: r => if c.toNat = 45 then -(valD r : Int) else (valD (c :: r) : Int)
theorem sval_minus {c : UInt8} {r : List UInt8} (h : c.toNat = 45) : sval (c :: r) = -(valD r : Int) := by unfold sval; simp only; rw [if_pos h]
theorem sval_plain {c : UInt8} {r : List UInt8} (h : c.toNat ≠ 45) : sval (c :: r) = (valD (c :: r) : Int) := by unfold sval; simp only; rw [if_neg h]
theorem sval_itoa (v : Int) : sval (itoa v) = v := by
  unfold itoa
  split
  · next hn =>
    rw [sval_minus rfl, valD_dec]
    omega
  · next hn =>
    cases hd : decDigits v.toNat with
    | nil => exact absurd hd (decDigits_ne _)
    | cons c r =>
      have hc := decDigits_dig v.toNat c (by rw [hd]; exact List.mem_cons_self)
      unfold isDig at hc
      rw [sval_plain (by omega), ← hd, valD_dec]
      omega
theorem rparse_yes {s : List UInt8} {n : Int} (hb : I64n n) (h : itoa n = s) : parseW s = some n := parseW_iff.2 ⟨hb, h⟩
theorem rparse_no {s : List UInt8} {n : Int} (hb : I64n n) (hm : (n - sval s) % 18446744073709551616 = 0) (h : itoa n ≠ s) : parseW s = none :=
  parseW_none fun v hv e => h (by
    have e2 := sval_itoa v
    rw [e] at e2
    rw [e2] at hm
    unfold I64n at hb hv
    obtain rfl : n = v := by omega
    exact e)
theorem itoa_len {v : Int} (h : I64n v) : (itoa v).length ≤ 20 := by
  unfold I64n at h
  unfold itoa
  split
  · rw [List.length_cons, decDigits_length]
    have := nDigits_le 18 v.natAbs (by simp; omega)
    omega
  · rw [decDigits_length]
    have := nDigits_le 18 v.toNat (by simp; omega)
    omega
theorem parseW_long {s : List UInt8} (h : 20 < s.length) : parseW s = none := parseW_none fun v hv e => by
  have := itoa_len hv
  rw [e] at this
  omega
theorem itoa_at {v : Int} {s : List UInt8} {k : Nat} (e : itoa v = s) (hk : k < s.length) : isDig s[k] ∨ (k = 0 ∧ s[k].toNat = 45) := by
  unfold itoa at e
  by_cases hn : v < 0
  · rw [if_pos hn] at e
    subst e
    cases k with
    | zero => exact .inr ⟨rfl, rfl⟩
    | succ k => exact .inl (decDigits_dig _ _ (List.getElem_mem (by simpa using hk)))
  · rw [if_neg hn] at e
    subst e
    exact .inl (decDigits_dig _ _ (List.getElem_mem hk))
theorem parseW_bad {s : List UInt8} {k : Nat} (hk : k < s.length) (h : ¬ isDig s[k]) (h0 : k = 0 → s[k].toNat ≠ 45) : parseW s = none := parseW_none fun v _ e => by
  rcases itoa_at e hk with h1 | ⟨h1, h2⟩
  · exact h h1
  · exact h0 h1 h2

/-- The document's reckoning, digit by digit. -/
theorem sval_take {s : List UInt8} {k : Nat} (hk : k < s.length) (hd : isDig s[k]) :
    sval (s.take (k + 1)) = if 0 < k ∧ (s.getD 0 0).toNat = 45 then 10 * sval (s.take k) - ((s[k].toNat : Int) - 48) else 10 * sval (s.take k) + ((s[k].toNat : Int) - 48) := by
  unfold isDig at hd
  rw [List.take_succ_eq_append_getElem hk]
  cases s with
  | nil => simp at hk
  | cons c r =>
    cases k with
    | zero =>
      have hd1 : 48 ≤ c.toNat ∧ c.toNat ≤ 57 := hd
      have e := valD_app [] c
      rw [List.nil_append] at e
      have e0 : valD [] = 0 := rfl
      have e1 : sval (List.take 0 (c :: r)) = 0 := rfl
      rw [if_neg (by omega), e1]
      show sval [c] = 10 * 0 + ((c.toNat : Int) - 48)
      rw [sval_plain (by omega), e, e0]
      omega
    | succ k =>
      have hk' : k < r.length := by simpa using hk
      have hd1 : 48 ≤ r[k].toNat ∧ r[k].toNat ≤ 57 := hd
      have e1 : ((c :: r).getD 0 0).toNat = c.toNat := rfl
      have e2 := valD_app (r.take k) r[k]
      have e3 := valD_app (c :: r.take k) r[k]
      have e4 : (c :: r)[k + 1] = r[k] := rfl
      rw [e1, e4, List.take_succ_cons, List.cons_append]
      rw [List.cons_append] at e3
      by_cases hc : c.toNat = 45
      · rw [if_pos ⟨by omega, hc⟩, sval_minus hc, sval_minus hc, e2]
        omega
      · rw [if_neg (by omega), sval_plain hc, sval_plain hc, e3]
        omega
end Go.Proofs.YtlgfhbfdjckdnaaGreatDoor
