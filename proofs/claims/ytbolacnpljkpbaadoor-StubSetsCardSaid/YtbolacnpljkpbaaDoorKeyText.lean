/- A marking as a text: each number in decimals and a blank behind it; two markings with one text are one. No program here. -/
import Derived.Lib.ItoaNum
import Derived.Lib.ItoaLen
set_option maxRecDepth 100000
namespace Go.Proofs.YtbolacnpljkpbaaDoor

def In64 (x : Int) : Prop := -9223372036854775808 ≤ x ∧ x ≤ 9223372036854775807

/-- What the text of a marking is. -/
def keyL (m : List Int) : List UInt8 := m.flatMap fun x => Lib.itoa x ++ [32]
def keyS (m : List Int) : ByteArray := ⟨(keyL m).toArray⟩

theorem keyL_take {m : List Int} {k : Nat} (h : k < m.length) : keyL (m.take (k + 1)) = keyL (m.take k) ++ (Lib.itoa m[k] ++ [32]) := by
  unfold keyL
  rw [List.take_add_one, List.getElem?_eq_getElem h, List.flatMap_append]
  simp

theorem keyL_take_le {m : List Int} (hw : ∀ x ∈ m, In64 x) (k : Nat) : (keyL (m.take k)).length ≤ 22 * k := by
  induction k with
  | zero => simp [keyL]
  | succ k ih =>
    by_cases h : k < m.length
    · rw [keyL_take h]
      have := Lib.itoa_length_le m[k] (hw _ (List.getElem_mem h)).1 (hw _ (List.getElem_mem h)).2
      simp only [List.length_append, List.length_cons, List.length_nil]
      omega
    · rw [List.take_of_length_le (by omega)]
      rw [List.take_of_length_le (by omega)] at ih
      omega

theorem keyL_le {m : List Int} (hw : ∀ x ∈ m, In64 x) : (keyL m).length ≤ 22 * m.length := by
  have := keyL_take_le hw m.length
  rwa [List.take_length] at this
theorem keyS_list (m : List Int) : (keyS m).data.toList = keyL m := by simp [keyS]
theorem keyS_size (m : List Int) : (keyS m).size = (keyL m).length := by simp [keyS, ByteArray.size]

/-- The number that digits write. -/
def valD (l : List UInt8) : Nat := l.foldl (fun a c => a * 10 + (c.toNat - 48)) 0

theorem valD_snoc (l : List UInt8) (c : UInt8) : valD (l ++ [c]) = valD l * 10 + (c.toNat - 48) := by simp [valD, List.foldl_append]

theorem digit_byte {k : Nat} (h : k < 10) : (UInt8.ofNat (48 + k)).toNat = 48 + k := by
  rw [UInt8.toNat_ofNat']
  omega

theorem val_dec : ∀ u : Nat, valD (Lib.decDigits u) = u ∧ ∀ c ∈ Lib.decDigits u, 48 ≤ c.toNat ∧ c.toNat ≤ 57 := by
  intro u
  induction u using Nat.strongRecOn with
  | _ u ih =>
    by_cases h : u < 10
    · rw [Lib.decDigits_one h]
      refine ⟨?_, fun c hc => ?_⟩
      · simp only [valD, List.foldl_cons, List.foldl_nil]
        rw [digit_byte h]; omega
      · obtain rfl : c = UInt8.ofNat (48 + u) := by simpa using hc
        rw [digit_byte h]; omega
    · obtain ⟨h1, h2⟩ := ih (u / 10) (by omega)
      have hm : u % 10 < 10 := by omega
      rw [Lib.decDigits, dif_neg h]
      refine ⟨?_, fun c hc => ?_⟩
      · rw [valD_snoc, h1, digit_byte hm]; omega
      · rcases List.mem_append.1 hc with hc | hc
        · exact h2 c hc
        · obtain rfl : c = UInt8.ofNat (48 + u % 10) := by simpa using hc
          rw [digit_byte hm]; omega

theorem itoa_inj {x y : Int} (h : Lib.itoa x = Lib.itoa y) : x = y := by
  unfold Lib.itoa at h
  have hd : ∀ (u : Nat) (l : List UInt8), Lib.decDigits u = 45 :: l → False := by
    intro u l e
    have := (val_dec u).2 45 (by rw [e]; simp)
    simp at this
  split at h <;> split at h
  · have e := (List.cons.inj h).2
    have := congrArg valD e
    rw [(val_dec _).1, (val_dec _).1] at this
    omega
  · exact (hd _ _ h.symm).elim
  · exact (hd _ _ h).elim
  · have := congrArg valD h
    rw [(val_dec _).1, (val_dec _).1] at this
    omega

theorem itoa_blank (x : Int) : (32 : UInt8) ∉ Lib.itoa x := by
  intro h
  have hd : ∀ u : Nat, (32 : UInt8) ∈ Lib.decDigits u → False := by
    intro u hm
    have := (val_dec u).2 32 hm
    simp at this
  unfold Lib.itoa at h
  split at h
  · rcases List.mem_cons.1 h with h | h
    · simp at h
    · exact hd _ h
  · exact hd _ h

theorem cut_blank : ∀ {a b c d : List UInt8}, (32 : UInt8) ∉ a → (32 : UInt8) ∉ b → a ++ 32 :: c = b ++ 32 :: d → a = b ∧ c = d
  | [], [], c, d, _, _, h => ⟨rfl, by simpa using h⟩
  | [], y :: b, c, d, _, hb, h => by
    have := (List.cons.inj h).1
    exact absurd (by simp [this]) hb
  | x :: a, [], c, d, ha, _, h => by
    have := (List.cons.inj h).1
    exact absurd (by simp [← this]) ha
  | x :: a, y :: b, c, d, ha, hb, h => by
    have h1 := List.cons.inj h
    obtain ⟨rfl, h2⟩ := h1
    obtain ⟨rfl, rfl⟩ := cut_blank (fun h => ha (by simp [h])) (fun h => hb (by simp [h])) h2
    exact ⟨rfl, rfl⟩

theorem keyL_inj : ∀ {a b : List Int}, keyL a = keyL b → a = b
  | [], [], _ => rfl
  | [], y :: b, h => by simp [keyL] at h
  | x :: a, [], h => by simp [keyL] at h
  | x :: a, y :: b, h => by
    have h2 : Lib.itoa x ++ 32 :: keyL a = Lib.itoa y ++ 32 :: keyL b := by simpa [keyL] using h
    obtain ⟨e1, e2⟩ := cut_blank (itoa_blank x) (itoa_blank y) h2
    rw [itoa_inj e1, keyL_inj e2]

end Go.Proofs.YtbolacnpljkpbaaDoor
