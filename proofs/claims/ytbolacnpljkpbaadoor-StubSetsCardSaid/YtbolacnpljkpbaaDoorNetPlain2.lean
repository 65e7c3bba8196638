/- What a net that may be, and a marking of it, give; firing keeps markings. No program here. -/
import Derived.Test.YtbolacnpljkpbaaDoorNetPlain
set_option maxRecDepth 100000
namespace Go.Proofs.YtbolacnpljkpbaaDoor

theorem placeB_iff {many p : Int} : placeB many p = true ↔ 0 ≤ p ∧ p < many := by simp [placeB]

/-- Rising, none twice. -/
def Rising (l : List Int) : Prop := ∀ i, i + 1 < l.length → l.getD i 0 < l.getD (i + 1) 0

theorem listOk_places {many : Nat} {l : List Int} (h : listOk many l = true) : PlacesOk many l := by
  intro p hp
  obtain ⟨i, hi, rfl⟩ := List.getElem_of_mem hp
  have := listOkAt_of h hi
  simp only [listOkAt, Bool.and_eq_true] at this
  have h1 := placeB_iff.1 this.1
  simpa [hi] using h1

theorem listOk_rising {many : Int} {l : List Int} (h : listOk many l = true) : Rising l := by
  intro i hi
  have := listOkAt_of h hi
  simp only [listOkAt, Bool.and_eq_true, Bool.or_eq_true] at this
  rcases this.2 with h0 | h1
  · simp at h0
  · simpa using h1

theorem Rising.tail {x : Int} {l : List Int} (h : Rising (x :: l)) : Rising l := by
  intro i hi
  have := h (i + 1) (by simpa using hi)
  simpa using this

theorem Rising.head {x : Int} : ∀ {l : List Int}, Rising (x :: l) → ∀ y ∈ l, x < y
  | [], _, y, hy => by cases hy
  | z :: l, h, y, hy => by
    have h0 : x < z := by simpa using h 0 (by simp)
    rcases List.mem_cons.1 hy with rfl | hy
    · exact h0
    · have := Rising.head h.tail y hy; omega

theorem Rising.nodup : ∀ {l : List Int}, Rising l → l.Nodup
  | [], _ => List.nodup_nil
  | x :: l, h => List.nodup_cons.2 ⟨fun hx => by have := h.head x hx; omega, Rising.nodup h.tail⟩

structure Nt.Ok (n : Nt) : Prop where
  many : n.places.length ≤ 4096
  trans : n.trans.length ≤ 8192
  init : 0 ≤ n.init ∧ n.init < (n.places.length : Int)
  final : 0 ≤ n.final ∧ n.final < (n.places.length : Int)
  ne : n.init ≠ n.final
  inn : ∀ t ∈ n.trans, PlacesOk n.places.length t.inn ∧ Rising t.inn
  out : ∀ t ∈ n.trans, PlacesOk n.places.length t.out ∧ Rising t.out

theorem Nt.ok_of {n : Nt} (h : n.okB = true) : n.Ok := by
  simp only [Nt.okB, okB0, Bool.and_eq_true, decide_eq_true_eq, Bool.not_eq_true', beq_eq_false_iff_ne, placeB_iff, List.all_eq_true, transOk] at h
  obtain ⟨⟨h1, h2, h3, h4, h5⟩, h6⟩ := h
  exact ⟨by omega, by omega, h3, h4, h5, fun t ht => ⟨listOk_places (h6 t ht).1, listOk_rising (h6 t ht).1⟩, fun t ht => ⟨listOk_places (h6 t ht).2, listOk_rising (h6 t ht).2⟩⟩

theorem Nt.Ok.two {n : Nt} (h : n.Ok) : 2 ≤ n.places.length := by
  have := h.init; have := h.final; have := h.ne; omega

theorem Nt.tr_mem {n : Nt} {t : Int} (h : n.badT t = false) : ∃ q : Nat, t = q ∧ ∃ hq : q < n.trans.length, n.tr t = n.trans[q] ∧ n.tr t ∈ n.trans := by
  simp only [Nt.badT, Bool.or_eq_false_iff, decide_eq_false_iff_not] at h
  obtain ⟨q, rfl⟩ := Int.eq_ofNat_of_zero_le (by omega : 0 ≤ t)
  have hq : q < n.trans.length := by omega
  have : n.tr (q : Int) = n.trans[q] := by simp [Nt.tr, hq]
  exact ⟨q, rfl, hq, this, by rw [this]; exact List.getElem_mem hq⟩

structure Nt.Mark (n : Nt) (m : List Int) : Prop where
  ok : n.Ok
  len : m.length = n.places.length
  tok : Tokens m

theorem Nt.mark_of {n : Nt} {m : List Int} (h : n.markB m = true) : n.Mark m := by
  simp only [Nt.markB, Bool.and_eq_true, decide_eq_true_eq, Bool.not_eq_true', List.any_eq_false] at h
  obtain ⟨h1, h2, h3⟩ := h
  refine ⟨Nt.ok_of h1, h2, fun x hx => ?_⟩
  have := h3 x hx
  simp only [badB, Bool.not_eq_true, Bool.or_eq_false_iff, decide_eq_false_iff_not] at this
  omega

theorem tokens_badB {m : List Int} (h : Tokens m) : m.any badB = false := by
  rw [List.any_eq_false]
  intro x hx
  have := h x hx
  simp only [badB, Bool.not_eq_true, Bool.or_eq_false_iff, decide_eq_false_iff_not]
  omega

theorem Nt.mark_mk {n : Nt} {m : List Int} (h1 : n.okB = true) (h2 : m.length = n.places.length) (h3 : Tokens m) : n.markB m = true := by
  simp [Nt.markB, h1, h2, tokens_badB h3]

theorem getI_addI_ne {m : List Int} {p q d : Int} (hp : 0 ≤ p) (hq : 0 ≤ q) (h : p ≠ q) : getI (addI m p d) q = getI m q := by
  have : p.toNat ≠ q.toNat := by omega
  simp [getI, addI, List.getD, this]
theorem getI_addI {m : List Int} {p d : Int} (hp : 0 ≤ p) (hl : p < (m.length : Int)) : getI (addI m p d) p = getI m p + d := by
  obtain ⟨q, rfl⟩ := Int.eq_ofNat_of_zero_le hp
  have hq : q < m.length := by omega
  simp [getI, addI, hq]

theorem tokens_addI {m : List Int} (h : Tokens m) {p d : Int} (h1 : 0 ≤ getI m p + d) (h2 : getI m p + d ≤ 2147483647) : Tokens (addI m p d) := by
  intro x hx
  rcases mem_set_cases hx with rfl | hx
  · exact ⟨h1, h2⟩
  · exact h x hx

theorem tokens_get {m : List Int} (h : Tokens m) (p : Int) : 0 ≤ getI m p ∧ getI m p ≤ 2147483647 := by
  by_cases hp : p.toNat < m.length
  · have := h _ (List.getElem_mem hp)
    simpa [getI, hp] using this
  · simp [getI, List.getD, List.getElem?_eq_none (by omega : m.length ≤ p.toNat)]

theorem tokens_decs : ∀ {ps m : List Int}, Tokens m → PlacesOk m.length ps → ps.Nodup → (∀ p ∈ ps, 1 ≤ getI m p) → Tokens (decs m ps)
  | [], m, h, _, _, _ => h
  | p :: ps, m, h, hp, hn, h1 => by
    obtain ⟨hn1, hn2⟩ := List.nodup_cons.1 hn
    have hp0 := hp p (by simp)
    have g1 := h1 p (by simp)
    have g2 := tokens_get h p
    show Tokens (decs (addI m p (-1)) ps)
    refine tokens_decs (tokens_addI h (d := -1) (by omega) (by omega)) ?_ hn2 ?_
    · rw [len_addI]; exact fun q hq => hp q (by simp [hq])
    · intro q hq
      have hq0 := hp q (by simp [hq])
      rw [getI_addI_ne hp0.1 hq0.1 (fun e => hn1 (e ▸ hq))]
      exact h1 q (by simp [hq])

theorem tokens_incs : ∀ {ps m m' : List Int}, Tokens m → incs m ps = some m' → Tokens m'
  | [], m, m', h, hi => by simp [incs] at hi; rw [← hi]; exact h
  | p :: ps, m, m', h, hi => by
    simp only [incs] at hi
    split at hi
    · cases hi
    · next hle =>
      have := tokens_get h p
      exact tokens_incs (tokens_addI h (d := 1) (by omega) (by omega)) hi

theorem enB_get {t : Tr} {m : List Int} (h : t.enB m = true) (ht : Tokens m) : ∀ p ∈ t.inn, 1 ≤ getI m p := by
  intro p hp
  simp only [Tr.enB, Bool.not_eq_true', List.any_eq_false, zeroAt, beq_iff_eq] at h
  have := h p hp
  have := tokens_get ht p
  omega

theorem Nt.Mark.fire {n : Nt} {m : List Int} (h : n.Mark m) {t : Tr} (ht : t ∈ n.trans) (h0 : (t.fireE m).1 = 0) : n.Mark (t.fireE m).2 := by
  refine ⟨h.ok, by rw [len_fire]; exact h.len, ?_⟩
  have hin := h.ok.inn t ht
  rw [← h.len] at hin
  revert h0
  unfold Tr.fireE
  split
  · next he =>
    split
    · intro h0; cases h0
    · next m' hi =>
      intro _
      exact tokens_incs (tokens_decs h.tok hin.1 hin.2.nodup (enB_get he h.tok)) hi
  · intro h0; cases h0

end Go.Proofs.YtbolacnpljkpbaaDoor
