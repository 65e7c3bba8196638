/- Where nothing is without end, the wide marking behind a transition is the marking behind its firing. On lists. -/
import Derived.Test.YtgahlonimaeicaaDoorCoverAllP
import Derived.Test.YtgahlonimaeicaaDoorNetShiftP
set_option maxRecDepth 100000
namespace Go.Proofs.YtgahlonimaeicaaDoor

theorem list_ext_getI {a b : List Int} (hl : a.length = b.length) (h : ∀ p : Nat, p < a.length → getI a (p : Int) = getI b (p : Int)) : a = b := by
  refine List.ext_getElem hl fun p h1 h2 => ?_
  have := h p h1
  rwa [getI_eq h1, getI_eq h2] at this

theorem exact_fire {n : Nt} {m : List Int} (hm : n.Mark m) {t : Tr} (ht : t ∈ n.trans) (hen : t.enB m = true) (hs : ∀ x ∈ m, x ≤ 2147483646) : (t.fireE m).1 = 0 ∧ (t.fireE m).2 = t.wideE m := by
  have hin := hm.ok.inn t ht
  have hout := hm.ok.out t ht
  rw [← hm.len] at hin hout
  have h0 : (t.fireE m).1 = 0 := by
    refine (fire_iff hm ht).2 ⟨enB_iff.1 hen, fun p hp => ?_⟩
    have hr := hasI_range t.inn p
    obtain ⟨q, rfl⟩ := Int.eq_ofNat_of_zero_le (hout.1 p hp).1
    have hq : q < m.length := by have := (hout.1 _ hp).2; omega
    have := hs _ (List.getElem_mem hq)
    rw [getI_eq hq]
    omega
  refine ⟨h0, list_ext_getI (by rw [len_fire, len_wideE]) fun p hp => ?_⟩
  rw [len_fire] at hp
  rw [getI_fire hm ht h0 (by omega) (by omega), getI_wideE hin.1 hout.1 hin.2.nodup hout.2.nodup (fun q _ => by have := (tokens_get hm.tok (q : Int)).1; omega) hen hp]
  have := (tokens_get hm.tok (p : Int)).1
  rw [if_neg (by omega)]

/-- What widens nothing to Many leaves all as it is. -/
theorem over_same {a b : List Int} (h : Over a b) (hn : (-1 : Int) ∉ a) : a = b := by
  refine list_ext_getI h.1 fun p hp => ?_
  rcases h.2 p hp with e | e
  · rw [getI_eq hp] at e
    exact absurd (e ▸ List.getElem_mem hp) hn
  · exact e

end Go.Proofs.YtgahlonimaeicaaDoor
