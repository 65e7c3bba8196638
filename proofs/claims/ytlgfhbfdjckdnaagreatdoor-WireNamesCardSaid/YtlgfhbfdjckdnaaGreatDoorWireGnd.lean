/- What the library's own variables hold; word.Parse at every text; the document's Number at every number (seat wire). -/
import Derived.Test.YtlgfhbfdjckdnaaGreatDoorWireParse
set_option maxRecDepth 100000
namespace Go.Proofs.YtlgfhbfdjckdnaaGreatDoor
open Go.RowKit

/-- What the library's own variables hold, whatever is done above. -/
structure Gnd (w : World) : Prop where
  tab : Pow10 w.heap.size w
  errS : ∃ t p, ∀ W, Below w.heap.size w W → W.cell? ⟨1, 0, none⟩ = some (.iface t p)
  errR : ∃ t p, ∀ W, Below w.heap.size w W → W.cell? ⟨2, 0, none⟩ = some (.iface t p)
  maxl : ∃ m, ∀ W, Below w.heap.size w W → W.cell? ⟨0, 0, none⟩ = some (.int .i64 m)
theorem Gnd.up {w w' : World} (h : Gnd w) (hb : Below w.heap.size w w') : Gnd w' where
  tab := tab_upW h.tab hb
  errS := by obtain ⟨t, p, h⟩ := h.errS; exact ⟨t, p, fun W hW => h W (hb.trans (hW.mono hb.size))⟩
  errR := by obtain ⟨t, p, h⟩ := h.errR; exact ⟨t, p, fun W hW => h W (hb.trans (hW.mono hb.size))⟩
  maxl := by obtain ⟨m, h⟩ := h.maxl; exact ⟨m, fun W hW => h W (hb.trans (hW.mono hb.size))⟩

theorem numB_eq (v : Int) (s : ByteArray) : ((numB v).toList == s.toList) = decide (Lib.itoa v = s.data.toList) := by
  rw [ByteArray.toList_eq, ByteArray.toList_eq]
  show (Lib.itoa v == s.data.toList) = _
  exact Bool.eq_iff_iff.2 ⟨fun h => decide_eq_true (beq_iff_eq.1 h), fun h => beq_iff_eq.2 (of_decide_eq_true h)⟩
/-- The number whose text stands there; 0 where none does. -/
def parseV (s : List UInt8) : Value := .tuple #[.int .i64 ((parseW s).getD 0), .bool (parseW s).isSome]

theorem wparse_any (w : World) (hg : Gnd w) (s : ByteArray) (hlim : s.size ≤ 281474976710656) :
    Calls Tryz.prog 30 #[.string s] w fun e w' => e = .returned (parseV s.data.toList) ∧ Below w.heap.size w w' := by
  by_cases h : ∃ v, Lib.atoiAll s.data.toList = .ok v
  · obtain ⟨v, hv⟩ := h
    refine (wparse_ok w hg.tab s hlim v hv _ (numB_eq v s)).mono ?_
    rintro e w2 ⟨rfl, hb⟩
    refine ⟨?_, hb⟩
    unfold parseV parseW
    rw [hv]
    simp only
    by_cases he : Lib.itoa v = s.data.toList
    · rw [if_pos he, decide_eq_true he]; rfl
    · rw [if_neg he, decide_eq_false he]; rfl
  · obtain ⟨t1, p1, h1⟩ := hg.errS
    obtain ⟨t2, p2, h2⟩ := hg.errR
    have hbad : ∀ v, Lib.atoiAll s.data.toList ≠ .ok v := fun v hv => h ⟨v, hv⟩
    refine (wparse_bad w s hlim t1 p1 t2 p2 (h1 w (Below.refl _ _)) (h2 w (Below.refl _ _)) hbad).mono ?_
    rintro e w2 ⟨rfl, hb⟩
    refine ⟨?_, hb⟩
    unfold parseV
    rw [parseW_end hbad]; rfl

end Go.Proofs.YtlgfhbfdjckdnaaGreatDoor
