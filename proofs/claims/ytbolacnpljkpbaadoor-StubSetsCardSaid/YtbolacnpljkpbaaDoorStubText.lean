/- text: a marking as a text, by a strings.Builder. -/
import Derived.Test.YtbolacnpljkpbaaDoorStubBuild
import Derived.Test.YtbolacnpljkpbaaDoorShelf
import Derived.Test.YtbolacnpljkpbaaDoorReachKey
set_option maxRecDepth 100000
namespace Go.Proofs.YtbolacnpljkpbaaDoor
open Go.RowKit

theorem bu_new (w : World) : Bu w.heap.size w.heap.size [] (w.alloc (.cells #[.pointer none, .slice none 0 0] 105)) :=
  .inl ⟨Nat.le_refl _, .slice none 0 0, heap_alloc_new _ _, World.ownsRow_nil _ _ _ _, by intro h; cases h⟩

theorem BuAt.kept {w w' : World} {B b : Nat} {p : Value} {bs : List Value} (h : BuAt B b p bs w) (hb : Below w.heap.size w w') : BuAt B b p bs w' := by
  obtain ⟨h1, v, h2, h3, h4⟩ := h
  exact ⟨h1, v, (hb.block b (lt_of_block h2)).trans h2, World.ownsRow.kept h3 (below_grownBy hb none) (Classical.em _), h4⟩
theorem Bu.kept {w w' : World} {B b : Nat} {bs : List Value} (h : Bu B b bs w) (hb : Below w.heap.size w w') : Bu B b bs w' :=
  h.elim (fun h => .inl (BuAt.kept h hb)) (fun h => .inr (BuAt.kept h hb))

set_option maxHeartbeats 3200000 in
theorem stext_any (w : World) (vm : Value) (m : List Int) (B : Nat) (hB : B ≤ w.heap.size) (hm : Ints w B vm m) (hw : ∀ x ∈ m, In64 x) (hlen : m.length ≤ 4096) (htab : Pow10 B w) :
    Calls Tryd.prog 42 #[vm] w fun e w' => e = .returned (.string (keyS m)) ∧ Below w.heap.size w w' := by
  obtain ⟨am, cm, rfl⟩ := hm.val
  have hT := tab_up htab hB
  have HB0 := Lib.hid (bu_new w)
  have hb0 := (Below.refl w.heap.size w).alloc (Nat.le_refl _) (.cells #[.pointer none, .slice none 0 0] 105)
  go_enter Tryd.func42, Tryd.ntmps42
  go_wp2_with fail
  go_loopg [8, 5] m.length (fun gh s8 s5 wr => ∃ (k : Nat), k + gh = m.length ∧ s8 = .int .i64 (k : Int) ∧ Hid (Bu w.heap.size w.heap.size (Lib.byteCells (keyL (m.take k))) wr) ∧ Below w.heap.size w wr)
  case atStart => exact ⟨0, by omega, rfl, HB0, hb0⟩
  case round =>
    clear HB0 hb0
    obtain ⟨k, hkg, rfl, hbu, hbel⟩ := hrel
    have hTr := hT.on hbel
    have hml := hm.len
    by_cases hk : k < m.length
    · obtain ⟨bm, om, rfl, hbm, hcm⟩ := hm.col k hk
      rw [← Below.cellB hbel (by omega)] at hcm
      have hx := hw m[k] (List.getElem_mem hk)
      have htk := Lib.hid (keyL_take hk)
      have hle := keyL_take_le hw k
      obtain ⟨x, hxe⟩ : ∃ x, m[k] = x := ⟨_, rfl⟩
      rw [hxe] at hcm hx htk
      have hil := Lib.itoa_length_le x hx.1 hx.2
      have hkd : decide (k < m.length) = true := decide_eq_true hk
      have HA := Lib.hid (Tryd.strconv_Itoa x hx.1 hx.2 wr (hTr _ (Below.refl _ _)))
      obtain ⟨bs, hbs⟩ : ∃ bs, Lib.byteCells (keyL (m.take k)) = bs := ⟨_, rfl⟩
      have hbl : bs.length ≤ 22 * 4096 := by rw [← hbs]; simp [Lib.byteCells]; omega
      rw [hbs] at hbu
      have HBS := Lib.hid hbs
      obtain ⟨it, hit⟩ : ∃ it, Lib.itoa x = it := ⟨_, rfl⟩
      rw [hit] at HA htk hil
      clear hbs hit
      have hwr := hbel.size
      go_wp2_with (first
        | (go_at_call 65; refine HA.out.mono ?_; rintro e w1 ⟨rfl, kk, os, hw1⟩; have hb1 := Lib.hid (Lib.below_grow wr.heap.size wr (Nat.le_refl _) kk os); rw [← hw1] at hb1; clear hw1; have hbu1 := Lib.hid (Bu.kept hbu.out hb1.out); have hB1 := hbel.trans (hb1.out.mono hwr))
        | (go_at_call 64; refine (bu_write w.heap.size w.heap.size bs _ w1 hbu1.out ?c1 hB1.size).mono ?c2))
      case c1 =>
        have e : (({ data := it.toArray } : ByteArray) ++ { data := #[32] }).size = it.length + 1 := by simp [ByteArray.size]
        rw [e]; omega
      rintro e w2 ⟨rfl, hbu2, hb2⟩
      go_wp2_with fail
      go_roundg (gk - 1)
      case measure => omega
      case rel =>
        refine ⟨k + 1, by omega, by go_num, ?_, hB1.trans hb2⟩
        refine Lib.hid (Or.inr ?_)
        rw [htk.out, Lib.byteCells_append, HBS.out]
        have e : (({ data := it.toArray } : ByteArray) ++ { data := #[32] }).data.toList = it ++ [32] := by simp [ByteArray.data_append]
        rw [Lib.strCells_eq, e] at hbu2
        exact hbu2
    · obtain rfl : k = m.length := by omega
      rw [List.take_length] at hbu
      obtain ⟨l, hl⟩ : ∃ l, l = keyL m := ⟨_, rfl⟩
      have HL := Lib.hid hl
      rw [← hl] at hbu
      clear hl
      have HS := Lib.hid (Tryd.Builder_String_any w.heap.size w.heap.size l wr hbu.out hbel.size)
      go_wp2_with (go_at_call 66; refine HS.out.mono ?_; rintro e w1 ⟨rfl, hb1⟩)
      go_ret
      refine ⟨?_, hbel.trans hb1⟩
      rw [HL.out]
      rfl

end Go.Proofs.YtbolacnpljkpbaaDoor
