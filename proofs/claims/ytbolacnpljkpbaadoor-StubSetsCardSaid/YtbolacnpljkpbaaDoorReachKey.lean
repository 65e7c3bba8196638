/- key: a marking as a text: each number in decimals and a blank behind it. -/
import Derived.Test.YtbolacnpljkpbaaDoorAppCol
import Derived.Test.YtbolacnpljkpbaaDoorStrInt
import Derived.Test.YtbolacnpljkpbaaDoorKeyText
import Derived.Laws.IdiomStrings
set_option maxRecDepth 100000
namespace Go.Proofs.YtbolacnpljkpbaaDoor
open Go.RowKit

theorem rstr_owned (w : World) (B : Nat) (l : List UInt8) (v : Value) (h : w.ownsRow B 5 1 v l.length (Lib.byteCells l)) :
    (convert 103 9 v).run Tryd.prog w = .ok (.string ⟨l.toArray⟩) w := by
  rcases h.2 with ⟨rfl, h0⟩ | ⟨g, cap, cur, rfl, _⟩
  · have : l = [] := by cases l with | nil => rfl | cons a l => simp at h0
    subst this
    rw [run_convert_bytes_string w 103 9 5 none _ _ Tryd.underlying103 Tryd.underlying5 Tryd.underlying9]
    rfl
  · exact run_convert_bytes_back (P := Tryd.prog) w 103 9 5 ⟨g, 0, none⟩ cap l Tryd.underlying103 Tryd.underlying5 Tryd.underlying9 (fun j hj => h.cells (g := g) rfl j _ (by simp [Lib.byteCells, hj]))

set_option maxHeartbeats 3200000 in
theorem rkey_any (w : World) (vm : Value) (m : List Int) (B : Nat) (hB : B ≤ w.heap.size) (hm : Ints w B vm m) (hw : ∀ x ∈ m, In64 x) (hlen : m.length ≤ 4096) (htab : Pow10 B w) :
    Calls Tryd.prog 43 #[vm] w fun e w' => e = .returned (.string (keyS m)) ∧ Below w.heap.size w w' := by
  obtain ⟨i0, hi, hz0, hz1, hz2⟩ := info_parts info_byte
  obtain ⟨am, cm, rfl⟩ := hm.val
  have hT := tab_up htab hB
  go_enter Tryd.func43, Tryd.ntmps43
  go_wp2_with fail
  go_loopg [8, 3] m.length (fun gh s8 s3 wr => ∃ (k n : Nat) (xs : List Value), k + gh = m.length ∧ s8 = .int .i64 (k : Int) ∧ Hid (n = (keyL (m.take k)).length) ∧ Hid (xs = Lib.byteCells (keyL (m.take k))) ∧ wr.ownsRow w.heap.size 5 1 s3 n xs ∧ Below w.heap.size w wr)
  case atStart => exact ⟨0, 0, [], by omega, rfl, rfl, rfl, World.ownsRow_nil _ _ _ _, Below.refl _ _⟩
  case round =>
    obtain ⟨k, n, xs, hkg, rfl, hn, hxs, hown, hbel⟩ := hrel
    have hTr := hT.on hbel
    have hml := hm.len
    by_cases hk : k < m.length
    · obtain ⟨bm, om, rfl, hbm, hcm⟩ := hm.col k hk
      rw [← Below.cellB hbel (by omega)] at hcm
      have hx := hw m[k] (List.getElem_mem hk)
      have htk := Lib.hid (keyL_take hk)
      have hle := keyL_take_le hw k
      have hnl : n ≤ 22 * 4096 := by rw [hn.out]; omega
      obtain ⟨x, hxe⟩ : ∃ x, m[k] = x := ⟨_, rfl⟩
      rw [hxe] at hcm hx htk
      have hil := Lib.itoa_length_le x hx.1 hx.2
      have hL : n + 21 ≤ 140737488355328 := by omega
      have hkd : decide (k < m.length) = true := decide_eq_true hk
      have HA := Lib.hid (appInt_any _ _ _ hx.1 hx.2 _ _ _ hown hbel.size hL hTr)
      go_wp2_with (go_at_call 67; refine HA.out.mono ?_; rintro e w1 ⟨v1, rfl, hown1, hg1⟩; refine Hid.out ?_)
      refine Lib.hid ?_
      have hb1 := hbel.grown hg1 hbel.size (fun k hk => (hown.lt k hk).1)
      go_wp2_with (at_builtin; refine wpList_append_own _ rfl _ _ 103 rfl w.heap.size 5 i0 (.int .u8 0) 1 1 Tryd.underlying103 hi hz0 hz1 hz2 rfl (by decide) _ _ _ rfl (hown1.alloc _) ⟨w1.heap.size, 0, none⟩ 1 1 [Value.int .u8 32] rfl rfl (by intro j u' hj; match j, hj with | 0, hj => simp at hj; subst hj; simp [Addr.add]) (by intro u' hu'; simp at hu'; subst hu'; rfl) (by unfold maxLen; omega) (by omega) (by have := hb1.size; simp; omega) ?_)
      intro v2 w2 hown2 hg2 _
      have hb2 := (hb1.alloc hb1.size _).grown hg2 (by have := hb1.size; simp; omega) (fun k hk => (hown1.lt k hk).1)
      go_wp2
      go_roundg (gk - 1)
      case measure => omega
      case rel =>
      refine ⟨k + 1, _, _, by omega, by simp, ?_, ?_, hown2, hb2⟩
      · refine Lib.hid ?_
        rw [htk.out, hn.out]; simp; omega
      · refine Lib.hid ?_
        rw [htk.out, hxs.out, byteCells_append, byteCells_append]; simp [byteCells_one]
    · obtain rfl : k = m.length := by omega
      rw [List.take_length] at hn hxs
      obtain ⟨l, hl⟩ : ∃ l, l = keyL m := ⟨_, rfl⟩
      have HL := Lib.hid hl
      rw [← hl] at hn hxs
      clear hl
      have hcv := rstr_owned wr _ l _ (by rw [← hn.out, ← hxs.out]; exact hown)
      go_wp2_with fail
      go_ret
      refine ⟨?_, hbel⟩
      rw [HL.out]
      rfl

end Go.Proofs.YtbolacnpljkpbaaDoor
