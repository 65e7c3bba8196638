/- word.Parse (seat wire). -/
import Derived.Test.YtlgfhbfdjckdnaaDoorWireNum3
import Derived.Lib.ParseIntBTie
import Derived.Lib.AtoiErrMem
set_option maxRecDepth 100000
namespace Go.Proofs.YtlgfhbfdjckdnaaDoor
open Go.RowKit

theorem tab_upW {w w' : World} (h : Pow10 w.heap.size w) (hb : Below w.heap.size w w') : Pow10 w'.heap.size w' := fun w2 h2 => h w2 (hb.trans (h2.mono hb.size))
theorem below_bytes {w w' : World} (h : w' = w ∨ ∃ t, w' = Lib.bytesWorld w 5 t) : Below w.heap.size w w' := by
  rcases h with rfl | ⟨t, rfl⟩
  · exact Below.refl _ _
  · exact Lib.bytesWorld_below w 5 t
theorem parseW_end {s : List UInt8} (h : ∀ v, Lib.atoiAll s ≠ .ok v) : parseW s = none := by
  unfold parseW
  split
  · next v hv => exact absurd hv (h v)
  · rfl

set_option maxHeartbeats 2000000 in
theorem wparse_bad (w : World) (s : ByteArray) (hlim : s.size ≤ 281474976710656) (t1 p1 t2 p2 : _) (hs1 : w.cell? ⟨1, 0, none⟩ = some (.iface t1 p1)) (hs2 : w.cell? ⟨2, 0, none⟩ = some (.iface t2 p2)) (hbad : ∀ v, Lib.atoiAll s.data.toList ≠ .ok v) :
    Calls Tryd.prog 22 #[.string s] w fun e w' => e = .returned (.tuple #[.int .i64 0, .bool false]) ∧ Below w.heap.size w w' := by
  have HC : Hid (Calls Tryd.prog 32 #[.string s, .int .i64 10, .int .i64 64] w fun e w' => ∃ (v : Int) (N : Nat), e = .returned (.tuple #[.int .i64 v, .iface 72 (.pointer (some ⟨N, 0, none⟩))]) ∧ Below w.heap.size w w') := by
    refine Lib.hid ?_
    rcases h : Lib.atoiAll s.data.toList with v | _ | _
    · exact absurd h (hbad v)
    · exact (Tryd.strconv_ParseInt_10_at64_syntax s hlim (by rw [Lib.parseIntB_64]; exact h) _ w hs1 (Or.inr ⟨_, _, rfl⟩)).mono (by rintro e w2 ⟨N, rfl, _, _, hb⟩; exact ⟨_, N, rfl, hb⟩)
    · exact (Tryd.strconv_ParseInt_10_at64_range s hlim (by rw [Lib.parseIntB_64]; exact h) _ w hs2 (Or.inr ⟨_, _, rfl⟩)).mono (by rintro e w2 ⟨N, rfl, _, _, hb⟩; exact ⟨_, N, rfl, hb⟩)
  clear hs1 hs2 hbad
  go_enter Tryd.func22, Tryd.ntmps22
  go_wp2_with (go_at_call 32; refine HC.out.mono ?_; rintro e w2 ⟨v, N, rfl, hb⟩)
  go_ret2
  exact ⟨rfl, hb⟩

set_option maxHeartbeats 2000000 in
theorem wparse_ok (w : World) (htab : Pow10 w.heap.size w) (s : ByteArray) (hlim : s.size ≤ 281474976710656) (v : Int) (hv : Lib.atoiAll s.data.toList = .ok v) (b : Bool) (hb : ((numB v).toList == s.toList) = b) :
    Calls Tryd.prog 22 #[.string s] w fun e w' => e = .returned (.tuple #[.int .i64 (if b then v else 0), .bool b]) ∧ Below w.heap.size w w' := by
  have hbd := Lib.atoiAll_bounds hv
  have HC := Lib.hid (Tryd.strconv_ParseInt_10_at64_ok s (by omega) v (by rw [Lib.parseIntB_64]; exact hv) w)
  have HT := Lib.hid htab
  obtain ⟨x, hx⟩ : ∃ x, numB v = x := ⟨_, rfl⟩
  rw [hx] at hb
  have HX := Lib.hid hx
  have HL := Lib.hid hbd
  clear hv htab hx hbd
  have hn : (x.toList != s.toList) = !b := by rw [← hb]; rfl
  cases b with
  | false =>
    go_enter Tryd.func22, Tryd.ntmps22
    go_wp2_with (first
      | (go_at_call 32; refine HC.out.mono ?_; rintro e w2 ⟨rfl, hw⟩; have hb2 : Below w.heap.size w w2 := below_bytes hw; clear hw; have HN := Lib.hid (wnumber_any w2 (tab_upW HT.out hb2) v HL.out.1 HL.out.2))
      | (go_at_call 30; refine HN.out.mono ?_; rintro e w3 ⟨rfl, hb3⟩; rw [HX.out]))
    go_ret2
    exact ⟨rfl, hb2.trans (hb3.mono hb2.size)⟩
  | true =>
    go_enter Tryd.func22, Tryd.ntmps22
    go_wp2_with (first
      | (go_at_call 32; refine HC.out.mono ?_; rintro e w2 ⟨rfl, hw⟩; have hb2 : Below w.heap.size w w2 := below_bytes hw; clear hw; have HN := Lib.hid (wnumber_any w2 (tab_upW HT.out hb2) v HL.out.1 HL.out.2))
      | (go_at_call 30; refine HN.out.mono ?_; rintro e w3 ⟨rfl, hb3⟩; rw [HX.out]))
    go_ret2
    exact ⟨rfl, hb2.trans (hb3.mono hb2.size)⟩
end Go.Proofs.YtlgfhbfdjckdnaaDoor
