/- strconv.AppendInt at base 10 onto a slice of the call's own: the same numeral as the shelf's contract, and a closer frame: of the old blocks just the slice's own row turns. -/
import Derived.Test.YtbolacnpljkpbaaDoorAppCol
import Derived.Test.YtbolacnpljkpbaaDoorShelf
import Derived.Lib.AppendIntMem
import Derived.Lib.ItoaLen
import Derived.Lib.Slices
import Derived.Maps.AppendAt
import Derived.Maps.Range
set_option maxRecDepth 100000
namespace Go.Proofs.YtbolacnpljkpbaaDoor
open Go.RowKit Go.Sort Go.Maps

theorem info_byte : (Tryd.prog.info? 5).map (fun i => (i.zero, i.size, i.bytes)) = some (some (.int .u8 0), 1, 1) := by kernel_rfl
abbrev Pow10 (B : Nat) (w : World) : Prop := Lib.TabBelow Tryd.prog B w "internal/strconv.uint64pow10" .u64 Lib.pow10Tab
theorem tab_up {B B' : Nat} {w : World} (h : Pow10 B w) (hB : B ≤ B') : Pow10 B' w := fun w' hb => h w' (hb.mono hB)
theorem byteCells_one (b : UInt8) : Lib.byteCells [b] = [Value.int .u8 (b.toNat : Int)] := rfl
theorem byteCells_append (a b : List UInt8) : Lib.byteCells (a ++ b) = Lib.byteCells a ++ Lib.byteCells b := by simp [Lib.byteCells]

def AppPost (w : World) (B n : Nat) (sv : Value) (xs : List Value) (l : List UInt8) (e : Ending) (w' : World) : Prop :=
  ∃ v', e = .returned v' ∧ w'.ownsRow B 5 1 v' (n + l.length) (xs ++ Lib.byteCells l) ∧ w.grownBy w' sv.ownBlock

set_option maxHeartbeats 3200000 in
theorem appUint_small (B n u : Nat) (hu : u < 100) (sv : Value) (xs : List Value) (w : World) (hown : w.ownsRow B 5 1 sv n xs) (hB : B ≤ w.heap.size) (hlim : n + 20 ≤ 140737488355328) :
    Calls Tryd.prog 95 #[sv, .int .u64 u, .int .i64 10] w (AppPost w B n sv xs (Lib.decDigits u)) := by
  obtain ⟨i0, hi, hz0, hz1, hz2⟩ := info_parts info_byte
  have hlen : (Lib.decDigits u).length ≤ 20 := by
    rw [Lib.decDigits_length]
    by_cases h10 : u < 10
    · rw [Lib.nDigits_small h10]; omega
    · rw [Lib.nDigits_big h10, Lib.nDigits_small (show u / 10 < 10 by omega)]; omega
  obtain ⟨s, hs⟩ : ∃ s : ByteArray, s = ⟨(Lib.decDigits u).toArray⟩ := ⟨_, rfl⟩
  have hsz : s.size = (Lib.decDigits u).length := by rw [hs]; simp [ByteArray.size]
  have HS := Lib.hid (And.intro hs hsz)
  have hsl : s.size ≤ 20 := by omega
  have Hc : Calls Tryd.prog 101 #[.int .i64 u] w fun e w' => e = .returned (.string s) ∧ w' = w := by rw [hs]; exact Tryd.internal_strconv_small u hu w
  clear hs hsz
  go_enter Tryd.func95, Tryd.ntmps95
  go_wp2_with (first
    | (go_at_call 101; refine Hc.mono ?_; rintro e w' ⟨rfl, rfl⟩)
    | (at_builtin; refine Lib.wpList_append_own_string _ rfl _ _ 103 9 rfl B 5 i0 Tryd.underlying103 Tryd.underlying9 hi hz0 hz1 hz2 _ _ _ rfl hown s rfl (by unfold maxLen; omega) (by omega) hB ?_))
  intro v' w1 hown1 hgrow _
  go_wp2
  go_ret
  refine ⟨v', rfl, ?_, hgrow⟩
  rw [HS.out.2] at hown1
  rw [HS.out.1] at hown1
  exact hown1

set_option maxHeartbeats 6400000 in
theorem appUint_big (B n u : Nat) (hu : 100 ≤ u) (hu64 : u < 18446744073709551616) (sv : Value) (xs : List Value) (w : World) (hown : w.ownsRow B 5 1 sv n xs) (hB : B ≤ w.heap.size) (hlim : n + 20 ≤ 140737488355328)
    (htab : Lib.TabIs Tryd.prog w "internal/strconv.uint64pow10" .u64 Lib.pow10Tab) :
    Calls Tryd.prog 95 #[sv, .int .u64 u, .int .i64 10] w (AppPost w B n sv xs (Lib.decDigits u)) := by
  obtain ⟨i0, hi, hz0, hz1, hz2⟩ := info_parts info_byte
  have hu1 : 1 ≤ u := by omega
  have hnd : Lib.nDigits u ≤ 20 := by have := Lib.numDigits_eq u hu1 hu64; split at this <;> omega
  obtain ⟨nd, hndE⟩ : ∃ nd, nd = Lib.nDigits u := ⟨_, rfl⟩
  have harr : Tryd.prog.arrayLen 142 = 24 := by kernel_rfl
  have hH0 := Lib.holds_zero0 w 142 nd (by omega)
  have Hd : Calls Tryd.prog 102 #[.int .u64 u] (w.alloc (.cells Lib.zeros24 142)) fun e w' => e = .returned (.int .i64 nd) ∧ w' = w.alloc (.cells Lib.zeros24 142) := by
    rw [hndE]; exact Tryd.internal_strconv_numDigits u hu1 hu64 _ (Lib.tabIs_alloc htab _)
  have Hf := Tryd.internal_strconv_formatBase10 w.heap.size 0 24 u (Array.replicate nd 0) (w.alloc (.cells Lib.zeros24 142)) hH0 (by rw [Array.size_replicate, hndE]; exact Lib.lt_pow_nDigits u) hu64 (by rw [Array.size_replicate]; omega)
  rw [Array.size_replicate] at Hf
  have hsl : ∀ W, (Instr.sliceAt 142 (.pointer (some ⟨w.heap.size, 0, none⟩)) none (some (.int .i64 (nd : Int))) none).run Tryd.prog W = .ok (.slice (some ⟨w.heap.size, 0, none⟩) nd 24) W := fun W => by
    rw [run_sliceAt_array_h W 142 ⟨w.heap.size, 0, none⟩ (by rw [harr]; kernel_rfl) .i64 (nd : Int) (by omega) (by rw [harr]; omega)]
    rw [harr]
    have hso : ∀ w, (sizeOf (Tryd.prog.elem 142)).run Tryd.prog w = .ok 1 w := fun w => by kernel_rfl
    rw [hso]
    rfl
  have HH0 := Lib.hid hH0
  have HE := Lib.hid hndE
  have iu : (100 : Int) ≤ (u : Int) := by omega
  have hnd20 : nd ≤ 20 := by omega
  clear hH0 harr hndE hnd
  go_enter Tryd.func95, Tryd.ntmps95
  go_wp2_with (go_at_call 102; refine Hd.mono ?_; rintro e w' ⟨rfl, rfl⟩)
  refine Hf.mono ?_
  rintro e w' ⟨rfl, k, v', dk, rfl, hF⟩
  have hcells : ∀ j u', (Lib.byteCells (Lib.decDigits u))[j]? = some u' → ((putRow (fun (b : UInt8) => Value.int .u8 (b.toNat : Int)) (w.alloc (.cells Lib.zeros24 142)) w.heap.size 0 dk).drewN k).cell? ((⟨w.heap.size, 0, none⟩ : Addr).add j) = some u' := by
    intro j u' hj
    rw [HE.out] at hF
    have hjl : j < (Lib.decDigits u).length := by
      have h5 := (List.getElem?_eq_some_iff.1 hj).1
      rwa [Lib.byteCells_length] at h5
    have e5 : (Lib.byteCells (Lib.decDigits u))[j]? = some (Value.int .u8 ((Lib.decDigits u)[j].toNat : Int)) := by simp [Lib.byteCells, hjl]
    have hH := HH0.out
    rw [HE.out] at hH
    rw [e5] at hj
    cases hj
    rw [Lib.row_is_numeral hF j hjl, Lib.add_plain, World.cell?_drewN]
    exact cell?_putRow (fun (b : UInt8) => Value.int .u8 (b.toNat : Int)) _ w.heap.size 0 _ dk hH (by rw [hF.size, Array.size_replicate]) j (by rw [hF.size]; rw [Lib.decDigits_length] at hjl; exact hjl)
  obtain ⟨os, eo⟩ := Lib.fin_at w (.cells Lib.zeros24 142) dk k 0
  have hown2 := Lib.ownsRow_grow hown k os
  have hbel2 := Lib.below_grow w.heap.size w (Nat.le_refl _) k os
  rw [← eo] at hown2 hbel2
  obtain ⟨W2, hW2⟩ : ∃ W2, (putRow (fun (b : UInt8) => Value.int .u8 (b.toNat : Int)) (w.alloc (.cells Lib.zeros24 142)) w.heap.size 0 dk).drewN k = W2 := ⟨_, rfl⟩
  rw [hW2] at hcells hown2 hbel2
  have hsz2 := hbel2.size
  rw [hW2]
  clear hW2 eo HH0 Hf Hd
  have hblen : (Lib.byteCells (Lib.decDigits u)).length = nd * 1 := by rw [Lib.byteCells_length, Lib.decDigits_length, HE.out, Nat.mul_one]
  go_wp2_with (at_builtin; refine wpList_append_own _ rfl _ _ 103 rfl B 5 i0 (.int .u8 0) 1 1 Tryd.underlying103 hi hz0 hz1 hz2 rfl (by decide) _ _ _ rfl hown2 ⟨w.heap.size, 0, none⟩ nd 24 (Lib.byteCells (Lib.decDigits u)) rfl hblen hcells (by intro u' hu'; simp only [Lib.byteCells, List.mem_map] at hu'; obtain ⟨b, _, rfl⟩ := hu'; rfl) (by unfold maxLen; omega) (by omega) (by omega) ?_)
  intro v2 w3 hown3 hgrow _
  go_wp2
  go_ret
  refine ⟨v2, rfl, ?_, (below_grownBy hbel2 _).trans hgrow⟩
  rw [Lib.decDigits_length, ← HE.out]
  exact hown3

theorem appUint_any (B n u : Nat) (hu64 : u < 18446744073709551616) (sv : Value) (xs : List Value) (w : World) (hown : w.ownsRow B 5 1 sv n xs) (hB : B ≤ w.heap.size) (hlim : n + 20 ≤ 140737488355328)
    (htab : Lib.TabIs Tryd.prog w "internal/strconv.uint64pow10" .u64 Lib.pow10Tab) :
    Calls Tryd.prog 95 #[sv, .int .u64 u, .int .i64 10] w (AppPost w B n sv xs (Lib.decDigits u)) := by
  by_cases h : u < 100
  · exact appUint_small B n u h sv xs w hown hB hlim
  · exact appUint_big B n u (by omega) hu64 sv xs w hown hB hlim htab

set_option maxHeartbeats 6400000 in
theorem appInt_inner (B n : Nat) (i : Int) (h0 : -9223372036854775808 ≤ i) (h1 : i ≤ 9223372036854775807) (sv : Value) (xs : List Value) (w : World) (hown : w.ownsRow B 5 1 sv n xs) (hB : B ≤ w.heap.size) (hlim : n + 21 ≤ 140737488355328)
    (htab : Pow10 B w) :
    Calls Tryd.prog 80 #[sv, .int .i64 i, .int .i64 10] w (AppPost w B n sv xs (Lib.itoa i)) := by
  obtain ⟨i0, hi, hz0, hz1, hz2⟩ := info_parts info_byte
  by_cases hneg : i < 0
  · obtain ⟨u, rfl⟩ : ∃ u : Nat, i = -(u : Int) := ⟨i.natAbs, by omega⟩
    have hu1 : 1 ≤ u := by omega
    have hu64 : u < 18446744073709551616 := by omega
    have hwr : IntKind.u64.wrap (-IntKind.u64.wrap (-(u : Int))) = (u : Int) := by rw [IntKind.wrap_u64, IntKind.wrap_u64]; omega
    rw [Lib.itoa_neg u hu1]
    go_enter Tryd.func80, Tryd.ntmps80
    go_wp2_with (at_builtin; refine wpList_append_own_at _ rfl _ _ 103 rfl B 5 i0 (.int .u8 0) 1 1 Tryd.underlying103 hi hz0 hz1 hz2 rfl (by decide) _ _ _ rfl (hown.alloc _) ⟨w.heap.size, 0, none⟩ 1 1 [Value.int .u8 45] rfl rfl (by intro j u' hj; match j, hj with | 0, hj => simp at hj; subst hj; simp [Addr.add]) (by intro u' hu'; simp at hu'; subst hu'; rfl) (by unfold maxLen; omega) (by omega) (by simp; omega) ?_)
    intro v1 w1 hown1 hgrow _ hloc
    have hb1 : Below B w w1 := ((Below.refl B w).alloc hB _).grown hgrow (by simp; omega) (fun k hk => (hown.lt k hk).1)
    have htab1 := htab w1 hb1
    go_wp2_with (go_at_call 95; refine (appUint_any B (n + 1) u hu64 v1 _ w1 hown1 (by have := hb1.size; omega) (by omega) htab1).mono ?_; rintro e w2 ⟨v2, rfl, hown2, hg2⟩)
    go_ret
    refine ⟨v2, rfl, ?_, ?_⟩
    · have e1 : n + ((45 : UInt8) :: Lib.decDigits u).length = n + 1 + (Lib.decDigits u).length := by simp; omega
      have e2 : xs ++ Lib.byteCells (45 :: Lib.decDigits u) = xs ++ [Value.int .u8 45] ++ Lib.byteCells (Lib.decDigits u) := by simp [Lib.byteCells]
      rw [e1, e2]
      exact hown2
    · refine ((World.grownBy_alloc w _ _).trans hgrow).andThen hg2 (fun j hj => ?_)
      rcases hloc with h | h
      · exact .inr (h ▸ hj)
      · rw [h] at hj
        cases hj
        exact .inl (by simp)
  · obtain ⟨u, rfl⟩ : ∃ u : Nat, i = u := ⟨i.toNat, by omega⟩
    have hu64 : u < 18446744073709551616 := by omega
    rw [Lib.itoa_nonneg]
    go_enter Tryd.func80, Tryd.ntmps80
    go_wp2_with (go_at_call 95; refine (appUint_any B n u hu64 sv xs w hown hB (by omega) htab.here).mono ?_; rintro e w2 ⟨v2, rfl, hown2, hg2⟩)
    go_ret
    exact ⟨v2, rfl, hown2, hg2⟩

set_option maxHeartbeats 3200000 in
theorem appInt_any (B n : Nat) (i : Int) (h0 : -9223372036854775808 ≤ i) (h1 : i ≤ 9223372036854775807) (sv : Value) (xs : List Value) (w : World) (hown : w.ownsRow B 5 1 sv n xs) (hB : B ≤ w.heap.size) (hlim : n + 21 ≤ 140737488355328)
    (htab : Pow10 B w) :
    Calls Tryd.prog 67 #[sv, .int .i64 i, .int .i64 10] w (AppPost w B n sv xs (Lib.itoa i)) := by
  go_enter Tryd.func67, Tryd.ntmps67
  go_wp2_with (go_at_call 80; refine (appInt_inner B n i h0 h1 sv xs w hown hB hlim htab).mono ?_; rintro e w2 ⟨v2, rfl, hown2, hg2⟩)
  go_ret
  exact ⟨v2, rfl, hown2, hg2⟩
