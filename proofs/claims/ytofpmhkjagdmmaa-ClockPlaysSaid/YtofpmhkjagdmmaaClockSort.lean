/- slices.SortFunc at a row of entries (the row's type has a name of its own: slices.SortFunc is walked here, pdqsortCmpFunc laid). -/
import Derived.Test.YtofpmhkjagdmmaaClockSortR
import Derived.Shelf.SlSortCmp.WholeK
import Derived.Shelf.Lay
import Derived.Ground.SlsfProg
import Derived.Ground.NamesProg
import Derived.Shelf.Small.Bits
set_option maxRecDepth 100000
namespace Go.Proofs
open Go.Shelf Go.RowKit Go.Lib Go.Sort
shelf_lay_g SlLaysF0.n14 Slsf 14 at Try 37 as Try.pdqEnt
shelf_lay Lays.n125 Nm 125 at Try as Try.bitsLenE
namespace Ytofpmhkjagdmmaa

theorem bits_any (n : Nat) (w : World) (hn : n ≤ 1048576) : Calls Try.prog 38 #[.int .u64 (n : Int)] w fun e w' => e = .returned (.int .i64 (Lib.bitLen n : Nat)) ∧ w = w' := by
  have h := Any.bits_Len Try.bitsLenE (n : Int) w (by omega) (by omega)
  rw [Int.toNat_natCast] at h
  exact Calls.mono h fun _ _ ⟨a, b⟩ => ⟨a, b.symm⟩

set_option maxHeartbeats 1000000 in
theorem sort_any (w : World) (base g cap : Nat) (l : List Ent) (h : Row w base (.slice (some ⟨g, 0, none⟩) l.length cap) l) (hl : l.length ≤ 1048576) :
    Calls Try.prog 32 #[.slice (some ⟨g, 0, none⟩) l.length cap, .func (.func 33) #[] #[]] w fun e w' =>
      e = .returned (.tuple #[]) ∧ ∃ S : List Ent, S.Perm l ∧ S.Pairwise (fun a b => ltEnt b a = false) ∧ Row w' base (.slice (some ⟨g, 0, none⟩) l.length cap) S ∧ Frm [some g] w w' := by
  have eg : ∀ args w, (callFunc 33 args).run Try.prog w = .ok (.enter 33 args) w := enters_of Try.func33 (by kernel_rfl) rfl
  have hs : l.toArray.size = l.length := by simp
  have hlim : Lib.bitLen l.length < 4611686018427387904 := Nat.lt_of_le_of_lt (Lib.bitLen_le l.length 62 (by omega) (by omega)) (by omega)
  have hcon := AnyQ.pdqsortCmpFunc_all Try.pdqEnt 5 Try.isAgg67 Try.sizeOf67 cellE cmpEnt 33 #[] swo_ent g 0 cap l.toArray w eg (cmp_lays g 0 l.toArray.size w) ⟨fun _ => rfl, fun x v hv => cellE_one x v hv, h.holds, h.block.2.2.1⟩ (l.length + 1) 0 l.length (Lib.bitLen l.length) l.toArray w (by omega) rfl (SWK.start h.holds) (Nat.zero_le _) (by simp) (by simp; omega) hlim (Or.inl rfl)
  rw [hs] at hcon
  have hfin : ∀ w', SWK cellE 5 w g 0 (pdq (ltOf cmpEnt) l.toArray 0 l.length (Lib.bitLen l.length) true true) w' → ∃ S : List Ent, S.Perm l ∧ S.Pairwise (fun a b => ltEnt b a = false) ∧ Row w' base (.slice (some ⟨g, 0, none⟩) l.length cap) S ∧ Frm [some g] w w' := by
    rintro w' ⟨n, os, rfl⟩
    obtain ⟨hp, hso⟩ := pdq_sorts (ltOf cmpEnt) swo_ent l.toArray 0 l.length (Lib.bitLen l.length) true true (Nat.zero_le _) (by simp) (Or.inl rfl)
    obtain ⟨d', hd'⟩ : ∃ d', pdq (ltOf cmpEnt) l.toArray 0 l.length (Lib.bitLen l.length) true true = d' := ⟨_, rfl⟩
    rw [hd'] at hp hso ⊢
    have hd : d'.size = l.length := by have := hp.1; simpa using this
    obtain ⟨r1, r2⟩ := sort_row (m := n) (os := os) h hd
    refine ⟨d'.toList, ?_, ?_, r1, r2⟩
    · have := hp.2.2
      simp only [Array.toList_extract, List.extract_eq_take_drop, List.drop_zero, Nat.sub_zero] at this
      rwa [List.take_of_length_le (by simp [hd]), List.take_of_length_le (by simp)] at this
    · rw [List.pairwise_iff_getElem]
      intro i j hi hj hij
      have hj' : j < d'.size := by simpa using hj
      have := hso i j (by omega) hij (by omega)
      rw [getElem!_pos d' i (by omega), getElem!_pos d' j (by omega)] at this
      exact this
  obtain ⟨n, hn⟩ : ∃ n, l.length = n := ⟨_, rfl⟩
  rw [hn] at hcon hfin hl ⊢
  have HC := Lib.hid hcon
  have HF := Lib.hid hfin
  have HB := Lib.hid (bits_any n w hl)
  obtain ⟨b, hb⟩ : ∃ b, Lib.bitLen n = b := ⟨_, rfl⟩
  rw [hb] at HC HF HB
  have wr : IntKind.u64.wrap (n : Int) = n := by simp [IntKind.wrap, IntKind.bits, IntKind.signed]; omega
  clear hcon hfin h hb hn hlim hs
  go_enter Try.func32, Try.ntmps32
  go_wp2_with (first | (go_at_call 38; refine HB.out.mono ?_; rintro e w' ⟨rfl, rfl⟩) | (go_at_call 37; refine Calls.mono HC.out ?_; rintro e w' ⟨rfl, hsw⟩))
  go_end0
  exact ⟨rfl, HF.out _ hsw⟩

end Ytofpmhkjagdmmaa
end Go.Proofs
