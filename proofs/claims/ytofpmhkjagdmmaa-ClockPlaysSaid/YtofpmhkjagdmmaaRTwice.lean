/- The law's 'twice': two answers hold the same alarms; the second still does when the first is written over. -/
import Derived.Test.YtofpmhkjagdmmaaRSame
set_option maxRecDepth 100000
namespace Go.Proofs.Ytofpmhkjagdmmaa
open Go.RowKit

set_option maxHeartbeats 4000000 in
theorem twice_any (w : World) (b1 b2 b3 : Nat) (v1 v2 v3 : Value) (A : List Al) (h1 : Als w b1 v1 A) (h2 : Als w b2 v2 A) (h3 : RAls w b3 v3 A) (hl : A.length ≤ 1048576) (hb1 : b1 ≤ w.heap.size) (hap : v1.ownBlock = none ∨ v1.ownBlock ≠ v2.ownBlock) :
    Calls Try.prog 22 #[v1, v2, v3] w fun r w' => r = .returned (.bool true) ∧ Frm [v1.ownBlock] w w' := by
  obtain ⟨i1, hti, hz0, hz1, hz2⟩ := info_parts info_al
  obtain ⟨a1, c1, rfl⟩ := h1.shape
  obtain ⟨a2, c2, rfl⟩ := h2.shape
  obtain ⟨a3, c3, rfl⟩ := OwnF.shape h3
  have hap3 := own_row h3 h1 (by decide)
  have S1 := Lib.hid (same_any w b1 b3 _ _ A h1 h3 hl)
  have H2 := Lib.hid h2
  have H3 := Lib.hid h3
  have HAP := Lib.hid hap
  have HAP3 := Lib.hid hap3
  clear h2 h3 hap hap3
  go_enter Try.func22, Try.ntmps22
  go_wp2_with (go_at_call 19; refine S1.out.mono ?_; rintro e w1 ⟨rfl, hb⟩; refine Hid.out ?_)
  refine Lib.hid ?_
  have h1' := h1.kept hb
  have hf1 : Frm [(Value.slice a1 A.length c1).ownBlock] w w1 := Frm.ofBelow hb
  clear h1 hb S1
  go_wp2_with fail
  go_loopg [7] A.length (fun gh s7 wx => ∃ (i : Nat) (B : List Al), i + gh = A.length ∧ s7 = .int .i64 (i : Int) ∧ Hid (B.length = A.length) ∧ Als wx b1 (.slice a1 A.length c1) B ∧ Frm [(Value.slice a1 A.length c1).ownBlock] w wx)
  case atStart => exact ⟨0, A, by omega, rfl, rfl, h1', hf1⟩
  case round =>
    clear h1' hf1
    obtain ⟨i, B, hig, rfl, hBl, hO, hF⟩ := hrel
    have hzr := hF.size
    by_cases hi : i < A.length
    · have hiB : i < B.length := by rw [hBl.out]; exact hi
      obtain ⟨g, rfl, -, -, hg⟩ := hO.some (by omega)
      have x2 : wr.cell? ⟨g, i * 4 + 2, none⟩ = some (.string B[i].via) := hO.at cellA_len (i := i) (j := 2) hiB (by omega)
      have fz := hO.free (i * 4 + 2)
      have hset := hO.set cellA_len hiB (show 2 < 4 by omega) (.string ⟨#[115, 112, 111, 105, 108, 116]⟩) ⟨B[i].due, B[i].token, ⟨#[115, 112, 111, 105, 108, 116]⟩, B[i].inst⟩ rfl
      have hF2 := hF.grown (grownBy_setCell wr g (i * 4 + 2) (.string ⟨#[115, 112, 111, 105, 108, 116]⟩)) (by simp [Value.ownBlock])
      obtain ⟨y, hy⟩ : ∃ y, B[i].via = y := ⟨_, rfl⟩
      rw [hy] at x2
      have HS := Lib.hid hset
      have HF2 := Lib.hid hF2
      have HL := Lib.hid (show ∀ z, (B.set i z).length = A.length from fun z => by rw [List.length_set, hBl.out])
      clear hset hF2 hy
      go_wp2_with fail
      go_roundg (A.length - (i + 1))
      case measure => omega
      case rel => exact ⟨i + 1, _, by omega, by go_num, Lib.hid (HL.out _), HS.out, HF2.out⟩
    · have hk : ¬ ((i : Int) < (A.length : Int)) := by omega
      rw [← hBl.out] at hO
      have hzb : b1 ≤ wr.heap.size := by omega
      obtain ⟨Wb, rfl⟩ : ∃ Wb : World, Wb = wr := ⟨_, rfl⟩
      go_wp2_with fail
      go_loopg [0, 8] 9 (fun gh s0 s8 wx => ∃ (k : Nat) (C : List Al), k + gh = 9 ∧ s8 = .int .i64 (k : Int) ∧ Hid (C.length = A.length + k) ∧ Als wx b1 s0 C ∧ Frm [(Value.slice a1 A.length c1).ownBlock] w wx ∧ Fresh w (.slice a1 A.length c1) s0)
      case atStart => exact ⟨0, B, by omega, rfl, hBl.out, by rw [← hBl.out]; exact hO, hF, Fresh.refl _ _⟩
      case round =>
        obtain ⟨k, C, hkg, rfl, hCl, hO2, hF2, hN2⟩ := hrel
        have hzr2 := hF2.size
        by_cases hk9 : k < 9
        · have hC8 : C.length ≤ 1048585 := by rw [hCl.out]; omega
          have hbr : b1 ≤ wr.heap.size := by omega
          go_wp2_with (at_builtin; refine wpList_append_own_at _ rfl _ _ 29 rfl b1 33 i1 _ 4 40 Try.underlying29 hti hz0 hz1 hz2 rfl (by decide) u0 C.length (cellsF cellA C) rfl (hO2.kept ((Below.refl _ _).alloc (Nat.le_refl _) _)) _ 1 1 (cellA ⟨7, 0, default, 0⟩) rfl rfl (cells_new wr _ _) (cellA_one _) (by unfold maxLen; omega) (by omega) (by simp; omega) ?_; intro v6 w6 hown6 hg6 _ hat6)
          have hO6 := als_push hown6
          have hF6 : Frm [u0.ownBlock] wr w6 := (Frm.ofBelow (((Below.refl wr.heap.size wr).alloc (Nat.le_refl _) (.cells #[.int .i64 7, .int .i64 0, .string default, .int .i64 0] 33)))).grown hg6 (by simp)
          have hF7 : Frm [(Value.slice a1 A.length c1).ownBlock] w w6 := hF2.trans0 hF6 (fun r hr => by
            rw [List.mem_singleton.1 hr]
            rcases hN2 with h | ⟨q, h, hq⟩
            · exact Or.inr (Or.inl (by rw [h]; simp))
            · exact Or.inr (Or.inr ⟨q, h, hq⟩))
          have hN6 : Fresh w (.slice a1 A.length c1) v6 := hN2.trans (w1 := wr) (hat6.imp id (fun h => ⟨_, h, by simp⟩)) hzr2
          go_roundg (9 - (k + 1))
          case measure => omega
          case rel => exact ⟨k + 1, _, by omega, by go_num, Lib.hid (by rw [List.length_append, hCl.out]; simp; omega), hO6, hF7, hN6⟩
        · obtain rfl : k = 9 := by omega
          obtain ⟨a0, c0, rfl⟩ := hO2.shape
          have h2' : Als wr b2 (.slice a2 A.length c2) A := own_frm H2.out hF2 (fun r hr => by
            rw [List.mem_singleton.1 hr]
            exact HAP.out)
          have h3' : RAls wr b3 (.slice a3 A.length c3) A := own_frm H3.out hF2 (fun r hr => by
            rw [List.mem_singleton.1 hr]
            exact HAP3.out)
          have S2 := Lib.hid (same_any wr b2 b3 _ _ A h2' h3' hl)
          have e9 : (((C.length : Nat) : Int) == (A.length : Int) + 9) = true := by rw [hCl.out]; simp
          clear h2' h3' hO2
          go_wp2_with (go_at_call 19; refine S2.out.mono ?_; rintro e w8 ⟨rfl, hb8⟩; refine Hid.out ?_)
          refine Lib.hid ?_
          go_wp2_with fail
          go_ret
          exact ⟨rfl, hF2.below hb8⟩

end Go.Proofs.Ytofpmhkjagdmmaa
