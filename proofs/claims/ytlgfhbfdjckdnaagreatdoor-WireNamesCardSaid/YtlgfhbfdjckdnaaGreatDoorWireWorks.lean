/- The laws' works (seat wire). -/
import Derived.Test.YtlgfhbfdjckdnaaGreatDoorWireLawR
import Derived.Test.YtlgfhbfdjckdnaaGreatDoorWireSample
import Derived.Test.YtlgfhbfdjckdnaaGreatDoorWireAns3
set_option maxRecDepth 100000
namespace Go.Proofs.YtlgfhbfdjckdnaaGreatDoor
open Go.RowKit

theorem itoa_200 : Lib.itoa 200 = [50, 48, 48] := by
  unfold Lib.itoa
  rw [if_neg (by decide), show (200 : Int).toNat = 200 from rfl, Lib.decDigits, dif_neg (by decide), Lib.decDigits, dif_neg (by decide), Lib.decDigits, dif_pos (by decide)]
  rfl
theorem itoa_2 : Lib.itoa 2 = [50] := by
  unfold Lib.itoa
  rw [if_neg (by decide), show (2 : Int).toNat = 2 from rfl, Lib.decDigits, dif_pos (by decide)]
  rfl
def okB : ByteArray := ⟨#[72, 84, 84, 80, 47, 49, 46, 49, 32, 50, 48, 48, 32, 79, 75, 13, 10, 99, 111, 110, 116, 101, 110, 116, 45, 108, 101, 110, 103, 116, 104, 58, 32, 50, 13, 10, 99, 111, 110, 116, 101, 110, 116, 45, 116, 121, 112, 101, 58, 32, 97, 112, 112, 108, 105, 99, 97, 116, 105, 111, 110, 47, 106, 115, 111, 110, 13, 10, 13, 10, 123, 125]⟩
theorem answer_200 : answerB 200 ⟨#[123, 125]⟩ = okB := by
  refine bytes_ext ?_
  unfold answerB
  rw [app_list]
  unfold aheadB aheadL leadL
  rw [itoa_200, show ((ByteArray.mk #[123, 125]).size : Int) = 2 from rfl, itoa_2]
  rfl
theorem sample_row : (feedS sampleL).1 = [⟨⟨#[80, 79, 83, 84]⟩, ⟨#[47, 120]⟩, ⟨#[107]⟩, ⟨#[97, 98]⟩, 0⟩, ⟨⟨#[71, 69, 84]⟩, ⟨#[47]⟩, ⟨#[]⟩, ⟨#[]⟩, 0⟩] := sample_told

set_option maxHeartbeats 2000000 in
theorem works_any (w : World) (hg : Gnd w) : Calls Tryz.prog 14 #[] w fun e w' => e = .returned (.bool true) ∧ Below w.heap.size w w' := by
  have HR : Hid (∀ s : ByteArray, s.data.toList = sampleL → Calls Tryz.prog 16 #[.string s] w fun e w' => ∃ g c, e = .returned (.slice (some ⟨g, 0, none⟩) 2 c) ∧ 2 ≤ c ∧ w.heap.size ≤ g ∧ g < w'.heap.size ∧ w'.cell? ⟨g, 0, none⟩ = some (.string ⟨#[80, 79, 83, 84]⟩) ∧ w'.cell? ⟨g, 1, none⟩ = some (.string ⟨#[47, 120]⟩) ∧ w'.cell? ⟨g, 2, none⟩ = some (.string ⟨#[107]⟩) ∧ w'.cell? ⟨g, 3, none⟩ = some (.string ⟨#[97, 98]⟩) ∧ w'.cell? ⟨g, 4, none⟩ = some (.int .i64 0) ∧ w'.cell? ⟨g, 5, none⟩ = some (.string ⟨#[71, 69, 84]⟩) ∧ Below w.heap.size w w') := by
    refine Lib.hid (fun s hs => (lread_any w hg s (by rw [← len_list, hs]; decide)).mono ?_)
    rintro e w' ⟨v, rfl, hO, hb⟩
    rw [hs, sample_row] at hO
    rcases hO.val with ⟨_, hA⟩ | ⟨g, c, rfl, h1, h2⟩
    · cases hA
    · have at' := fun i j (hi : i < 2) (hj : j < 5) => OwnF.at fG_len hO (i := i) (j := j) hi hj
      exact ⟨g, c, rfl, hO.cap, h1, h2, at' 0 0 (by omega) (by omega), at' 0 1 (by omega) (by omega), at' 0 2 (by omega) (by omega), at' 0 3 (by omega) (by omega), at' 0 4 (by omega) (by omega), at' 1 0 (by omega) (by omega), hb⟩
  have HA : Hid (∀ W, Below w.heap.size w W → Calls Tryz.prog 17 #[.agg #[.int .i64 200, .string ⟨#[123, 125]⟩]] W fun e w' => e = .returned (.tuple #[.string okB, .int .i64 0]) ∧ Below W.heap.size W w') := by
    refine Lib.hid (fun W hW => (answer_any W (hg.up hW) 200 (by decide) (by unfold I64n; decide) ⟨#[123, 125]⟩ (by decide)).mono ?_)
    rintro e w' ⟨rfl, hb⟩
    refine ⟨?_, hb⟩
    unfold ansV
    rw [answer_200]
    rfl
  clear hg
  go_enter Tryz.func14, Tryz.ntmps14
  go_wp2_with (first
    | (go_at_call 16; refine (HR.out _ (by rfl)).mono ?_; rintro e w2 ⟨g, c, rfl, hc, hg1, hg2, k0, k1, k2, k3, k4, k5, hb2⟩)
    | (go_at_call 17; refine (HA.out _ hb2).mono ?_; rintro e w3 ⟨rfl, hb3⟩; have j0 : w3.cell? ⟨g, 0, none⟩ = _ := (Below.cellB hb3 hg2).trans k0; have j1 : w3.cell? ⟨g, 1, none⟩ = _ := (Below.cellB hb3 hg2).trans k1; have j2 : w3.cell? ⟨g, 2, none⟩ = _ := (Below.cellB hb3 hg2).trans k2; have j3 : w3.cell? ⟨g, 3, none⟩ = _ := (Below.cellB hb3 hg2).trans k3; have j4 : w3.cell? ⟨g, 4, none⟩ = _ := (Below.cellB hb3 hg2).trans k4; have j5 : w3.cell? ⟨g, 5, none⟩ = _ := (Below.cellB hb3 hg2).trans k5))
  go_ret
  refine ⟨?_, hb2.trans (hb3.mono hb2.size)⟩
  refine ret_bool ?_
  rw [show okB.toList = okB.data.toList from ByteArray.toList_eq _]
  rfl
end Go.Proofs.YtlgfhbfdjckdnaaGreatDoor
