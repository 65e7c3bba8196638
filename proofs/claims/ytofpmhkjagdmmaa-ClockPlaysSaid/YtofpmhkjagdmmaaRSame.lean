/- The law's 'same' at rows that hold the same alarms. -/
import Derived.Test.YtofpmhkjagdmmaaRDrop
import Derived.Test.YtofpmhkjagdmmaaClockTwo
set_option maxRecDepth 100000
namespace Go.Proofs.Ytofpmhkjagdmmaa
open Go.RowKit

theorem equal_alS (w : World) (x : Al) : (Op.equalIn 10000 33 (valA x) (valA x)).run Try.prog w = .ok true w := by
  obtain ⟨xd, xt, xv, xi⟩ := x
  rw [show (10000 : Nat) = 9999 + 1 from rfl, run_equalIn_struct w 9999 33 _ _ (by kernel_rfl) (by kernel_rfl)]
  simp [go_sem, Op.eqFields]
theorem neq_alS (w : World) (x : Al) : (binOp .neq 33 (valA x) (valA x)).run Try.prog w = .ok (.bool false) w := by
  rw [run_neq_struct, equal_alS]; rfl

set_option maxHeartbeats 4000000 in
theorem same_any (w : World) (b1 b2 : Nat) (v1 v2 : Value) (A : List Al) (h1 : Als w b1 v1 A) (h2 : RAls w b2 v2 A) (hl : A.length ≤ 1048576) :
    Calls Try.prog 19 #[v1, v2] w fun r w' => r = .returned (.bool true) ∧ Below w.heap.size w w' := by
  obtain ⟨a1, c1, rfl⟩ := h1.shape
  obtain ⟨a2, c2, rfl⟩ := OwnF.shape h2
  have H1 := Lib.hid h1
  have H2 := Lib.hid h2
  clear h1 h2
  go_enter Try.func19, Try.ntmps19
  go_wp2_with fail
  go_loopg [5] A.length (fun gh s5 wx => ∃ i : Nat, i + gh = A.length ∧ s5 = .int .i64 (i : Int) ∧ Below w.heap.size w wx)
  case atStart => exact ⟨0, by omega, rfl, Below.refl _ _⟩
  case round =>
    obtain ⟨i, hig, rfl, hB⟩ := hrel
    have hzr := hB.size
    by_cases hi : i < A.length
    · have hxr := H1.out.kept hB
      have hyr := H2.out.kept hB
      obtain ⟨gx, rfl, -, -, hgx⟩ := hxr.some (by omega)
      obtain ⟨gy, rfl, -, -, hgy⟩ := hyr.some (by omega)
      have x0 : wr.cell? ⟨gx, i * 4, none⟩ = some (.int .i64 A[i].due) := hxr.at cellA_len (i := i) (j := 0) hi (by omega)
      have x1 : wr.cell? ⟨gx, i * 4 + 1, none⟩ = some (.int .i64 A[i].token) := hxr.at cellA_len (i := i) (j := 1) hi (by omega)
      have x2 : wr.cell? ⟨gx, i * 4 + 2, none⟩ = some (.string A[i].via) := hxr.at cellA_len (i := i) (j := 2) hi (by omega)
      have x3 : wr.cell? ⟨gx, i * 4 + 3, none⟩ = some (.int .i64 A[i].inst) := hxr.at cellA_len (i := i) (j := 3) hi (by omega)
      have y0 : wr.cell? ⟨gy, i * 4, none⟩ = some (.int .i64 A[i].due) := hyr.at cellA_len (i := i) (j := 0) hi (by omega)
      have y1 : wr.cell? ⟨gy, i * 4 + 1, none⟩ = some (.int .i64 A[i].token) := hyr.at cellA_len (i := i) (j := 1) hi (by omega)
      have y2 : wr.cell? ⟨gy, i * 4 + 2, none⟩ = some (.string A[i].via) := hyr.at cellA_len (i := i) (j := 2) hi (by omega)
      have y3 : wr.cell? ⟨gy, i * 4 + 3, none⟩ = some (.int .i64 A[i].inst) := hyr.at cellA_len (i := i) (j := 3) hi (by omega)
      obtain ⟨x, hx⟩ : ∃ x, A[i] = x := ⟨_, rfl⟩
      rw [hx] at x0 x1 x2 x3 y0 y1 y2 y3
      have hne := fun W => neq_alS W x
      have hi2 : (i : Int) < (A.length : Int) := by omega
      have hi0 : (0 : Int) ≤ (i : Int) := by omega
      have hD : Below wr.heap.size wr wr.drew := (Below.refl _ _).drew
      have HG := Lib.hid (given_any wr.drew x)
      clear hx hxr hyr
      go_wp2_with fail
      go_region_held3 (fun w' => w'.cell? ⟨gx, i * 4, none⟩ = some (.int .i64 x.due) ∧ w'.cell? ⟨gx, i * 4 + 1, none⟩ = some (.int .i64 x.token) ∧ w'.cell? ⟨gx, i * 4 + 2, none⟩ = some (.string x.via) ∧ w'.cell? ⟨gx, i * 4 + 3, none⟩ = some (.int .i64 x.inst) ∧ w'.cell? ⟨gy, i * 4, none⟩ = some (.int .i64 x.due) ∧ w'.cell? ⟨gy, i * 4 + 1, none⟩ = some (.int .i64 x.token) ∧ w'.cell? ⟨gy, i * 4 + 2, none⟩ = some (.string x.via) ∧ w'.cell? ⟨gy, i * 4 + 3, none⟩ = some (.int .i64 x.inst))
        (first | go_keep | (refine ⟨?_, ?_, ?_, ?_, ?_, ?_, ?_, ?_⟩ <;> (first | (rw [Below.cellB HB7 hgx]; assumption) | (rw [Below.cellB HB7 hgy]; assumption))))
        (first | (go_at_call 10; refine HG.out.mono ?_; rintro e w7 ⟨rfl, hb7⟩; have HB7 : Below wr.heap.size wr w7 := hD.trans hb7))
      go_wp2_with fail
      go_roundg (A.length - (i + 1))
      case measure => omega
      case rel => exact ⟨i + 1, by omega, by go_num, hB.trans (HB7.mono hzr)⟩
    · have hk : ¬ ((i : Int) < (A.length : Int)) := by omega
      go_wp2_with fail
      go_ret
      exact ⟨rfl, hB⟩

end Go.Proofs.Ytofpmhkjagdmmaa
