/- next at a reader without bytes, and at whatever reader (printed by gen_wirenil.py; seat wire). -/
import Derived.Test.YtlgfhbfdjckdnaaGreatDoorWireNext
set_option maxRecDepth 100000
namespace Go.Proofs.YtlgfhbfdjckdnaaGreatDoor
open Go.RowKit

set_option maxHeartbeats 4000000 in
theorem next_nil (w : World) (p b0 : Nat) (hp : w.heap[p]? = some (.cells #[.slice none 0 0, .bool false] 55)) :
    Calls Tryz.prog 21 #[.pointer (some ⟨p, 0, none⟩)] w (NextP w p b0 (nextS [])) := by
  obtain ⟨W1, hW1⟩ : ∃ W1, (w.alloc (.cells #[.pointer (some ⟨p, 0, none⟩)] 23)).alloc (.cells #[.string ⟨#[]⟩, .string ⟨#[]⟩, .string ⟨#[]⟩, .string ⟨#[]⟩, .int .i64 0] 39) = W1 := ⟨_, rfl⟩
  have BW : Hid (Below w.heap.size w W1) := by refine Lib.hid ?_; rw [← hW1]; exact ((Below.refl _ _).alloc (Nat.le_refl _) _).alloc (by simp) _
  have x0 : W1.heap[w.heap.size]? = some (.cells #[.pointer (some ⟨p, 0, none⟩)] 23) := by rw [← hW1]; exact heap_alloc2_old _ _ _
  have x1 : W1.heap[w.heap.size + 1]? = some (.cells #[.string ⟨#[]⟩, .string ⟨#[]⟩, .string ⟨#[]⟩, .string ⟨#[]⟩, .int .i64 0] 39) := by rw [← hW1]; exact heap_alloc2_new _ _ _
  have hsz1 : W1.heap.size = w.heap.size + 2 := by rw [← hW1]; simp
  have hpl := lt_of_block hp
  have hp1 := (BW.out.block _ hpl).trans hp
  have q0 : W1.cell? ⟨w.heap.size, 0, none⟩ = some (.pointer (some ⟨p, 0, none⟩)) := by rw [cell_of_block x0]; rfl
  obtain ⟨c0, c1⟩ := box2R hp1
  have HX := Lib.hid (And.intro x1 hp1)
  obtain ⟨W2, hW2⟩ : ∃ W2, W1.alloc (.cells #[.int .u8 13, .int .u8 10, .int .u8 13, .int .u8 10] 5) = W2 := ⟨_, rfl⟩
  have BW2 : Hid (Below W1.heap.size W1 W2) := by refine Lib.hid ?_; rw [← hW2]; exact (Below.refl _ _).alloc (Nat.le_refl _) _
  obtain ⟨W3, hW3⟩ : ∃ W3, W1.alloc (.cells #[.int .u8 13, .int .u8 10, .int .u8 13, .int .u8 10] 5 (4, 5)) = W3 := ⟨_, rfl⟩
  have BW3 : Hid (Below W1.heap.size W1 W3) := by refine Lib.hid ?_; rw [← hW3]; exact (Below.refl _ _).alloc (Nat.le_refl _) _
  have hcv : (convert 27 27 (.slice (some ⟨W1.heap.size, 0, none⟩) 4 4)).run Tryz.prog W2.drew = .ok (.slice (some ⟨W1.heap.size, 0, none⟩) 4 4) W3.drew := by
    rw [← hW2, ← hW3]
    exact Lib.run_convert_bytes_const (P := Tryz.prog) W1.drew 27 5 _ 4 4 Tryz.underlying27 Tryz.underlying5
  have HIx : Hid (∀ W, Below W3.heap.size W3 W → Calls Tryz.prog 34 #[.slice none 0 0, .slice (some ⟨W1.heap.size, 0, none⟩) 4 4] W fun e w' => e = .returned (.int .i64 (-1)) ∧ Below W.heap.size W w') := by
    refine Lib.hid (fun W _ => (Tryz.bytes_Index_nil (some ⟨W1.heap.size, 0, none⟩) 4 4 W (by decide) (fun h => by cases h)).mono ?_)
    rintro e w' ⟨rfl, rfl⟩
    exact ⟨rfl, Below.refl _ _⟩
  have lw1 : w.heap.size < W1.heap.size := by omega
  have lp1 : p < W1.heap.size := by omega
  have lw3 : w.heap.size < W3.heap.size := by have := BW3.out.size; omega
  have lp3 : p < W3.heap.size := by have := BW3.out.size; omega
  have k0 : W2.cell? ⟨w.heap.size, 0, none⟩ = some (.pointer (some ⟨p, 0, none⟩)) := by rw [Below.cellB BW2.out lw1]; exact q0
  have k1 : W2.cell? ⟨p, 0, none⟩ = some (.slice none 0 0) := by rw [Below.cellB BW2.out lp1]; exact c0
  have j0 : W3.cell? ⟨w.heap.size, 0, none⟩ = some (.pointer (some ⟨p, 0, none⟩)) := by rw [Below.cellB BW3.out lw1]; exact q0
  have j1 : W3.cell? ⟨p, 0, none⟩ = some (.slice none 0 0) := by rw [Below.cellB BW3.out lp1]; exact c0
  have lx1 := lt_of_block x1
  have hmin : min (0 : Int) 4096 = 0 := by decide
  have HSZ := Lib.hid hsz1
  clear hsz1 x0 x1 hp hp1
  go_enter Tryz.func21, Tryz.ntmps21
  go_upto_region 2 with fail
  go_cut [5] (fun s5 wx => ∃ w9, w9 = wx ∧ s5 = .int .i64 (-1) ∧ Below W1.heap.size W1 w9)
  case first =>
    refine wp_region_held_drew (S := fun w' => w'.cell? ⟨w.heap.size, 0, none⟩ = some (.pointer (some ⟨p, 0, none⟩)) ∧ w'.cell? ⟨p, 0, none⟩ = some (.slice none 0 0)) (by kernel_rfl) ?hSA (fun hHeld => ?hRA)
    case hSA => exact ⟨q0, c0⟩
    case' hRA => skip
    refine wpAnyH_take (i := 0) (v := ?vA0) rfl (by kernel_rfl) (by kernel_rfl) (by kernel_rfl) (fun _ _ _ h => h) (Or.inl ⟨by rfl, ?hyA0⟩) (by assumption) ?restA0
    case hyA0 => ((intro w hSw; (try dsimp only at hSw); go_simp); try with_reducible rfl)
    try simp only [Act.put, List.setIfInBounds_toArray, List.set_cons_zero, List.set_cons_succ, List.getElem_toArray, List.getElem_cons_zero]
    refine wpAnyH_take (i := 1) (v := ?vA1) rfl (by kernel_rfl) (by kernel_rfl) (by kernel_rfl) (fun _ _ _ h => h) (Or.inl ⟨by rfl, ?hyA1⟩) (by assumption) ?restA1
    case hyA1 => ((intro w hSw; (try dsimp only at hSw); go_simp); try with_reducible rfl)
    try simp only [Act.put, List.setIfInBounds_toArray, List.set_cons_zero, List.set_cons_succ, List.getElem_toArray, List.getElem_cons_succ, List.getElem_cons_zero]
    refine wpAnyH_take (i := 2) (v := ?vA2) rfl (by kernel_rfl) (by kernel_rfl) (by kernel_rfl) (fun _ _ _ h => h) (Or.inl ⟨by rfl, ?hyA2⟩) (by assumption) ?restA2
    case hyA2 => ((intro w hSw; (try dsimp only at hSw); go_simp); try with_reducible rfl)
    try simp only [Act.put, List.setIfInBounds_toArray, List.set_cons_zero, List.set_cons_succ, List.getElem_toArray, List.getElem_cons_succ, List.getElem_cons_zero]
    refine wpAnyH_take (i := 3) (v := ?vA3) rfl (by kernel_rfl) (by kernel_rfl) (by kernel_rfl) (fun _ _ _ h => h) (Or.inl ⟨by rfl, ?hyA3⟩) (by assumption) ?restA3
    case hyA3 => ((intro w hSw; (try dsimp only at hSw); go_simp); try with_reducible rfl)
    try simp only [Act.put, List.setIfInBounds_toArray, List.set_cons_zero, List.set_cons_succ, List.getElem_toArray, List.getElem_cons_succ, List.getElem_cons_zero]
    refine wpAnyH_take (i := 4) (v := ?vA4) rfl (by kernel_rfl) (by kernel_rfl) (by kernel_rfl) (fun _ _ _ h => h) (Or.inl ⟨by rfl, ?hyA4⟩) (by assumption) ?restA4
    case hyA4 => ((intro w hSw; (try dsimp only at hSw); go_simp); try with_reducible rfl)
    try simp only [Act.put, List.setIfInBounds_toArray, List.set_cons_zero, List.set_cons_succ, List.getElem_toArray, List.getElem_cons_succ, List.getElem_cons_zero]
    refine wpAnyH_take (i := 5) (v := ?vA5) rfl (by kernel_rfl) (by kernel_rfl) (by kernel_rfl) (fun _ _ _ h => h) (Or.inl ⟨by rfl, ?hyA5⟩) (by assumption) ?restA5
    case hyA5 => ((intro w hSw; (try dsimp only at hSw); go_simp); try with_reducible rfl)
    try simp only [Act.put, List.setIfInBounds_toArray, List.set_cons_zero, List.set_cons_succ, List.getElem_toArray, List.getElem_cons_succ, List.getElem_cons_zero]
    refine wpAnyH_take (i := 6) (v := ?vA6) rfl (by kernel_rfl) (by kernel_rfl) (by kernel_rfl) (fun _ _ _ h => h) (Or.inl ⟨by rfl, ?hyA6⟩) (by assumption) ?restA6
    case hyA6 => ((intro w hSw; (try dsimp only at hSw); go_simp); try with_reducible rfl)
    try simp only [Act.put, List.setIfInBounds_toArray, List.set_cons_zero, List.set_cons_succ, List.getElem_toArray, List.getElem_cons_succ, List.getElem_cons_zero]
    refine wpAnyH_take (i := 7) (v := ?vA7) rfl (by kernel_rfl) (by kernel_rfl) (by kernel_rfl) (fun _ _ _ h => h) (Or.inl ⟨by rfl, ?hyA7⟩) (by assumption) ?restA7
    case hyA7 => ((intro w hSw; (try dsimp only at hSw); go_simp); try with_reducible rfl)
    try simp only [Act.put, List.setIfInBounds_toArray, List.set_cons_zero, List.set_cons_succ, List.getElem_toArray, List.getElem_cons_succ, List.getElem_cons_zero]
    refine wpAnyH_take (i := 8) (v := ?vA8) rfl (by kernel_rfl) (by kernel_rfl) (by kernel_rfl) (fun _ _ _ h => h) (Or.inl ⟨by rfl, ?hyA8⟩) (by assumption) ?restA8
    case hyA8 => ((intro w hSw; (try dsimp only at hSw); go_simp); try with_reducible rfl)
    try simp only [Act.put, List.setIfInBounds_toArray, List.set_cons_zero, List.set_cons_succ, List.getElem_toArray, List.getElem_cons_succ, List.getElem_cons_zero]
    refine wpAnyH_take (i := 9) (v := ?vA9) rfl (by kernel_rfl) (by kernel_rfl) (by kernel_rfl) (fun _ _ _ h => h) (Or.inl ⟨by rfl, ?hyA9⟩) (by assumption) ?restA9
    case hyA9 => ((intro w hSw; (try dsimp only at hSw); go_simp); try with_reducible rfl)
    try simp only [Act.put, List.setIfInBounds_toArray, List.set_cons_zero, List.set_cons_succ, List.getElem_toArray, List.getElem_cons_succ, List.getElem_cons_zero]
    refine wpAnyH_take (i := 10) (v := ?vA10) rfl (by kernel_rfl) (by kernel_rfl) (by kernel_rfl) (fun _ _ _ h => h) (Or.inl ⟨by rfl, ?hyA10⟩) (by assumption) ?restA10
    case hyA10 => ((intro w hSw; (try dsimp only at hSw); go_simp); try with_reducible rfl)
    try simp only [Act.put, List.setIfInBounds_toArray, List.set_cons_zero, List.set_cons_succ, List.getElem_toArray, List.getElem_cons_succ, List.getElem_cons_zero]
    refine wpAnyH_ready (rs := [11]) (by kernel_rfl) (by simp) ?_
    refine AllReadyH.cons rfl (fun K hK => ?_) AllReadyH.nil
    try simp only [List.getElem_toArray, List.getElem_cons_succ, List.getElem_cons_zero]
    go_simp
    refine hK.out _ _ ?hSA11 (fun hHeld => ?hRA11)
    case hSA11 => first | exact ⟨k0, k1⟩ | exact ⟨j0, j1⟩ | exact ⟨(Below.cellB cur9 lw3).trans j0, (Below.cellB cur9 lp3).trans j1⟩
    case' hRA11 => clear hK K
    try simp only [Act.put, List.setIfInBounds_toArray, List.set_cons_zero, List.set_cons_succ, List.getElem_toArray, List.getElem_cons_succ, List.getElem_cons_zero]
    refine wpAnyH_ready (rs := [12]) (by kernel_rfl) (by simp) ?_
    refine AllReadyH.cons rfl (fun K hK => ?_) AllReadyH.nil
    try simp only [List.getElem_toArray, List.getElem_cons_succ, List.getElem_cons_zero]
    go_simp
    refine hK.out _ _ ?hSA12 (fun hHeld => ?hRA12)
    case hSA12 => first | exact ⟨k0, k1⟩ | exact ⟨j0, j1⟩ | exact ⟨(Below.cellB cur9 lw3).trans j0, (Below.cellB cur9 lp3).trans j1⟩
    case' hRA12 => clear hK K
    try simp only [Act.put, List.setIfInBounds_toArray, List.set_cons_zero, List.set_cons_succ, List.getElem_toArray, List.getElem_cons_succ, List.getElem_cons_zero]
    refine wpAnyH_ready (rs := [13]) (by kernel_rfl) (by simp) ?_
    refine AllReadyH.cons rfl (fun K hK => ?_) AllReadyH.nil
    try simp only [List.getElem_toArray, List.getElem_cons_succ, List.getElem_cons_zero]
    go_simp
    refine (HIx.out _ (Below.refl _ _).drew).mono ?_
    rintro e w9 ⟨rfl, hb9⟩
    have cur9 : Below W3.heap.size W3 w9 := (Below.refl _ _).drew.trans hb9
    refine hK.out _ _ ?hSA13 (fun hHeld => ?hRA13)
    case hSA13 => first | exact ⟨k0, k1⟩ | exact ⟨j0, j1⟩ | exact ⟨(Below.cellB cur9 lw3).trans j0, (Below.cellB cur9 lp3).trans j1⟩
    case' hRA13 => clear hK K
    try simp only [Act.put, List.setIfInBounds_toArray, List.set_cons_zero, List.set_cons_succ, List.getElem_toArray, List.getElem_cons_succ, List.getElem_cons_zero]
    refine wpAnyH_take (i := 14) (v := ?vA14) rfl (by kernel_rfl) (by kernel_rfl) (by kernel_rfl) (fun _ _ _ h => h) (Or.inl ⟨by rfl, ?hyA14⟩) (by assumption) ?restA14
    case hyA14 => ((intro w hSw; (try dsimp only at hSw); go_simp); try with_reducible rfl)
    try simp only [Act.put, List.setIfInBounds_toArray, List.set_cons_zero, List.set_cons_succ, List.getElem_toArray, List.getElem_cons_succ, List.getElem_cons_zero]
    refine wpAnyH_done (by kernel_rfl) ?_ _
    all_goals go_wp2_with fail
    all_goals go_meet
    all_goals exact ⟨_, rfl, rfl, BW3.out.trans (cur9.mono BW3.out.size)⟩
  case rest =>
    obtain ⟨w9, rfl, rfl, hb9⟩ := hcut
    have q9 : w9.cell? ⟨w.heap.size, 0, none⟩ = some (.pointer (some ⟨p, 0, none⟩)) := by rw [Below.cellB hb9 lw1]; exact q0
    have y1 := (hb9.block _ lx1).trans HX.out.1
    have yp := (hb9.block _ lp1).trans HX.out.2
    obtain ⟨c9, d9⟩ := box2R yp
    have f9 := free_of_block y1
    obtain ⟨e0, e1, e2, e3, e4⟩ := box5R y1
    have Y := Lib.hid y1
    have CW : Hid (Below w.heap.size w w9) := Lib.hid (BW.out.trans (hb9.mono BW.out.size))
    clear y1 yp hb9
    go_wp2_with fail
    obtain ⟨z0, z1, z2, z3, z4⟩ := box5R (sets5 Y.out (.string ⟨#[]⟩) (.string ⟨#[]⟩) (.string ⟨#[]⟩) (.string ⟨#[]⟩) (.int .i64 0))
    refine bodyPost_ret (v := .tuple #[gotV (refG 0), .bool false]) (by simp [gotV, refG, bytesL, results, Tryz.results21, go_sem, z0, z1, z2, z3, z4]) rfl ?_
    exact ⟨rfl, ((((CW.out.setCell (by simp) _).setCell (by simp) _).setCell (by simp) _).setCell (by simp) _).setCell (by simp) _⟩

theorem next_any (B : Nat) (w : World) (hg : GndB B w) (p b0 : Nat) (hBp : B ≤ p) (hpb : p < b0) (l : List UInt8) (hR : RdR w b0 p l false) :
    Calls Tryz.prog 21 #[.pointer (some ⟨p, 0, none⟩)] w (NextP w p b0 (nextS l)) := by
  obtain ⟨v, hp, hv⟩ := hR
  cases hv with
  | nil => exact next_nil w p b0 hp
  | row g o c _ hgb hgl hc hz hty hat => exact next_row B w hg p b0 hBp hpb l g o c hgb hgl hc hz hty hat hp
end Go.Proofs.YtlgfhbfdjckdnaaGreatDoor
