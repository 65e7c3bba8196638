/- value.Cmp, value.Less. -/
import Derived.Test.YtbephgifbghilaaGreatDoorEvalArith2
set_option maxRecDepth 100000
namespace Go.Proofs.YtbephgifbghilaaGreatDoor
open Go.RowKit

theorem cmpU_any (w : World) (x y : Int) : Calls Tryz.prog 208 #[.int .u8 x, .int .u8 y] w fun e w' => e = .returned (.int .i64 (cmpI x y)) ∧ w = w' := by
  have hx : (x != x) = false := by simp
  have hy : (y != y) = false := by simp
  unfold cmpI
  by_cases h1 : x < y
  · go_enter Tryz.func208, Tryz.ntmps208
    go_wp2
    go_ret
    exact ⟨rfl, rfl⟩
  · by_cases h2 : y < x
    · go_enter Tryz.func208, Tryz.ntmps208
      go_wp2
      go_ret
      exact ⟨rfl, rfl⟩
    · go_enter Tryz.func208, Tryz.ntmps208
      go_wp2
      go_ret
      exact ⟨rfl, rfl⟩
theorem cmpL_any (w : World) (x y : Int) : Calls Tryz.prog 209 #[.int .i64 x, .int .i64 y] w fun e w' => e = .returned (.int .i64 (cmpI x y)) ∧ w = w' := by
  have hx : (x != x) = false := by simp
  have hy : (y != y) = false := by simp
  unfold cmpI
  by_cases h1 : x < y
  · go_enter Tryz.func209, Tryz.ntmps209
    go_wp2
    go_ret
    exact ⟨rfl, rfl⟩
  · by_cases h2 : y < x
    · go_enter Tryz.func209, Tryz.ntmps209
      go_wp2
      go_ret
      exact ⟨rfl, rfl⟩
    · go_enter Tryz.func209, Tryz.ntmps209
      go_wp2
      go_ret
      exact ⟨rfl, rfl⟩
theorem boolean_any (w : World) (b : Bool) : Calls Tryz.prog 210 #[.bool b] w fun e w' => e = .returned (.int .i64 (boolI b)) ∧ w = w' := by
  cases b
  all_goals
    go_enter Tryz.func210, Tryz.ntmps210
    go_wp2
    go_ret
    exact ⟨rfl, rfl⟩
theorem scmp_any (w : World) (a b : ByteArray) : Calls Tryz.prog 211 #[.string a, .string b] w fun e w' => e = .returned (.int .i64 (Lib.compareBytes a.data.toList b.data.toList)) ∧ w = w' :=
  (Tryz.strings_Compare a b w).mono (fun _e _w' h => ⟨h.1, h.2.symm⟩)
def orL : List Int → Int
  | [] => 0
  | x :: r => orI x (orL r)
theorem orL_hit {l : List Int} {k : Nat} (hk : k < l.length) (h : ∀ j (hj : j < l.length), j < k → l[j] = 0) (hx : l[k] ≠ 0) : orL l = l[k] := by
  induction l generalizing k with
  | nil => simp at hk
  | cons a r ih =>
    unfold orL orI
    cases k with
    | zero => rw [if_neg (show ¬ a = 0 from hx)]; rfl
    | succ k =>
      rw [if_pos (show a = 0 from h 0 (by simp) (by omega))]
      exact ih (k := k) (by simpa using hk) (fun j hj hjk => h (j + 1) (by simpa using hj) (by omega)) hx
theorem orL_none {l : List Int} (h : ∀ j (hj : j < l.length), l[j] = 0) : orL l = 0 := by
  induction l with
  | nil => rfl
  | cons a r ih =>
    unfold orL orI
    rw [if_pos (show a = 0 from h 0 (by simp))]
    exact ih (fun j hj => h (j + 1) (by simpa using hj))
set_option maxHeartbeats 1000000 in
theorem or_any (w : World) (b n : Nat) (l : List Int) {fr : Nat × Nat} (hb : w.heap[b]? = some (.cells (l.map (Value.int .i64)).toArray 3 fr)) (hn : l.length = n) (hl : n ≤ 100) :
    Calls Tryz.prog 207 #[.slice (some ⟨b, 0, none⟩) n n] w fun e w' => e = .returned (.int .i64 (orL l)) ∧ w = w' := by
  have hc : ∀ k (h : k < l.length), w.cell? ⟨b, k, none⟩ = some (.int .i64 l[k]) := fun k h => by
    rw [cell_of_block hb]; simp [h]
  have HC := Lib.hid hc
  have HN := Lib.hid hn
  clear hc hb hn
  go_enter Tryz.func207, Tryz.ntmps207
  go_wp2_with fail
  go_loopg [8] n (fun gh s8 wx => w = wx ∧ ∃ k : Nat, k + gh = n ∧ s8 = .int .i64 (k : Int) ∧ Hid (∀ j (h : j < l.length), j < k → l[j] = 0))
  case atStart => exact ⟨rfl, 0, by omega, rfl, Lib.hid (fun j h h2 => by omega)⟩
  case round =>
    obtain ⟨rfl, k, hkg, rfl, hZ⟩ := hrel
    by_cases hk : k < n
    · have hkl : k < l.length := by have := HN.out; omega
      obtain ⟨x, hx⟩ : ∃ x, l[k] = x := ⟨_, rfl⟩
      have c0 : w.cell? ⟨b, k, none⟩ = some (.int .i64 x) := by rw [← hx]; exact HC.out k hkl
      have dk : decide (k < n) = true := decide_eq_true hk
      have k1 : (0 : Int) ≤ (k : Int) := by omega
      have k2 : (k : Int) < (n : Int) := by omega
      have HX := Lib.hid hx
      clear hx
      by_cases h0 : x = 0
      · have d1 : (x != 0) = false := by rw [h0]; rfl
        have hZ2 : Hid (∀ j (h : j < l.length), j < k + 1 → l[j] = 0) := Lib.hid (fun j hj hjk => by
          by_cases e : j = k
          · subst e; rw [HX.out]; exact h0
          · exact hZ.out j hj (by omega))
        clear h0
        go_wp2_with fail
        go_roundg (n - (k + 1))
        case measure => omega
        case rel => exact ⟨rfl, k + 1, by omega, by go_num, hZ2⟩
      · have d1 : (x != 0) = true := by simpa using h0
        have hE : Hid (orL l = x) := Lib.hid (by rw [orL_hit hkl hZ.out (by rw [HX.out]; exact h0)]; exact HX.out)
        clear h0
        go_wp2_with fail
        go_ret
        exact ⟨by rw [hE.out]; rfl, rfl⟩
    · have hE : Hid (orL l = 0) := Lib.hid (orL_none (fun j hj => hZ.out j hj (by have := HN.out; omega)))
      have dk : decide (k < n) = false := decide_eq_false hk
      go_wp2_with fail
      go_ret
      exact ⟨by rw [hE.out]; rfl, rfl⟩

theorem or4_any (w : World) (b : Nat) (x0 x1 x2 x3 : Int) (hb : w.heap[b]? = some (.cells #[.int .i64 x0, .int .i64 x1, .int .i64 x2, .int .i64 x3] 3)) :
    Calls Tryz.prog 207 #[.slice (some ⟨b, 0, none⟩) 4 4] w fun e w' => e = .returned (.int .i64 (orL [x0, x1, x2, x3])) ∧ w = w' := or_any w b 4 [x0, x1, x2, x3] hb rfl (by omega)
theorem orI_zero (t : Int) : orI t 0 = t := by
  unfold orI
  split
  · omega
  · rfl
theorem cmpV_orL (a b : Vl) : cmpV a b = orL [cmpI a.kind b.kind, cmpI a.num b.num, boolI a.tr - boolI b.tr, Lib.compareBytes a.text.data.toList b.text.data.toList] := by
  show _ = orI _ (orI _ (orI _ (orI _ 0)))
  rw [orI_zero]; rfl
set_option maxHeartbeats 4000000 in
theorem vcmp_any (w : World) (a b : Vl) : Calls Tryz.prog 191 #[valV a, valV b] w fun e w' => e = .returned (.int .i64 (cmpV a b)) ∧ Below w.heap.size w w' := by
  obtain ⟨w1, p0, hp0, hw1, l1, n1, b1⟩ := box_new w (objV a)
  obtain ⟨w2, p1, hp1, hw2, l2, n2, b2⟩ := box_new w1 (objV b)
  have hw1' : w.alloc (.cells #[.int .u8 a.kind, .int .i64 a.num, .bool a.tr, .string a.text] 26) = w1 := hw1
  have hw2' : w1.alloc (.cells #[.int .u8 b.kind, .int .i64 b.num, .bool b.tr, .string b.text] 26) = w2 := hw2
  obtain ⟨a0, a1, a2, a3⟩ := v_cells ((b2.block p0 (by omega)).trans n1)
  obtain ⟨c0, c1, c2, c3⟩ := v_cells n2
  have HB := Lib.hid (b1.trans (b2.mono (by omega)))
  have HE := Lib.hid (cmpV_orL a b)
  have hsub : IntKind.i64.wrap (boolI a.tr - boolI b.tr) = boolI a.tr - boolI b.tr := by
    cases a.tr <;> cases b.tr <;> rfl
  obtain ⟨x0, h0⟩ : ∃ x, cmpI a.kind b.kind = x := ⟨_, rfl⟩
  obtain ⟨x1, h1⟩ : ∃ x, cmpI a.num b.num = x := ⟨_, rfl⟩
  obtain ⟨x2, h2⟩ : ∃ x, boolI a.tr - boolI b.tr = x := ⟨_, rfl⟩
  obtain ⟨x3, h3⟩ : ∃ x, Lib.compareBytes a.text.data.toList b.text.data.toList = x := ⟨_, rfl⟩
  rw [h0, h1, h2, h3] at HE
  have hsub2 := hsub.trans h2
  clear hsub
  have C0 := Lib.hid (fun W => cmpU_any W a.kind b.kind)
  have C1 := Lib.hid (fun W => cmpL_any W a.num b.num)
  have C3 := Lib.hid (fun W => scmp_any W a.text b.text)
  rw [h0] at C0
  rw [h1] at C1
  rw [h3] at C3
  clear n1 b1 n2 b2 hw1 hw2 h0 h1 h2 h3
  go_enter Tryz.func191, Tryz.ntmps191
  go_wp2_with fail
  go_region_held3 (fun w' => w'.cell? ⟨p0, 0, none⟩ = some (.int .u8 a.kind) ∧ w'.cell? ⟨p0, 1, none⟩ = some (.int .i64 a.num) ∧ w'.cell? ⟨p0, 2, none⟩ = some (.bool a.tr) ∧ w'.cell? ⟨p0, 3, none⟩ = some (.string a.text) ∧ w'.cell? ⟨p1, 0, none⟩ = some (.int .u8 b.kind) ∧ w'.cell? ⟨p1, 1, none⟩ = some (.int .i64 b.num) ∧ w'.cell? ⟨p1, 2, none⟩ = some (.bool b.tr) ∧ w'.cell? ⟨p1, 3, none⟩ = some (.string b.text)) (go_keep)
    (first
      | (go_at_call 208; refine (C0.out _).mono ?_; rintro e wz ⟨rfl, rfl⟩)
      | (go_at_call 209; refine (C1.out _).mono ?_; rintro e wz ⟨rfl, rfl⟩)
      | (go_at_call 210; refine (boolean_any _ _).mono ?_; rintro e wz ⟨rfl, rfl⟩)
      | (go_at_call 211; refine (C3.out _).mono ?_; rintro e wz ⟨rfl, rfl⟩)
      | (go_at_call 207; refine (or4_any _ _ x0 x1 x2 x3 (show (World.alloc w2 _).drew.heap[w2.heap.size]? = _ from heap_alloc_new w2 _)).mono ?_; rintro e wz ⟨rfl, rfl⟩))
  all_goals
    go_wp2_with fail
    go_ret
    exact ⟨by rw [HE.out]; rfl, ((HB.out.alloc (by omega) _).drew)⟩
end Go.Proofs.YtbephgifbghilaaGreatDoor
