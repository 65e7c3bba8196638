/- wire.Write and the document's Write (printed by gen_wirewrite.py; seat wire). -/
import Derived.Test.YtlgfhbfdjckdnaaGreatDoorWireGnd
import Derived.Test.YtlgfhbfdjckdnaaGreatDoorWireTok2
set_option maxRecDepth 100000
namespace Go.Proofs.YtlgfhbfdjckdnaaGreatDoor
open Go.RowKit

def postB : ByteArray := ⟨#[32, 72, 84, 84, 80, 47, 49, 46, 49, 13, 10, 104, 111, 115, 116, 58, 32, 116, 111, 108, 108, 103, 97, 116, 101, 13, 10]⟩
def keyB : ByteArray := ⟨#[105, 100, 101, 109, 112, 111, 116, 101, 110, 99, 121, 45, 107, 101, 121, 58, 32]⟩
def clB : ByteArray := ⟨#[99, 111, 110, 116, 101, 110, 116, 45, 108, 101, 110, 103, 116, 104, 58, 32]⟩
/-- A request's bytes. -/
def writeB (m p k b : ByteArray) : ByteArray :=
  (if k.size = 0 then m ++ ⟨#[32]⟩ ++ p ++ postB else m ++ ⟨#[32]⟩ ++ p ++ postB ++ (keyB ++ k ++ ⟨#[13, 10]⟩)) ++ clB ++ numB b.size ++ ⟨#[13, 10, 13, 10]⟩ ++ b
/-- May a request be written? -/
def mayB (m p k b : ByteArray) : Bool := methodB m && pathB p && decide (k.size ≤ 32) && tokenB k && decide (b.size ≤ 65536)
/-- Two texts, one behind the other. -/
theorem cat_run (a b : ByteArray) (h : a.size + b.size ≤ 9223372036854775807) : ∃ c, Hid (a ++ b = c) ∧ c.size = a.size + b.size ∧ ∀ W : World, (Op.stringOp .add a b).run Tryz.prog W = .ok (.string c) W :=
  ⟨_, Lib.hid rfl, by simp [ByteArray.size_append], fun W => run_string_add_sum W a b h⟩
theorem numB_size (n : Int) (h : I64n n) : (numB n).size ≤ 20 := by
  have := itoa_len h
  unfold numB
  rw [show (ByteArray.mk (Lib.itoa n).toArray).size = (Lib.itoa n).toArray.size from rfl, List.size_toArray]
  exact this
theorem nonempty_size (k : ByteArray) (h : k.size = 0) : k.toList.isEmpty = true := by rw [isEmpty_size, decide_eq_true h]
theorem nonempty_size' (k : ByteArray) (h : k.size ≠ 0) : k.toList.isEmpty = false := by rw [isEmpty_size, decide_eq_false h]

set_option maxHeartbeats 4000000 in
theorem write_any (w : World) (hg : Gnd w) (m p k b : ByteArray) (hm : m.size ≤ 140737488355328) (hp : p.size ≤ 140737488355328) (hk : k.size ≤ 140737488355328) (hb : b.size ≤ 200000) :
    Calls Tryz.prog 15 #[.agg #[.string m, .string p, .string k, .string b]] w fun e w' => e = .returned (if mayB m p k b then .tuple #[.string (writeB m p k b), .int .i64 0] else .tuple #[.string ⟨#[]⟩, .int .i64 1]) ∧ Below w.heap.size w w' := by
  have HM := Lib.hid (fun W : World => method_any W m hm)
  have HP := Lib.hid (fun W : World => path_any W p hp)
  have HT := Lib.hid (fun W : World => token_any W k hk)
  have HN : Hid (∀ W, Below w.heap.size w W → Calls Tryz.prog 26 #[.int .i64 (b.size : Int)] W fun e w' => e = .returned (.string (numB b.size)) ∧ Below W.heap.size W w') := Lib.hid (fun W hW => winumber_any W (hg.up hW).tab b.size (by omega) (by omega))
  have hxz := numB_size b.size (by unfold I64n; omega)
  have hmay : Hid (mayB m p k b = (methodB m && pathB p && decide (k.size ≤ 32) && tokenB k && decide (b.size ≤ 65536))) := Lib.hid rfl
  obtain ⟨W1, hW1⟩ : ∃ W1, w.alloc (.cells #[.string m, .string p, .string k, .string b] 37) = W1 := ⟨_, rfl⟩
  have cur0 : Below w.heap.size w W1 := by rw [← hW1]; exact (Below.refl _ _).alloc (Nat.le_refl _) _
  have hblk : W1.heap[w.heap.size]? = some (.cells #[.string m, .string p, .string k, .string b] 37) := by rw [← hW1]; exact (MapKept.heap_alloc w _).1
  have c0 : W1.cell? ⟨w.heap.size, 0, none⟩ = some (.string m) := cell_of_block hblk 0
  have c1 : W1.cell? ⟨w.heap.size, 1, none⟩ = some (.string p) := cell_of_block hblk 1
  have c2 : W1.cell? ⟨w.heap.size, 2, none⟩ = some (.string k) := cell_of_block hblk 2
  have c3 : W1.cell? ⟨w.heap.size, 3, none⟩ = some (.string b) := cell_of_block hblk 3
  have hlt := lt_of_block hblk
  have BW := Lib.hid cur0
  obtain ⟨xn, hxn⟩ : ∃ xn, numB b.size = xn := ⟨_, rfl⟩
  have HX := Lib.hid hxn
  obtain ⟨mb, hmb⟩ : ∃ mb, mayB m p k b = mb := ⟨_, rfl⟩
  rw [hxn] at HN hxz
  rw [hmb] at hmay
  rw [hmb]
  clear hxn hmb hg
  obtain ⟨b1, h1⟩ : ∃ b1, methodB m = b1 := ⟨_, rfl⟩
  obtain ⟨b2, h2⟩ : ∃ b2, pathB p = b2 := ⟨_, rfl⟩
  obtain ⟨b4, h4⟩ : ∃ b4, tokenB k = b4 := ⟨_, rfl⟩
  rw [h1] at HM hmay
  rw [h2] at HP hmay
  rw [h4] at HT hmay
  clear h1 h2 h4
  cases b1
  · obtain rfl : mb = false := by rw [hmay.out]; rfl
    clear hmay
    go_enter Tryz.func15, Tryz.ntmps15
    go_wp2_with (first
      | (go_at_call 23; refine (HM.out _).mono ?_; rintro e w7 ⟨rfl, rfl⟩)
      | (go_at_call 24; refine (HP.out _).mono ?_; rintro e w7 ⟨rfl, rfl⟩)
      | (go_at_call 25; refine (HT.out _).mono ?_; rintro e w7 ⟨rfl, rfl⟩))
    go_ret2
    exact ⟨rfl, BW.out⟩
  cases b2
  · obtain rfl : mb = false := by rw [hmay.out]; rfl
    clear hmay
    go_enter Tryz.func15, Tryz.ntmps15
    go_wp2_with (first
      | (go_at_call 23; refine (HM.out _).mono ?_; rintro e w7 ⟨rfl, rfl⟩)
      | (go_at_call 24; refine (HP.out _).mono ?_; rintro e w7 ⟨rfl, rfl⟩)
      | (go_at_call 25; refine (HT.out _).mono ?_; rintro e w7 ⟨rfl, rfl⟩))
    go_ret2
    exact ⟨rfl, BW.out⟩
  by_cases h3 : 32 < k.size
  · have d3 : decide ((32 : Int) < (k.size : Int)) = true := decide_eq_true (by omega)
    have d3' : decide (32 < k.size) = true := decide_eq_true h3
    obtain rfl : mb = false := by rw [hmay.out]; rw [decide_eq_false (p := k.size ≤ 32) (by omega)]; rfl
    clear hmay
    go_enter Tryz.func15, Tryz.ntmps15
    go_wp2_with (first
      | (go_at_call 23; refine (HM.out _).mono ?_; rintro e w7 ⟨rfl, rfl⟩)
      | (go_at_call 24; refine (HP.out _).mono ?_; rintro e w7 ⟨rfl, rfl⟩)
      | (go_at_call 25; refine (HT.out _).mono ?_; rintro e w7 ⟨rfl, rfl⟩))
    go_ret2
    exact ⟨rfl, BW.out⟩
  have d3 : decide ((32 : Int) < (k.size : Int)) = false := decide_eq_false (by omega)
  have d3' : decide (32 < k.size) = false := decide_eq_false h3
  have e3 : decide (k.size ≤ 32) = true := decide_eq_true (by omega)
  cases b4
  · obtain rfl : mb = false := by rw [hmay.out]; rw [e3]; rfl
    clear hmay
    go_enter Tryz.func15, Tryz.ntmps15
    go_wp2_with (first
      | (go_at_call 23; refine (HM.out _).mono ?_; rintro e w7 ⟨rfl, rfl⟩)
      | (go_at_call 24; refine (HP.out _).mono ?_; rintro e w7 ⟨rfl, rfl⟩)
      | (go_at_call 25; refine (HT.out _).mono ?_; rintro e w7 ⟨rfl, rfl⟩))
    go_ret2
    exact ⟨rfl, BW.out⟩
  by_cases h5 : 65536 < b.size
  · have d5 : decide ((65536 : Int) < (b.size : Int)) = true := decide_eq_true (by omega)
    have d5' : decide (65536 < b.size) = true := decide_eq_true h5
    obtain rfl : mb = false := by rw [hmay.out]; rw [decide_eq_false (p := b.size ≤ 65536) (by omega), e3]; rfl
    clear hmay
    go_enter Tryz.func15, Tryz.ntmps15
    go_wp2_with (first
      | (go_at_call 23; refine (HM.out _).mono ?_; rintro e w7 ⟨rfl, rfl⟩)
      | (go_at_call 24; refine (HP.out _).mono ?_; rintro e w7 ⟨rfl, rfl⟩)
      | (go_at_call 25; refine (HT.out _).mono ?_; rintro e w7 ⟨rfl, rfl⟩))
    go_ret2
    exact ⟨rfl, BW.out⟩
  have d5 : decide ((65536 : Int) < (b.size : Int)) = false := decide_eq_false (by omega)
  have d5' : decide (65536 < b.size) = false := decide_eq_false h5
  have e5 : decide (b.size ≤ 65536) = true := decide_eq_true (by omega)
  obtain rfl : mb = true := by rw [hmay.out, e3, e5]; rfl
  clear hmay
  by_cases h6 : k.size = 0
  · have d6 := nonempty_size k h6
    obtain ⟨s1, e1, z1, q1⟩ := cat_run m ⟨#[32]⟩ (by show m.size + 1 ≤ _; omega)
    have z1' : s1.size = m.size + 1 := z1
    obtain ⟨s2, e2, z2, q2⟩ := cat_run s1 p (by omega)
    obtain ⟨s3, e3, z3, q3⟩ := cat_run s2 ⟨#[32, 72, 84, 84, 80, 47, 49, 46, 49, 13, 10, 104, 111, 115, 116, 58, 32, 116, 111, 108, 108, 103, 97, 116, 101, 13, 10]⟩ (by show s2.size + 27 ≤ _; omega)
    have z3' : s3.size = s2.size + 27 := z3
    obtain ⟨s4, hs4⟩ : ∃ s4, s4 = s3 := ⟨_, rfl⟩
    have z4 : s4.size ≤ 281474976720656 := by rw [hs4]; omega
    have H4 : Hid (m ++ ⟨#[32]⟩ ++ p ++ postB = s4) := by refine Lib.hid ?_; rw [hs4, ← e3.out, ← e2.out, ← e1.out]; rfl
    subst hs4
    obtain ⟨t1, g1, x1, p1⟩ := cat_run s4 ⟨#[99, 111, 110, 116, 101, 110, 116, 45, 108, 101, 110, 103, 116, 104, 58, 32]⟩ (by show s4.size + 16 ≤ _; omega)
    have x1' : t1.size = s4.size + 16 := x1
    obtain ⟨t2, g2, x2, p2⟩ := cat_run t1 xn (by omega)
    obtain ⟨t3, g3, x3, p3⟩ := cat_run t2 ⟨#[13, 10, 13, 10]⟩ (by show t2.size + 4 ≤ _; omega)
    have x3' : t3.size = t2.size + 4 := x3
    obtain ⟨t4, g4, x4, p4⟩ := cat_run t3 b (by omega)
    have hwb : Hid (writeB m p k b = t4) := by
      refine Lib.hid ?_
      unfold writeB
      rw [if_pos h6, H4.out, HX.out, ← g4.out, ← g3.out, ← g2.out, ← g1.out]; rfl
    clear z1 z3 x1 x3
    go_enter Tryz.func15, Tryz.ntmps15
    go_upto_region 6 with (first
      | (go_at_call 23; refine (HM.out _).mono ?_; rintro e w7 ⟨rfl, rfl⟩)
      | (go_at_call 24; refine (HP.out _).mono ?_; rintro e w7 ⟨rfl, rfl⟩)
      | (go_at_call 25; refine (HT.out _).mono ?_; rintro e w7 ⟨rfl, rfl⟩))
    have cur : Below w.heap.size w W1 := BW.out
    go_cut [2, 3] (fun s2 s3 wx => ∃ w9, w9 = wx ∧ s2 = .string t4 ∧ s3 = .int .i64 0 ∧ Below w.heap.size w w9)
    case first =>
      go_region_held3 (fun w' => w'.cell? ⟨w.heap.size, 3, none⟩ = some (.string b))
        (first | go_keep | (rw [Below.cellB cur1 hlt]; assumption))
        (first | (go_at_call 26; refine (HN.out _ (by first | exact cur | exact cur.drew)).mono ?_; rintro e w9 ⟨rfl, hb9⟩; have cur1 : Below W1.heap.size W1 w9 := (by first | exact hb9 | exact (Below.refl _ _).drew.trans hb9)))
      go_wp2_with fail
      go_meet
      case rel => exact ⟨_, rfl, rfl, rfl, cur.trans (cur1.mono cur.size)⟩
    case rest =>
      obtain ⟨w9, rfl, rfl, rfl, hb9⟩ := hcut
      go_wp2_with fail
      go_ret2
      exact ⟨congrArg (fun x => Ending.returned (Value.tuple #[.string x, .int .i64 0])) hwb.out.symm, hb9⟩
  · have d6 := nonempty_size' k h6
    obtain ⟨s1, e1, z1, q1⟩ := cat_run m ⟨#[32]⟩ (by show m.size + 1 ≤ _; omega)
    have z1' : s1.size = m.size + 1 := z1
    obtain ⟨s2, e2, z2, q2⟩ := cat_run s1 p (by omega)
    obtain ⟨s3, e3, z3, q3⟩ := cat_run s2 ⟨#[32, 72, 84, 84, 80, 47, 49, 46, 49, 13, 10, 104, 111, 115, 116, 58, 32, 116, 111, 108, 108, 103, 97, 116, 101, 13, 10]⟩ (by show s2.size + 27 ≤ _; omega)
    have z3' : s3.size = s2.size + 27 := z3
    obtain ⟨k1, f1, y1, r1⟩ := cat_run ⟨#[105, 100, 101, 109, 112, 111, 116, 101, 110, 99, 121, 45, 107, 101, 121, 58, 32]⟩ k (by show 17 + k.size ≤ _; omega)
    have y1' : k1.size = 17 + k.size := y1
    obtain ⟨k2, f2, y2, r2⟩ := cat_run k1 ⟨#[13, 10]⟩ (by show k1.size + 2 ≤ _; omega)
    have y2' : k2.size = k1.size + 2 := y2
    obtain ⟨s4, f3, y3, r3⟩ := cat_run s3 k2 (by omega)
    have z4 : s4.size ≤ 281474976720656 := by omega
    have H4 : Hid (m ++ ⟨#[32]⟩ ++ p ++ postB ++ (keyB ++ k ++ ⟨#[13, 10]⟩) = s4) := by refine Lib.hid ?_; rw [← f3.out, ← f2.out, ← f1.out, ← e3.out, ← e2.out, ← e1.out]; rfl
    obtain ⟨t1, g1, x1, p1⟩ := cat_run s4 ⟨#[99, 111, 110, 116, 101, 110, 116, 45, 108, 101, 110, 103, 116, 104, 58, 32]⟩ (by show s4.size + 16 ≤ _; omega)
    have x1' : t1.size = s4.size + 16 := x1
    obtain ⟨t2, g2, x2, p2⟩ := cat_run t1 xn (by omega)
    obtain ⟨t3, g3, x3, p3⟩ := cat_run t2 ⟨#[13, 10, 13, 10]⟩ (by show t2.size + 4 ≤ _; omega)
    have x3' : t3.size = t2.size + 4 := x3
    obtain ⟨t4, g4, x4, p4⟩ := cat_run t3 b (by omega)
    have hwb : Hid (writeB m p k b = t4) := by
      refine Lib.hid ?_
      unfold writeB
      rw [if_neg h6, H4.out, HX.out, ← g4.out, ← g3.out, ← g2.out, ← g1.out]; rfl
    clear z1 z3 x1 x3
    go_enter Tryz.func15, Tryz.ntmps15
    go_upto_region 6 with (first
      | (go_at_call 23; refine (HM.out _).mono ?_; rintro e w7 ⟨rfl, rfl⟩)
      | (go_at_call 24; refine (HP.out _).mono ?_; rintro e w7 ⟨rfl, rfl⟩)
      | (go_at_call 25; refine (HT.out _).mono ?_; rintro e w7 ⟨rfl, rfl⟩))
    have cur : Below w.heap.size w W1 := BW.out
    go_cut [2, 3] (fun s2 s3 wx => ∃ w9, w9 = wx ∧ s2 = .string t4 ∧ s3 = .int .i64 0 ∧ Below w.heap.size w w9)
    case first =>
      go_region_held3 (fun w' => w'.cell? ⟨w.heap.size, 3, none⟩ = some (.string b))
        (first | go_keep | (rw [Below.cellB cur1 hlt]; assumption))
        (first | (go_at_call 26; refine (HN.out _ (by first | exact cur | exact cur.drew)).mono ?_; rintro e w9 ⟨rfl, hb9⟩; have cur1 : Below W1.heap.size W1 w9 := (by first | exact hb9 | exact (Below.refl _ _).drew.trans hb9)))
      go_wp2_with fail
      go_meet
      case rel => exact ⟨_, rfl, rfl, rfl, cur.trans (cur1.mono cur.size)⟩
    case rest =>
      obtain ⟨w9, rfl, rfl, rfl, hb9⟩ := hcut
      go_wp2_with fail
      go_ret2
      exact ⟨congrArg (fun x => Ending.returned (Value.tuple #[.string x, .int .i64 0])) hwb.out.symm, hb9⟩
end Go.Proofs.YtlgfhbfdjckdnaaGreatDoor
