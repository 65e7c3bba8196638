/- (*reckoner).eval: the first part goes well; printed by gen_evalreck.py. -/
import Derived.Test.YtbephgifbghilaaGreatDoorEvalReck2
set_option maxRecDepth 100000
namespace Go.Proofs.YtbephgifbghilaaGreatDoor
open Go.RowKit

section
variable {w0 : World} {B0 B1 : Nat} {S : List (Option Nat)} {J : List ByteArray → World → Prop} {rp mb fid : Nat} {caps : Array Value} {vv : Value} {l : List Bd}

set_option maxHeartbeats 4000000 in
theorem ev_neg (R : Reck w0 B0 B1 S J rp mb fid caps vv l) (u : Vl) (nm : ByteArray) (b o n c : Nat) (k : Nd) (vk : Value) (hk : KidC w0 b o k vk) (hbl : b < B0) (hn : 0 < n) (xs ys : List ByteArray) (xv : Vl) (K0 : KidE S J B1 rp k vk xs ys xv 0) (hw : VlW xv) (rv : Vl) (re : Int) (hr : negE xv = (rv, re)) (W : World) (h1 : B1 ≤ W.heap.size) (hJ : J xs W) :
    Calls Tryz.prog 87 #[.pointer (some ⟨rp, 0, none⟩), valO 4 u nm (.slice (some ⟨b, o, none⟩) n c)] W fun e w' => e = .returned (.tuple #[valV rv, .int .i64 re]) ∧ J ys w' ∧ Frm S W w' := by
  obtain ⟨w1, w2, p0, p1, hp0, hw1, hp1, hw2, l01, lp, hb2, HK⟩ := node_start W S B1 h1 R.old 4 u nm (.slice (some ⟨b, o, none⟩) n c)
  have h12 : B1 ≤ w2.heap.size := Nat.le_trans h1 hb2.size
  have HX := Lib.hid (show ∀ V zs, J zs V → Frm S w2 V → KidC V b o k vk ∧ (V.cell? ⟨p0, 0, none⟩ = some (.int .u8 4) ∧ V.cell? ⟨p0, 6, none⟩ = some (.slice (some ⟨b, o, none⟩) n c)) ∧ V.heap[p1]? = some objZ ∧ Frm S W V from fun V zs j f => by
    obtain ⟨⟨k0, _, _, _, _, _, k6⟩, kz, kF, _, _⟩ := HK.out V f
    exact ⟨kid_cells hk (R.below _ _ j) hbl, ⟨k0, k6⟩, kz, kF⟩)
  have HR := Lib.hid R
  have hJ2 := R.mono _ _ _ hJ (hb2.mono h1)
  obtain ⟨⟨e0, e1, e2, e3, e4, e5, e6⟩, ⟨c0, c6⟩, -, -⟩ := HX.out w2 xs hJ2 (Frm.refl _ _)
  have C0 := Lib.hid (K0 w2 hJ2 h12)
  have n0 : (0 : Int) < (n : Int) := by omega
  have q1 : (((4 : Int) == 1) = false) := rfl
  have q2 : (((4 : Int) == 2) = false) := rfl
  have q4 : (((4 : Int) == 4) = true) := rfl
  have q3 : (((4 : Int) == 3) = false) := rfl
  have q5 : (((4 : Int) == 5) = false) := rfl
  have q6 : (((4 : Int) == 6) = false) := rfl
  have z0 : ((0 : Int) != 0) = false := rfl
  have hw2' : w1.alloc (.cells #[.int .u8 0, .int .i64 0, .bool false, .string ⟨#[]⟩] 26) = w2 := hw2
  clear hb2 HK R hw2 hJ hJ2 hk K0 hn
  go_enter Tryz.func87, Tryz.ntmps87
  go_wp2_with (go_at_call 87; refine C0.out.mono ?_; rintro e w5 ⟨rfl, hj5, hf5⟩; refine Hid.out ?_)
  refine Lib.hid ?_
  clear e0 e1 e2 e3 e4 e5 e6 c0 c6
  have hj8 := HR.out.mono _ _ _ hj5 ((Below.refl B1 w5).alloc (Nat.le_trans h12 hf5.size) (objV xv))
  have hf8 := hf5.below ((Below.refl _ w5).alloc (Nat.le_refl _) (objV xv))
  have h58 : B1 ≤ (w5.alloc (objV xv)).heap.size := Nat.le_trans (Nat.le_trans h12 hf5.size) ((Below.refl w5.heap.size w5).alloc (Nat.le_refl _) (objV xv)).size
  obtain ⟨-, ⟨c0, c6⟩, -, -⟩ := HX.out _ _ hj8 hf8
  have hN := vneg_any (w5.alloc (objV xv)) xv hw (HR.out.tabs _ _ hj8)
  rw [hr] at hN
  have CN := Lib.hid hN
  clear hN hr hw
  go_wp2_with (go_at_call 128; refine (CN.out).mono ?_; rintro e w9 ⟨rfl, hb9⟩; refine Hid.out ?_)
  refine Lib.hid ?_
  have hj9 := HR.out.mono _ _ _ hj8 (hb9.mono h58)
  have hf9 := hf8.below hb9
  obtain ⟨-, -, z, fE⟩ := HX.out _ _ hj9 hf9
  obtain ⟨⟨m0, m1, m2, m3⟩, f0, f1, f2, f3⟩ := zero_blk z
  have HE := Lib.hid (HR.out.fin (p := p1) hj9 fE h1 lp rv)
  clear hj8 hj9 fE z hj5 c0 c6
  go_wp2_with fail
  exact bodyPost_ret (v := .tuple #[valV rv, .int .i64 re]) (by simp [results, Tryz.results87, go_sem, m0, m1, m2, m3]) rfl ⟨rfl, HE.out⟩

set_option maxHeartbeats 4000000 in
theorem ev_kind3 (R : Reck w0 B0 B1 S J rp mb fid caps vv l) (u : Vl) (nm : ByteArray) (b o n c : Nat) (k : Nd) (vk : Value) (hk : KidC w0 b o k vk) (hbl : b < B0) (hn : 0 < n) (xs ys : List ByteArray) (xv : Vl) (K0 : KidE S J B1 rp k vk xs ys xv 0) (hk2 : xv.kind ≠ 2) (W : World) (h1 : B1 ≤ W.heap.size) (hJ : J xs W) :
    Calls Tryz.prog 87 #[.pointer (some ⟨rp, 0, none⟩), valO 3 u nm (.slice (some ⟨b, o, none⟩) n c)] W fun e w' => e = .returned (.tuple #[valV Vl.zero, .int .i64 90]) ∧ J ys w' ∧ Frm S W w' := by
  obtain ⟨w1, w2, p0, p1, hp0, hw1, hp1, hw2, l01, lp, hb2, HK⟩ := node_start W S B1 h1 R.old 3 u nm (.slice (some ⟨b, o, none⟩) n c)
  have h12 : B1 ≤ w2.heap.size := Nat.le_trans h1 hb2.size
  have HX := Lib.hid (show ∀ V zs, J zs V → Frm S w2 V → KidC V b o k vk ∧ (V.cell? ⟨p0, 0, none⟩ = some (.int .u8 3) ∧ V.cell? ⟨p0, 6, none⟩ = some (.slice (some ⟨b, o, none⟩) n c)) ∧ V.heap[p1]? = some objZ ∧ Frm S W V from fun V zs j f => by
    obtain ⟨⟨k0, _, _, _, _, _, k6⟩, kz, kF, _, _⟩ := HK.out V f
    exact ⟨kid_cells hk (R.below _ _ j) hbl, ⟨k0, k6⟩, kz, kF⟩)
  have HR := Lib.hid R
  have hJ2 := R.mono _ _ _ hJ (hb2.mono h1)
  obtain ⟨⟨e0, e1, e2, e3, e4, e5, e6⟩, ⟨c0, c6⟩, -, -⟩ := HX.out w2 xs hJ2 (Frm.refl _ _)
  have C0 := Lib.hid (K0 w2 hJ2 h12)
  have n0 : (0 : Int) < (n : Int) := by omega
  have q1 : (((3 : Int) == 1) = false) := rfl
  have q2 : (((3 : Int) == 2) = false) := rfl
  have q4 : (((3 : Int) == 4) = false) := rfl
  have q3 : (((3 : Int) == 3) = true) := rfl
  have q5 : (((3 : Int) == 5) = false) := rfl
  have q6 : (((3 : Int) == 6) = false) := rfl
  have z0 : ((0 : Int) != 0) = false := rfl
  have hw2' : w1.alloc (.cells #[.int .u8 0, .int .i64 0, .bool false, .string ⟨#[]⟩] 26) = w2 := hw2
  have dk : (xv.kind != 2) = true := by simpa using hk2
  clear hb2 HK R hw2 hJ hJ2 hk K0 hn hk2
  go_enter Tryz.func87, Tryz.ntmps87
  go_wp2_with (go_at_call 87; refine C0.out.mono ?_; rintro e w5 ⟨rfl, hj5, hf5⟩; refine Hid.out ?_)
  refine Lib.hid ?_
  clear e0 e1 e2 e3 e4 e5 e6 c0 c6
  have hj8 := HR.out.mono _ _ _ hj5 ((Below.refl B1 w5).alloc (Nat.le_trans h12 hf5.size) (objV xv))
  have hf8 := hf5.below ((Below.refl _ w5).alloc (Nat.le_refl _) (objV xv))
  have h58 : B1 ≤ (w5.alloc (objV xv)).heap.size := Nat.le_trans (Nat.le_trans h12 hf5.size) ((Below.refl w5.heap.size w5).alloc (Nat.le_refl _) (objV xv)).size
  obtain ⟨-, ⟨c0, c6⟩, z, fE⟩ := HX.out _ _ hj8 hf8
  obtain ⟨⟨m0, m1, m2, m3⟩, f0, f1, f2, f3⟩ := zero_blk z
  have HE := Lib.hid (HR.out.fin (p := p1) hj8 fE h1 lp Vl.zero)
  clear hj8 fE z hj5
  go_wp2_with fail
  exact bodyPost_ret (v := .tuple #[valV Vl.zero, .int .i64 90]) (by simp [results, Tryz.results87, go_sem, Vl.zero, m0, m1, m2, m3]) rfl ⟨rfl, HE.out⟩

set_option maxHeartbeats 4000000 in
theorem ev_kind5 (R : Reck w0 B0 B1 S J rp mb fid caps vv l) (u : Vl) (nm : ByteArray) (b o n c : Nat) (k : Nd) (vk : Value) (hk : KidC w0 b o k vk) (hbl : b < B0) (hn : 0 < n) (xs ys : List ByteArray) (xv : Vl) (K0 : KidE S J B1 rp k vk xs ys xv 0) (hk2 : xv.kind ≠ 2) (W : World) (h1 : B1 ≤ W.heap.size) (hJ : J xs W) :
    Calls Tryz.prog 87 #[.pointer (some ⟨rp, 0, none⟩), valO 5 u nm (.slice (some ⟨b, o, none⟩) n c)] W fun e w' => e = .returned (.tuple #[valV Vl.zero, .int .i64 90]) ∧ J ys w' ∧ Frm S W w' := by
  obtain ⟨w1, w2, p0, p1, hp0, hw1, hp1, hw2, l01, lp, hb2, HK⟩ := node_start W S B1 h1 R.old 5 u nm (.slice (some ⟨b, o, none⟩) n c)
  have h12 : B1 ≤ w2.heap.size := Nat.le_trans h1 hb2.size
  have HX := Lib.hid (show ∀ V zs, J zs V → Frm S w2 V → KidC V b o k vk ∧ (V.cell? ⟨p0, 0, none⟩ = some (.int .u8 5) ∧ V.cell? ⟨p0, 6, none⟩ = some (.slice (some ⟨b, o, none⟩) n c)) ∧ V.heap[p1]? = some objZ ∧ Frm S W V from fun V zs j f => by
    obtain ⟨⟨k0, _, _, _, _, _, k6⟩, kz, kF, _, _⟩ := HK.out V f
    exact ⟨kid_cells hk (R.below _ _ j) hbl, ⟨k0, k6⟩, kz, kF⟩)
  have HR := Lib.hid R
  have hJ2 := R.mono _ _ _ hJ (hb2.mono h1)
  obtain ⟨⟨e0, e1, e2, e3, e4, e5, e6⟩, ⟨c0, c6⟩, -, -⟩ := HX.out w2 xs hJ2 (Frm.refl _ _)
  have C0 := Lib.hid (K0 w2 hJ2 h12)
  have n0 : (0 : Int) < (n : Int) := by omega
  have q1 : (((5 : Int) == 1) = false) := rfl
  have q2 : (((5 : Int) == 2) = false) := rfl
  have q4 : (((5 : Int) == 4) = false) := rfl
  have q3 : (((5 : Int) == 3) = false) := rfl
  have q5 : (((5 : Int) == 5) = true) := rfl
  have q6 : (((5 : Int) == 6) = false) := rfl
  have z0 : ((0 : Int) != 0) = false := rfl
  have hw2' : w1.alloc (.cells #[.int .u8 0, .int .i64 0, .bool false, .string ⟨#[]⟩] 26) = w2 := hw2
  have dk : (xv.kind != 2) = true := by simpa using hk2
  clear hb2 HK R hw2 hJ hJ2 hk K0 hn hk2
  go_enter Tryz.func87, Tryz.ntmps87
  go_wp2_with (go_at_call 87; refine C0.out.mono ?_; rintro e w5 ⟨rfl, hj5, hf5⟩; refine Hid.out ?_)
  refine Lib.hid ?_
  clear e0 e1 e2 e3 e4 e5 e6 c0 c6
  have hj8 := HR.out.mono _ _ _ hj5 ((Below.refl B1 w5).alloc (Nat.le_trans h12 hf5.size) (objV xv))
  have hf8 := hf5.below ((Below.refl _ w5).alloc (Nat.le_refl _) (objV xv))
  have h58 : B1 ≤ (w5.alloc (objV xv)).heap.size := Nat.le_trans (Nat.le_trans h12 hf5.size) ((Below.refl w5.heap.size w5).alloc (Nat.le_refl _) (objV xv)).size
  obtain ⟨-, ⟨c0, c6⟩, z, fE⟩ := HX.out _ _ hj8 hf8
  obtain ⟨⟨m0, m1, m2, m3⟩, f0, f1, f2, f3⟩ := zero_blk z
  have HE := Lib.hid (HR.out.fin (p := p1) hj8 fE h1 lp Vl.zero)
  clear hj8 fE z hj5
  go_wp2_with fail
  exact bodyPost_ret (v := .tuple #[valV Vl.zero, .int .i64 90]) (by simp [results, Tryz.results87, go_sem, Vl.zero, m0, m1, m2, m3]) rfl ⟨rfl, HE.out⟩

set_option maxHeartbeats 4000000 in
theorem ev_kind6 (R : Reck w0 B0 B1 S J rp mb fid caps vv l) (u : Vl) (nm : ByteArray) (b o n c : Nat) (k : Nd) (vk : Value) (hk : KidC w0 b o k vk) (hbl : b < B0) (hn : 0 < n) (xs ys : List ByteArray) (xv : Vl) (K0 : KidE S J B1 rp k vk xs ys xv 0) (hk2 : xv.kind ≠ 2) (W : World) (h1 : B1 ≤ W.heap.size) (hJ : J xs W) :
    Calls Tryz.prog 87 #[.pointer (some ⟨rp, 0, none⟩), valO 6 u nm (.slice (some ⟨b, o, none⟩) n c)] W fun e w' => e = .returned (.tuple #[valV Vl.zero, .int .i64 90]) ∧ J ys w' ∧ Frm S W w' := by
  obtain ⟨w1, w2, p0, p1, hp0, hw1, hp1, hw2, l01, lp, hb2, HK⟩ := node_start W S B1 h1 R.old 6 u nm (.slice (some ⟨b, o, none⟩) n c)
  have h12 : B1 ≤ w2.heap.size := Nat.le_trans h1 hb2.size
  have HX := Lib.hid (show ∀ V zs, J zs V → Frm S w2 V → KidC V b o k vk ∧ (V.cell? ⟨p0, 0, none⟩ = some (.int .u8 6) ∧ V.cell? ⟨p0, 6, none⟩ = some (.slice (some ⟨b, o, none⟩) n c)) ∧ V.heap[p1]? = some objZ ∧ Frm S W V from fun V zs j f => by
    obtain ⟨⟨k0, _, _, _, _, _, k6⟩, kz, kF, _, _⟩ := HK.out V f
    exact ⟨kid_cells hk (R.below _ _ j) hbl, ⟨k0, k6⟩, kz, kF⟩)
  have HR := Lib.hid R
  have hJ2 := R.mono _ _ _ hJ (hb2.mono h1)
  obtain ⟨⟨e0, e1, e2, e3, e4, e5, e6⟩, ⟨c0, c6⟩, -, -⟩ := HX.out w2 xs hJ2 (Frm.refl _ _)
  have C0 := Lib.hid (K0 w2 hJ2 h12)
  have n0 : (0 : Int) < (n : Int) := by omega
  have q1 : (((6 : Int) == 1) = false) := rfl
  have q2 : (((6 : Int) == 2) = false) := rfl
  have q4 : (((6 : Int) == 4) = false) := rfl
  have q3 : (((6 : Int) == 3) = false) := rfl
  have q5 : (((6 : Int) == 5) = false) := rfl
  have q6 : (((6 : Int) == 6) = true) := rfl
  have z0 : ((0 : Int) != 0) = false := rfl
  have hw2' : w1.alloc (.cells #[.int .u8 0, .int .i64 0, .bool false, .string ⟨#[]⟩] 26) = w2 := hw2
  have dk : (xv.kind != 2) = true := by simpa using hk2
  clear hb2 HK R hw2 hJ hJ2 hk K0 hn hk2
  go_enter Tryz.func87, Tryz.ntmps87
  go_wp2_with (go_at_call 87; refine C0.out.mono ?_; rintro e w5 ⟨rfl, hj5, hf5⟩; refine Hid.out ?_)
  refine Lib.hid ?_
  clear e0 e1 e2 e3 e4 e5 e6 c0 c6
  have hj8 := HR.out.mono _ _ _ hj5 ((Below.refl B1 w5).alloc (Nat.le_trans h12 hf5.size) (objV xv))
  have hf8 := hf5.below ((Below.refl _ w5).alloc (Nat.le_refl _) (objV xv))
  have h58 : B1 ≤ (w5.alloc (objV xv)).heap.size := Nat.le_trans (Nat.le_trans h12 hf5.size) ((Below.refl w5.heap.size w5).alloc (Nat.le_refl _) (objV xv)).size
  obtain ⟨-, ⟨c0, c6⟩, z, fE⟩ := HX.out _ _ hj8 hf8
  obtain ⟨⟨m0, m1, m2, m3⟩, f0, f1, f2, f3⟩ := zero_blk z
  have HE := Lib.hid (HR.out.fin (p := p1) hj8 fE h1 lp Vl.zero)
  clear hj8 fE z hj5
  go_wp2_with fail
  exact bodyPost_ret (v := .tuple #[valV Vl.zero, .int .i64 90]) (by simp [results, Tryz.results87, go_sem, Vl.zero, m0, m1, m2, m3]) rfl ⟨rfl, HE.out⟩

set_option maxHeartbeats 4000000 in
theorem ev_not (R : Reck w0 B0 B1 S J rp mb fid caps vv l) (u : Vl) (nm : ByteArray) (b o n c : Nat) (k : Nd) (vk : Value) (hk : KidC w0 b o k vk) (hbl : b < B0) (hn : 0 < n) (xs ys : List ByteArray) (xv : Vl) (K0 : KidE S J B1 rp k vk xs ys xv 0) (hk2 : xv.kind = 2) (W : World) (h1 : B1 ≤ W.heap.size) (hJ : J xs W) :
    Calls Tryz.prog 87 #[.pointer (some ⟨rp, 0, none⟩), valO 3 u nm (.slice (some ⟨b, o, none⟩) n c)] W fun e w' => e = .returned (.tuple #[valV (trV (!xv.tr)), .int .i64 0]) ∧ J ys w' ∧ Frm S W w' := by
  obtain ⟨w1, w2, p0, p1, hp0, hw1, hp1, hw2, l01, lp, hb2, HK⟩ := node_start W S B1 h1 R.old 3 u nm (.slice (some ⟨b, o, none⟩) n c)
  have h12 : B1 ≤ w2.heap.size := Nat.le_trans h1 hb2.size
  have HX := Lib.hid (show ∀ V zs, J zs V → Frm S w2 V → KidC V b o k vk ∧ (V.cell? ⟨p0, 0, none⟩ = some (.int .u8 3) ∧ V.cell? ⟨p0, 6, none⟩ = some (.slice (some ⟨b, o, none⟩) n c)) ∧ V.heap[p1]? = some objZ ∧ Frm S W V from fun V zs j f => by
    obtain ⟨⟨k0, _, _, _, _, _, k6⟩, kz, kF, _, _⟩ := HK.out V f
    exact ⟨kid_cells hk (R.below _ _ j) hbl, ⟨k0, k6⟩, kz, kF⟩)
  have HR := Lib.hid R
  have hJ2 := R.mono _ _ _ hJ (hb2.mono h1)
  obtain ⟨⟨e0, e1, e2, e3, e4, e5, e6⟩, ⟨c0, c6⟩, -, -⟩ := HX.out w2 xs hJ2 (Frm.refl _ _)
  have C0 := Lib.hid (K0 w2 hJ2 h12)
  have n0 : (0 : Int) < (n : Int) := by omega
  have q1 : (((3 : Int) == 1) = false) := rfl
  have q2 : (((3 : Int) == 2) = false) := rfl
  have q4 : (((3 : Int) == 4) = false) := rfl
  have q3 : (((3 : Int) == 3) = true) := rfl
  have q5 : (((3 : Int) == 5) = false) := rfl
  have q6 : (((3 : Int) == 6) = false) := rfl
  have z0 : ((0 : Int) != 0) = false := rfl
  have hw2' : w1.alloc (.cells #[.int .u8 0, .int .i64 0, .bool false, .string ⟨#[]⟩] 26) = w2 := hw2
  have dk : (xv.kind != 2) = false := by simpa using hk2
  clear hb2 HK R hw2 hJ hJ2 hk K0 hn hk2
  go_enter Tryz.func87, Tryz.ntmps87
  go_wp2_with (go_at_call 87; refine C0.out.mono ?_; rintro e w5 ⟨rfl, hj5, hf5⟩; refine Hid.out ?_)
  refine Lib.hid ?_
  clear e0 e1 e2 e3 e4 e5 e6 c0 c6
  have hj8 := HR.out.mono _ _ _ hj5 ((Below.refl B1 w5).alloc (Nat.le_trans h12 hf5.size) (objV xv))
  have hf8 := hf5.below ((Below.refl _ w5).alloc (Nat.le_refl _) (objV xv))
  have h58 : B1 ≤ (w5.alloc (objV xv)).heap.size := Nat.le_trans (Nat.le_trans h12 hf5.size) ((Below.refl w5.heap.size w5).alloc (Nat.le_refl _) (objV xv)).size
  obtain ⟨-, ⟨c0, c6⟩, -, -⟩ := HX.out _ _ hj8 hf8
  go_wp2_with (go_at_call 54; refine (truthV_any _ (!xv.tr)).mono ?_; rintro e w9 ⟨rfl, hb9⟩; refine Hid.out ?_)
  refine Lib.hid ?_
  have hj9 := HR.out.mono _ _ _ hj8 (hb9.mono h58)
  have hf9 := hf8.below hb9
  obtain ⟨-, -, z, fE⟩ := HX.out _ _ hj9 hf9
  obtain ⟨⟨m0, m1, m2, m3⟩, f0, f1, f2, f3⟩ := zero_blk z
  have HE := Lib.hid (HR.out.fin (p := p1) hj9 fE h1 lp (trV (!xv.tr)))
  clear hj8 hj9 fE z hj5 c0 c6
  go_wp2_with fail
  exact bodyPost_ret (v := .tuple #[valV (trV (!xv.tr)), .int .i64 0]) (by simp [results, Tryz.results87, go_sem, trV, m0, m1, m2, m3]) rfl ⟨rfl, HE.out⟩

set_option maxHeartbeats 4000000 in
theorem ev_lazy5 (R : Reck w0 B0 B1 S J rp mb fid caps vv l) (u : Vl) (nm : ByteArray) (b o n c : Nat) (k : Nd) (vk : Value) (hk : KidC w0 b o k vk) (hbl : b < B0) (hn : 0 < n) (xs ys : List ByteArray) (xv : Vl) (K0 : KidE S J B1 rp k vk xs ys xv 0) (hk2 : xv.kind = 2) (ht : xv.tr = false) (W : World) (h1 : B1 ≤ W.heap.size) (hJ : J xs W) :
    Calls Tryz.prog 87 #[.pointer (some ⟨rp, 0, none⟩), valO 5 u nm (.slice (some ⟨b, o, none⟩) n c)] W fun e w' => e = .returned (.tuple #[valV xv, .int .i64 0]) ∧ J ys w' ∧ Frm S W w' := by
  obtain ⟨w1, w2, p0, p1, hp0, hw1, hp1, hw2, l01, lp, hb2, HK⟩ := node_start W S B1 h1 R.old 5 u nm (.slice (some ⟨b, o, none⟩) n c)
  have h12 : B1 ≤ w2.heap.size := Nat.le_trans h1 hb2.size
  have HX := Lib.hid (show ∀ V zs, J zs V → Frm S w2 V → KidC V b o k vk ∧ (V.cell? ⟨p0, 0, none⟩ = some (.int .u8 5) ∧ V.cell? ⟨p0, 6, none⟩ = some (.slice (some ⟨b, o, none⟩) n c)) ∧ V.heap[p1]? = some objZ ∧ Frm S W V from fun V zs j f => by
    obtain ⟨⟨k0, _, _, _, _, _, k6⟩, kz, kF, _, _⟩ := HK.out V f
    exact ⟨kid_cells hk (R.below _ _ j) hbl, ⟨k0, k6⟩, kz, kF⟩)
  have HR := Lib.hid R
  have hJ2 := R.mono _ _ _ hJ (hb2.mono h1)
  obtain ⟨⟨e0, e1, e2, e3, e4, e5, e6⟩, ⟨c0, c6⟩, -, -⟩ := HX.out w2 xs hJ2 (Frm.refl _ _)
  have C0 := Lib.hid (K0 w2 hJ2 h12)
  have n0 : (0 : Int) < (n : Int) := by omega
  have q1 : (((5 : Int) == 1) = false) := rfl
  have q2 : (((5 : Int) == 2) = false) := rfl
  have q4 : (((5 : Int) == 4) = false) := rfl
  have q3 : (((5 : Int) == 3) = false) := rfl
  have q5 : (((5 : Int) == 5) = true) := rfl
  have q6 : (((5 : Int) == 6) = false) := rfl
  have z0 : ((0 : Int) != 0) = false := rfl
  have hw2' : w1.alloc (.cells #[.int .u8 0, .int .i64 0, .bool false, .string ⟨#[]⟩] 26) = w2 := hw2
  have dk : (xv.kind != 2) = false := by simpa using hk2
  have dt : (xv.tr == false) = true := by rw [ht]; rfl
  clear hb2 HK R hw2 hJ hJ2 hk K0 hn hk2 ht
  go_enter Tryz.func87, Tryz.ntmps87
  go_wp2_with (go_at_call 87; refine C0.out.mono ?_; rintro e w5 ⟨rfl, hj5, hf5⟩; refine Hid.out ?_)
  refine Lib.hid ?_
  clear e0 e1 e2 e3 e4 e5 e6 c0 c6
  have hj8 := HR.out.mono _ _ _ hj5 ((Below.refl B1 w5).alloc (Nat.le_trans h12 hf5.size) (objV xv))
  have hf8 := hf5.below ((Below.refl _ w5).alloc (Nat.le_refl _) (objV xv))
  have h58 : B1 ≤ (w5.alloc (objV xv)).heap.size := Nat.le_trans (Nat.le_trans h12 hf5.size) ((Below.refl w5.heap.size w5).alloc (Nat.le_refl _) (objV xv)).size
  obtain ⟨-, ⟨c0, c6⟩, z, fE⟩ := HX.out _ _ hj8 hf8
  obtain ⟨⟨m0, m1, m2, m3⟩, f0, f1, f2, f3⟩ := zero_blk z
  have HE := Lib.hid (HR.out.fin (p := p1) hj8 fE h1 lp xv)
  clear hj8 fE z hj5
  go_wp2_with fail
  exact bodyPost_ret (v := .tuple #[valV xv, .int .i64 0]) (by simp [results, Tryz.results87, go_sem, m0, m1, m2, m3]) rfl ⟨rfl, HE.out⟩

set_option maxHeartbeats 4000000 in
theorem ev_lazy6 (R : Reck w0 B0 B1 S J rp mb fid caps vv l) (u : Vl) (nm : ByteArray) (b o n c : Nat) (k : Nd) (vk : Value) (hk : KidC w0 b o k vk) (hbl : b < B0) (hn : 0 < n) (xs ys : List ByteArray) (xv : Vl) (K0 : KidE S J B1 rp k vk xs ys xv 0) (hk2 : xv.kind = 2) (ht : xv.tr = true) (W : World) (h1 : B1 ≤ W.heap.size) (hJ : J xs W) :
    Calls Tryz.prog 87 #[.pointer (some ⟨rp, 0, none⟩), valO 6 u nm (.slice (some ⟨b, o, none⟩) n c)] W fun e w' => e = .returned (.tuple #[valV xv, .int .i64 0]) ∧ J ys w' ∧ Frm S W w' := by
  obtain ⟨w1, w2, p0, p1, hp0, hw1, hp1, hw2, l01, lp, hb2, HK⟩ := node_start W S B1 h1 R.old 6 u nm (.slice (some ⟨b, o, none⟩) n c)
  have h12 : B1 ≤ w2.heap.size := Nat.le_trans h1 hb2.size
  have HX := Lib.hid (show ∀ V zs, J zs V → Frm S w2 V → KidC V b o k vk ∧ (V.cell? ⟨p0, 0, none⟩ = some (.int .u8 6) ∧ V.cell? ⟨p0, 6, none⟩ = some (.slice (some ⟨b, o, none⟩) n c)) ∧ V.heap[p1]? = some objZ ∧ Frm S W V from fun V zs j f => by
    obtain ⟨⟨k0, _, _, _, _, _, k6⟩, kz, kF, _, _⟩ := HK.out V f
    exact ⟨kid_cells hk (R.below _ _ j) hbl, ⟨k0, k6⟩, kz, kF⟩)
  have HR := Lib.hid R
  have hJ2 := R.mono _ _ _ hJ (hb2.mono h1)
  obtain ⟨⟨e0, e1, e2, e3, e4, e5, e6⟩, ⟨c0, c6⟩, -, -⟩ := HX.out w2 xs hJ2 (Frm.refl _ _)
  have C0 := Lib.hid (K0 w2 hJ2 h12)
  have n0 : (0 : Int) < (n : Int) := by omega
  have q1 : (((6 : Int) == 1) = false) := rfl
  have q2 : (((6 : Int) == 2) = false) := rfl
  have q4 : (((6 : Int) == 4) = false) := rfl
  have q3 : (((6 : Int) == 3) = false) := rfl
  have q5 : (((6 : Int) == 5) = false) := rfl
  have q6 : (((6 : Int) == 6) = true) := rfl
  have z0 : ((0 : Int) != 0) = false := rfl
  have hw2' : w1.alloc (.cells #[.int .u8 0, .int .i64 0, .bool false, .string ⟨#[]⟩] 26) = w2 := hw2
  have dk : (xv.kind != 2) = false := by simpa using hk2
  have dt : (xv.tr == true) = true := by rw [ht]; rfl
  clear hb2 HK R hw2 hJ hJ2 hk K0 hn hk2 ht
  go_enter Tryz.func87, Tryz.ntmps87
  go_wp2_with (go_at_call 87; refine C0.out.mono ?_; rintro e w5 ⟨rfl, hj5, hf5⟩; refine Hid.out ?_)
  refine Lib.hid ?_
  clear e0 e1 e2 e3 e4 e5 e6 c0 c6
  have hj8 := HR.out.mono _ _ _ hj5 ((Below.refl B1 w5).alloc (Nat.le_trans h12 hf5.size) (objV xv))
  have hf8 := hf5.below ((Below.refl _ w5).alloc (Nat.le_refl _) (objV xv))
  have h58 : B1 ≤ (w5.alloc (objV xv)).heap.size := Nat.le_trans (Nat.le_trans h12 hf5.size) ((Below.refl w5.heap.size w5).alloc (Nat.le_refl _) (objV xv)).size
  obtain ⟨-, ⟨c0, c6⟩, z, fE⟩ := HX.out _ _ hj8 hf8
  obtain ⟨⟨m0, m1, m2, m3⟩, f0, f1, f2, f3⟩ := zero_blk z
  have HE := Lib.hid (HR.out.fin (p := p1) hj8 fE h1 lp xv)
  clear hj8 fE z hj5
  go_wp2_with fail
  exact bodyPost_ret (v := .tuple #[valV xv, .int .i64 0]) (by simp [results, Tryz.results87, go_sem, m0, m1, m2, m3]) rfl ⟨rfl, HE.out⟩
end
end Go.Proofs.YtbephgifbghilaaGreatDoor
