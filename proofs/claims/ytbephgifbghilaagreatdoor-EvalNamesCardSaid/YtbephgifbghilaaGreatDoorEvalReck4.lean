/- (*reckoner).eval: both parts are reached; printed by gen_evalreck4.py. -/
import Derived.Test.YtbephgifbghilaaGreatDoorEvalReck2
set_option maxRecDepth 100000
namespace Go.Proofs.YtbephgifbghilaaGreatDoor
open Go.RowKit

theorem RawM.drew {w : World} {b : Nat} {F : List (Int × Value)} (h : RawM w b F) : RawM w.drew b F := h.sameB rfl
theorem Reck.fin2 {w0 : World} {B0 B1 : Nat} {S : List (Option Nat)} {J : List ByteArray → World → Prop} {rp mb fid : Nat} {caps : Array Value} {vv : Value} {l : List Bd} (R : Reck w0 B0 B1 S J rp mb fid caps vv l) {xs : List ByteArray} {W V : World} (h : J xs V ∧ Frm S W V) : J xs V.drew ∧ Frm S W V.drew :=
  ⟨R.mono _ _ _ h.1 (Below.refl _ _).drew, h.2.below (Below.refl _ _).drew⟩
section
variable {w0 : World} {B0 B1 : Nat} {S : List (Option Nat)} {J : List ByteArray → World → Prop} {rp mb fid : Nat} {caps : Array Value} {vv : Value} {l : List Bd}

set_option maxHeartbeats 4000000 in
theorem ev_bad2_5 (R : Reck w0 B0 B1 S J rp mb fid caps vv l) (u : Vl) (nm : ByteArray) (b o n c : Nat) (k k' : Nd) (vk vk' : Value) (hk : KidC w0 b o k vk) (hk' : KidC w0 b (o + 7) k' vk') (hbl : b < B0) (hn : 1 < n) (xs ys zs : List ByteArray) (xv yv : Vl) (ye : Int) (K0 : KidE S J B1 rp k vk xs ys xv 0) (K1 : KidE S J B1 rp k' vk' ys zs yv ye) (hk2 : xv.kind = 2) (ht : xv.tr = true) (hye : ye ≠ 0) (W : World) (h1 : B1 ≤ W.heap.size) (hJ : J xs W) :
    Calls Tryz.prog 87 #[.pointer (some ⟨rp, 0, none⟩), valO 5 u nm (.slice (some ⟨b, o, none⟩) n c)] W fun e w' => e = .returned (.tuple #[valV Vl.zero, .int .i64 ye]) ∧ J zs w' ∧ Frm S W w' := by
  obtain ⟨w1, w2, p0, p1, hp0, hw1, hp1, hw2, l01, lp, hb2, HK⟩ := node_start W S B1 h1 R.old 5 u nm (.slice (some ⟨b, o, none⟩) n c)
  have h12 : B1 ≤ w2.heap.size := Nat.le_trans h1 hb2.size
  have HX := Lib.hid (show ∀ V zs, J zs V → Frm S w2 V → (KidC V b o k vk ∧ KidC V b (o + 7) k' vk') ∧ (V.cell? ⟨p0, 0, none⟩ = some (.int .u8 5) ∧ V.cell? ⟨p0, 6, none⟩ = some (.slice (some ⟨b, o, none⟩) n c)) ∧ V.heap[p1]? = some objZ ∧ Frm S W V from fun V zs j f => by
    obtain ⟨⟨k0, _, _, _, _, _, k6⟩, kz, kF, _, _⟩ := HK.out V f
    exact ⟨⟨kid_cells hk (R.below _ _ j) hbl, kid_cells hk' (R.below _ _ j) hbl⟩, ⟨k0, k6⟩, kz, kF⟩)
  have HR := Lib.hid R
  have hJ2 := R.mono _ _ _ hJ (hb2.mono h1)
  obtain ⟨⟨⟨e0, e1, e2, e3, e4, e5, e6⟩, -⟩, ⟨c0, c6⟩, -, -⟩ := HX.out w2 xs hJ2 (Frm.refl _ _)
  have C0 := Lib.hid (K0 w2 hJ2 h12)
  have K1 := Lib.hid K1
  have n0 : (0 : Int) < (n : Int) := by omega
  have n1 : (1 : Int) < (n : Int) := by omega
  have q1 : (((5 : Int) == 1) = false) := rfl
  have q2 : (((5 : Int) == 2) = false) := rfl
  have q4 : (((5 : Int) == 4) = false) := rfl
  have q3 : (((5 : Int) == 3) = false) := rfl
  have q5 : (((5 : Int) == 5) = true) := rfl
  have q6 : (((5 : Int) == 6) = false) := rfl
  have z0 : ((0 : Int) != 0) = false := rfl
  have hw2' : w1.alloc (.cells #[.int .u8 0, .int .i64 0, .bool false, .string ⟨#[]⟩] 26) = w2 := hw2
  have dk : (xv.kind != 2) = false := by simpa using hk2
  have dt : (xv.tr == false) = false := by rw [ht]; rfl
  have dy : (ye != 0) = true := by simpa using hye
  clear hb2 HK R hw2 hJ hJ2 hk hk' K0 hn hk2 ht hye
  go_enter Tryz.func87, Tryz.ntmps87
  go_wp2_with (go_at_call 87; refine C0.out.mono ?_; rintro e w5 ⟨rfl, hj5, hf5⟩; refine Hid.out ?_)
  refine Lib.hid ?_
  clear e0 e1 e2 e3 e4 e5 e6 c0 c6
  obtain ⟨w8, p8, hp8, hw8, l8, n8, hb8⟩ := box_new w5 (objV xv)
  have hw8' : w5.alloc (.cells #[.int .u8 xv.kind, .int .i64 xv.num, .bool xv.tr, .string xv.text] 26) = w8 := hw8
  have hj8 := HR.out.mono _ _ _ hj5 (hb8.mono (Nat.le_trans h12 hf5.size))
  have hf8 := hf5.below hb8
  have h58 : B1 ≤ w8.heap.size := Nat.le_trans (Nat.le_trans h12 hf5.size) hb8.size
  have hge : B1 ≤ p8 := by have := hf5.size; omega
  obtain ⟨⟨-, ⟨e0, e1, e2, e3, e4, e5, e6⟩⟩, ⟨c0, c6⟩, -, -⟩ := HX.out w8 ys hj8 hf8
  have C1 := Lib.hid (K1.out w8 hj8 h58)
  obtain ⟨x0, x1, x2, x3⟩ := v_cells n8
  have N8 := Lib.hid n8
  clear hw8 n8 hj5 hj8 hb8
  go_wp2_with (go_at_call 87; refine C1.out.mono ?_; rintro e w9 ⟨rfl, hj9, hf9⟩; refine Hid.out ?_)
  refine Lib.hid ?_
  clear e0 e1 e2 e3 e4 e5 e6 c0 c6 x0 x1 x2 x3
  obtain ⟨w10, p10, hp10, hw10, l10, n10, hb10⟩ := box_new w9 (objV yv)
  have hw10' : w9.alloc (.cells #[.int .u8 yv.kind, .int .i64 yv.num, .bool yv.tr, .string yv.text] 26) = w10 := hw10
  have h9 := HR.out.kept hf9 N8.out hge
  have hj10 := HR.out.mono _ _ _ hj9 (hb10.mono (Nat.le_trans h58 hf9.size))
  have hf10 := (Frm.trans (T := S) hf8 hf9 (fun r hr => Or.inl hr)).below hb10
  have h60 : B1 ≤ w10.heap.size := Nat.le_trans (Nat.le_trans h58 hf9.size) hb10.size
  have hn8 := (hb10.block p8 (lt_of_block h9)).trans h9
  obtain ⟨x0, x1, x2, x3⟩ := v_cells hn8
  obtain ⟨y0, y1, y2, y3⟩ := v_cells n10
  clear hw10 n10 hj9 h9 hn8
  obtain ⟨-, ⟨c0, c6⟩, z, fE⟩ := HX.out _ _ hj10 hf10
  obtain ⟨⟨m0, m1, m2, m3⟩, f0, f1, f2, f3⟩ := zero_blk z
  have HE := Lib.hid (HR.out.fin (p := p1) hj10 fE h1 lp Vl.zero)
  clear hj10 fE z
  go_wp2_with fail
  exact bodyPost_ret (v := .tuple #[valV Vl.zero, .int .i64 ye]) (by simp [results, Tryz.results87, go_sem, Vl.zero, m0, m1, m2, m3]) rfl ⟨rfl, by first | exact HE.out | exact HR.out.fin2 HE.out⟩

set_option maxHeartbeats 4000000 in
theorem ev_bad2_6 (R : Reck w0 B0 B1 S J rp mb fid caps vv l) (u : Vl) (nm : ByteArray) (b o n c : Nat) (k k' : Nd) (vk vk' : Value) (hk : KidC w0 b o k vk) (hk' : KidC w0 b (o + 7) k' vk') (hbl : b < B0) (hn : 1 < n) (xs ys zs : List ByteArray) (xv yv : Vl) (ye : Int) (K0 : KidE S J B1 rp k vk xs ys xv 0) (K1 : KidE S J B1 rp k' vk' ys zs yv ye) (hk2 : xv.kind = 2) (ht : xv.tr = false) (hye : ye ≠ 0) (W : World) (h1 : B1 ≤ W.heap.size) (hJ : J xs W) :
    Calls Tryz.prog 87 #[.pointer (some ⟨rp, 0, none⟩), valO 6 u nm (.slice (some ⟨b, o, none⟩) n c)] W fun e w' => e = .returned (.tuple #[valV Vl.zero, .int .i64 ye]) ∧ J zs w' ∧ Frm S W w' := by
  obtain ⟨w1, w2, p0, p1, hp0, hw1, hp1, hw2, l01, lp, hb2, HK⟩ := node_start W S B1 h1 R.old 6 u nm (.slice (some ⟨b, o, none⟩) n c)
  have h12 : B1 ≤ w2.heap.size := Nat.le_trans h1 hb2.size
  have HX := Lib.hid (show ∀ V zs, J zs V → Frm S w2 V → (KidC V b o k vk ∧ KidC V b (o + 7) k' vk') ∧ (V.cell? ⟨p0, 0, none⟩ = some (.int .u8 6) ∧ V.cell? ⟨p0, 6, none⟩ = some (.slice (some ⟨b, o, none⟩) n c)) ∧ V.heap[p1]? = some objZ ∧ Frm S W V from fun V zs j f => by
    obtain ⟨⟨k0, _, _, _, _, _, k6⟩, kz, kF, _, _⟩ := HK.out V f
    exact ⟨⟨kid_cells hk (R.below _ _ j) hbl, kid_cells hk' (R.below _ _ j) hbl⟩, ⟨k0, k6⟩, kz, kF⟩)
  have HR := Lib.hid R
  have hJ2 := R.mono _ _ _ hJ (hb2.mono h1)
  obtain ⟨⟨⟨e0, e1, e2, e3, e4, e5, e6⟩, -⟩, ⟨c0, c6⟩, -, -⟩ := HX.out w2 xs hJ2 (Frm.refl _ _)
  have C0 := Lib.hid (K0 w2 hJ2 h12)
  have K1 := Lib.hid K1
  have n0 : (0 : Int) < (n : Int) := by omega
  have n1 : (1 : Int) < (n : Int) := by omega
  have q1 : (((6 : Int) == 1) = false) := rfl
  have q2 : (((6 : Int) == 2) = false) := rfl
  have q4 : (((6 : Int) == 4) = false) := rfl
  have q3 : (((6 : Int) == 3) = false) := rfl
  have q5 : (((6 : Int) == 5) = false) := rfl
  have q6 : (((6 : Int) == 6) = true) := rfl
  have z0 : ((0 : Int) != 0) = false := rfl
  have hw2' : w1.alloc (.cells #[.int .u8 0, .int .i64 0, .bool false, .string ⟨#[]⟩] 26) = w2 := hw2
  have dk : (xv.kind != 2) = false := by simpa using hk2
  have dt : (xv.tr == true) = false := by rw [ht]; rfl
  have dy : (ye != 0) = true := by simpa using hye
  clear hb2 HK R hw2 hJ hJ2 hk hk' K0 hn hk2 ht hye
  go_enter Tryz.func87, Tryz.ntmps87
  go_wp2_with (go_at_call 87; refine C0.out.mono ?_; rintro e w5 ⟨rfl, hj5, hf5⟩; refine Hid.out ?_)
  refine Lib.hid ?_
  clear e0 e1 e2 e3 e4 e5 e6 c0 c6
  obtain ⟨w8, p8, hp8, hw8, l8, n8, hb8⟩ := box_new w5 (objV xv)
  have hw8' : w5.alloc (.cells #[.int .u8 xv.kind, .int .i64 xv.num, .bool xv.tr, .string xv.text] 26) = w8 := hw8
  have hj8 := HR.out.mono _ _ _ hj5 (hb8.mono (Nat.le_trans h12 hf5.size))
  have hf8 := hf5.below hb8
  have h58 : B1 ≤ w8.heap.size := Nat.le_trans (Nat.le_trans h12 hf5.size) hb8.size
  have hge : B1 ≤ p8 := by have := hf5.size; omega
  obtain ⟨⟨-, ⟨e0, e1, e2, e3, e4, e5, e6⟩⟩, ⟨c0, c6⟩, -, -⟩ := HX.out w8 ys hj8 hf8
  have C1 := Lib.hid (K1.out w8 hj8 h58)
  obtain ⟨x0, x1, x2, x3⟩ := v_cells n8
  have N8 := Lib.hid n8
  clear hw8 n8 hj5 hj8 hb8
  go_wp2_with (go_at_call 87; refine C1.out.mono ?_; rintro e w9 ⟨rfl, hj9, hf9⟩; refine Hid.out ?_)
  refine Lib.hid ?_
  clear e0 e1 e2 e3 e4 e5 e6 c0 c6 x0 x1 x2 x3
  obtain ⟨w10, p10, hp10, hw10, l10, n10, hb10⟩ := box_new w9 (objV yv)
  have hw10' : w9.alloc (.cells #[.int .u8 yv.kind, .int .i64 yv.num, .bool yv.tr, .string yv.text] 26) = w10 := hw10
  have h9 := HR.out.kept hf9 N8.out hge
  have hj10 := HR.out.mono _ _ _ hj9 (hb10.mono (Nat.le_trans h58 hf9.size))
  have hf10 := (Frm.trans (T := S) hf8 hf9 (fun r hr => Or.inl hr)).below hb10
  have h60 : B1 ≤ w10.heap.size := Nat.le_trans (Nat.le_trans h58 hf9.size) hb10.size
  have hn8 := (hb10.block p8 (lt_of_block h9)).trans h9
  obtain ⟨x0, x1, x2, x3⟩ := v_cells hn8
  obtain ⟨y0, y1, y2, y3⟩ := v_cells n10
  clear hw10 n10 hj9 h9 hn8
  obtain ⟨-, ⟨c0, c6⟩, z, fE⟩ := HX.out _ _ hj10 hf10
  obtain ⟨⟨m0, m1, m2, m3⟩, f0, f1, f2, f3⟩ := zero_blk z
  have HE := Lib.hid (HR.out.fin (p := p1) hj10 fE h1 lp Vl.zero)
  clear hj10 fE z
  go_wp2_with fail
  exact bodyPost_ret (v := .tuple #[valV Vl.zero, .int .i64 ye]) (by simp [results, Tryz.results87, go_sem, Vl.zero, m0, m1, m2, m3]) rfl ⟨rfl, by first | exact HE.out | exact HR.out.fin2 HE.out⟩

set_option maxHeartbeats 4000000 in
theorem ev_bad2 (R : Reck w0 B0 B1 S J rp mb fid caps vv l) (op : Int) (q1 : (op == 1) = false) (q2 : (op == 2) = false) (q4 : (op == 4) = false) (q3 : (op == 3) = false) (q5 : (op == 5) = false) (q6 : (op == 6) = false) (u : Vl) (nm : ByteArray) (b o n c : Nat) (k k' : Nd) (vk vk' : Value) (hk : KidC w0 b o k vk) (hk' : KidC w0 b (o + 7) k' vk') (hbl : b < B0) (hn : 1 < n) (xs ys zs : List ByteArray) (xv yv : Vl) (ye : Int) (K0 : KidE S J B1 rp k vk xs ys xv 0) (K1 : KidE S J B1 rp k' vk' ys zs yv ye) (hye : ye ≠ 0) (W : World) (h1 : B1 ≤ W.heap.size) (hJ : J xs W) :
    Calls Tryz.prog 87 #[.pointer (some ⟨rp, 0, none⟩), valO op u nm (.slice (some ⟨b, o, none⟩) n c)] W fun e w' => e = .returned (.tuple #[valV Vl.zero, .int .i64 ye]) ∧ J zs w' ∧ Frm S W w' := by
  obtain ⟨w1, w2, p0, p1, hp0, hw1, hp1, hw2, l01, lp, hb2, HK⟩ := node_start W S B1 h1 R.old op u nm (.slice (some ⟨b, o, none⟩) n c)
  have h12 : B1 ≤ w2.heap.size := Nat.le_trans h1 hb2.size
  have HX := Lib.hid (show ∀ V zs, J zs V → Frm S w2 V → (KidC V b o k vk ∧ KidC V b (o + 7) k' vk') ∧ (V.cell? ⟨p0, 0, none⟩ = some (.int .u8 op) ∧ V.cell? ⟨p0, 6, none⟩ = some (.slice (some ⟨b, o, none⟩) n c)) ∧ V.heap[p1]? = some objZ ∧ Frm S W V from fun V zs j f => by
    obtain ⟨⟨k0, _, _, _, _, _, k6⟩, kz, kF, _, _⟩ := HK.out V f
    exact ⟨⟨kid_cells hk (R.below _ _ j) hbl, kid_cells hk' (R.below _ _ j) hbl⟩, ⟨k0, k6⟩, kz, kF⟩)
  have HR := Lib.hid R
  have hJ2 := R.mono _ _ _ hJ (hb2.mono h1)
  obtain ⟨⟨⟨e0, e1, e2, e3, e4, e5, e6⟩, -⟩, ⟨c0, c6⟩, -, -⟩ := HX.out w2 xs hJ2 (Frm.refl _ _)
  have C0 := Lib.hid (K0 w2 hJ2 h12)
  have K1 := Lib.hid K1
  have n0 : (0 : Int) < (n : Int) := by omega
  have n1 : (1 : Int) < (n : Int) := by omega

  have z0 : ((0 : Int) != 0) = false := rfl
  have hw2' : w1.alloc (.cells #[.int .u8 0, .int .i64 0, .bool false, .string ⟨#[]⟩] 26) = w2 := hw2
  have dy : (ye != 0) = true := by simpa using hye
  clear hb2 HK R hw2 hJ hJ2 hk hk' K0 hn hye
  go_enter Tryz.func87, Tryz.ntmps87
  go_wp2_with (go_at_call 87; refine C0.out.mono ?_; rintro e w5 ⟨rfl, hj5, hf5⟩; refine Hid.out ?_)
  refine Lib.hid ?_
  clear e0 e1 e2 e3 e4 e5 e6 c0 c6
  obtain ⟨w8, p8, hp8, hw8, l8, n8, hb8⟩ := box_new w5 (objV xv)
  have hw8' : w5.alloc (.cells #[.int .u8 xv.kind, .int .i64 xv.num, .bool xv.tr, .string xv.text] 26) = w8 := hw8
  have hj8 := HR.out.mono _ _ _ hj5 (hb8.mono (Nat.le_trans h12 hf5.size))
  have hf8 := hf5.below hb8
  have h58 : B1 ≤ w8.heap.size := Nat.le_trans (Nat.le_trans h12 hf5.size) hb8.size
  have hge : B1 ≤ p8 := by have := hf5.size; omega
  obtain ⟨⟨-, ⟨e0, e1, e2, e3, e4, e5, e6⟩⟩, ⟨c0, c6⟩, -, -⟩ := HX.out w8 ys hj8 hf8
  have C1 := Lib.hid (K1.out w8 hj8 h58)
  obtain ⟨x0, x1, x2, x3⟩ := v_cells n8
  have N8 := Lib.hid n8
  clear hw8 n8 hj5 hj8 hb8
  go_wp2_with (go_at_call 87; refine C1.out.mono ?_; rintro e w9 ⟨rfl, hj9, hf9⟩; refine Hid.out ?_)
  refine Lib.hid ?_
  clear e0 e1 e2 e3 e4 e5 e6 c0 c6 x0 x1 x2 x3
  obtain ⟨w10, p10, hp10, hw10, l10, n10, hb10⟩ := box_new w9 (objV yv)
  have hw10' : w9.alloc (.cells #[.int .u8 yv.kind, .int .i64 yv.num, .bool yv.tr, .string yv.text] 26) = w10 := hw10
  have h9 := HR.out.kept hf9 N8.out hge
  have hj10 := HR.out.mono _ _ _ hj9 (hb10.mono (Nat.le_trans h58 hf9.size))
  have hf10 := (Frm.trans (T := S) hf8 hf9 (fun r hr => Or.inl hr)).below hb10
  have h60 : B1 ≤ w10.heap.size := Nat.le_trans (Nat.le_trans h58 hf9.size) hb10.size
  have hn8 := (hb10.block p8 (lt_of_block h9)).trans h9
  obtain ⟨x0, x1, x2, x3⟩ := v_cells hn8
  obtain ⟨y0, y1, y2, y3⟩ := v_cells n10
  clear hw10 n10 hj9 h9 hn8
  obtain ⟨-, ⟨c0, c6⟩, z, fE⟩ := HX.out _ _ hj10 hf10
  obtain ⟨⟨m0, m1, m2, m3⟩, f0, f1, f2, f3⟩ := zero_blk z
  have HE := Lib.hid (HR.out.fin (p := p1) hj10 fE h1 lp Vl.zero)
  clear hj10 fE z
  go_wp2_with fail
  exact bodyPost_ret (v := .tuple #[valV Vl.zero, .int .i64 ye]) (by simp [results, Tryz.results87, go_sem, Vl.zero, m0, m1, m2, m3]) rfl ⟨rfl, by first | exact HE.out | exact HR.out.fin2 HE.out⟩

set_option maxHeartbeats 4000000 in
theorem ev_loose5 (R : Reck w0 B0 B1 S J rp mb fid caps vv l) (u : Vl) (nm : ByteArray) (b o n c : Nat) (k k' : Nd) (vk vk' : Value) (hk : KidC w0 b o k vk) (hk' : KidC w0 b (o + 7) k' vk') (hbl : b < B0) (hn : 1 < n) (xs ys zs : List ByteArray) (xv yv : Vl) (ye : Int) (K0 : KidE S J B1 rp k vk xs ys xv 0) (K1 : KidE S J B1 rp k' vk' ys zs yv ye) (hk2 : xv.kind = 2) (ht : xv.tr = true) (hye : ye = 0) (hlk : ∀ V, RawM V mb twoF → (Instr.lookup 122 (.map (some mb)) (.int .u8 5) true).run Tryz.prog V = .ok (.tuple #[.nilFunc, .bool false]) V) (hy2 : yv.kind ≠ 2) (W : World) (h1 : B1 ≤ W.heap.size) (hJ : J xs W) :
    Calls Tryz.prog 87 #[.pointer (some ⟨rp, 0, none⟩), valO 5 u nm (.slice (some ⟨b, o, none⟩) n c)] W fun e w' => e = .returned (.tuple #[valV Vl.zero, .int .i64 90]) ∧ J zs w' ∧ Frm S W w' := by
  obtain ⟨w1, w2, p0, p1, hp0, hw1, hp1, hw2, l01, lp, hb2, HK⟩ := node_start W S B1 h1 R.old 5 u nm (.slice (some ⟨b, o, none⟩) n c)
  have h12 : B1 ≤ w2.heap.size := Nat.le_trans h1 hb2.size
  have HX := Lib.hid (show ∀ V zs, J zs V → Frm S w2 V → (KidC V b o k vk ∧ KidC V b (o + 7) k' vk') ∧ (V.cell? ⟨p0, 0, none⟩ = some (.int .u8 5) ∧ V.cell? ⟨p0, 6, none⟩ = some (.slice (some ⟨b, o, none⟩) n c)) ∧ V.heap[p1]? = some objZ ∧ Frm S W V from fun V zs j f => by
    obtain ⟨⟨k0, _, _, _, _, _, k6⟩, kz, kF, _, _⟩ := HK.out V f
    exact ⟨⟨kid_cells hk (R.below _ _ j) hbl, kid_cells hk' (R.below _ _ j) hbl⟩, ⟨k0, k6⟩, kz, kF⟩)
  have HR := Lib.hid R
  have hJ2 := R.mono _ _ _ hJ (hb2.mono h1)
  obtain ⟨⟨⟨e0, e1, e2, e3, e4, e5, e6⟩, -⟩, ⟨c0, c6⟩, -, -⟩ := HX.out w2 xs hJ2 (Frm.refl _ _)
  have C0 := Lib.hid (K0 w2 hJ2 h12)
  have K1 := Lib.hid K1
  have n0 : (0 : Int) < (n : Int) := by omega
  have n1 : (1 : Int) < (n : Int) := by omega
  have q1 : (((5 : Int) == 1) = false) := rfl
  have q2 : (((5 : Int) == 2) = false) := rfl
  have q4 : (((5 : Int) == 4) = false) := rfl
  have q3 : (((5 : Int) == 3) = false) := rfl
  have q5 : (((5 : Int) == 5) = true) := rfl
  have q6 : (((5 : Int) == 6) = false) := rfl
  have z0 : ((0 : Int) != 0) = false := rfl
  have hw2' : w1.alloc (.cells #[.int .u8 0, .int .i64 0, .bool false, .string ⟨#[]⟩] 26) = w2 := hw2
  subst hye
  have dk : (xv.kind != 2) = false := by simpa using hk2
  have dt : (xv.tr == false) = false := by rw [ht]; rfl
  have dy : (yv.kind != 2) = true := by simpa using hy2
  clear hb2 HK R hw2 hJ hJ2 hk hk' K0 hn hk2 ht hy2
  go_enter Tryz.func87, Tryz.ntmps87
  go_wp2_with (go_at_call 87; refine C0.out.mono ?_; rintro e w5 ⟨rfl, hj5, hf5⟩; refine Hid.out ?_)
  refine Lib.hid ?_
  clear e0 e1 e2 e3 e4 e5 e6 c0 c6
  obtain ⟨w8, p8, hp8, hw8, l8, n8, hb8⟩ := box_new w5 (objV xv)
  have hw8' : w5.alloc (.cells #[.int .u8 xv.kind, .int .i64 xv.num, .bool xv.tr, .string xv.text] 26) = w8 := hw8
  have hj8 := HR.out.mono _ _ _ hj5 (hb8.mono (Nat.le_trans h12 hf5.size))
  have hf8 := hf5.below hb8
  have h58 : B1 ≤ w8.heap.size := Nat.le_trans (Nat.le_trans h12 hf5.size) hb8.size
  have hge : B1 ≤ p8 := by have := hf5.size; omega
  obtain ⟨⟨-, ⟨e0, e1, e2, e3, e4, e5, e6⟩⟩, ⟨c0, c6⟩, -, -⟩ := HX.out w8 ys hj8 hf8
  have C1 := Lib.hid (K1.out w8 hj8 h58)
  obtain ⟨x0, x1, x2, x3⟩ := v_cells n8
  have N8 := Lib.hid n8
  clear hw8 n8 hj5 hj8 hb8
  go_wp2_with (go_at_call 87; refine C1.out.mono ?_; rintro e w9 ⟨rfl, hj9, hf9⟩; refine Hid.out ?_)
  refine Lib.hid ?_
  clear e0 e1 e2 e3 e4 e5 e6 c0 c6 x0 x1 x2 x3
  obtain ⟨w10, p10, hp10, hw10, l10, n10, hb10⟩ := box_new w9 (objV yv)
  have hw10' : w9.alloc (.cells #[.int .u8 yv.kind, .int .i64 yv.num, .bool yv.tr, .string yv.text] 26) = w10 := hw10
  have h9 := HR.out.kept hf9 N8.out hge
  have hj10 := HR.out.mono _ _ _ hj9 (hb10.mono (Nat.le_trans h58 hf9.size))
  have hf10 := (Frm.trans (T := S) hf8 hf9 (fun r hr => Or.inl hr)).below hb10
  have h60 : B1 ≤ w10.heap.size := Nat.le_trans (Nat.le_trans h58 hf9.size) hb10.size
  have hn8 := (hb10.block p8 (lt_of_block h9)).trans h9
  obtain ⟨x0, x1, x2, x3⟩ := v_cells hn8
  obtain ⟨y0, y1, y2, y3⟩ := v_cells n10
  clear hw10 n10 hj9 h9 hn8
  obtain ⟨-, ⟨c0, c6⟩, z, fE⟩ := HX.out _ _ hj10 hf10
  obtain ⟨⟨m0, m1, m2, m3⟩, f0, f1, f2, f3⟩ := zero_blk z
  have HE := Lib.hid (HR.out.fin (p := p1) hj10 fE h1 lp Vl.zero)
  obtain ⟨-, -, r2, rm⟩ := HR.out.cells _ _ hj10
  have hlook := hlk w10.drew rm.drew
  clear hj10 fE z
  go_wp2_with fail
  go_region_held3 (fun w' => w'.cell? ⟨rp, 2, none⟩ = some (.map (some mb)) ∧ w'.cell? ⟨p0, 0, none⟩ = some (.int .u8 5)) (go_keep) (fail)
  go_wp2_with fail
  exact bodyPost_ret (v := .tuple #[valV Vl.zero, .int .i64 90]) (by simp [results, Tryz.results87, go_sem, Vl.zero, m0, m1, m2, m3]) rfl ⟨rfl, by first | exact HE.out | exact HR.out.fin2 HE.out⟩

set_option maxHeartbeats 4000000 in
theorem ev_last5 (R : Reck w0 B0 B1 S J rp mb fid caps vv l) (u : Vl) (nm : ByteArray) (b o n c : Nat) (k k' : Nd) (vk vk' : Value) (hk : KidC w0 b o k vk) (hk' : KidC w0 b (o + 7) k' vk') (hbl : b < B0) (hn : 1 < n) (xs ys zs : List ByteArray) (xv yv : Vl) (ye : Int) (K0 : KidE S J B1 rp k vk xs ys xv 0) (K1 : KidE S J B1 rp k' vk' ys zs yv ye) (hk2 : xv.kind = 2) (ht : xv.tr = true) (hye : ye = 0) (hlk : ∀ V, RawM V mb twoF → (Instr.lookup 122 (.map (some mb)) (.int .u8 5) true).run Tryz.prog V = .ok (.tuple #[.nilFunc, .bool false]) V) (hy2 : yv.kind = 2) (W : World) (h1 : B1 ≤ W.heap.size) (hJ : J xs W) :
    Calls Tryz.prog 87 #[.pointer (some ⟨rp, 0, none⟩), valO 5 u nm (.slice (some ⟨b, o, none⟩) n c)] W fun e w' => e = .returned (.tuple #[valV yv, .int .i64 0]) ∧ J zs w' ∧ Frm S W w' := by
  obtain ⟨w1, w2, p0, p1, hp0, hw1, hp1, hw2, l01, lp, hb2, HK⟩ := node_start W S B1 h1 R.old 5 u nm (.slice (some ⟨b, o, none⟩) n c)
  have h12 : B1 ≤ w2.heap.size := Nat.le_trans h1 hb2.size
  have HX := Lib.hid (show ∀ V zs, J zs V → Frm S w2 V → (KidC V b o k vk ∧ KidC V b (o + 7) k' vk') ∧ (V.cell? ⟨p0, 0, none⟩ = some (.int .u8 5) ∧ V.cell? ⟨p0, 6, none⟩ = some (.slice (some ⟨b, o, none⟩) n c)) ∧ V.heap[p1]? = some objZ ∧ Frm S W V from fun V zs j f => by
    obtain ⟨⟨k0, _, _, _, _, _, k6⟩, kz, kF, _, _⟩ := HK.out V f
    exact ⟨⟨kid_cells hk (R.below _ _ j) hbl, kid_cells hk' (R.below _ _ j) hbl⟩, ⟨k0, k6⟩, kz, kF⟩)
  have HR := Lib.hid R
  have hJ2 := R.mono _ _ _ hJ (hb2.mono h1)
  obtain ⟨⟨⟨e0, e1, e2, e3, e4, e5, e6⟩, -⟩, ⟨c0, c6⟩, -, -⟩ := HX.out w2 xs hJ2 (Frm.refl _ _)
  have C0 := Lib.hid (K0 w2 hJ2 h12)
  have K1 := Lib.hid K1
  have n0 : (0 : Int) < (n : Int) := by omega
  have n1 : (1 : Int) < (n : Int) := by omega
  have q1 : (((5 : Int) == 1) = false) := rfl
  have q2 : (((5 : Int) == 2) = false) := rfl
  have q4 : (((5 : Int) == 4) = false) := rfl
  have q3 : (((5 : Int) == 3) = false) := rfl
  have q5 : (((5 : Int) == 5) = true) := rfl
  have q6 : (((5 : Int) == 6) = false) := rfl
  have z0 : ((0 : Int) != 0) = false := rfl
  have hw2' : w1.alloc (.cells #[.int .u8 0, .int .i64 0, .bool false, .string ⟨#[]⟩] 26) = w2 := hw2
  subst hye
  have dk : (xv.kind != 2) = false := by simpa using hk2
  have dt : (xv.tr == false) = false := by rw [ht]; rfl
  have dy : (yv.kind != 2) = false := by simpa using hy2
  clear hb2 HK R hw2 hJ hJ2 hk hk' K0 hn hk2 ht hy2
  go_enter Tryz.func87, Tryz.ntmps87
  go_wp2_with (go_at_call 87; refine C0.out.mono ?_; rintro e w5 ⟨rfl, hj5, hf5⟩; refine Hid.out ?_)
  refine Lib.hid ?_
  clear e0 e1 e2 e3 e4 e5 e6 c0 c6
  obtain ⟨w8, p8, hp8, hw8, l8, n8, hb8⟩ := box_new w5 (objV xv)
  have hw8' : w5.alloc (.cells #[.int .u8 xv.kind, .int .i64 xv.num, .bool xv.tr, .string xv.text] 26) = w8 := hw8
  have hj8 := HR.out.mono _ _ _ hj5 (hb8.mono (Nat.le_trans h12 hf5.size))
  have hf8 := hf5.below hb8
  have h58 : B1 ≤ w8.heap.size := Nat.le_trans (Nat.le_trans h12 hf5.size) hb8.size
  have hge : B1 ≤ p8 := by have := hf5.size; omega
  obtain ⟨⟨-, ⟨e0, e1, e2, e3, e4, e5, e6⟩⟩, ⟨c0, c6⟩, -, -⟩ := HX.out w8 ys hj8 hf8
  have C1 := Lib.hid (K1.out w8 hj8 h58)
  obtain ⟨x0, x1, x2, x3⟩ := v_cells n8
  have N8 := Lib.hid n8
  clear hw8 n8 hj5 hj8 hb8
  go_wp2_with (go_at_call 87; refine C1.out.mono ?_; rintro e w9 ⟨rfl, hj9, hf9⟩; refine Hid.out ?_)
  refine Lib.hid ?_
  clear e0 e1 e2 e3 e4 e5 e6 c0 c6 x0 x1 x2 x3
  obtain ⟨w10, p10, hp10, hw10, l10, n10, hb10⟩ := box_new w9 (objV yv)
  have hw10' : w9.alloc (.cells #[.int .u8 yv.kind, .int .i64 yv.num, .bool yv.tr, .string yv.text] 26) = w10 := hw10
  have h9 := HR.out.kept hf9 N8.out hge
  have hj10 := HR.out.mono _ _ _ hj9 (hb10.mono (Nat.le_trans h58 hf9.size))
  have hf10 := (Frm.trans (T := S) hf8 hf9 (fun r hr => Or.inl hr)).below hb10
  have h60 : B1 ≤ w10.heap.size := Nat.le_trans (Nat.le_trans h58 hf9.size) hb10.size
  have hn8 := (hb10.block p8 (lt_of_block h9)).trans h9
  obtain ⟨x0, x1, x2, x3⟩ := v_cells hn8
  obtain ⟨y0, y1, y2, y3⟩ := v_cells n10
  clear hw10 n10 hj9 h9 hn8
  obtain ⟨-, ⟨c0, c6⟩, z, fE⟩ := HX.out _ _ hj10 hf10
  obtain ⟨⟨m0, m1, m2, m3⟩, f0, f1, f2, f3⟩ := zero_blk z
  have HE := Lib.hid (HR.out.fin (p := p1) hj10 fE h1 lp yv)
  obtain ⟨-, -, r2, rm⟩ := HR.out.cells _ _ hj10
  have hlook := hlk w10.drew rm.drew
  clear hj10 fE z
  go_wp2_with fail
  go_region_held3 (fun w' => w'.cell? ⟨rp, 2, none⟩ = some (.map (some mb)) ∧ w'.cell? ⟨p0, 0, none⟩ = some (.int .u8 5)) (go_keep) (fail)
  go_wp2_with fail
  exact bodyPost_ret (v := .tuple #[valV yv, .int .i64 0]) (by simp [results, Tryz.results87, go_sem, m0, m1, m2, m3]) rfl ⟨rfl, by first | exact HE.out | exact HR.out.fin2 HE.out⟩

set_option maxHeartbeats 4000000 in
theorem ev_loose6 (R : Reck w0 B0 B1 S J rp mb fid caps vv l) (u : Vl) (nm : ByteArray) (b o n c : Nat) (k k' : Nd) (vk vk' : Value) (hk : KidC w0 b o k vk) (hk' : KidC w0 b (o + 7) k' vk') (hbl : b < B0) (hn : 1 < n) (xs ys zs : List ByteArray) (xv yv : Vl) (ye : Int) (K0 : KidE S J B1 rp k vk xs ys xv 0) (K1 : KidE S J B1 rp k' vk' ys zs yv ye) (hk2 : xv.kind = 2) (ht : xv.tr = false) (hye : ye = 0) (hlk : ∀ V, RawM V mb twoF → (Instr.lookup 122 (.map (some mb)) (.int .u8 6) true).run Tryz.prog V = .ok (.tuple #[.nilFunc, .bool false]) V) (hy2 : yv.kind ≠ 2) (W : World) (h1 : B1 ≤ W.heap.size) (hJ : J xs W) :
    Calls Tryz.prog 87 #[.pointer (some ⟨rp, 0, none⟩), valO 6 u nm (.slice (some ⟨b, o, none⟩) n c)] W fun e w' => e = .returned (.tuple #[valV Vl.zero, .int .i64 90]) ∧ J zs w' ∧ Frm S W w' := by
  obtain ⟨w1, w2, p0, p1, hp0, hw1, hp1, hw2, l01, lp, hb2, HK⟩ := node_start W S B1 h1 R.old 6 u nm (.slice (some ⟨b, o, none⟩) n c)
  have h12 : B1 ≤ w2.heap.size := Nat.le_trans h1 hb2.size
  have HX := Lib.hid (show ∀ V zs, J zs V → Frm S w2 V → (KidC V b o k vk ∧ KidC V b (o + 7) k' vk') ∧ (V.cell? ⟨p0, 0, none⟩ = some (.int .u8 6) ∧ V.cell? ⟨p0, 6, none⟩ = some (.slice (some ⟨b, o, none⟩) n c)) ∧ V.heap[p1]? = some objZ ∧ Frm S W V from fun V zs j f => by
    obtain ⟨⟨k0, _, _, _, _, _, k6⟩, kz, kF, _, _⟩ := HK.out V f
    exact ⟨⟨kid_cells hk (R.below _ _ j) hbl, kid_cells hk' (R.below _ _ j) hbl⟩, ⟨k0, k6⟩, kz, kF⟩)
  have HR := Lib.hid R
  have hJ2 := R.mono _ _ _ hJ (hb2.mono h1)
  obtain ⟨⟨⟨e0, e1, e2, e3, e4, e5, e6⟩, -⟩, ⟨c0, c6⟩, -, -⟩ := HX.out w2 xs hJ2 (Frm.refl _ _)
  have C0 := Lib.hid (K0 w2 hJ2 h12)
  have K1 := Lib.hid K1
  have n0 : (0 : Int) < (n : Int) := by omega
  have n1 : (1 : Int) < (n : Int) := by omega
  have q1 : (((6 : Int) == 1) = false) := rfl
  have q2 : (((6 : Int) == 2) = false) := rfl
  have q4 : (((6 : Int) == 4) = false) := rfl
  have q3 : (((6 : Int) == 3) = false) := rfl
  have q5 : (((6 : Int) == 5) = false) := rfl
  have q6 : (((6 : Int) == 6) = true) := rfl
  have z0 : ((0 : Int) != 0) = false := rfl
  have hw2' : w1.alloc (.cells #[.int .u8 0, .int .i64 0, .bool false, .string ⟨#[]⟩] 26) = w2 := hw2
  subst hye
  have dk : (xv.kind != 2) = false := by simpa using hk2
  have dt : (xv.tr == true) = false := by rw [ht]; rfl
  have dy : (yv.kind != 2) = true := by simpa using hy2
  clear hb2 HK R hw2 hJ hJ2 hk hk' K0 hn hk2 ht hy2
  go_enter Tryz.func87, Tryz.ntmps87
  go_wp2_with (go_at_call 87; refine C0.out.mono ?_; rintro e w5 ⟨rfl, hj5, hf5⟩; refine Hid.out ?_)
  refine Lib.hid ?_
  clear e0 e1 e2 e3 e4 e5 e6 c0 c6
  obtain ⟨w8, p8, hp8, hw8, l8, n8, hb8⟩ := box_new w5 (objV xv)
  have hw8' : w5.alloc (.cells #[.int .u8 xv.kind, .int .i64 xv.num, .bool xv.tr, .string xv.text] 26) = w8 := hw8
  have hj8 := HR.out.mono _ _ _ hj5 (hb8.mono (Nat.le_trans h12 hf5.size))
  have hf8 := hf5.below hb8
  have h58 : B1 ≤ w8.heap.size := Nat.le_trans (Nat.le_trans h12 hf5.size) hb8.size
  have hge : B1 ≤ p8 := by have := hf5.size; omega
  obtain ⟨⟨-, ⟨e0, e1, e2, e3, e4, e5, e6⟩⟩, ⟨c0, c6⟩, -, -⟩ := HX.out w8 ys hj8 hf8
  have C1 := Lib.hid (K1.out w8 hj8 h58)
  obtain ⟨x0, x1, x2, x3⟩ := v_cells n8
  have N8 := Lib.hid n8
  clear hw8 n8 hj5 hj8 hb8
  go_wp2_with (go_at_call 87; refine C1.out.mono ?_; rintro e w9 ⟨rfl, hj9, hf9⟩; refine Hid.out ?_)
  refine Lib.hid ?_
  clear e0 e1 e2 e3 e4 e5 e6 c0 c6 x0 x1 x2 x3
  obtain ⟨w10, p10, hp10, hw10, l10, n10, hb10⟩ := box_new w9 (objV yv)
  have hw10' : w9.alloc (.cells #[.int .u8 yv.kind, .int .i64 yv.num, .bool yv.tr, .string yv.text] 26) = w10 := hw10
  have h9 := HR.out.kept hf9 N8.out hge
  have hj10 := HR.out.mono _ _ _ hj9 (hb10.mono (Nat.le_trans h58 hf9.size))
  have hf10 := (Frm.trans (T := S) hf8 hf9 (fun r hr => Or.inl hr)).below hb10
  have h60 : B1 ≤ w10.heap.size := Nat.le_trans (Nat.le_trans h58 hf9.size) hb10.size
  have hn8 := (hb10.block p8 (lt_of_block h9)).trans h9
  obtain ⟨x0, x1, x2, x3⟩ := v_cells hn8
  obtain ⟨y0, y1, y2, y3⟩ := v_cells n10
  clear hw10 n10 hj9 h9 hn8
  obtain ⟨-, ⟨c0, c6⟩, z, fE⟩ := HX.out _ _ hj10 hf10
  obtain ⟨⟨m0, m1, m2, m3⟩, f0, f1, f2, f3⟩ := zero_blk z
  have HE := Lib.hid (HR.out.fin (p := p1) hj10 fE h1 lp Vl.zero)
  obtain ⟨-, -, r2, rm⟩ := HR.out.cells _ _ hj10
  have hlook := hlk w10.drew rm.drew
  clear hj10 fE z
  go_wp2_with fail
  go_region_held3 (fun w' => w'.cell? ⟨rp, 2, none⟩ = some (.map (some mb)) ∧ w'.cell? ⟨p0, 0, none⟩ = some (.int .u8 6)) (go_keep) (fail)
  go_wp2_with fail
  exact bodyPost_ret (v := .tuple #[valV Vl.zero, .int .i64 90]) (by simp [results, Tryz.results87, go_sem, Vl.zero, m0, m1, m2, m3]) rfl ⟨rfl, by first | exact HE.out | exact HR.out.fin2 HE.out⟩

set_option maxHeartbeats 4000000 in
theorem ev_last6 (R : Reck w0 B0 B1 S J rp mb fid caps vv l) (u : Vl) (nm : ByteArray) (b o n c : Nat) (k k' : Nd) (vk vk' : Value) (hk : KidC w0 b o k vk) (hk' : KidC w0 b (o + 7) k' vk') (hbl : b < B0) (hn : 1 < n) (xs ys zs : List ByteArray) (xv yv : Vl) (ye : Int) (K0 : KidE S J B1 rp k vk xs ys xv 0) (K1 : KidE S J B1 rp k' vk' ys zs yv ye) (hk2 : xv.kind = 2) (ht : xv.tr = false) (hye : ye = 0) (hlk : ∀ V, RawM V mb twoF → (Instr.lookup 122 (.map (some mb)) (.int .u8 6) true).run Tryz.prog V = .ok (.tuple #[.nilFunc, .bool false]) V) (hy2 : yv.kind = 2) (W : World) (h1 : B1 ≤ W.heap.size) (hJ : J xs W) :
    Calls Tryz.prog 87 #[.pointer (some ⟨rp, 0, none⟩), valO 6 u nm (.slice (some ⟨b, o, none⟩) n c)] W fun e w' => e = .returned (.tuple #[valV yv, .int .i64 0]) ∧ J zs w' ∧ Frm S W w' := by
  obtain ⟨w1, w2, p0, p1, hp0, hw1, hp1, hw2, l01, lp, hb2, HK⟩ := node_start W S B1 h1 R.old 6 u nm (.slice (some ⟨b, o, none⟩) n c)
  have h12 : B1 ≤ w2.heap.size := Nat.le_trans h1 hb2.size
  have HX := Lib.hid (show ∀ V zs, J zs V → Frm S w2 V → (KidC V b o k vk ∧ KidC V b (o + 7) k' vk') ∧ (V.cell? ⟨p0, 0, none⟩ = some (.int .u8 6) ∧ V.cell? ⟨p0, 6, none⟩ = some (.slice (some ⟨b, o, none⟩) n c)) ∧ V.heap[p1]? = some objZ ∧ Frm S W V from fun V zs j f => by
    obtain ⟨⟨k0, _, _, _, _, _, k6⟩, kz, kF, _, _⟩ := HK.out V f
    exact ⟨⟨kid_cells hk (R.below _ _ j) hbl, kid_cells hk' (R.below _ _ j) hbl⟩, ⟨k0, k6⟩, kz, kF⟩)
  have HR := Lib.hid R
  have hJ2 := R.mono _ _ _ hJ (hb2.mono h1)
  obtain ⟨⟨⟨e0, e1, e2, e3, e4, e5, e6⟩, -⟩, ⟨c0, c6⟩, -, -⟩ := HX.out w2 xs hJ2 (Frm.refl _ _)
  have C0 := Lib.hid (K0 w2 hJ2 h12)
  have K1 := Lib.hid K1
  have n0 : (0 : Int) < (n : Int) := by omega
  have n1 : (1 : Int) < (n : Int) := by omega
  have q1 : (((6 : Int) == 1) = false) := rfl
  have q2 : (((6 : Int) == 2) = false) := rfl
  have q4 : (((6 : Int) == 4) = false) := rfl
  have q3 : (((6 : Int) == 3) = false) := rfl
  have q5 : (((6 : Int) == 5) = false) := rfl
  have q6 : (((6 : Int) == 6) = true) := rfl
  have z0 : ((0 : Int) != 0) = false := rfl
  have hw2' : w1.alloc (.cells #[.int .u8 0, .int .i64 0, .bool false, .string ⟨#[]⟩] 26) = w2 := hw2
  subst hye
  have dk : (xv.kind != 2) = false := by simpa using hk2
  have dt : (xv.tr == true) = false := by rw [ht]; rfl
  have dy : (yv.kind != 2) = false := by simpa using hy2
  clear hb2 HK R hw2 hJ hJ2 hk hk' K0 hn hk2 ht hy2
  go_enter Tryz.func87, Tryz.ntmps87
  go_wp2_with (go_at_call 87; refine C0.out.mono ?_; rintro e w5 ⟨rfl, hj5, hf5⟩; refine Hid.out ?_)
  refine Lib.hid ?_
  clear e0 e1 e2 e3 e4 e5 e6 c0 c6
  obtain ⟨w8, p8, hp8, hw8, l8, n8, hb8⟩ := box_new w5 (objV xv)
  have hw8' : w5.alloc (.cells #[.int .u8 xv.kind, .int .i64 xv.num, .bool xv.tr, .string xv.text] 26) = w8 := hw8
  have hj8 := HR.out.mono _ _ _ hj5 (hb8.mono (Nat.le_trans h12 hf5.size))
  have hf8 := hf5.below hb8
  have h58 : B1 ≤ w8.heap.size := Nat.le_trans (Nat.le_trans h12 hf5.size) hb8.size
  have hge : B1 ≤ p8 := by have := hf5.size; omega
  obtain ⟨⟨-, ⟨e0, e1, e2, e3, e4, e5, e6⟩⟩, ⟨c0, c6⟩, -, -⟩ := HX.out w8 ys hj8 hf8
  have C1 := Lib.hid (K1.out w8 hj8 h58)
  obtain ⟨x0, x1, x2, x3⟩ := v_cells n8
  have N8 := Lib.hid n8
  clear hw8 n8 hj5 hj8 hb8
  go_wp2_with (go_at_call 87; refine C1.out.mono ?_; rintro e w9 ⟨rfl, hj9, hf9⟩; refine Hid.out ?_)
  refine Lib.hid ?_
  clear e0 e1 e2 e3 e4 e5 e6 c0 c6 x0 x1 x2 x3
  obtain ⟨w10, p10, hp10, hw10, l10, n10, hb10⟩ := box_new w9 (objV yv)
  have hw10' : w9.alloc (.cells #[.int .u8 yv.kind, .int .i64 yv.num, .bool yv.tr, .string yv.text] 26) = w10 := hw10
  have h9 := HR.out.kept hf9 N8.out hge
  have hj10 := HR.out.mono _ _ _ hj9 (hb10.mono (Nat.le_trans h58 hf9.size))
  have hf10 := (Frm.trans (T := S) hf8 hf9 (fun r hr => Or.inl hr)).below hb10
  have h60 : B1 ≤ w10.heap.size := Nat.le_trans (Nat.le_trans h58 hf9.size) hb10.size
  have hn8 := (hb10.block p8 (lt_of_block h9)).trans h9
  obtain ⟨x0, x1, x2, x3⟩ := v_cells hn8
  obtain ⟨y0, y1, y2, y3⟩ := v_cells n10
  clear hw10 n10 hj9 h9 hn8
  obtain ⟨-, ⟨c0, c6⟩, z, fE⟩ := HX.out _ _ hj10 hf10
  obtain ⟨⟨m0, m1, m2, m3⟩, f0, f1, f2, f3⟩ := zero_blk z
  have HE := Lib.hid (HR.out.fin (p := p1) hj10 fE h1 lp yv)
  obtain ⟨-, -, r2, rm⟩ := HR.out.cells _ _ hj10
  have hlook := hlk w10.drew rm.drew
  clear hj10 fE z
  go_wp2_with fail
  go_region_held3 (fun w' => w'.cell? ⟨rp, 2, none⟩ = some (.map (some mb)) ∧ w'.cell? ⟨p0, 0, none⟩ = some (.int .u8 6)) (go_keep) (fail)
  go_wp2_with fail
  exact bodyPost_ret (v := .tuple #[valV yv, .int .i64 0]) (by simp [results, Tryz.results87, go_sem, m0, m1, m2, m3]) rfl ⟨rfl, by first | exact HE.out | exact HR.out.fin2 HE.out⟩

set_option maxHeartbeats 4000000 in
theorem ev_both (R : Reck w0 B0 B1 S J rp mb fid caps vv l) (op : Int) (q1 : (op == 1) = false) (q2 : (op == 2) = false) (q4 : (op == 4) = false) (q3 : (op == 3) = false) (q5 : (op == 5) = false) (q6 : (op == 6) = false) (u : Vl) (nm : ByteArray) (b o n c : Nat) (k k' : Nd) (vk vk' : Value) (hk : KidC w0 b o k vk) (hk' : KidC w0 b (o + 7) k' vk') (hbl : b < B0) (hn : 1 < n) (xs ys zs : List ByteArray) (xv yv : Vl) (ye : Int) (K0 : KidE S J B1 rp k vk xs ys xv 0) (K1 : KidE S J B1 rp k' vk' ys zs yv ye) (hye : ye = 0) (fb : Nat) (hrun : ∀ (args : Array Value) (V : World), (callFunc fb args).run Tryz.prog V = .ok (.enter fb args) V) (hlk : ∀ V, RawM V mb twoF → (Instr.lookup 122 (.map (some mb)) (.int .u8 op) true).run Tryz.prog V = .ok (.tuple #[.func (.func fb) #[] #[], .bool true]) V) (rv : Vl) (re : Int) (hcall : ∀ V, Tabs8 V → Calls Tryz.prog fb #[valV xv, valV yv] V fun e w' => e = .returned (.tuple #[valV rv, .int .i64 re]) ∧ Below V.heap.size V w') (W : World) (h1 : B1 ≤ W.heap.size) (hJ : J xs W) :
    Calls Tryz.prog 87 #[.pointer (some ⟨rp, 0, none⟩), valO op u nm (.slice (some ⟨b, o, none⟩) n c)] W fun e w' => e = .returned (.tuple #[valV rv, .int .i64 re]) ∧ J zs w' ∧ Frm S W w' := by
  obtain ⟨w1, w2, p0, p1, hp0, hw1, hp1, hw2, l01, lp, hb2, HK⟩ := node_start W S B1 h1 R.old op u nm (.slice (some ⟨b, o, none⟩) n c)
  have h12 : B1 ≤ w2.heap.size := Nat.le_trans h1 hb2.size
  have HX := Lib.hid (show ∀ V zs, J zs V → Frm S w2 V → (KidC V b o k vk ∧ KidC V b (o + 7) k' vk') ∧ (V.cell? ⟨p0, 0, none⟩ = some (.int .u8 op) ∧ V.cell? ⟨p0, 6, none⟩ = some (.slice (some ⟨b, o, none⟩) n c)) ∧ V.heap[p1]? = some objZ ∧ Frm S W V from fun V zs j f => by
    obtain ⟨⟨k0, _, _, _, _, _, k6⟩, kz, kF, _, _⟩ := HK.out V f
    exact ⟨⟨kid_cells hk (R.below _ _ j) hbl, kid_cells hk' (R.below _ _ j) hbl⟩, ⟨k0, k6⟩, kz, kF⟩)
  have HR := Lib.hid R
  have hJ2 := R.mono _ _ _ hJ (hb2.mono h1)
  obtain ⟨⟨⟨e0, e1, e2, e3, e4, e5, e6⟩, -⟩, ⟨c0, c6⟩, -, -⟩ := HX.out w2 xs hJ2 (Frm.refl _ _)
  have C0 := Lib.hid (K0 w2 hJ2 h12)
  have K1 := Lib.hid K1
  have n0 : (0 : Int) < (n : Int) := by omega
  have n1 : (1 : Int) < (n : Int) := by omega

  have z0 : ((0 : Int) != 0) = false := rfl
  have hw2' : w1.alloc (.cells #[.int .u8 0, .int .i64 0, .bool false, .string ⟨#[]⟩] 26) = w2 := hw2
  subst hye
  have HC := Lib.hid hcall
  clear hcall
  clear hb2 HK R hw2 hJ hJ2 hk hk' K0 hn
  go_enter Tryz.func87, Tryz.ntmps87
  go_wp2_with (go_at_call 87; refine C0.out.mono ?_; rintro e w5 ⟨rfl, hj5, hf5⟩; refine Hid.out ?_)
  refine Lib.hid ?_
  clear e0 e1 e2 e3 e4 e5 e6 c0 c6
  obtain ⟨w8, p8, hp8, hw8, l8, n8, hb8⟩ := box_new w5 (objV xv)
  have hw8' : w5.alloc (.cells #[.int .u8 xv.kind, .int .i64 xv.num, .bool xv.tr, .string xv.text] 26) = w8 := hw8
  have hj8 := HR.out.mono _ _ _ hj5 (hb8.mono (Nat.le_trans h12 hf5.size))
  have hf8 := hf5.below hb8
  have h58 : B1 ≤ w8.heap.size := Nat.le_trans (Nat.le_trans h12 hf5.size) hb8.size
  have hge : B1 ≤ p8 := by have := hf5.size; omega
  obtain ⟨⟨-, ⟨e0, e1, e2, e3, e4, e5, e6⟩⟩, ⟨c0, c6⟩, -, -⟩ := HX.out w8 ys hj8 hf8
  have C1 := Lib.hid (K1.out w8 hj8 h58)
  obtain ⟨x0, x1, x2, x3⟩ := v_cells n8
  have N8 := Lib.hid n8
  clear hw8 n8 hj5 hj8 hb8
  go_wp2_with (go_at_call 87; refine C1.out.mono ?_; rintro e w9 ⟨rfl, hj9, hf9⟩; refine Hid.out ?_)
  refine Lib.hid ?_
  clear e0 e1 e2 e3 e4 e5 e6 c0 c6 x0 x1 x2 x3
  obtain ⟨w10, p10, hp10, hw10, l10, n10, hb10⟩ := box_new w9 (objV yv)
  have hw10' : w9.alloc (.cells #[.int .u8 yv.kind, .int .i64 yv.num, .bool yv.tr, .string yv.text] 26) = w10 := hw10
  have h9 := HR.out.kept hf9 N8.out hge
  have hj10 := HR.out.mono _ _ _ hj9 (hb10.mono (Nat.le_trans h58 hf9.size))
  have hf10 := (Frm.trans (T := S) hf8 hf9 (fun r hr => Or.inl hr)).below hb10
  have h60 : B1 ≤ w10.heap.size := Nat.le_trans (Nat.le_trans h58 hf9.size) hb10.size
  have hn8 := (hb10.block p8 (lt_of_block h9)).trans h9
  obtain ⟨x0, x1, x2, x3⟩ := v_cells hn8
  obtain ⟨y0, y1, y2, y3⟩ := v_cells n10
  clear hw10 n10 hj9 h9 hn8
  obtain ⟨-, ⟨c0, c6⟩, -, -⟩ := HX.out _ _ hj10 hf10
  obtain ⟨-, -, r2, rm⟩ := HR.out.cells _ _ hj10
  have hlook := hlk w10.drew rm.drew
  go_wp2_with fail
  go_region_held3 (fun w' => w'.cell? ⟨rp, 2, none⟩ = some (.map (some mb)) ∧ w'.cell? ⟨p0, 0, none⟩ = some (.int .u8 op)) (go_keep) (fail)
  go_wp2_with fail
  obtain ⟨hjd, hfd⟩ := HR.out.fin2 (W := w2) ⟨hj10, hf10⟩
  have h60d : B1 ≤ w10.drew.heap.size := h60
  refine (HC.out _ (HR.out.tabs _ _ hjd)).mono ?_
  rintro e w12 ⟨rfl, hb12⟩
  have hj12 := HR.out.mono _ _ _ hjd (hb12.mono h60d)
  have hf12 := hfd.below hb12
  clear x0 x1 x2 x3 y0 y1 y2 y3 c0 c6 r2 rm hlook
  obtain ⟨-, -, z, fE⟩ := HX.out _ _ hj12 hf12
  obtain ⟨⟨m0, m1, m2, m3⟩, f0, f1, f2, f3⟩ := zero_blk z
  have HE := Lib.hid (HR.out.fin (p := p1) hj12 fE h1 lp rv)
  clear fE z
  go_wp2_with fail
  exact bodyPost_ret (v := .tuple #[valV rv, .int .i64 re]) (by simp [results, Tryz.results87, go_sem, m0, m1, m2, m3]) rfl ⟨rfl, HE.out⟩
end
end Go.Proofs.YtbephgifbghilaaGreatDoor
