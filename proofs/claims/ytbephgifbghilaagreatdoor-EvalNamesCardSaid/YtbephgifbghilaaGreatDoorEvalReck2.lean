/- (*reckoner).eval: one part, two parts. -/
import Derived.Test.YtbephgifbghilaaGreatDoorEvalReck
set_option maxRecDepth 100000
namespace Go.Proofs.YtbephgifbghilaaGreatDoor
open Go.RowKit

/-- A node's first cells at whatever world the reckoner comes to. -/
def KidC (V : World) (b o : Nat) (k : Nd) (vk : Value) : Prop := V.cell? ⟨b, o, none⟩ = some (.int .u8 k.op) ∧ V.cell? ⟨b, o + 1, none⟩ = some (.int .u8 k.v.kind) ∧ V.cell? ⟨b, o + 2, none⟩ = some (.int .i64 k.v.num) ∧ V.cell? ⟨b, o + 3, none⟩ = some (.bool k.v.tr) ∧ V.cell? ⟨b, o + 4, none⟩ = some (.string k.v.text) ∧ V.cell? ⟨b, o + 5, none⟩ = some (.string k.name) ∧ V.cell? ⟨b, o + 6, none⟩ = some vk
theorem kid_cells {w0 V : World} {B0 b o : Nat} {k : Nd} {vk : Value} (h : KidC w0 b o k vk) (hb : Below B0 w0 V) (hl : b < B0) : KidC V b o k vk := by
  obtain ⟨h0, h1, h2, h3, h4, h5, h6⟩ := h
  exact ⟨(Below.cellB hb hl).trans h0, (Below.cellB hb hl).trans h1, (Below.cellB hb hl).trans h2, (Below.cellB hb hl).trans h3, (Below.cellB hb hl).trans h4, (Below.cellB hb hl).trans h5, (Below.cellB hb hl).trans h6⟩
theorem kid_at {w : World} {B : Nat} {v : Value} {l : List Nd} (h : KidsR w B v l) : ∃ a cap, v = .slice a l.length cap ∧ ∀ i (hi : i < l.length), ∃ b o vk, a = some ⟨b, o, none⟩ ∧ b < B ∧ HeadW l[i] ∧ KidsR w B vk l[i].kids ∧ KidC w b (o + i * 7) l[i] vk := by
  obtain ⟨a, cap, rfl⟩ := h.val
  refine ⟨a, cap, rfl, fun i hi => ?_⟩
  obtain ⟨b, o, vk, ha, hb, hw, hk, c⟩ := h.at hi
  exact ⟨b, o, vk, ha, hb, hw, hk, c⟩

section
variable {w0 : World} {B0 B1 : Nat} {S : List (Option Nat)} {J : List ByteArray → World → Prop} {rp mb fid : Nat} {caps : Array Value} {vv : Value} {l : List Bd}

/-- What a call of eval at one part answers. -/
def KidE (S : List (Option Nat)) (J : List ByteArray → World → Prop) (B1 rp : Nat) (k : Nd) (vk : Value) (xs ys : List ByteArray) (xv : Vl) (xe : Int) : Prop :=
  ∀ V, J xs V → B1 ≤ V.heap.size → Calls Tryz.prog 87 #[.pointer (some ⟨rp, 0, none⟩), valN k vk] V fun e w' => e = .returned (.tuple #[valV xv, .int .i64 xe]) ∧ J ys w' ∧ Frm S V w'

set_option maxHeartbeats 4000000 in
theorem ev_bad (R : Reck w0 B0 B1 S J rp mb fid caps vv l) (op : Int) (u : Vl) (nm : ByteArray) (b o n c : Nat) (k : Nd) (vk : Value) (hk : KidC w0 b o k vk) (hbl : b < B0) (hn : 0 < n) (d1 : (op == 1) = false) (d2 : (op == 2) = false) (xs ys : List ByteArray) (xv : Vl) (xe : Int) (K0 : KidE S J B1 rp k vk xs ys xv xe) (hxe : xe ≠ 0) (W : World) (h1 : B1 ≤ W.heap.size) (hJ : J xs W) :
    Calls Tryz.prog 87 #[.pointer (some ⟨rp, 0, none⟩), valO op u nm (.slice (some ⟨b, o, none⟩) n c)] W fun e w' => e = .returned (.tuple #[valV Vl.zero, .int .i64 xe]) ∧ J ys w' ∧ Frm S W w' := by
  obtain ⟨w1, w2, p0, p1, hp0, hw1, hp1, hw2, l01, lp, hb2, HK⟩ := node_start W S B1 h1 R.old op u nm (.slice (some ⟨b, o, none⟩) n c)
  have h12 : B1 ≤ w2.heap.size := Nat.le_trans h1 hb2.size
  have HX := Lib.hid (show ∀ V zs, J zs V → Frm S w2 V → KidC V b o k vk ∧ (V.cell? ⟨p0, 0, none⟩ = some (.int .u8 op) ∧ V.cell? ⟨p0, 6, none⟩ = some (.slice (some ⟨b, o, none⟩) n c)) ∧ V.heap[p1]? = some objZ ∧ Frm S W V from fun V zs j f => by
    obtain ⟨⟨k0, _, _, _, _, _, k6⟩, kz, kF, _, _⟩ := HK.out V f
    exact ⟨kid_cells hk (R.below _ _ j) hbl, ⟨k0, k6⟩, kz, kF⟩)
  have HR := Lib.hid R
  have hJ2 := R.mono _ _ _ hJ (hb2.mono h1)
  obtain ⟨⟨e0, e1, e2, e3, e4, e5, e6⟩, ⟨c0, c6⟩, -, -⟩ := HX.out w2 xs hJ2 (Frm.refl _ _)
  have C0 := Lib.hid (K0 w2 hJ2 h12)
  have n0 : (0 : Int) < (n : Int) := by omega
  have x0 : (xe != 0) = true := by simpa using hxe
  have hw2' : w1.alloc (.cells #[.int .u8 0, .int .i64 0, .bool false, .string ⟨#[]⟩] 26) = w2 := hw2
  clear hb2 HK R hw2 hJ hJ2 hk K0 hn hxe
  go_enter Tryz.func87, Tryz.ntmps87
  go_wp2_with (go_at_call 87; refine C0.out.mono ?_; rintro e w5 ⟨rfl, hj5, hf5⟩; refine Hid.out ?_)
  refine Lib.hid ?_
  clear e0 e1 e2 e3 e4 e5 e6 c0 c6
  have hj8 := HR.out.mono _ _ _ hj5 ((Below.refl B1 w5).alloc (Nat.le_trans h12 hf5.size) (objV xv))
  have hf8 := hf5.below ((Below.refl _ w5).alloc (Nat.le_refl _) (objV xv))
  obtain ⟨-, ⟨c0, c6⟩, z, fE⟩ := HX.out _ _ hj8 hf8
  obtain ⟨⟨m0, m1, m2, m3⟩, f0, f1, f2, f3⟩ := zero_blk z
  have HE := Lib.hid (HR.out.fin (p := p1) hj8 fE h1 lp Vl.zero)
  clear hj8 fE z hj5
  go_wp2_with fail
  exact bodyPost_ret (v := .tuple #[valV Vl.zero, .int .i64 xe]) (by simp [results, Tryz.results87, go_sem, Vl.zero, m0, m1, m2, m3]) rfl ⟨rfl, HE.out⟩
end
end Go.Proofs.YtbephgifbghilaaGreatDoor
