/- (*reckoner).eval, way by way. -/
import Derived.Test.YtbephgifbghilaaGreatDoorEvalMap
import Derived.Test.YtbephgifbghilaaGreatDoorEvalDeepP
import Derived.Test.YtbephgifbghilaaGreatDoorStepOwn
set_option maxRecDepth 100000
namespace Go.Proofs.YtbephgifbghilaaGreatDoor
open Go.RowKit

theorem Frm.chain {S : List (Option Nat)} {w V : World} {p : Nat} (h : Frm S w V) (hp : w.heap.size ≤ p) (v : Vl) : Frm S w (chainV V p v) :=
  Frm.trans (T := [some p]) h
    (by
      have c := chain_below (B := p) (Below.refl p V) (Nat.le_refl _) v
      refine ⟨c.os, c.tape, c.output, c.size, fun k hk hs => ?_⟩
      have hkp : k ≠ p := fun e => hs (some p) (by simp) (by rw [e])
      unfold chainV
      simp only [heap_setCell_other _ ⟨p, _, none⟩ k _ hkp])
    (by intro r hr; simp at hr; exact Or.inr ⟨p, hr, hp⟩)

/-- What a reckoner and its surroundings keep. -/
structure Reck (w0 : World) (B0 B1 : Nat) (S : List (Option Nat)) (J : List ByteArray → World → Prop) (rp mb fid : Nat) (caps : Array Value) (vv : Value) (l : List Bd) : Prop where
  below : ∀ xs W, J xs W → Below B0 w0 W
  mono : ∀ xs W W', J xs W → Below B1 W W' → J xs W'
  note : ∀ xs W s, (∃ v, findB l s = some v) → J xs W → B1 ≤ W.heap.size → Calls Tryz.prog fid (#[.string s] ++ caps) W fun e w' => e = .returned (.tuple #[]) ∧ J (xs ++ [s]) w' ∧ Frm S W w'
  run : ∀ (args : Array Value) (W : World), (callFunc fid args).run Tryz.prog W = .ok (.enter fid args) W
  cells : ∀ xs W, J xs W → W.cell? ⟨rp, 0, none⟩ = some vv ∧ W.cell? ⟨rp, 1, none⟩ = some (.func (.func fid) #[] caps) ∧ W.cell? ⟨rp, 2, none⟩ = some (.map (some mb)) ∧ RawM W mb twoF
  rp1 : rp < B1
  old : ∀ r ∈ S, ∃ j, r = some j ∧ j < B1
  le : B0 ≤ B1
  tabs : ∀ xs W, J xs W → Tabs8 W
  binds : BdsR w0 B0 vv l

abbrev objN (op : Int) (u : Vl) (nm : ByteArray) (vk : Value) : Obj := .cells #[.int .u8 op, .int .u8 u.kind, .int .i64 u.num, .bool u.tr, .string u.text, .string nm, vk] 29
abbrev valO (op : Int) (u : Vl) (nm : ByteArray) (vk : Value) : Value := .agg #[.int .u8 op, .int .u8 u.kind, .int .i64 u.num, .bool u.tr, .string u.text, .string nm, vk]
theorem node_start (w : World) (S : List (Option Nat)) (B1 : Nat) (hB : B1 ≤ w.heap.size) (hS : ∀ r ∈ S, ∃ j, r = some j ∧ j < B1) (op : Int) (u : Vl) (nm : ByteArray) (vk : Value) : ∃ (w1 w2 : World) (p0 p1 : Nat), w.heap.size = p0 ∧ w.alloc (objN op u nm vk) = w1 ∧ w1.heap.size = p1 ∧ w1.alloc objZ = w2 ∧ p0 < p1 ∧ w.heap.size ≤ p1 ∧
    Below w.heap.size w w2 ∧ Hid (∀ V, Frm S w2 V → (V.cell? ⟨p0, 0, none⟩ = some (.int .u8 op) ∧ V.cell? ⟨p0, 1, none⟩ = some (.int .u8 u.kind) ∧ V.cell? ⟨p0, 2, none⟩ = some (.int .i64 u.num) ∧ V.cell? ⟨p0, 3, none⟩ = some (.bool u.tr) ∧ V.cell? ⟨p0, 4, none⟩ = some (.string u.text) ∧ V.cell? ⟨p0, 5, none⟩ = some (.string nm) ∧ V.cell? ⟨p0, 6, none⟩ = some vk) ∧
      V.heap[p1]? = some objZ ∧ Frm S w V ∧ w2.heap.size ≤ V.heap.size ∧ p1 < V.heap.size) := by
  obtain ⟨w1, p0, hp0, hw1, l0, n0, b0⟩ := box_new w (objN op u nm vk)
  obtain ⟨w2, p1, hp1, hw2, l1, n1, b1⟩ := box_new w1 objZ
  refine ⟨w1, w2, p0, p1, hp0, hw1, hp1, hw2, by omega, by omega, b0.trans (b1.mono b0.size), Lib.hid fun V h => ?_⟩
  have hs : ∀ q, B1 ≤ q → ∀ r ∈ S, r ≠ some q := fun q hq r hr e => by
    obtain ⟨j, e2, hj⟩ := hS r hr
    rw [e2] at e; injection e with e; omega
  have k0 := (h.keep p0 (by omega) (hs p0 (by omega))).trans ((b1.block p0 (by omega)).trans n0)
  have k1 := (h.keep p1 l1 (hs p1 (by omega))).trans n1
  refine ⟨⟨(cell_of_block k0 0).trans rfl, (cell_of_block k0 1).trans rfl, (cell_of_block k0 2).trans rfl, (cell_of_block k0 3).trans rfl, (cell_of_block k0 4).trans rfl, (cell_of_block k0 5).trans rfl, (cell_of_block k0 6).trans rfl⟩, k1, ?_, h.size, Nat.lt_of_lt_of_le l1 h.size⟩
  exact Frm.trans (T := S) (Frm.ofBelow (b0.trans (b1.mono b0.size))) h (fun r hr => Or.inl hr)

section
variable {w0 : World} {B0 B1 : Nat} {S : List (Option Nat)} {J : List ByteArray → World → Prop} {rp mb fid : Nat} {caps : Array Value} {vv : Value} {l : List Bd}

theorem Reck.fin (R : Reck w0 B0 B1 S J rp mb fid caps vv l) {xs : List ByteArray} {W V : World} {p : Nat} (hJ : J xs V) (hf : Frm S W V) (h1 : B1 ≤ W.heap.size) (hp : W.heap.size ≤ p) (v : Vl) : J xs (chainV V p v) ∧ Frm S W (chainV V p v) :=
  ⟨R.mono xs V _ hJ (chain_below (Below.refl B1 V) (Nat.le_trans h1 hp) v), hf.chain hp v⟩

set_option maxHeartbeats 2000000 in
theorem ev_lit (R : Reck w0 B0 B1 S J rp mb fid caps vv l) (u : Vl) (nm : ByteArray) (vk : Value) (xs : List ByteArray) (W : World) (h1 : B1 ≤ W.heap.size) (hJ : J xs W) :
    Calls Tryz.prog 87 #[.pointer (some ⟨rp, 0, none⟩), valO 1 u nm vk] W fun e w' => e = .returned (.tuple #[valV u, .int .i64 0]) ∧ J xs w' ∧ Frm S W w' := by
  obtain ⟨w1, w2, p0, p1, hp0, hw1, hp1, hw2, l01, lp, hb2, HK⟩ := node_start W S B1 h1 R.old 1 u nm vk
  obtain ⟨⟨c0, c1, c2, c3, c4, c5, c6⟩, z, hF, -, l2⟩ := HK.out w2 (Frm.refl _ _)
  obtain ⟨⟨m0, m1, m2, m3⟩, f0, f1, f2, f3⟩ := zero_blk z
  have HE := Lib.hid (R.fin (p := p1) (R.mono _ _ _ hJ (hb2.mono h1)) hF h1 lp u)
  have d1 : ((1 : Int) == 1) = true := rfl
  have hw2' : w1.alloc (.cells #[.int .u8 0, .int .i64 0, .bool false, .string ⟨#[]⟩] 26) = w2 := hw2
  clear hb2 HK hF z R hw2 hJ
  go_enter Tryz.func87, Tryz.ntmps87
  go_wp2_with fail
  exact bodyPost_ret (v := .tuple #[valV u, .int .i64 0]) (by simp [results, Tryz.results87, go_sem, m0, m1, m2, m3]) rfl ⟨rfl, HE.out⟩
theorem Reck.kept (R : Reck w0 B0 B1 S J rp mb fid caps vv l) {V V' : World} {k : Nat} {o : Obj} (hf : Frm S V V') (hb : V.heap[k]? = some o) (hk : B1 ≤ k) : V'.heap[k]? = some o :=
  (hf.keep k (lt_of_block hb) (fun r hr e => by
    obtain ⟨j, e2, hj⟩ := R.old r hr
    rw [e2] at e; injection e with e; omega)).trans hb
theorem chain_blk {w : World} {p : Nat} (v : Vl) (h : w.heap[p]? = some objZ) : (chainV w p v).heap[p]? = some (objV v) := by
  unfold chainV
  have h0 := heap_setCell_self (i := 0) (.int .u8 v.kind) h
  have h1 := heap_setCell_self (i := 1) (.int .i64 v.num) h0
  have h2 := heap_setCell_self (i := 2) (.bool v.tr) h1
  have h3 := heap_setCell_self (i := 3) (.string v.text) h2
  exact h3
set_option maxHeartbeats 4000000 in
theorem ev_var0 (R : Reck w0 B0 B1 S J rp mb fid caps vv l) (u : Vl) (nm : ByteArray) (vk : Value) (xs : List ByteArray) (W : World) (h1 : B1 ≤ W.heap.size) (hJ : J xs W) (hf : findB l nm = none) :
    Calls Tryz.prog 87 #[.pointer (some ⟨rp, 0, none⟩), valO 2 u nm vk] W fun e w' => e = .returned (.tuple #[valV Vl.zero, .int .i64 100]) ∧ J xs w' ∧ Frm S W w' := by
  obtain ⟨w1, w2, p0, p1, hp0, hw1, hp1, hw2, l01, lp, hb2, HK⟩ := node_start W S B1 h1 R.old 2 u nm vk
  obtain ⟨⟨c0, c1, c2, c3, c4, c5, c6⟩, z, hF, -, l2⟩ := HK.out w2 (Frm.refl _ _)
  have h12 : B1 ≤ w2.heap.size := Nat.le_trans h1 hb2.size
  obtain ⟨fv, hfv⟩ : ∃ fv, findR l nm = (fv, false) := ⟨Vl.zero, by unfold findR; rw [hf]⟩
  have HX := Lib.hid (show ∀ V, Below w2.heap.size w2 V → V.cell? ⟨rp, 0, none⟩ = some vv ∧ V.cell? ⟨p0, 5, none⟩ = some (.string nm) ∧ V.heap[p1]? = some objZ ∧ J xs V ∧ Frm S W V ∧ (Calls Tryz.prog 127 #[vv, .string nm] V fun e w' => e = .returned (.tuple #[valV fv, .bool false]) ∧ Below V.heap.size V w') from fun V h => by
    obtain ⟨⟨_, _, _, _, _, k5, _⟩, kz, kF, _, _⟩ := HK.out V (Frm.ofBelow h)
    have hJV := R.mono _ _ _ hJ ((hb2.mono h1).trans (h.mono h12))
    obtain ⟨q0, q1, q2, q3⟩ := R.cells _ _ hJV
    refine ⟨q0, k5, kz, hJV, kF, ?_⟩
    have := vfind_any V vv l nm (R.binds.mono (R.below _ _ hJV) (Nat.le_trans R.le (Nat.le_trans h12 h.size)))
    rw [hfv] at this
    exact this)
  have hlt2 : w2.heap.size ≤ w2.heap.size := Nat.le_refl _
  obtain ⟨w3, q, hq, hw3, l3, n3, b3⟩ := box_new w2 objZ
  have hw3' : w2.alloc (.cells #[.int .u8 0, .int .i64 0, .bool false, .string ⟨#[]⟩] 26) = w3 := hw3
  have HKp := Lib.hid (show ∀ V, Below w2.heap.size w2 V → V.cell? ⟨rp, 0, none⟩ = some vv ∧ V.cell? ⟨p0, 5, none⟩ = some (.string nm) from fun V h => ⟨(HX.out V h).1, (HX.out V h).2.1⟩)
  have HC := Lib.hid (fun V h => (HX.out V h).2.2.2.2.2)
  obtain ⟨x0, -⟩ := HX.out w2 (Below.refl _ _)
  have HR := Lib.hid R
  have d1 : ((2 : Int) == 1) = false := rfl
  have d2 : ((2 : Int) == 2) = true := rfl
  have cur1 : Below w2.heap.size w2 w2.drew := (Below.refl _ _).drew
  have cur2 : Below w2.heap.size w2 w3.drew := b3.drew
  have n3' : w3.drew.heap[q]? = some objZ := n3
  have N3 := Lib.hid n3'
  have C1 := Lib.hid (HC.out _ cur1)
  have C2 := Lib.hid (HC.out _ cur2)
  have lq : w2.heap.size ≤ q := by omega
  have hw2' : w1.alloc (.cells #[.int .u8 0, .int .i64 0, .bool false, .string ⟨#[]⟩] 26) = w2 := hw2
  clear hb2 HK hF z R hw2 hJ hf hfv hw3 n3 n3' b3 hlt2
  go_enter Tryz.func87, Tryz.ntmps87
  go_wp2_with fail
  go_region_held3 (fun w' => w'.cell? ⟨rp, 0, none⟩ = some vv ∧ w'.cell? ⟨p0, 5, none⟩ = some (.string nm)) (first | with_reducible exact HKp.out _ cur1 | with_reducible exact HKp.out _ cur2 | with_reducible exact HKp.out _ cur | with_reducible exact HKp.out _ (cur.alloc cur.size _) | with_reducible exact HKp.out _ (chain_below cur lq _) | go_keep)
    (first
      | (go_at_call 127; refine C1.out.mono ?_; rintro e wz ⟨rfl, hbz⟩; have cur := cur1.trans (hbz.mono cur1.size); have curE := cur.alloc cur.size (objV fv))
      | (go_at_call 127; refine C2.out.mono ?_; rintro e wz ⟨rfl, hbz⟩; obtain ⟨⟨n0, n1, n2, n3⟩, g0, g1, g2, g3⟩ := zero_blk ((hbz.block q (lt_of_block N3.out)).trans N3.out); have cur := cur2.trans (hbz.mono cur2.size); have curE := chain_below cur lq fv))
  all_goals
    obtain ⟨-, -, z, jE, fE, -⟩ := HX.out _ curE
    obtain ⟨⟨m0, m1, m2, m3⟩, f0, f1, f2, f3⟩ := zero_blk z
    have HE := Lib.hid (HR.out.fin (p := p1) jE fE h1 lp Vl.zero)
    clear jE fE z
    go_wp2_with fail
    exact bodyPost_ret (v := .tuple #[valV Vl.zero, .int .i64 100]) (by simp [results, Tryz.results87, go_sem, Vl.zero, m0, m1, m2, m3]) rfl ⟨rfl, HE.out⟩
set_option maxHeartbeats 4000000 in
theorem ev_var1 (R : Reck w0 B0 B1 S J rp mb fid caps vv l) (u : Vl) (nm : ByteArray) (vk : Value) (xs : List ByteArray) (W : World) (h1 : B1 ≤ W.heap.size) (hJ : J xs W) (v : Vl) (hf : findB l nm = some v) (hc : checkB v = false) :
    Calls Tryz.prog 87 #[.pointer (some ⟨rp, 0, none⟩), valO 2 u nm vk] W fun e w' => e = .returned (.tuple #[valV Vl.zero, .int .i64 1]) ∧ J xs w' ∧ Frm S W w' := by
  obtain ⟨w1, w2, p0, p1, hp0, hw1, hp1, hw2, l01, lp, hb2, HK⟩ := node_start W S B1 h1 R.old 2 u nm vk
  obtain ⟨⟨c0, c1, c2, c3, c4, c5, c6⟩, z, hF, -, l2⟩ := HK.out w2 (Frm.refl _ _)
  have h12 : B1 ≤ w2.heap.size := Nat.le_trans h1 hb2.size
  obtain ⟨fv, hfv, hcv, hvw⟩ : ∃ fv, findR l nm = (fv, true) ∧ checkE fv = 1 ∧ VlW fv := ⟨v, by unfold findR; rw [hf], by unfold checkE; rw [hc]; rfl, by obtain ⟨b, hb, rfl⟩ := findB_mem hf; obtain ⟨_, _, _, _, _, _, h⟩ := R.binds; exact (h b hb).1⟩
  have HX := Lib.hid (show ∀ V, Below w2.heap.size w2 V → V.cell? ⟨rp, 0, none⟩ = some vv ∧ V.cell? ⟨p0, 5, none⟩ = some (.string nm) ∧ V.heap[p1]? = some objZ ∧ J xs V ∧ Frm S W V ∧ (Calls Tryz.prog 127 #[vv, .string nm] V fun e w' => e = .returned (.tuple #[valV fv, .bool true]) ∧ Below V.heap.size V w') from fun V h => by
    obtain ⟨⟨_, _, _, _, _, k5, _⟩, kz, kF, _, _⟩ := HK.out V (Frm.ofBelow h)
    have hJV := R.mono _ _ _ hJ ((hb2.mono h1).trans (h.mono h12))
    obtain ⟨q0, q1, q2, q3⟩ := R.cells _ _ hJV
    refine ⟨q0, k5, kz, hJV, kF, ?_⟩
    have := vfind_any V vv l nm (R.binds.mono (R.below _ _ hJV) (Nat.le_trans R.le (Nat.le_trans h12 h.size)))
    rw [hfv] at this
    exact this)
  have hlt2 : w2.heap.size ≤ w2.heap.size := Nat.le_refl _
  obtain ⟨w3, q, hq, hw3, l3, n3, b3⟩ := box_new w2 objZ
  have hw3' : w2.alloc (.cells #[.int .u8 0, .int .i64 0, .bool false, .string ⟨#[]⟩] 26) = w3 := hw3
  have HKp := Lib.hid (show ∀ V, Below w2.heap.size w2 V → V.cell? ⟨rp, 0, none⟩ = some vv ∧ V.cell? ⟨p0, 5, none⟩ = some (.string nm) from fun V h => ⟨(HX.out V h).1, (HX.out V h).2.1⟩)
  have HC := Lib.hid (fun V h => (HX.out V h).2.2.2.2.2)
  obtain ⟨x0, -⟩ := HX.out w2 (Below.refl _ _)
  have HR := Lib.hid R
  have HT := Lib.hid (show ∀ V, Below w2.heap.size w2 V → Calls Tryz.prog 47 #[valV fv] V fun e w' => e = .returned (.int .i64 1) ∧ Below V.heap.size V w' from fun V h => by rw [← hcv]; exact vcheck_any V fv hvw (R.tabs _ _ (HX.out V h).2.2.2.1))
  have d1 : ((2 : Int) == 1) = false := rfl
  have d2 : ((2 : Int) == 2) = true := rfl
  have cur1 : Below w2.heap.size w2 w2.drew := (Below.refl _ _).drew
  have cur2 : Below w2.heap.size w2 w3.drew := b3.drew
  have n3' : w3.drew.heap[q]? = some objZ := n3
  have N3 := Lib.hid n3'
  have C1 := Lib.hid (HC.out _ cur1)
  have C2 := Lib.hid (HC.out _ cur2)
  have lq : w2.heap.size ≤ q := by omega
  have hw2' : w1.alloc (.cells #[.int .u8 0, .int .i64 0, .bool false, .string ⟨#[]⟩] 26) = w2 := hw2
  clear hb2 HK hF z R hw2 hJ hf hfv hcv hvw hc hw3 n3 n3' b3 hlt2
  go_enter Tryz.func87, Tryz.ntmps87
  go_wp2_with fail
  go_region_held3 (fun w' => w'.cell? ⟨rp, 0, none⟩ = some vv ∧ w'.cell? ⟨p0, 5, none⟩ = some (.string nm)) (first | with_reducible exact HKp.out _ cur1 | with_reducible exact HKp.out _ cur2 | with_reducible exact HKp.out _ cur | with_reducible exact HKp.out _ (cur.alloc cur.size _) | with_reducible exact HKp.out _ (chain_below cur lq _) | go_keep)
    (first
      | (go_at_call 127; refine C1.out.mono ?_; rintro e wz ⟨rfl, hbz⟩; have cur := cur1.trans (hbz.mono cur1.size); have curE := cur.alloc cur.size (objV fv); have hblk := heap_alloc_new wz (objV fv))
      | (go_at_call 127; refine C2.out.mono ?_; rintro e wz ⟨rfl, hbz⟩; obtain ⟨⟨n0, n1, n2, n3⟩, g0, g1, g2, g3⟩ := zero_blk ((hbz.block q (lt_of_block N3.out)).trans N3.out); have cur := cur2.trans (hbz.mono cur2.size); have curE := chain_below cur lq fv; have hblk := chain_blk fv ((hbz.block q (lt_of_block N3.out)).trans N3.out)))
  all_goals
    obtain ⟨y0, y1, y2, y3⟩ := v_cells hblk
    go_wp2_with (go_at_call 47; refine (HT.out _ curE).mono ?_; rintro e w5 ⟨rfl, hb5⟩; have cur5 := curE.trans (hb5.mono curE.size); refine Hid.out ?_)
    refine Lib.hid ?_
    obtain ⟨-, -, z, jE, fE, -⟩ := HX.out _ cur5
    obtain ⟨⟨m0, m1, m2, m3⟩, f0, f1, f2, f3⟩ := zero_blk z
    have HE := Lib.hid (HR.out.fin (p := p1) jE fE h1 lp Vl.zero)
    clear jE fE z
    go_wp2_with fail
    exact bodyPost_ret (v := .tuple #[valV Vl.zero, .int .i64 1]) (by simp [results, Tryz.results87, go_sem, Vl.zero, m0, m1, m2, m3]) rfl ⟨rfl, HE.out⟩
set_option maxHeartbeats 4000000 in
theorem ev_var2 (R : Reck w0 B0 B1 S J rp mb fid caps vv l) (u : Vl) (nm : ByteArray) (vk : Value) (xs : List ByteArray) (W : World) (h1 : B1 ≤ W.heap.size) (hJ : J xs W) (v : Vl) (hf : findB l nm = some v) (hc : checkB v = true) :
    Calls Tryz.prog 87 #[.pointer (some ⟨rp, 0, none⟩), valO 2 u nm vk] W fun e w' => e = .returned (.tuple #[valV v, .int .i64 0]) ∧ J (xs ++ [nm]) w' ∧ Frm S W w' := by
  obtain ⟨w1, w2, p0, p1, hp0, hw1, hp1, hw2, l01, lp, hb2, HK⟩ := node_start W S B1 h1 R.old 2 u nm vk
  obtain ⟨⟨c0, c1, c2, c3, c4, c5, c6⟩, z, hF, -, l2⟩ := HK.out w2 (Frm.refl _ _)
  have h12 : B1 ≤ w2.heap.size := Nat.le_trans h1 hb2.size
  obtain ⟨fv, hfx, hv, hcv, hvw⟩ : ∃ fv, v = fv ∧ findR l nm = (fv, true) ∧ checkE fv = 0 ∧ VlW fv := ⟨v, rfl, by unfold findR; rw [hf], by unfold checkE; rw [hc]; rfl, by obtain ⟨b, hb, rfl⟩ := findB_mem hf; obtain ⟨_, _, _, _, _, _, h⟩ := R.binds; exact (h b hb).1⟩
  subst fv
  have HX := Lib.hid (show ∀ V, Below w2.heap.size w2 V → V.cell? ⟨rp, 0, none⟩ = some vv ∧ V.cell? ⟨p0, 5, none⟩ = some (.string nm) ∧ V.heap[p1]? = some objZ ∧ J xs V ∧ Frm S W V ∧ (Calls Tryz.prog 127 #[vv, .string nm] V fun e w' => e = .returned (.tuple #[valV v, .bool true]) ∧ Below V.heap.size V w') from fun V h => by
    obtain ⟨⟨_, _, _, _, _, k5, _⟩, kz, kF, _, _⟩ := HK.out V (Frm.ofBelow h)
    have hJV := R.mono _ _ _ hJ ((hb2.mono h1).trans (h.mono h12))
    obtain ⟨q0, q1, q2, q3⟩ := R.cells _ _ hJV
    refine ⟨q0, k5, kz, hJV, kF, ?_⟩
    have := vfind_any V vv l nm (R.binds.mono (R.below _ _ hJV) (Nat.le_trans R.le (Nat.le_trans h12 h.size)))
    rw [hv] at this
    exact this)
  have hlt2 : w2.heap.size ≤ w2.heap.size := Nat.le_refl _
  obtain ⟨w3, q, hq, hw3, l3, n3, b3⟩ := box_new w2 objZ
  have hw3' : w2.alloc (.cells #[.int .u8 0, .int .i64 0, .bool false, .string ⟨#[]⟩] 26) = w3 := hw3
  have HKp := Lib.hid (show ∀ V, Below w2.heap.size w2 V → V.cell? ⟨rp, 0, none⟩ = some vv ∧ V.cell? ⟨p0, 5, none⟩ = some (.string nm) from fun V h => ⟨(HX.out V h).1, (HX.out V h).2.1⟩)
  have HC := Lib.hid (fun V h => (HX.out V h).2.2.2.2.2)
  obtain ⟨x0, -⟩ := HX.out w2 (Below.refl _ _)
  have HR := Lib.hid R
  have HN := Lib.hid (show ∀ V, Below w2.heap.size w2 V → Calls Tryz.prog fid (#[.string nm] ++ caps) V fun e w' => e = .returned (.tuple #[]) ∧ J (xs ++ [nm]) w' ∧ Frm S V w' from fun V h => R.note xs V nm ⟨v, hf⟩ (HX.out V h).2.2.2.1 (Nat.le_trans h12 h.size))
  have HF1 := Lib.hid (show ∀ V, Below w2.heap.size w2 V → V.cell? ⟨rp, 1, none⟩ = some (.func (.func fid) #[] caps) ∧ V.cell? ⟨p0, 5, none⟩ = some (.string nm) from fun V h => ⟨(R.cells _ _ (HX.out V h).2.2.2.1).2.1, (HX.out V h).2.1⟩)
  have hrun := R.run
  have HY := Lib.hid (show ∀ V xs', J xs' V → Frm S w2 V → (V.cell? ⟨rp, 1, none⟩ = some (.func (.func fid) #[] caps) ∧ V.cell? ⟨p0, 5, none⟩ = some (.string nm)) ∧ V.heap[p1]? = some objZ ∧ Frm S W V from fun V xs' j f => by
    obtain ⟨⟨_, _, _, _, _, k5, _⟩, kz, kF, _, _⟩ := HK.out V f
    exact ⟨⟨(R.cells _ _ j).2.1, k5⟩, kz, kF⟩)
  have HT := Lib.hid (show ∀ V, Below w2.heap.size w2 V → Calls Tryz.prog 47 #[valV v] V fun e w' => e = .returned (.int .i64 0) ∧ Below V.heap.size V w' from fun V h => by rw [← hcv]; exact vcheck_any V v hvw (R.tabs _ _ (HX.out V h).2.2.2.1))
  have d1 : ((2 : Int) == 1) = false := rfl
  have d2 : ((2 : Int) == 2) = true := rfl
  have cur1 : Below w2.heap.size w2 w2.drew := (Below.refl _ _).drew
  have cur2 : Below w2.heap.size w2 w3.drew := b3.drew
  have n3' : w3.drew.heap[q]? = some objZ := n3
  have N3 := Lib.hid n3'
  have C1 := Lib.hid (HC.out _ cur1)
  have C2 := Lib.hid (HC.out _ cur2)
  have lq : w2.heap.size ≤ q := by omega
  have hw2' : w1.alloc (.cells #[.int .u8 0, .int .i64 0, .bool false, .string ⟨#[]⟩] 26) = w2 := hw2
  clear hb2 HK hF z R hw2 hJ hf hv hcv hvw hc hw3 n3 n3' b3 hlt2
  go_enter Tryz.func87, Tryz.ntmps87
  go_wp2_with fail
  go_region_held3 (fun w' => w'.cell? ⟨rp, 0, none⟩ = some vv ∧ w'.cell? ⟨p0, 5, none⟩ = some (.string nm)) (first | with_reducible exact HKp.out _ cur1 | with_reducible exact HKp.out _ cur2 | with_reducible exact HKp.out _ cur | with_reducible exact HKp.out _ (cur.alloc cur.size _) | with_reducible exact HKp.out _ (chain_below cur lq _) | go_keep)
    (first
      | (go_at_call 127; refine C1.out.mono ?_; rintro e wz ⟨rfl, hbz⟩; have cur := cur1.trans (hbz.mono cur1.size); have curE := cur.alloc cur.size (objV v); have hblk := heap_alloc_new wz (objV v); have hge := cur.size)
      | (go_at_call 127; refine C2.out.mono ?_; rintro e wz ⟨rfl, hbz⟩; obtain ⟨⟨n0, n1, n2, n3⟩, g0, g1, g2, g3⟩ := zero_blk ((hbz.block q (lt_of_block N3.out)).trans N3.out); have cur := cur2.trans (hbz.mono cur2.size); have curE := chain_below cur lq v; have hblk := chain_blk v ((hbz.block q (lt_of_block N3.out)).trans N3.out); have hge := lq))
  all_goals
    obtain ⟨y0, y1, y2, y3⟩ := v_cells hblk
    go_wp2_with (go_at_call 47; refine (HT.out _ curE).mono ?_; rintro e w5 ⟨rfl, hb5⟩; have cur5 := curE.trans (hb5.mono curE.size); refine Hid.out ?_)
    refine Lib.hid ?_
    obtain ⟨r1, r5⟩ := HF1.out _ cur5
    have cur6 := cur5.drew
    have C6 := Lib.hid (HN.out _ cur6)
    go_wp2_with fail
    have hb6 := (hb5.block _ (lt_of_block hblk)).trans hblk
    have hge6 := Nat.le_trans h12 hge
    clear y0 y1 y2 y3
    go_region_held3 (fun w' => w'.cell? ⟨rp, 1, none⟩ = some (.func (.func fid) #[] caps) ∧ w'.cell? ⟨p0, 5, none⟩ = some (.string nm)) (first | with_reducible exact HF1.out _ cur6 | with_reducible exact hk7 | go_keep)
      (first | (refine C6.out.mono ?_; rintro e w7 ⟨rfl, hj7, hf7⟩; have f7 := Frm.trans (T := S) (Frm.ofBelow cur6) hf7 (fun r hr => Or.inl hr); obtain ⟨hk7, z7, fE7⟩ := HY.out _ _ hj7 f7; obtain ⟨y0, y1, y2, y3⟩ := v_cells (HR.out.kept hf7 hb6 hge6); obtain ⟨⟨m0, m1, m2, m3⟩, f0, f1, f2, f3⟩ := zero_blk z7; have HE := Lib.hid (HR.out.fin (p := p1) hj7 fE7 h1 lp v)))
    all_goals
      go_wp2_with fail
      exact bodyPost_ret (v := .tuple #[valV v, .int .i64 0]) (by simp [results, Tryz.results87, go_sem, m0, m1, m2, m3]) rfl ⟨rfl, HE.out⟩
end
end Go.Proofs.YtbephgifbghilaaGreatDoor
