/- eval.reckon. -/
import Derived.Test.YtjfiijbmkcfooaaDoorEvalCheck4
set_option maxRecDepth 100000
namespace Go.Proofs.YtjfiijbmkcfooaaDoor
open Go.RowKit

/-- What is told of the names that are read, and what of memory it keeps. -/
structure NoteS (w0 : World) (B0 B1 : Nat) (S : List (Option Nat)) (J : List ByteArray → World → Prop) (fid : Nat) (caps : Array Value) (l : List Bd) : Prop where
  below : ∀ xs W, J xs W → Below B0 w0 W
  mono : ∀ xs W W', J xs W → Below B1 W W' → J xs W'
  note : ∀ xs W s, (∃ v, findB l s = some v) → J xs W → B1 ≤ W.heap.size → Calls Tryd.prog fid (#[.string s] ++ caps) W fun e w' => e = .returned (.tuple #[]) ∧ J (xs ++ [s]) w' ∧ Frm S W w'
  run : ∀ (args : Array Value) (W : World), (callFunc fid args).run Tryd.prog W = .ok (.enter fid args) W
  old : ∀ r ∈ S, ∃ j, r = some j ∧ j < B1
  le : B0 ≤ B1
  tabs : ∀ xs W, J xs W → Tabs8 W
theorem NoteS.keep {S : List (Option Nat)} {V V' : World} {B1 k : Nat} {o : Obj} (old : ∀ r ∈ S, ∃ j, r = some j ∧ j < B1) (h : Frm S V V') (hb : V.heap[k]? = some o) (hk : B1 ≤ k) : V'.heap[k]? = some o :=
  (h.keep k (lt_of_block hb) (fun r hr e => by
    obtain ⟨j, e2, hj⟩ := old r hr
    rw [e2] at e; injection e with e; omega)).trans hb
theorem NoteS.reck {w0 : World} {B0 B1 : Nat} {S : List (Option Nat)} {J : List ByteArray → World → Prop} {fid : Nat} {caps : Array Value} {l : List Bd} (N : NoteS w0 B0 B1 S J fid caps l) {W : World} {rp mb : Nat} {vv : Value}
    (hrp : W.heap[rp]? = some (.cells #[vv, .func (.func fid) #[] caps, .map (some mb)] 84)) (hm : RawM W mb twoF) (h1 : B1 ≤ rp) (h2 : B1 ≤ mb) (hl : BdsR w0 B0 vv l) :
    Reck w0 B0 W.heap.size S (fun xs V => J xs V ∧ Frm S W V) rp mb fid caps vv l where
  below xs V h := N.below xs V h.1
  mono xs V V' h hb := ⟨N.mono xs V V' h.1 (hb.mono (by have := lt_of_block hrp; omega)), ⟨hb.os.trans h.2.os, hb.tape.trans h.2.tape, hb.output.trans h.2.output, Nat.le_trans h.2.size hb.size, fun k hk hs => (hb.block k hk).trans (h.2.keep k hk hs)⟩⟩
  note xs V s hf h hB := (N.note xs V s hf h.1 (by have := lt_of_block hrp; omega)).mono fun e w' ⟨he, hj, hf⟩ => ⟨he, ⟨hj, h.2.trans hf (fun r hr => Or.inl hr)⟩, hf⟩
  run := N.run
  cells xs V h := by
    have hb := NoteS.keep N.old h.2 hrp h1
    obtain ⟨es, ck, hm1, hm2⟩ := hm
    exact ⟨(cell_of_block hb 0).trans rfl, (cell_of_block hb 1).trans rfl, (cell_of_block hb 2).trans rfl, ⟨es, ck, NoteS.keep N.old h.2 hm1 h2, hm2⟩⟩
  rp1 := lt_of_block hrp
  old r hr := by
    obtain ⟨j, e, hj⟩ := N.old r hr
    exact ⟨j, e, by have := lt_of_block hrp; omega⟩
  le := Nat.le_trans N.le (by have := lt_of_block hrp; omega)
  tabs xs V h := N.tabs xs V h.1
  binds := hl

section
variable {w0 : World} {B0 B1 : Nat} {S : List (Option Nat)} {J : List ByteArray → World → Prop} {fid : Nat} {caps : Array Value} {l : List Bd}
theorem NoteS.fin (N : NoteS w0 B0 B1 S J fid caps l) {xs : List ByteArray} {w V : World} {p : Nat} (hJ : J xs V) (hf : Frm S w V) (h1 : B1 ≤ w.heap.size) (hp : w.heap.size ≤ p) (v : Vl) : J xs (chainV V p v) ∧ Frm S w (chainV V p v) :=
  ⟨N.mono xs V _ hJ (chain_below (Below.refl B1 V) (Nat.le_trans h1 hp) v), hf.chain hp v⟩

set_option maxHeartbeats 2000000 in
theorem reckon_bad (N : NoteS w0 B0 B1 S J fid caps l) (w : World) (xs : List ByteArray) (hJ : J xs w) (h1 : B1 ≤ w.heap.size) (op : Int) (u : Vl) (nm : ByteArray) (vk vv : Value)
    (hC : ∀ V, Below w.heap.size w V → Calls Tryd.prog 9 #[valO op u nm vk] V fun e w' => e = .returned (.bool false) ∧ Below V.heap.size V w') :
    Calls Tryd.prog 32 #[valO op u nm vk, vv, .func (.func fid) #[] caps] w fun e w' => e = .returned (.tuple #[valV Vl.zero, .int .i64 1]) ∧ J xs w' ∧ Frm S w w' := by
  obtain ⟨w1, w2, p0, p1, hp0, hw1, hp1, hw2, l01, lp, hb2, HK⟩ := node_start w S B1 h1 N.old op u nm vk
  obtain ⟨⟨c0, c1, c2, c3, c4, c5, c6⟩, z, hF, -, l2⟩ := HK.out w2 (Frm.refl _ _)
  have HZ := Lib.hid z
  have HC := Lib.hid (hC w2 hb2)
  have HB := Lib.hid hb2
  have HN := Lib.hid N
  have HJ := Lib.hid hJ
  have hw2' : w1.alloc (.cells #[.int .u8 0, .int .i64 0, .bool false, .string ⟨#[]⟩] 23) = w2 := hw2
  clear hb2 HK hF z N hw2 hJ hC
  go_enter Tryd.func32, Tryd.ntmps32
  go_wp2_with (go_at_call 9; refine HC.out.mono ?_; rintro e w3 ⟨rfl, hb3⟩; refine Hid.out ?_)
  refine Lib.hid ?_
  obtain ⟨⟨m0, m1, m2, m3⟩, f0, f1, f2, f3⟩ := zero_blk ((hb3.block p1 l2).trans HZ.out)
  have hB3 := HB.out.trans (hb3.mono HB.out.size)
  have HE := Lib.hid (HN.out.fin (p := p1) (HN.out.mono _ _ _ HJ.out (hB3.mono h1)) (Frm.ofBelow hB3) h1 lp Vl.zero)
  clear hb3 hB3
  go_wp2_with fail
  exact bodyPost_ret (v := .tuple #[valV Vl.zero, .int .i64 1]) (by simp [results, Tryd.results32, go_sem, Vl.zero, m0, m1, m2, m3]) rfl ⟨rfl, HE.out⟩

set_option maxHeartbeats 2000000 in
theorem reckon_good (N : NoteS w0 B0 B1 S J fid caps l) (w : World) (xs : List ByteArray) (hJ : J xs w) (h1 : B1 ≤ w.heap.size) (n : Nd) (vk vv : Value) (hk : KidsR w0 B0 vk n.kids) (hl : BdsR w0 B0 vv l) (hd : deepW n) (hc : checkN n = true)
    (hC : ∀ V, Below w.heap.size w V → Calls Tryd.prog 9 #[valN n vk] V fun e w' => e = .returned (.bool true) ∧ Below V.heap.size V w') :
    Calls Tryd.prog 32 #[valN n vk, vv, .func (.func fid) #[] caps] w fun e w' => e = .returned (.tuple #[valV (evalN l n).1, .int .i64 (evalN l n).2]) ∧ J (xs ++ noteN l n) w' ∧ Frm S w w' := by
  obtain ⟨va, vc, rfl⟩ := hl.val
  obtain ⟨w1, w2, p0, p1, hp0, hw1, hp1, hw2, l01, lp, hb2, HK⟩ := node_start w S B1 h1 N.old n.op n.v n.name vk
  obtain ⟨⟨c0, c1, c2, c3, c4, c5, c6⟩, z, hF, -, l2⟩ := HK.out w2 (Frm.refl _ _)
  have HC := Lib.hid (hC w2 hb2)
  have HB := Lib.hid hb2
  have HM := Lib.hid (fun V => bothM_any V)
  have HN := Lib.hid N
  have HJ := Lib.hid hJ
  have HL := Lib.hid hl
  have HV := Lib.hid (show ∀ b ∈ l, VlW b.val from fun b hb => by obtain ⟨_, _, _, _, _, _, h⟩ := hl; exact (h b hb).1)
  have HQ := Lib.hid (fun (W5 : World) (rp mb : Nat) (R : Reck w0 B0 W5.heap.size S (fun xs V => J xs V ∧ Frm S W5 V) rp mb fid caps (.slice va l.length vc) l) => reck_N R HV.out n hc hd vk hk xs)
  obtain ⟨r, hr⟩ : ∃ r, evalN l n = r := ⟨_, rfl⟩
  obtain ⟨ys, hys⟩ : ∃ ys, xs ++ noteN l n = ys := ⟨_, rfl⟩
  rw [hr, hys] at HQ ⊢
  obtain ⟨rv, re⟩ := r
  have hw2' : w1.alloc (.cells #[.int .u8 0, .int .i64 0, .bool false, .string ⟨#[]⟩] 23) = w2 := hw2
  clear hb2 hF z N hw2 hJ hC hr hys hl hk hd hc
  go_enter Tryd.func32, Tryd.ntmps32
  go_wp2_with (go_at_call 9; refine HC.out.mono ?_; rintro e w3 ⟨rfl, hb3⟩; refine Hid.out ?_)
  refine Lib.hid ?_
  have H3 := Lib.hid hb3
  clear hb3 c0 c1 c2 c3 c4 c5 c6
  go_wp2_with (go_at_call 49; refine (HM.out _).mono ?_; rintro e w4 ⟨mb, rfl, hm4, lb4, hb4⟩; refine Hid.out ?_)
  refine Lib.hid ?_
  obtain ⟨w5, rp, hrp, hw5, l5, n5, b5⟩ := box_new w4 (.cells #[.slice va l.length vc, .func (.func fid) #[] caps, .map (some mb)] 84)
  have hB3 := H3.out.trans (hb4.mono H3.out.size)
  have hB5 := hB3.trans (b5.mono hB3.size)
  have hB := HB.out.trans (hB5.mono HB.out.size)
  have hm5 := hm4.below b5
  have s3 := HB.out.size
  have s4 := H3.out.size
  have s5 := hb4.size
  have R := HN.out.reck (rp := rp) n5 hm5 (by omega) (by omega) HL.out
  have K := Lib.hid (HQ.out _ _ _ R w5 ⟨HN.out.mono _ _ _ HJ.out (hB.mono h1), Frm.refl _ _⟩ (Nat.le_refl _))
  obtain ⟨⟨c0, c1, c2, c3, c4, c5, c6⟩, -, -, -, -⟩ := HK.out w5 (Frm.ofBelow hB5)
  have HBB := Lib.hid hB
  have HB5 := Lib.hid hB5
  clear hb4 hm4 hm5 R n5 b5 hB3 hB5 hB
  go_wp2_with (go_at_call 50; refine K.out.mono ?_; rintro e w6 ⟨rfl, hj6, hf6⟩; refine Hid.out ?_)
  refine Lib.hid ?_
  have hf26 : Frm S w2 w6 := (Frm.ofBelow HB5.out).trans hf6 (fun r hr => Or.inl hr)
  obtain ⟨-, z, fE, -, -⟩ := HK.out w6 hf26
  obtain ⟨⟨m0, m1, m2, m3⟩, f0, f1, f2, f3⟩ := zero_blk z
  have HE := Lib.hid (HN.out.fin (p := p1) hj6.1 fE h1 lp rv)
  clear hj6 hf6 hf26 fE z
  go_wp2_with fail
  exact bodyPost_ret (v := .tuple #[valV rv, .int .i64 re]) (by simp [results, Tryd.results32, go_sem, m0, m1, m2, m3]) rfl ⟨rfl, HE.out⟩

/-- What is told of the names of a node that may not be: nothing. -/
def notesN (l : List Bd) (n : Nd) : List ByteArray := if checkN n then noteN l n else []
theorem reckon_any (N : NoteS w0 B0 B1 S J fid caps l) (w : World) (xs : List ByteArray) (hJ : J xs w) (h1 : B1 ≤ w.heap.size) (n : Nd) (vk vv : Value) (hk : KidsR w0 B0 vk n.kids) (hl : BdsR w0 B0 vv l) (hd : deepW n) :
    Calls Tryd.prog 32 #[valN n vk, vv, .func (.func fid) #[] caps] w fun e w' => e = .returned (.tuple #[valV (evE l n).1, .int .i64 (evE l n).2]) ∧ J (xs ++ notesN l n) w' ∧ Frm S w w' := by
  have hH : HeadW n := by cases n; exact hd.1
  have hC : ∀ V, Below w.heap.size w V → Calls Tryd.prog 9 #[valN n vk] V fun e w' => e = .returned (.bool (checkN n)) ∧ Below V.heap.size V w' := fun V hV =>
    check_N n hH V vk (Utf8Tabs_below (N.tabs _ _ hJ) hV) (hk.mono ((N.below _ _ hJ).trans (hV.mono (Nat.le_trans N.le h1))) (Nat.le_trans N.le (Nat.le_trans h1 hV.size)))
  unfold evE notesN
  cases hc : checkN n with
  | false =>
    rw [hc] at hC
    simp only [Bool.false_eq_true, if_false, List.append_nil]
    exact reckon_bad N w xs hJ h1 n.op n.v n.name vk vv hC
  | true =>
    rw [hc] at hC
    simp only [if_true]
    exact reckon_good N w xs hJ h1 n vk vv hk hl hd hc hC
end
end Go.Proofs.YtjfiijbmkcfooaaDoor
