/- Of EvalReck: what XFAs uses (shake.py). -/
import Derived.Test.YtbephgifbghilaaGreatDoorKEvalMap
import Derived.Test.YtbephgifbghilaaGreatDoorKEvalDeepP
import Derived.Test.YtbephgifbghilaaGreatDoorKStepOwn
/- (*reckoner).eval, way by way. -/
set_option maxRecDepth 100000
namespace Go.Proofs.YtbephgifbghilaaGreatDoor
open Go.RowKit
theorem Frm.chain {S : List (Option Nat)} {w V : World} {p : Nat} (h : Frm S w V) (hp : w.heap.size ≤ p) (v : Vl) : Frm S w (chainV V p v) :=
  Frm.trans (T := [some p]) h
    (by
      have c := chain_below (B := p) (Below.refl p V) (Nat.le_refl _) v
      refine ⟨c.os, c.tape, c.output, c.size, fun k hk hs => ?_⟩
      have hkp : k ≠ p := fun e => hs (some p) (by simp) (by rw [e])
      unfold chainV
      simp only [heap_setCell_other _ ⟨p, _, none⟩ k _ hkp])
    (by intro r hr; simp at hr; exact Or.inr ⟨p, hr, hp⟩)
/-- What a reckoner and its surroundings keep. -/
structure Reck (w0 : World) (B0 B1 : Nat) (S : List (Option Nat)) (J : List ByteArray → World → Prop) (rp mb fid : Nat) (caps : Array Value) (vv : Value) (l : List Bd) : Prop where
  below : ∀ xs W, J xs W → Below B0 w0 W
  mono : ∀ xs W W', J xs W → Below B1 W W' → J xs W'
  note : ∀ xs W s, (∃ v, findB l s = some v) → J xs W → B1 ≤ W.heap.size → Calls Tryz.prog fid (#[.string s] ++ caps) W fun e w' => e = .returned (.tuple #[]) ∧ J (xs ++ [s]) w' ∧ Frm S W w'
  run : ∀ (args : Array Value) (W : World), (callFunc fid args).run Tryz.prog W = .ok (.enter fid args) W
  cells : ∀ xs W, J xs W → W.cell? ⟨rp, 0, none⟩ = some vv ∧ W.cell? ⟨rp, 1, none⟩ = some (.func (.func fid) #[] caps) ∧ W.cell? ⟨rp, 2, none⟩ = some (.map (some mb)) ∧ RawM W mb twoF
  rp1 : rp < B1
  old : ∀ r ∈ S, ∃ j, r = some j ∧ j < B1
  le : B0 ≤ B1
  tabs : ∀ xs W, J xs W → Tabs8 W
  binds : BdsR w0 B0 vv l
abbrev objN (op : Int) (u : Vl) (nm : ByteArray) (vk : Value) : Obj := .cells #[.int .u8 op, .int .u8 u.kind, .int .i64 u.num, .bool u.tr, .string u.text, .string nm, vk] 29
abbrev valO (op : Int) (u : Vl) (nm : ByteArray) (vk : Value) : Value := .agg #[.int .u8 op, .int .u8 u.kind, .int .i64 u.num, .bool u.tr, .string u.text, .string nm, vk]
section
variable {w0 : World} {B0 B1 : Nat} {S : List (Option Nat)} {J : List ByteArray → World → Prop} {rp mb fid : Nat} {caps : Array Value} {vv : Value} {l : List Bd}
theorem Reck.fin (R : Reck w0 B0 B1 S J rp mb fid caps vv l) {xs : List ByteArray} {W V : World} {p : Nat} (hJ : J xs V) (hf : Frm S W V) (h1 : B1 ≤ W.heap.size) (hp : W.heap.size ≤ p) (v : Vl) : J xs (chainV V p v) ∧ Frm S W (chainV V p v) :=
  ⟨R.mono xs V _ hJ (chain_below (Below.refl B1 V) (Nat.le_trans h1 hp) v), hf.chain hp v⟩
theorem Reck.kept (R : Reck w0 B0 B1 S J rp mb fid caps vv l) {V V' : World} {k : Nat} {o : Obj} (hf : Frm S V V') (hb : V.heap[k]? = some o) (hk : B1 ≤ k) : V'.heap[k]? = some o :=
  (hf.keep k (lt_of_block hb) (fun r hr e => by
    obtain ⟨j, e2, hj⟩ := R.old r hr
    rw [e2] at e; injection e with e; omega)).trans hb
end
end Go.Proofs.YtbephgifbghilaaGreatDoor
