/- Of XTyp: what XFAs uses (shake.py). -/
import Derived.Test.YtbephgifbghilaaGreatDoorKXNodes
import Derived.Test.YtbephgifbghilaaGreatDoorKEvalLawP
import Derived.Test.YtbephgifbghilaaGreatDoorKStepOwn
/- Texts fused by fuse.py: EvalTop, EvalTop2, EvalTypeP, EvalType, EvalMake, EvalType2, EvalType3. -/
/- eval.reckon. -/
set_option maxRecDepth 100000
namespace Go.Proofs.YtbephgifbghilaaGreatDoor
open Go.RowKit
/-- What is told of the names that are read, and what of memory it keeps. -/
structure NoteS (w0 : World) (B0 B1 : Nat) (S : List (Option Nat)) (J : List ByteArray → World → Prop) (fid : Nat) (caps : Array Value) (l : List Bd) : Prop where
  below : ∀ xs W, J xs W → Below B0 w0 W
  mono : ∀ xs W W', J xs W → Below B1 W W' → J xs W'
  note : ∀ xs W s, (∃ v, findB l s = some v) → J xs W → B1 ≤ W.heap.size → Calls Tryz.prog fid (#[.string s] ++ caps) W fun e w' => e = .returned (.tuple #[]) ∧ J (xs ++ [s]) w' ∧ Frm S W w'
  run : ∀ (args : Array Value) (W : World), (callFunc fid args).run Tryz.prog W = .ok (.enter fid args) W
  old : ∀ r ∈ S, ∃ j, r = some j ∧ j < B1
  le : B0 ≤ B1
  tabs : ∀ xs W, J xs W → Tabs8 W
theorem NoteS.keep {S : List (Option Nat)} {V V' : World} {B1 k : Nat} {o : Obj} (old : ∀ r ∈ S, ∃ j, r = some j ∧ j < B1) (h : Frm S V V') (hb : V.heap[k]? = some o) (hk : B1 ≤ k) : V'.heap[k]? = some o :=
  (h.keep k (lt_of_block hb) (fun r hr e => by
    obtain ⟨j, e2, hj⟩ := old r hr
    rw [e2] at e; injection e with e; omega)).trans hb
section
variable {w0 : World} {B0 B1 : Nat} {S : List (Option Nat)} {J : List ByteArray → World → Prop} {fid : Nat} {caps : Array Value} {l : List Bd}
theorem NoteS.fin (N : NoteS w0 B0 B1 S J fid caps l) {xs : List ByteArray} {w V : World} {p : Nat} (hJ : J xs V) (hf : Frm S w V) (h1 : B1 ≤ w.heap.size) (hp : w.heap.size ≤ p) (v : Vl) : J xs (chainV V p v) ∧ Frm S w (chainV V p v) :=
  ⟨N.mono xs V _ hJ (chain_below (Below.refl B1 V) (Nat.le_trans h1 hp) v), hf.chain hp v⟩
end
end Go.Proofs.YtbephgifbghilaaGreatDoor
/- eval.Eval, eval.Bool; the law's helpers that make nodes. -/
set_option maxRecDepth 100000
namespace Go.Proofs.YtbephgifbghilaaGreatDoor
open Go.RowKit
/-- A node that may be read: its own cells are at hand. -/
def NdR (w : World) (B : Nat) (vk : Value) (n : Nd) : Prop := HeadW n ∧ KidsR w B vk n.kids
theorem NdR.mono {w w' : World} {B B' : Nat} {vk : Value} {n : Nd} (h : NdR w B vk n) (hb : Below B w w') (hB : B ≤ B') : NdR w' B' vk n := ⟨h.1, h.2.mono hb hB⟩
theorem NdR.to {w w' : World} {vk : Value} {n : Nd} (h : NdR w w.heap.size vk n) (hb : Below w.heap.size w w') : NdR w' w'.heap.size vk n := h.mono hb hb.size
theorem BdsR.to {w w' : World} {v : Value} {l : List Bd} (h : BdsR w w.heap.size v l) (hb : Below w.heap.size w w') : BdsR w' w'.heap.size v l := h.mono hb hb.size
theorem NdR.deep {w : World} {B : Nat} {vk : Value} {n : Nd} (h : NdR w B vk n) : deepW n := by
  cases n
  exact ⟨h.1, h.2.deep⟩
end Go.Proofs.YtbephgifbghilaaGreatDoor
/- The statement EvalTypes on plain data. -/
set_option maxRecDepth 100000
namespace Go.Proofs.YtbephgifbghilaaGreatDoor
def typeC (op : Int) (ks : List Int) : Int × Int := match ks with
  | [] => (0, 90)
  | a :: r => if r.any (fun k => !(k == a)) then (0, 90)
    else if op = 7 ∨ op = 8 then (2, 0)
    else if (op = 3 ∨ op = 5 ∨ op = 6) ∧ a = 2 then (a, 0)
    else if 9 ≤ op ∧ op ≤ 12 ∧ ¬ a = 2 then (2, 0)
    else if ((op = 4 ∨ 13 ≤ op) ∧ a = 1) ∨ (op = 13 ∧ a = 3) then (a, 0)
    else (0, 90)
mutual
def typeN (l : List Bd) : Nd → Int × Int
  | .mk op v nm ks => if op = 1 then (v.kind, 0) else if op = 2 then (match findB l nm with | none => (0, 100) | some v => (v.kind, 0)) else (if (typeL l ks).2 = 0 then typeC op (typeL l ks).1 else (0, (typeL l ks).2))
def typeL (l : List Bd) : List Nd → List Int × Int
  | [] => ([], 0)
  | k :: r => if (typeN l k).2 = 0 then (if (typeL l r).2 = 0 then ((typeN l k).1 :: (typeL l r).1, 0) else ([], (typeL l r).2)) else ([], (typeN l k).2)
end
end Go.Proofs.YtbephgifbghilaaGreatDoor
/- expr.typeOf: the parts. -/
set_option maxRecDepth 100000
namespace Go.Proofs.YtbephgifbghilaaGreatDoor
open Go.RowKit
abbrev U8s (w : World) (B : Nat) (v : Value) (l : List Int) : Prop := ColV (Value.int .u8) 140737488355328 w B v l
set_option maxHeartbeats 1000000 in
theorem u8Idx_any (w : World) (v : Value) (l : List Int) (h : U8s w w.heap.size v l) (fid : Nat) (caps : Array Value) (p : Int → Bool)
    (hrun : ∀ (args : Array Value) (W : World), (callFunc fid args).run Tryz.prog W = .ok (.enter fid args) W)
    (hf : ∀ (x : Int) (W : World), Below w.heap.size w W → Calls Tryz.prog fid (#[.int .u8 x] ++ caps) W fun e w' => e = .returned (.bool (p x)) ∧ Below W.heap.size W w') :
    Calls Tryz.prog 130 #[v, .func (.func fid) #[] caps] w fun e w' => e = .returned (.int .i64 (idxL p l 0)) ∧ Below w.heap.size w w' := by
  have HR := Lib.hid h
  have hll := h.len
  obtain ⟨a, c, rfl⟩ := h.val
  have HF := Lib.hid hf
  clear hf h
  go_enter Tryz.func130, Tryz.ntmps130
  go_wp2_with fail
  go_loopg [8] l.length (fun g s8 wr => ∃ k : Nat, k + g = l.length ∧ s8 = .int .i64 (k : Int) ∧ Hid (idxL p (l.drop k) (k : Int) = idxL p l 0) ∧ Below w.heap.size w wr)
  case atStart => exact ⟨0, by omega, rfl, rfl, Below.refl _ _⟩
  case round =>
    obtain ⟨k, hkg, rfl, hI, hB⟩ := hrel
    by_cases hk : k < l.length
    · obtain ⟨b, o, rfl, hb, c0⟩ := (HR.out.mono hB (Nat.le_refl _)).col k hk
      obtain ⟨x, hx⟩ : ∃ x, l[k] = x := ⟨_, rfl⟩
      rw [hx] at c0
      have hd : Hid (idxL p (l.drop k) (k : Int) = if p x then (k : Int) else idxL p (l.drop (k + 1)) ((k + 1 : Nat) : Int)) := Lib.hid (by rw [idxL_drop hk, hx])
      have hcall := HF.out x wr hB
      have HB := Lib.hid hB
      have dk : decide (k < l.length) = true := decide_eq_true hk
      have k1 : (0 : Int) ≤ (k : Int) := by omega
      have k2 : (k : Int) < (l.length : Int) := by omega
      clear hx hB
      cases hp : p x with
      | true =>
        rw [hp] at hcall
        have Hf : Hid ((k : Int) = idxL p l 0) := by rw [← hI.out, hd.out, hp]; exact rfl
        have HC := Lib.hid hcall
        clear hcall hp
        go_wp2_with fail
        refine HC.out.mono ?_
        rintro e w2 ⟨rfl, hb2⟩
        have HB2 := Lib.hid (HB.out.trans (hb2.mono HB.out.size))
        clear hb2
        go_wp2_with fail
        go_ret
        exact ⟨ret_int Hf.out, HB2.out⟩
      | false =>
        rw [hp] at hcall
        have Hf : Hid (idxL p (l.drop (k + 1)) ((k + 1 : Nat) : Int) = idxL p l 0) := by rw [← hI.out, hd.out, hp]; exact rfl
        have HC := Lib.hid hcall
        clear hcall hp
        go_wp2_with fail
        refine HC.out.mono ?_
        rintro e w2 ⟨rfl, hb2⟩
        have HB2 := Lib.hid (HB.out.trans (hb2.mono HB.out.size))
        clear hb2
        go_wp2_with fail
        go_roundg (gk - 1)
        case measure => omega
        case rel => exact ⟨k + 1, by omega, by go_num, Hf, HB2.out⟩
    · have Hf : Hid (-1 = idxL p l 0) := by rw [← hI.out, List.drop_eq_nil_of_le (by omega)]; exact rfl
      have dk : decide (k < l.length) = false := decide_eq_false hk
      go_wp2_with fail
      go_ret
      exact ⟨ret_int Hf.out, hB⟩
theorem u8Has_any (w : World) (v : Value) (l : List Int) (h : U8s w w.heap.size v l) (fid : Nat) (caps : Array Value) (p : Int → Bool)
    (hrun : ∀ (args : Array Value) (W : World), (callFunc fid args).run Tryz.prog W = .ok (.enter fid args) W)
    (hf : ∀ (x : Int) (W : World), Below w.heap.size w W → Calls Tryz.prog fid (#[.int .u8 x] ++ caps) W fun e w' => e = .returned (.bool (p x)) ∧ Below W.heap.size W w') :
    Calls Tryz.prog 92 #[v, .func (.func fid) #[] caps] w fun e w' => e = .returned (.bool (l.any p)) ∧ Below w.heap.size w w' := by
  have S1 := Lib.hid (u8Idx_any w v l h fid caps p hrun hf)
  have HI := Lib.hid (idxL_any p l 0 (by omega))
  obtain ⟨r, hr⟩ : ∃ r, l.any p = r := ⟨_, rfl⟩
  obtain ⟨j, hj⟩ : ∃ j, idxL p l 0 = j := ⟨_, rfl⟩
  rw [hr, hj] at HI
  rw [hj] at S1
  rw [hr]
  have dj := HI.out
  obtain ⟨a, c, rfl⟩ := h.val
  clear hr hj hf h
  go_enter Tryz.func92, Tryz.ntmps92
  go_wp2_with (go_at_call 130; refine S1.out.mono ?_; rintro e w2 ⟨rfl, hb2⟩; refine Hid.out ?_)
  refine Lib.hid ?_
  have HB := Lib.hid hb2
  clear hb2
  go_wp2_with fail
  go_ret
  exact ⟨rfl, HB.out⟩
theorem type2_any (w : World) (k a : Int) (pb : Nat) (hb : w.cell? ⟨pb, 0, none⟩ = some (.int .u8 a)) :
    Calls Tryz.prog 93 #[.int .u8 k, .pointer (some ⟨pb, 0, none⟩)] w fun e w' => e = .returned (.bool (!(k == a))) ∧ Below w.heap.size w w' := by
  obtain ⟨r, hr⟩ : ∃ r, (k != a) = r := ⟨_, rfl⟩
  rw [show (!(k == a)) = r from hr]
  have HB := Lib.hid (Below.refl w.heap.size w)
  go_enter Tryz.func93, Tryz.ntmps93
  go_wp2_with fail
  go_ret
  exact ⟨rfl, HB.out⟩
theorem type1_any (w : World) (x : Bd) (pb : Nat) (s : ByteArray) (hb : w.cell? ⟨pb, 5, none⟩ = some (.string s)) (hl : pb < w.heap.size) :
    Calls Tryz.prog 91 #[valBd x, .pointer (some ⟨pb, 0, none⟩)] w fun e w' => e = .returned (.bool (x.name.toList == s.toList)) ∧ Below w.heap.size w w' := by
  obtain ⟨w1, p0, hp0, hw1, l1, n1, b1⟩ := box_new w (.cells #[.string x.name, .int .u8 x.val.kind, .int .i64 x.val.num, .bool x.val.tr, .string x.val.text] 55)
  have c0 : w1.cell? ⟨p0, 0, none⟩ = some (.string x.name) := (cell_of_block n1 0).trans rfl
  have c1 : w1.cell? ⟨pb, 5, none⟩ = some (.string s) := (Below.cellB b1 hl).trans hb
  have HB := Lib.hid b1
  obtain ⟨r, hr⟩ : ∃ r, (x.name.toList == s.toList) = r := ⟨_, rfl⟩
  rw [hr]
  clear n1 b1 hb
  go_enter Tryz.func91, Tryz.ntmps91
  go_wp2_with fail
  go_ret
  exact ⟨rfl, by first | exact HB.out | (rw [hp0]; exact HB.out)⟩
theorem nd_box (w : World) (op : Int) (u : Vl) (nm : ByteArray) (vk : Value) : ∃ (w1 : World) (p0 : Nat), w.heap.size = p0 ∧ w.alloc (objN op u nm vk) = w1 ∧ p0 < w1.heap.size ∧ Below w.heap.size w w1 ∧ ∀ V, Below w1.heap.size w1 V → (V.cell? ⟨p0, 0, none⟩ = some (.int .u8 op) ∧ V.cell? ⟨p0, 1, none⟩ = some (.int .u8 u.kind) ∧ V.cell? ⟨p0, 2, none⟩ = some (.int .i64 u.num) ∧ V.cell? ⟨p0, 3, none⟩ = some (.bool u.tr) ∧ V.cell? ⟨p0, 4, none⟩ = some (.string u.text) ∧ V.cell? ⟨p0, 5, none⟩ = some (.string nm) ∧ V.cell? ⟨p0, 6, none⟩ = some vk) := by
  obtain ⟨w1, p0, hp0, hw1, l1, n1, b1⟩ := box_new w (objN op u nm vk)
  refine ⟨w1, p0, hp0, hw1, l1, b1, fun V h => ?_⟩
  have k := (h.block p0 l1).trans n1
  exact ⟨(cell_of_block k 0).trans rfl, (cell_of_block k 1).trans rfl, (cell_of_block k 2).trans rfl, (cell_of_block k 3).trans rfl, (cell_of_block k 4).trans rfl, (cell_of_block k 5).trans rfl, (cell_of_block k 6).trans rfl⟩
theorem type_lit (w : World) (u : Vl) (nm : ByteArray) (vk vv : Value) :
    Calls Tryz.prog 60 #[valO 1 u nm vk, vv] w fun e w' => e = .returned (.tuple #[.int .u8 u.kind, .int .i64 0]) ∧ Below w.heap.size w w' := by
  obtain ⟨w1, p0, hp0, hw1, l1, b1, hc⟩ := nd_box w 1 u nm vk
  obtain ⟨c0, c1, c2, c3, c4, c5, c6⟩ := hc w1 (Below.refl _ _)
  have HB := Lib.hid b1
  clear b1 hc
  go_enter Tryz.func60, Tryz.ntmps60
  go_wp2_with fail
  go_ret2
  exact ⟨rfl, by first | exact HB.out | (rw [hp0]; exact HB.out)⟩
def varT (l : List Bd) (nm : ByteArray) : Int × Int := match findB l nm with | none => (0, 100) | some v => (v.kind, 0)
set_option maxHeartbeats 1000000 in
theorem type_var (w : World) (u : Vl) (nm : ByteArray) (vk vv : Value) (l : List Bd) (hl : BdsR w w.heap.size vv l) :
    Calls Tryz.prog 60 #[valO 2 u nm vk, vv] w fun e w' => e = .returned (.tuple #[.int .u8 (varT l nm).1, .int .i64 (varT l nm).2]) ∧ Below w.heap.size w w' := by
  obtain ⟨w1, p0, hp0, hw1, l1, b1, hc⟩ := nd_box w 2 u nm vk
  obtain ⟨c0, c1, c2, c3, c4, c5, c6⟩ := hc w1 (Below.refl _ _)
  have hR := hl.to b1
  have S1 := Lib.hid (bindsIdx_any w1 vv l hR 91 #[.pointer (some ⟨p0, 0, none⟩)] (fun b => b.name.toList == nm.toList) (enters_of Tryz.func91 (by kernel_rfl) rfl) (fun x W h => type1_any W x p0 nm (hc W h).2.2.2.2.2.1 (Nat.lt_of_lt_of_le l1 h.size)))
  have HR := Lib.hid hR
  have HB := Lib.hid b1
  obtain ⟨i1, i2⟩ := idxL_find nm l 0
  obtain ⟨a, c, rfl⟩ := hl.val
  clear b1 hc hR hl
  unfold varT
  cases hf : findB l nm with
  | none =>
    rw [i1 hf] at S1
    clear hf i1 i2
    go_enter Tryz.func60, Tryz.ntmps60
    go_wp2_with (go_at_call 90; refine S1.out.mono ?_; rintro e w3 ⟨rfl, hb3⟩; refine Hid.out ?_)
    refine Lib.hid ?_
    have HE := Lib.hid (HB.out.trans (hb3.mono HB.out.size))
    clear hb3
    go_wp2_with fail
    go_ret2
    exact ⟨rfl, HE.out⟩
  | some v =>
    obtain ⟨j, hj, e1, e2⟩ := i2 v hf
    rw [e1, Int.zero_add] at S1
    have E2 := Lib.hid e2
    clear hf i1 i2 e1 e2
    go_enter Tryz.func60, Tryz.ntmps60
    go_wp2_with (go_at_call 90; refine S1.out.mono ?_; rintro e w3 ⟨rfl, hb3⟩; refine Hid.out ?_)
    refine Lib.hid ?_
    have HE := Lib.hid (HB.out.trans (hb3.mono HB.out.size))
    obtain ⟨b, o, rfl, hb, -, -, -, c1', c2', c3', c4'⟩ := (HR.out.mono hb3 (Nat.le_refl _)).at hj
    rw [E2.out] at c1'
    have k1 : (0 : Int) ≤ (j : Int) := by omega
    have k2 : (j : Int) < (l.length : Int) := by omega
    have dj : decide ((j : Int) < 0) = false := decide_eq_false (by omega)
    clear hb3
    go_wp2_with fail
    go_ret2
    exact ⟨rfl, HE.out⟩
end Go.Proofs.YtbephgifbghilaaGreatDoor
/- The law's helpers that make nodes: lit, name, one, two, vars. -/
set_option maxRecDepth 100000
namespace Go.Proofs.YtbephgifbghilaaGreatDoor
open Go.RowKit
theorem n_cells {w : World} {p : Nat} {n : Nd} {vk : Value} {t : TypeId} {fr : Nat × Nat} (h : w.heap[p]? = some (.cells #[.int .u8 n.op, .int .u8 n.v.kind, .int .i64 n.v.num, .bool n.v.tr, .string n.v.text, .string n.name, vk] t fr)) :
    w.cell? ⟨p, 0, none⟩ = some (.int .u8 n.op) ∧ w.cell? ⟨p, 1, none⟩ = some (.int .u8 n.v.kind) ∧ w.cell? ⟨p, 2, none⟩ = some (.int .i64 n.v.num) ∧ w.cell? ⟨p, 3, none⟩ = some (.bool n.v.tr) ∧ w.cell? ⟨p, 4, none⟩ = some (.string n.v.text) ∧ w.cell? ⟨p, 5, none⟩ = some (.string n.name) ∧ w.cell? ⟨p, 6, none⟩ = some vk :=
  ⟨(cell_of_block h 0).trans rfl, (cell_of_block h 1).trans rfl, (cell_of_block h 2).trans rfl, (cell_of_block h 3).trans rfl, (cell_of_block h 4).trans rfl, (cell_of_block h 5).trans rfl, (cell_of_block h 6).trans rfl⟩
/-- A built slice of one node, of two. -/
theorem kids_one {w : World} {p : Nat} {a : Nd} {va : Value} {t : TypeId} {fr : Nat × Nat} (h : w.heap[p]? = some (.cells (cellN a va).toArray t fr)) (ha : NdR w w.heap.size va a) (c : Nat) (hc : 1 ≤ c) : KidsR w w.heap.size (.slice (some ⟨p, 0, none⟩) 1 c) [a] :=
  .mk (some ⟨p, 0, none⟩) c [a] (fun _ => va) (by simp) (by simpa using hc) (fun i hi => by
    obtain rfl : i = 0 := by simpa using hi
    exact ha.1) (fun i hi => by
    obtain rfl : i = 0 := by simpa using hi
    refine ⟨p, 0, rfl, lt_of_block h, fun j hj => ?_⟩
    rw [cell_of_block h]
    simp) (fun i hi => by
    obtain rfl : i = 0 := by simpa using hi
    exact ha.2)
end Go.Proofs.YtbephgifbghilaaGreatDoor
/- expr.typeOf at a node with parts. -/
set_option maxRecDepth 100000
namespace Go.Proofs.YtbephgifbghilaaGreatDoor
open Go.RowKit
def typeK (op : Int) (p : List Int × Int) : Int × Int := if p.2 = 0 then typeC op p.1 else (0, p.2)
/-- What is left to be typed, behind what is typed. -/
def typeG (acc : List Int) (p : List Int × Int) : List Int × Int := if p.2 = 0 then (acc ++ p.1, 0) else ([], p.2)
theorem typeL_err (l : List Bd) : ∀ ks, (typeL l ks).2 ≠ 0 → (typeL l ks).1 = []
  | [], h => absurd rfl h
  | k :: r, h => by
    have e : typeL l (k :: r) = if (typeN l k).2 = 0 then (if (typeL l r).2 = 0 then ((typeN l k).1 :: (typeL l r).1, 0) else ([], (typeL l r).2)) else ([], (typeN l k).2) := rfl
    rw [e] at h ⊢
    split
    · split
      · rename_i h1 h2; rw [if_pos h1, if_pos h2] at h; exact absurd rfl h
      · rfl
    · rfl
theorem typeG_start (l : List Bd) (ks : List Nd) : typeL l ks = typeG [] (typeL l ks) := by
  unfold typeG
  split
  · rename_i h; exact Prod.ext (by simp) h
  · rename_i h; exact Prod.ext (typeL_err l ks h) rfl
theorem typeL_drop (l : List Bd) {ks : List Nd} {k : Nat} (h : k < ks.length) : typeL l (ks.drop k) = if (typeN l ks[k]).2 = 0 then (if (typeL l (ks.drop (k + 1))).2 = 0 then ((typeN l ks[k]).1 :: (typeL l (ks.drop (k + 1))).1, 0) else ([], (typeL l (ks.drop (k + 1))).2)) else ([], (typeN l ks[k]).2) := by
  rw [List.drop_eq_getElem_cons h]; rfl
theorem typeG_bad (acc : List Int) {l : List Bd} {ks : List Nd} {k : Nat} (h : k < ks.length) {x e : Int} (ht : typeN l ks[k] = (x, e)) (he : e ≠ 0) : typeG acc (typeL l (ks.drop k)) = ([], e) := by
  rw [typeL_drop l h, ht, if_neg he]
  unfold typeG
  rw [if_neg he]
theorem typeG_next (acc : List Int) {l : List Bd} {ks : List Nd} {k : Nat} (h : k < ks.length) {x : Int} (ht : typeN l ks[k] = (x, 0)) : typeG acc (typeL l (ks.drop k)) = typeG (acc ++ [x]) (typeL l (ks.drop (k + 1))) := by
  rw [typeL_drop l h, ht, if_pos rfl]
  unfold typeG
  split
  · rename_i h2
    rw [if_pos rfl] at *
    simp
  · rfl
theorem typeG_end (acc : List Int) (l : List Bd) {ks : List Nd} {k : Nat} (h : ks.length ≤ k) : typeG acc (typeL l (ks.drop k)) = (acc, 0) := by
  rw [List.drop_eq_nil_of_le h]
  show typeG acc ([], 0) = _
  unfold typeG
  rw [if_pos rfl, List.append_nil]
/-- A slice of kinds, the call's own. -/
def OwnU (w : World) (base : Nat) (v : Value) (l : List Int) : Prop := w.ownsRow base 5 1 v l.length (l.map (Value.int .u8))
theorem info_u8 : (Tryz.prog.info? 5).map (fun i => (i.zero, i.size, i.bytes)) = some (some (.int .u8 0), 1, 1) := by kernel_rfl
theorem OwnU.nil (w : World) (base : Nat) : OwnU w base (.slice none 0 0) [] := World.ownsRow_nil w base 5 1
theorem OwnU.val {w : World} {base : Nat} {v : Value} {l : List Int} (h : OwnU w base v l) : (v = .slice none 0 0 ∧ l = []) ∨ ∃ g cap, v = .slice (some ⟨g, 0, none⟩) l.length cap ∧ base ≤ g ∧ g < w.heap.size := by
  rcases h.2 with ⟨rfl, h0⟩ | ⟨g, cap, cur, rfl, hb, hg, _⟩
  · exact Or.inl ⟨rfl, List.eq_nil_of_length_eq_zero h0⟩
  · exact Or.inr ⟨g, cap, rfl, hb, lt_of_block hg⟩
theorem OwnU.shape {w : World} {base : Nat} {v : Value} {l : List Int} (h : OwnU w base v l) : ∃ a cap, v = .slice a l.length cap := by
  rcases h.val with ⟨rfl, rfl⟩ | ⟨g, cap, rfl, _⟩
  · exact ⟨none, 0, rfl⟩
  · exact ⟨_, cap, rfl⟩
theorem OwnU.kept {w w' : World} {base B : Nat} {v : Value} {l : List Int} (h : OwnU w base v l) (hb : Below B w w') (hB : w.heap.size ≤ B) : OwnU w' base v l := by
  refine ⟨h.1, ?_⟩
  rcases h.2 with h0 | ⟨g, cap, cur, hv, hbg, hg, r⟩
  · exact Or.inl h0
  · exact Or.inr ⟨g, cap, cur, hv, hbg, (hb.block g (Nat.lt_of_lt_of_le (lt_of_block hg) hB)).trans hg, r⟩
theorem OwnU.col {w : World} {base B : Nat} {v : Value} {l : List Int} (h : OwnU w base v l) (hl : l.length ≤ 140737488355328) (hB : w.heap.size ≤ B) : U8s w B v l := by
  rcases h.val with ⟨rfl, rfl⟩ | ⟨g, cap, rfl, _, hg⟩
  · exact ColV.nil _ _ _ _
  · have hc : l.length ≤ cap := by
      rcases h.2 with ⟨h0, h1⟩ | ⟨g', cap', cur, hv, _, _, hc, _⟩
      · cases h0
      · cases hv; exact hc
    refine ⟨_, cap, rfl, hl, hc, fun i hi => ⟨g, 0, rfl, by omega, ?_⟩⟩
    have := World.ownsRow.cellAt h i (by omega)
    rw [Nat.zero_add, this]
    simp [hi]
theorem ret_pair {x y : Int} {p : Int × Int} (h : p = (x, y)) : Ending.returned (.tuple #[.int .u8 x, .int .i64 y]) = .returned (.tuple #[.int .u8 p.1, .int .i64 p.2]) := by rw [h]
def tailC (op a : Int) : Int × Int :=
  if op = 7 ∨ op = 8 then (2, 0)
  else if (op = 3 ∨ op = 5 ∨ op = 6) ∧ a = 2 then (a, 0)
  else if 9 ≤ op ∧ op ≤ 12 ∧ ¬ a = 2 then (2, 0)
  else if ((op = 4 ∨ 13 ≤ op) ∧ a = 1) ∨ (op = 13 ∧ a = 3) then (a, 0)
  else (0, 90)
theorem typeC_head (op : Int) {acc : List Int} {a : Int} (h0 : 0 < acc.length) (ha : acc[0] = a) : typeC op acc = if acc.any (fun k => !(k == a)) then (0, 90) else tailC op a := by
  cases acc with
  | nil => simp at h0
  | cons b r =>
    obtain rfl : b = a := ha
    simp only [List.any_cons, beq_self_eq_true, Bool.not_true, Bool.false_or]
    rfl
section
variable (w : World) (op : Int) (u : Vl) (nm : ByteArray) (ks : List Nd) (vk vv : Value) (l : List Bd)
/-- What a call at a part answers. -/
def KidT (w : World) (ks : List Nd) (vv : Value) (l : List Bd) : Prop := ∀ i (hi : i < ks.length) (vk' : Value) (W : World), Below w.heap.size w W → KidsR W W.heap.size vk' ks[i].kids → HeadW ks[i] → Calls Tryz.prog 60 #[valN ks[i] vk', vv] W fun e w' => e = .returned (.tuple #[.int .u8 (typeN l ks[i]).1, .int .i64 (typeN l ks[i]).2]) ∧ Below W.heap.size W w'
set_option maxHeartbeats 4000000 in
theorem type_node (d1 : (op == 1) = false) (d2 : (op == 2) = false) (hk : KidsR w w.heap.size vk ks) (h1 : 0 < ks.length) (HT : KidT w ks vv l) :
    Calls Tryz.prog 60 #[valO op u nm vk, vv] w fun e w' => e = .returned (.tuple #[.int .u8 (typeK op (typeL l ks)).1, .int .i64 (typeK op (typeL l ks)).2]) ∧ Below w.heap.size w w' := by
  obtain ⟨w1, p0, hp0, hw1, l1, b1, hc⟩ := nd_box w op u nm vk
  obtain ⟨c0, c1, c2, c3, c4, c5, c6⟩ := hc w1 (Below.refl _ _)
  have HC := Lib.hid hc
  have hll := hk.len
  obtain ⟨ka, kc, rfl, hat⟩ := kid_at hk
  have HA := Lib.hid hat
  have HK := Lib.hid HT
  have HB := Lib.hid b1
  obtain ⟨r, hr⟩ : ∃ r, typeL l ks = r := ⟨_, rfl⟩
  rw [hr]
  have HS := Lib.hid (show r = typeG [] (typeL l ks) from hr ▸ typeG_start l ks)
  obtain ⟨i0, hti, hz0, hz1, hz2⟩ := info_parts info_u8
  obtain ⟨z, hz⟩ : ∃ z, typeK op r = z := ⟨_, rfl⟩
  rw [hz]
  have HZ := Lib.hid hz
  clear hc hk hat HT b1 hr hz
  go_enter Tryz.func60, Tryz.ntmps60
  go_wp2_with fail
  go_loopg [7, 36] ks.length (fun g s7 s36 wr => ∃ (k : Nat) (acc : List Int), k + g = ks.length ∧ s36 = .int .i64 (k : Int) ∧ acc.length ≤ k ∧ k ≤ acc.length ∧ Hid (r = typeG acc (typeL l (ks.drop k))) ∧ OwnU wr w1.heap.size s7 acc ∧ Below w1.heap.size w1 wr)
  case atStart => exact ⟨0, [], by omega, rfl, Nat.le_refl _, Nat.le_refl _, HS, OwnU.nil _ _, Below.refl _ _⟩
  case round =>
    obtain ⟨k, acc, hkg, rfl, hak, hak2, hI, hO, hB⟩ := hrel
    by_cases hk : k < ks.length
    · obtain ⟨b, o, vk', rfl, hb, hw, hkk, hcc⟩ := HA.out k hk
      have hBw := HB.out.trans (hB.mono HB.out.size)
      obtain ⟨e0, e1, e2, e3, e4, e5, e6⟩ := kid_cells hcc hBw hb
      obtain ⟨w2, p2, hp2, hw2, l2, n2, b2⟩ := box_new wr (objN ks[k].op ks[k].v ks[k].name vk')
      have HG1 := Lib.hid (fun (x e : Int) (he : e ≠ 0) (ht : typeN l ks[k] = (x, e)) => typeG_bad acc hk ht he)
      have HG2 := Lib.hid (fun (x : Int) (ht : typeN l ks[k] = (x, 0)) => typeG_next acc hk ht)
      have hB2 := hB.trans (b2.mono hB.size)
      have hBw2 := HB.out.trans (hB2.mono HB.out.size)
      have HCall := Lib.hid (HK.out k hk vk' w2 hBw2 (hkk.mono hBw2 hBw2.size) hw)
      obtain ⟨ak, ck, rfl⟩ := hkk.val
      obtain ⟨x, hx⟩ : ∃ x, ks[k] = x := ⟨_, rfl⟩
      have HL := Lib.hid (show x.kids.length = ks[k].kids.length by rw [hx])
      obtain ⟨nk, hnk⟩ : ∃ nk, ks[k].kids.length = nk := ⟨_, rfl⟩
      rw [hnk] at e6 hw2 n2 HCall
      rw [hx] at e0 e1 e2 e3 e4 e5 hw2 n2 HCall HG1 HG2
      have hw2' : wr.alloc (.cells #[.int .u8 x.op, .int .u8 x.v.kind, .int .i64 x.v.num, .bool x.v.tr, .string x.v.text, .string x.name, .slice ak nk ck] 29) = w2 := hw2
      obtain ⟨f0, f1, f2, f3, f4, f5, f6⟩ := n_cells n2
      obtain ⟨tt, htt⟩ : ∃ tt, typeN l x = tt := ⟨_, rfl⟩
      rw [htt] at HCall HG1 HG2
      obtain ⟨tk, te⟩ := tt
      have HO := Lib.hid (hO.kept b2 (Nat.le_refl _))
      have HB2 := Lib.hid hB2
      have k1 : (0 : Int) ≤ (k : Int) := by omega
      have k2 : (k : Int) < (ks.length : Int) := by omega
      clear hx hnk HL htt hw2 n2 b2 hB2 hBw2 hkk hcc hw hBw hB
      go_wp2_with (go_at_call 60; refine HCall.out.mono ?_; rintro e w3 ⟨rfl, hb3⟩; refine Hid.out ?_)
      refine Lib.hid ?_
      have HB3 := Lib.hid (HB2.out.trans (hb3.mono HB2.out.size))
      have HO3 := Lib.hid (HO.out.kept hb3 (Nat.le_refl _))
      have hz3 := HB3.out.size
      have hza := HB2.out.size
      obtain ⟨au, cu, rfl⟩ := HO.out.shape
      clear hb3 HO HCall
      by_cases hte : te = 0
      · subst hte
        have HG := Lib.hid (hI.out.trans (HG2.out tk rfl))
        clear HG1 HG2
        have hal : acc.length ≤ 1599289640355 := by omega
        go_wp2_with (at_builtin; refine wpList_append_own _ rfl _ _ 32 rfl w1.heap.size 5 i0 (.int .u8 0) 1 1 Tryz.underlying32 hti hz0 hz1 hz2 rfl (by decide) _ acc.length (acc.map (Value.int .u8)) rfl (HO3.out.kept ((Below.refl _ _).alloc (Nat.le_refl _) _) (Nat.le_refl _)) ⟨w3.heap.size, 0, none⟩ 1 1 [.int .u8 tk] rfl rfl (cells_new _ _ _) (by simp [Value.oneCell']) (by unfold maxLen; omega) (by omega) (by simp; omega) ?_; intro v' w4 hown hg4 _)
        go_roundg (gk - 1)
        case measure => omega
        case rel =>
          refine ⟨k + 1, acc ++ [tk], by omega, by go_num, by simp; omega, by simp; omega, HG, by unfold OwnU; simpa using hown, ?_⟩
          exact (HB3.out.alloc (by omega) _).grown hg4 (by simp; omega) (fun j hj => (World.ownsRow.lt HO3.out j hj).1)
      · have dte : (te != 0) = true := by simpa using hte
        have HG := Lib.hid (hI.out.trans (HG1.out tk te hte rfl))
        have HR := Lib.hid (show typeK op r = (0, te) by rw [HG.out]; unfold typeK; rw [if_neg hte])
        clear HG1 HG2 hte
        go_wp2_with fail
        go_ret2
        rw [← HZ.out, HR.out]
        exact ⟨rfl, HB.out.trans (HB3.out.mono HB.out.size)⟩
    · have HR := Lib.hid (hI.out.trans (typeG_end acc l (by omega)))
      have hB' := Lib.hid hB
      have dk : decide (k < ks.length) = false := decide_eq_false hk
      obtain ⟨au, cu, rfl⟩ := hO.shape
      have hcol := hO.col (by omega) (Nat.le_refl _)
      have h0 : 0 < acc.length := by omega
      obtain ⟨b, o, rfl, hb, hc0⟩ := hcol.col 0 h0
      obtain ⟨a, ha⟩ : ∃ a, acc[0] = a := ⟨_, rfl⟩
      rw [ha] at hc0
      rw [Nat.add_zero] at hc0
      obtain ⟨w9, p9, hp9, hw9, l9, n9, b9⟩ := box_new wr (.cells #[.int .u8 a] 5)
      have hB9 := hB.trans (b9.mono hB.size)
      have HN9 := Lib.hid (fun V (h : Below w9.heap.size w9 V) => (show V.cell? ⟨p9, 0, none⟩ = some (.int .u8 a) from (cell_of_block ((h.block p9 l9).trans n9) 0).trans rfl))
      have HCt := Lib.hid (u8Has_any w9 _ acc (hcol.mono b9 b9.size) 93 #[.pointer (some ⟨p9, 0, none⟩)] (fun k => !(k == a)) (enters_of Tryz.func93 (by kernel_rfl) rfl) (fun x W h => type2_any W x a p9 (HN9.out W h)))
      have HTC := Lib.hid (show typeK op r = if acc.any (fun k => !(k == a)) then (0, 90) else tailC op a by rw [HR.out]; unfold typeK; rw [if_pos rfl]; exact typeC_head op h0 ha)
      have H9 := Lib.hid hB9
      have hn0 : (0 : Int) < (acc.length : Int) := by omega
      cases hany : acc.any (fun k => !(k == a)) with
      | true =>
        rw [hany] at HCt HTC
        clear hB n9 b9 hB9 hcol hany ha h0 hO
        go_wp2_with (go_at_call 92; refine HCt.out.mono ?_; rintro e w10 ⟨rfl, hb10⟩; refine Hid.out ?_)
        refine Lib.hid ?_
        have HE := Lib.hid (HB.out.trans ((H9.out.trans (hb10.mono H9.out.size)).mono HB.out.size))
        clear hb10
        go_wp2_with fail
        go_ret2
        rw [← HZ.out, HTC.out]
        exact ⟨rfl, HE.out⟩
      | false =>
        rw [hany] at HCt HTC
        clear hB n9 b9 hB9 hcol hany ha h0 hO
        go_wp2_with (go_at_call 92; refine HCt.out.mono ?_; rintro e w10 ⟨rfl, hb10⟩; refine Hid.out ?_)
        refine Lib.hid ?_
        have HE := Lib.hid (HB.out.trans ((H9.out.trans (hb10.mono H9.out.size)).mono HB.out.size))
        have HT := Lib.hid (show z = tailC op a by rw [← HZ.out, HTC.out]; exact if_neg Bool.false_ne_true)
        obtain ⟨c0, -⟩ := HC.out w10 (H9.out.trans (hb10.mono H9.out.size))
        have g0 := HN9.out w10 hb10
        clear hb10
        have e7 : (op == 7) = decide (op = 7) := rfl
        have e8 : (op == 8) = decide (op = 8) := rfl
        have x2 : (a == 2) = decide (a = 2) := rfl
        have y2 : (a != 2) = !decide (a = 2) := rfl
        have x1 : (a == 1) = decide (a = 1) := rfl
        have x3 : (a == 3) = decide (a = 3) := rfl
        go_wp2_with fail
        clear HC HA HK HN9 HB HS HR HTC HCt H9
        all_goals go_ret2
        all_goals refine ⟨ret_pair (HT.out.trans ?_), (by first | exact HE.out | (rw [← hp0]; exact HE.out))⟩
        all_goals
          unfold tailC
          repeat' split
          all_goals first | rfl | (exfalso; omega) | (apply Prod.ext <;> dsimp only <;> omega) | (exfalso; have z3 := ‹(!decide (a = 2)) = true›; have z2 : ¬ a = 2 := (by simpa using z3); omega) | (exfalso; have z3 := ‹(!decide (a = 2)) = false›; have z2 : a = 2 := (by simpa using z3); omega)
end
end Go.Proofs.YtbephgifbghilaaGreatDoor
/- expr.typeOf is typeN at a node that may be; expr.Type; may. -/
set_option maxRecDepth 100000
namespace Go.Proofs.YtbephgifbghilaaGreatDoor
open Go.RowKit
mutual
theorem type_N (l : List Bd) : ∀ n : Nd, checkN n = true → ∀ (W : World) (vk vv : Value), KidsR W W.heap.size vk n.kids → BdsR W W.heap.size vv l →
    Calls Tryz.prog 60 #[valN n vk, vv] W fun e w' => e = .returned (.tuple #[.int .u8 (typeN l n).1, .int .i64 (typeN l n).2]) ∧ Below W.heap.size W w'
  | .mk op v nm ks, hc, W, vk, vv, hk, hl => by
    have h' : (headB op v nm ks.length && checkL ks) = true := hc
    rw [Bool.and_eq_true] at h'
    obtain ⟨h1, h2⟩ := h'
    obtain ⟨k1, -⟩ := head_facts h1
    have hL := type_L l ks h2
    have et : typeN l (.mk op v nm ks) = if op = 1 then ((v.kind, 0) : Int × Int) else if op = 2 then varT l nm else typeK op (typeL l ks) := rfl
    rw [et]
    by_cases o1 : op = 1
    · subst o1; exact type_lit W v nm vk vv
    rw [if_neg o1]
    by_cases o2 : op = 2
    · subst o2; exact type_var W v nm vk vv l hl
    rw [if_neg o2]
    exact type_node W op v nm ks vk vv l (by simpa using o1) (by simpa using o2) hk (by unfold kidsN at k1; split at k1 <;> (try split at k1) <;> (try split at k1) <;> omega) (fun i hi vk' W' hb hk' _ => hL i hi W' vk' vv hk' (hl.to hb))
theorem type_L (l : List Bd) : ∀ ks : List Nd, checkL ks = true → ∀ i (hi : i < ks.length) (W : World) (vk vv : Value), KidsR W W.heap.size vk ks[i].kids → BdsR W W.heap.size vv l →
    Calls Tryz.prog 60 #[valN ks[i] vk, vv] W fun e w' => e = .returned (.tuple #[.int .u8 (typeN l ks[i]).1, .int .i64 (typeN l ks[i]).2]) ∧ Below W.heap.size W w'
  | [], _, i, hi, _, _, _, _, _ => absurd hi (by simp)
  | a :: r, h, 0, _, W, vk, vv, hk, hl => by
    have h' : (checkN a && checkL r) = true := h
    rw [Bool.and_eq_true] at h'
    exact type_N l a h'.1 W vk vv hk hl
  | a :: r, h, i + 1, hi, W, vk, vv, hk, hl => by
    have h' : (checkN a && checkL r) = true := h
    rw [Bool.and_eq_true] at h'
    exact type_L l r h'.2 i (by simp at hi; omega) W vk vv hk hl
end
def tyE (l : List Bd) (n : Nd) : Int × Int := if checkN n then typeN l n else (0, 1)
set_option maxHeartbeats 1000000 in
theorem typ_any (w : World) (n : Nd) (vk vv : Value) (l : List Bd) (hn : NdR w w.heap.size vk n) (hl : BdsR w w.heap.size vv l) (hT : Tabs8 w) :
    Calls Tryz.prog 28 #[valN n vk, vv] w fun e w' => e = .returned (.tuple #[.int .u8 (tyE l n).1, .int .i64 (tyE l n).2]) ∧ Below w.heap.size w w' := by
  obtain ⟨w1, p0, hp0, hw1, l1, n1, b1⟩ := box_new w (objN n.op n.v n.name vk)
  obtain ⟨c0, c1, c2, c3, c4, c5, c6⟩ := n_cells n1
  have HP := Lib.hid (fun V (h : Below w1.heap.size w1 V) => n_cells ((h.block p0 l1).trans n1))
  have HB := Lib.hid b1
  have KC := Lib.hid (check_N n hn.1 w1 vk (Utf8Tabs_below hT b1) (hn.to b1).2)
  obtain ⟨z, hz⟩ : ∃ z, tyE l n = z := ⟨_, rfl⟩
  rw [hz]
  cases hc : checkN n with
  | false =>
    rw [hc] at KC
    have HZ := Lib.hid (show z = (0, 1) by rw [← hz]; unfold tyE; rw [hc]; rfl)
    clear hz hc n1 b1 hn hl hT
    go_enter Tryz.func28, Tryz.ntmps28
    go_wp2_with (go_at_call 14; refine KC.out.mono ?_; rintro e w3 ⟨rfl, hb3⟩; refine Hid.out ?_)
    refine Lib.hid ?_
    have HE := Lib.hid (HB.out.trans (hb3.mono HB.out.size))
    clear hb3
    go_wp2_with fail
    go_ret2
    exact ⟨ret_pair HZ.out, HE.out⟩
  | true =>
    rw [hc] at KC
    have HK := Lib.hid (fun W (h : Below w1.heap.size w1 W) => type_N l n hc W vk vv ((hn.to b1).to h).2 ((hl.to b1).to h))
    have hz2 : typeN l n = z := by rw [← hz]; unfold tyE; rw [hc]; rfl
    rw [hz2] at HK
    clear hz hc n1 b1 hn hl hT hz2
    go_enter Tryz.func28, Tryz.ntmps28
    go_wp2_with (go_at_call 14; refine KC.out.mono ?_; rintro e w3 ⟨rfl, hb3⟩; refine Hid.out ?_)
    refine Lib.hid ?_
    have HE := Lib.hid (HB.out.trans (hb3.mono HB.out.size))
    have HK3 := Lib.hid (HK.out w3 hb3)
    clear c0 c1 c2 c3 c4 c5 c6
    obtain ⟨c0, c1, c2, c3, c4, c5, c6⟩ := HP.out w3 hb3
    clear hb3
    go_wp2_with (go_at_call 60; refine HK3.out.mono ?_; rintro e w4 ⟨rfl, hb4⟩; refine Hid.out ?_)
    refine Lib.hid ?_
    have HF := Lib.hid (HE.out.trans (hb4.mono HE.out.size))
    clear hb4
    go_wp2_with fail
    go_ret2
    exact ⟨rfl, HF.out⟩
end Go.Proofs.YtbephgifbghilaaGreatDoor
