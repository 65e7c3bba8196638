/- Texts fused by fuse.py: KEvalFind, KStepOwn, KEvalReck, KEvalReck2, KEvalLawQ, KEvalCheck, KEvalNodes. -/
import Derived.Test.YtjcaaahbfkjipaaGreatDoorKZ03
import Derived.Test.YtjcaaahbfkjipaaGreatDoorKZ00
import Derived.Laws.OwnMore
import Derived.Maps.AppendAt
import Derived.Laws.NewBlocks
import Derived.Test.YtjcaaahbfkjipaaGreatDoorKZ01
import Derived.Maps.Own
import Derived.Test.YtjcaaahbfkjipaaGreatDoorKZ02
/- Of EvalFind: what FRuleNames uses (shake.py). -/
set_option maxRecDepth 100000
/- value.Find. -/
namespace Go.Proofs.YtjcaaahbfkjipaaGreatDoor
open Go.RowKit
def idxL {α : Type} (p : α → Bool) : List α → Int → Int
  | [], _ => -1
  | x :: r, k => if p x then k else idxL p r (k + 1)
theorem idxL_drop {α : Type} {p : α → Bool} {l : List α} {k : Nat} (h : k < l.length) : idxL p (l.drop k) (k : Int) = if p l[k] then (k : Int) else idxL p (l.drop (k + 1)) ((k + 1 : Nat) : Int) := by
  rw [List.drop_eq_getElem_cons h]; rfl
theorem idxL_find (s : ByteArray) : ∀ (l : List Bd) (k : Int), (findB l s = none → idxL (fun b => b.name.toList == s.toList) l k = -1) ∧ ∀ v, findB l s = some v → ∃ j : Nat, ∃ hj : j < l.length, idxL (fun b => b.name.toList == s.toList) l k = k + j ∧ l[j].val = v
  | [], _ => ⟨fun _ => rfl, fun v h => by cases h⟩
  | b :: r, k => by
    obtain ⟨i1, i2⟩ := idxL_find s r (k + 1)
    unfold findB idxL
    cases hb : (b.name.toList == s.toList) with
    | true =>
      refine ⟨fun h => ?_, fun v h => ⟨0, by simp, by simp, ?_⟩⟩
      · rw [if_pos rfl] at h; cases h
      · rw [if_pos rfl] at h; injection h
    | false =>
      refine ⟨fun h => ?_, fun v h => ?_⟩
      · rw [if_neg (by simp)] at h
        exact i1 h
      · rw [if_neg (by simp)] at h
        obtain ⟨j, hj, e1, e2⟩ := i2 v h
        refine ⟨j + 1, by simp; omega, ?_, by simpa using e2⟩
        simp only [Bool.false_eq_true, if_false]
        rw [e1]; omega
set_option maxHeartbeats 1000000 in
theorem bindsIdx_any (w : World) (v : Value) (l : List Bd) (h : BdsR w w.heap.size v l) (fid : Nat) (caps : Array Value) (p : Bd → Bool)
    (hrun : ∀ (args : Array Value) (W : World), (callFunc fid args).run Tryz.prog W = .ok (.enter fid args) W)
    (hf : ∀ (x : Bd) (W : World), Below w.heap.size w W → Calls Tryz.prog fid (#[valBd x] ++ caps) W fun e w' => e = .returned (.bool (p x)) ∧ Below W.heap.size W w') :
    Calls Tryz.prog 104 #[v, .func (.func fid) #[] caps] w fun e w' => e = .returned (.int .i64 (idxL p l 0)) ∧ Below w.heap.size w w' := by
  have HR := Lib.hid h
  obtain ⟨a, c, rfl⟩ := h.val
  have HF := Lib.hid hf
  have hll : l.length ≤ 2513169435000 := by obtain ⟨_, _, e, h1, _⟩ := h; exact h1
  clear hf h
  go_enter Tryz.func104, Tryz.ntmps104
  go_wp2_with fail
  go_loopg [8] l.length (fun g s8 wr => ∃ k : Nat, k + g = l.length ∧ s8 = .int .i64 (k : Int) ∧ Hid (idxL p (l.drop k) (k : Int) = idxL p l 0) ∧ Below w.heap.size w wr)
  case atStart => exact ⟨0, by omega, rfl, rfl, Below.refl _ _⟩
  case round =>
    obtain ⟨k, hkg, rfl, hI, hB⟩ := hrel
    by_cases hk : k < l.length
    · obtain ⟨b, o, rfl, hb, -, -, c0, c1, c2, c3, c4⟩ := (HR.out.mono hB (Nat.le_refl _)).at hk
      obtain ⟨x, hx⟩ : ∃ x, l[k] = x := ⟨_, rfl⟩
      rw [hx] at c0 c1 c2 c3 c4
      have hd : Hid (idxL p (l.drop k) (k : Int) = if p x then (k : Int) else idxL p (l.drop (k + 1)) ((k + 1 : Nat) : Int)) := Lib.hid (by rw [idxL_drop hk, hx])
      have hcall := HF.out x wr hB
      have HB := Lib.hid hB
      have dk : decide (k < l.length) = true := decide_eq_true hk
      have k1 : (0 : Int) ≤ (k : Int) := by omega
      have k2 : (k : Int) < (l.length : Int) := by omega
      clear hx hB
      cases hp : p x with
      | true =>
        rw [hp] at hcall
        have Hf : Hid ((k : Int) = idxL p l 0) := by rw [← hI.out, hd.out, hp]; exact rfl
        have HC := Lib.hid hcall
        clear hcall hp
        go_wp2_with fail
        refine HC.out.mono ?_
        rintro e w2 ⟨rfl, hb2⟩
        have HB2 := Lib.hid (HB.out.trans (hb2.mono HB.out.size))
        clear hb2
        go_wp2_with fail
        go_ret
        exact ⟨ret_int Hf.out, HB2.out⟩
      | false =>
        rw [hp] at hcall
        have Hf : Hid (idxL p (l.drop (k + 1)) ((k + 1 : Nat) : Int) = idxL p l 0) := by rw [← hI.out, hd.out, hp]; exact rfl
        have HC := Lib.hid hcall
        clear hcall hp
        go_wp2_with fail
        refine HC.out.mono ?_
        rintro e w2 ⟨rfl, hb2⟩
        have HB2 := Lib.hid (HB.out.trans (hb2.mono HB.out.size))
        clear hb2
        go_wp2_with fail
        go_roundg (gk - 1)
        case measure => omega
        case rel => exact ⟨k + 1, by omega, by go_num, Hf, HB2.out⟩
    · have Hf : Hid (-1 = idxL p l 0) := by rw [← hI.out, List.drop_eq_nil_of_le (by omega)]; exact rfl
      have dk : decide (k < l.length) = false := decide_eq_false hk
      go_wp2_with fail
      go_ret
      exact ⟨ret_int Hf.out, hB⟩
end Go.Proofs.YtjcaaahbfkjipaaGreatDoor

/- Of StepOwn: what FRuleNames uses (shake.py). -/
set_option maxRecDepth 100000
/- append onto a row of the call's own as a step of a region that draws its order; worlds in which all old blocks stand but some. -/
namespace Go.Proofs.YtjcaaahbfkjipaaGreatDoor
open Go.RowKit
/-- append(dst, src...) at a step of a drawn region: dst the call's own, src a literal's block. -/
theorem step_append_own {P : Program} (w : World) {ops : Array Oper} {o : Oper} {a : Act} {K : Act → World → Prop} {Q : Exit → Act → World → Prop} {E : Prop} (hgd : o.guard = none) (s x : Operand) (t : TypeId)
    (ho : o.op = .call { callee := .builtin .append, args := #[s, x], argTypes := #[t, t] })
    (base : Nat) (e : TypeId) (i : TypeInfo) (z : Value) (size bytes : Nat) (ht : P.underlying t = some (.slice e)) (hi : P.info? e = some i) (hz : i.zero = some z)
    (hsize : i.size = size) (hby : i.bytes = bytes) (hzs : z.cells.size = size) (hsz : 0 < size)
    (v : Value) (n : Nat) (xs : List Value) (hs : a.eval s = v) (hown : w.ownsRow base e size v n xs)
    (ad : Addr) (m c : Nat) (news : List Value) (hx : a.eval x = .slice (some ad) m c) (hl : news.length = m * size) (hnews : ∀ j u, news[j]? = some u → w.cell? (ad.add j) = some u) (h1 : ∀ u ∈ news, u.oneCell' = true)
    (h63 : n + m ≤ maxLen) (hbytes : (n + m) * bytes ≤ 140737488355328) (hbase : base ≤ w.heap.size)
    (h : ∀ v' w', w'.ownsRow base e size v' (n + m) (xs ++ news) → w.grownBy w' v.ownBlock → (v'.ownBlock = v.ownBlock ∨ v'.ownBlock = some w.heap.size) → K (a.put o.dst v') w') :
    if Region.wanted o (yielded ops a.tmps) = true then Oper.wp P o a w K Q else E := by
  have hw : Region.wanted o (yielded ops a.tmps) = true := by simp [Region.wanted, hgd]
  rw [if_pos hw]
  obtain ⟨v', w', hr, h2, h3, _, h5⟩ := run_append_own_at (P := P) w base t o.type e i z size bytes ht hi hz hsize hby hzs hsz v n xs hown ad m c news hl hnews h1 h63 hbytes hbase
  unfold Oper.wp execOp
  simp only [ho, resolve, invoke, builtin, Sem.run_bind, Sem.run_pure, Result.andThen_ok, List.map_toArray, List.map_cons, List.map_nil, hs, hx, hr]
  exact h v' w' h2 h3 h5
theorem cells_new (w : World) (cs : Array Value) (T : TypeId) : ∀ j u, cs.toList[j]? = some u → (w.alloc (.cells cs T)).cell? ((⟨w.heap.size, 0, none⟩ : Addr).add j) = some u := by
  intro j u h
  rw [add_addr, Nat.zero_add, cell_of_block (heap_alloc_new _ _)]
  simpa using h
theorem grownBy_setCell (W : World) (b i : Nat) (v : Value) : W.grownBy (W.setCell ⟨b, i, none⟩ v) (some b) :=
  ⟨rfl, rfl, rfl, by simp, fun k _ hk => heap_setCell_other W ⟨b, i, none⟩ k v (fun e => hk (by rw [e]))⟩
theorem heap_setCell_self {w : World} {b i : Nat} {c : Array Value} {t : TypeId} {fr : Nat × Nat} (v : Value) (h : w.heap[b]? = some (.cells c t fr)) : (w.setCell ⟨b, i, none⟩ v).heap[b]? = some (.cells (c.setIfInBounds i v) t fr) := by
  simp [World.setCell, Array.getElem?_modify, h]
theorem type_ne {w : World} {a b : Nat} {c d : Array Value} {s t : TypeId} {f g : Nat × Nat} (ha : w.heap[a]? = some (.cells c s f)) (hb : w.heap[b]? = some (.cells d t g)) (h : s ≠ t) : a ≠ b := by
  intro e
  subst e
  rw [ha] at hb
  exact h (by injection hb with hb; injection hb)
/-- All old blocks stand but some. -/
structure Frm (S : List (Option Nat)) (w w' : World) : Prop where
  os : w'.os = w.os
  tape : w'.tape = w.tape
  output : w'.output = w.output
  size : w.heap.size ≤ w'.heap.size
  keep : ∀ k, k < w.heap.size → (∀ r ∈ S, r ≠ some k) → w'.heap[k]? = w.heap[k]?
theorem Frm.refl (S : List (Option Nat)) (w : World) : Frm S w w := ⟨rfl, rfl, rfl, Nat.le_refl _, fun _ _ _ => rfl⟩
theorem Frm.ofBelow {S : List (Option Nat)} {w w2 : World} (hb : Below w.heap.size w w2) : Frm S w w2 := ⟨hb.os, hb.tape, hb.output, hb.size, fun k hk _ => hb.block k hk⟩
theorem Frm.below {S : List (Option Nat)} {w w1 w2 : World} (h : Frm S w w1) (hb : Below w1.heap.size w1 w2) : Frm S w w2 :=
  ⟨hb.os.trans h.os, hb.tape.trans h.tape, hb.output.trans h.output, Nat.le_trans h.size hb.size, fun k hk hr => (hb.block k (Nat.lt_of_lt_of_le hk h.size)).trans (h.keep k hk hr)⟩
theorem Frm.grown {S : List (Option Nat)} {w w1 w2 : World} {r : Option Nat} (h : Frm S w w1) (hg : w1.grownBy w2 r) (hr : r ∈ S) : Frm S w w2 :=
  ⟨hg.os.trans h.os, hg.tape.trans h.tape, hg.output.trans h.output, Nat.le_trans h.size hg.size, fun k hk hs => (hg.block k (Nat.lt_of_lt_of_le hk h.size) (Ne.symm (hs r hr))).trans (h.keep k hk hs)⟩
theorem Frm.trans {S T : List (Option Nat)} {w w1 w2 : World} (h : Frm S w w1) (k : Frm T w1 w2) (hT : ∀ r ∈ T, r ∈ S ∨ ∃ j, r = some j ∧ w.heap.size ≤ j) : Frm S w w2 :=
  ⟨k.os.trans h.os, k.tape.trans h.tape, k.output.trans h.output, Nat.le_trans h.size k.size, fun j hj hs => (k.keep j (Nat.lt_of_lt_of_le hj h.size) (fun r hr e => by
    rcases hT r hr with h1 | ⟨q, h1, h2⟩
    · exact hs r h1 e
    · rw [h1] at e; injection e with e; omega)).trans (h.keep j hj hs)⟩
theorem Frm.mono {S T : List (Option Nat)} {w w1 : World} (h : Frm S w w1) (hT : ∀ r ∈ S, r ∈ T) : Frm T w w1 :=
  ⟨h.os, h.tape, h.output, h.size, fun k hk hs => h.keep k hk (fun r hr => hs r (hT r hr))⟩
/-- What turns lies from B on. -/
theorem Frm.toBelow {S : List (Option Nat)} {B : Nat} {w w' : World} (h : Frm S w w') (hB : B ≤ w.heap.size) (hS : ∀ r ∈ S, ∀ k, r = some k → B ≤ k) : Below B w w' :=
  ⟨h.os, h.tape, h.output, h.size, fun k hk => h.keep k (by omega) (fun r hr e => by have := hS r hr k e; omega)⟩
theorem Frm.block {S : List (Option Nat)} {w w' : World} (h : Frm S w w') {k : Nat} {o : Obj} (hk : w.heap[k]? = some o) (hs : ∀ r ∈ S, r ≠ some k) : w'.heap[k]? = some o :=
  (h.keep k (lt_of_block hk) hs).trans hk
/-- The block of v' is v's, or a new one. -/
def Fresh (w : World) (v v' : Value) : Prop := v'.ownBlock = v.ownBlock ∨ ∃ k, v'.ownBlock = some k ∧ w.heap.size ≤ k
theorem Fresh.refl (w : World) (v : Value) : Fresh w v v := Or.inl rfl
theorem Fresh.trans {w w1 : World} {v v1 v2 : Value} (h : Fresh w v v1) (k : Fresh w1 v1 v2) (hw : w.heap.size ≤ w1.heap.size) : Fresh w v v2 := by
  rcases k with e | ⟨j, e, hj⟩
  · rcases h with e1 | ⟨i, e1, hi⟩
    · exact Or.inl (e.trans e1)
    · exact Or.inr ⟨i, e.trans e1, hi⟩
  · exact Or.inr ⟨j, e, by omega⟩
end Go.Proofs.YtjcaaahbfkjipaaGreatDoor

/- Of EvalReck: what FRuleNames uses (shake.py). -/
set_option maxRecDepth 100000
/- (*reckoner).eval, way by way. -/
namespace Go.Proofs.YtjcaaahbfkjipaaGreatDoor
open Go.RowKit
abbrev objN (op : Int) (u : Vl) (nm : ByteArray) (vk : Value) : Obj := .cells #[.int .u8 op, .int .u8 u.kind, .int .i64 u.num, .bool u.tr, .string u.text, .string nm, vk] 108
abbrev valO (op : Int) (u : Vl) (nm : ByteArray) (vk : Value) : Value := .agg #[.int .u8 op, .int .u8 u.kind, .int .i64 u.num, .bool u.tr, .string u.text, .string nm, vk]
section
variable {w0 : World} {B0 B1 : Nat} {S : List (Option Nat)} {J : List ByteArray → World → Prop} {rp mb fid : Nat} {caps : Array Value} {vv : Value} {l : List Bd}
end
end Go.Proofs.YtjcaaahbfkjipaaGreatDoor

/- Of EvalReck2: what FRuleNames uses (shake.py). -/
set_option maxRecDepth 100000
/- (*reckoner).eval: one part, two parts. -/
namespace Go.Proofs.YtjcaaahbfkjipaaGreatDoor
open Go.RowKit
/-- A node's first cells at whatever world the reckoner comes to. -/
def KidC (V : World) (b o : Nat) (k : Nd) (vk : Value) : Prop := V.cell? ⟨b, o, none⟩ = some (.int .u8 k.op) ∧ V.cell? ⟨b, o + 1, none⟩ = some (.int .u8 k.v.kind) ∧ V.cell? ⟨b, o + 2, none⟩ = some (.int .i64 k.v.num) ∧ V.cell? ⟨b, o + 3, none⟩ = some (.bool k.v.tr) ∧ V.cell? ⟨b, o + 4, none⟩ = some (.string k.v.text) ∧ V.cell? ⟨b, o + 5, none⟩ = some (.string k.name) ∧ V.cell? ⟨b, o + 6, none⟩ = some vk
theorem kid_cells {w0 V : World} {B0 b o : Nat} {k : Nd} {vk : Value} (h : KidC w0 b o k vk) (hb : Below B0 w0 V) (hl : b < B0) : KidC V b o k vk := by
  obtain ⟨h0, h1, h2, h3, h4, h5, h6⟩ := h
  exact ⟨(Below.cellB hb hl).trans h0, (Below.cellB hb hl).trans h1, (Below.cellB hb hl).trans h2, (Below.cellB hb hl).trans h3, (Below.cellB hb hl).trans h4, (Below.cellB hb hl).trans h5, (Below.cellB hb hl).trans h6⟩
theorem kid_at {w : World} {B : Nat} {v : Value} {l : List Nd} (h : KidsR w B v l) : ∃ a cap, v = .slice a l.length cap ∧ ∀ i (hi : i < l.length), ∃ b o vk, a = some ⟨b, o, none⟩ ∧ b < B ∧ HeadW l[i] ∧ KidsR w B vk l[i].kids ∧ KidC w b (o + i * 7) l[i] vk := by
  obtain ⟨a, cap, rfl⟩ := h.val
  refine ⟨a, cap, rfl, fun i hi => ?_⟩
  obtain ⟨b, o, vk, ha, hb, hw, hk, c⟩ := h.at hi
  exact ⟨b, o, vk, ha, hb, hw, hk, c⟩
section
variable {w0 : World} {B0 B1 : Nat} {S : List (Option Nat)} {J : List ByteArray → World → Prop} {rp mb fid : Nat} {caps : Array Value} {vv : Value} {l : List Bd}
end
end Go.Proofs.YtjcaaahbfkjipaaGreatDoor

/- Of EvalLawQ: what FRuleNames uses (shake.py). -/
set_option maxRecDepth 100000
/- The statements EvalLaws and EvalParts on plain data. -/
namespace Go.Proofs.YtjcaaahbfkjipaaGreatDoor
section
variable {l : List Bd} {a b : Nd}
/-- The names that stand for what the parts come to. -/
def q1 : ByteArray := ⟨#[113, 49]⟩
def q2 : ByteArray := ⟨#[113, 50]⟩
end
end Go.Proofs.YtjcaaahbfkjipaaGreatDoor

/- Of EvalCheck: what FRuleNames uses (shake.py). -/
set_option maxRecDepth 100000
/- expr.Check. -/
namespace Go.Proofs.YtjcaaahbfkjipaaGreatDoor
open Go.RowKit
theorem kids_any (w : World) (op : Int) : Calls Tryz.prog 152 #[.int .u8 op] w fun e w' => e = .returned (.int .i64 (kidsN op)) ∧ w = w' := by
  by_cases h1 : op < 1
  · have d1 : decide (op < 1) = true := decide_eq_true h1
    rw [show kidsN op = -1 by unfold kidsN; rw [if_pos (Or.inl h1)]]
    go_enter Tryz.func152, Tryz.ntmps152
    go_wp2_with fail
    go_ret
    exact ⟨rfl, rfl⟩
  · have d1 : decide (op < 1) = false := decide_eq_false h1
    by_cases h2 : 17 < op
    · have d2 : decide (17 < op) = true := decide_eq_true h2
      rw [show kidsN op = -1 by unfold kidsN; rw [if_pos (Or.inr h2)]]
      go_enter Tryz.func152, Tryz.ntmps152
      go_wp2_with fail
      go_ret
      exact ⟨rfl, rfl⟩
    · have d2 : decide (17 < op) = false := decide_eq_false h2
      have h12 : ¬ (op < 1 ∨ 17 < op) := by omega
      by_cases h3 : op ≤ 2
      · have d3 : decide (op ≤ 2) = true := decide_eq_true h3
        rw [show kidsN op = 0 by unfold kidsN; rw [if_neg h12, if_pos h3]]
        clear h12
        go_enter Tryz.func152, Tryz.ntmps152
        go_wp2_with fail
        go_ret
        exact ⟨rfl, rfl⟩
      · have d3 : decide (op ≤ 2) = false := decide_eq_false h3
        by_cases h4 : op ≤ 4
        · have d4 : decide (op ≤ 4) = true := decide_eq_true h4
          rw [show kidsN op = 1 by unfold kidsN; rw [if_neg h12, if_neg h3, if_pos h4]]
          clear h12
          go_enter Tryz.func152, Tryz.ntmps152
          go_wp2_with fail
          go_ret
          exact ⟨rfl, rfl⟩
        · have d4 : decide (op ≤ 4) = false := decide_eq_false h4
          rw [show kidsN op = 2 by unfold kidsN; rw [if_neg h12, if_neg h3, if_neg h4]]
          clear h12
          go_enter Tryz.func152, Tryz.ntmps152
          go_wp2_with fail
          go_ret
          exact ⟨rfl, rfl⟩
def keyZ : List ByteArray := [⟨#[97, 110, 100]⟩, ⟨#[111, 114]⟩, ⟨#[110, 111, 116]⟩, ⟨#[116, 114, 117, 101]⟩, ⟨#[102, 97, 108, 115, 101]⟩]
theorem keyZ_is (s : ByteArray) : Lib.containsS keyZ s = keyWord s := by
  rw [Bool.eq_iff_iff, Lib.containsS_iff]
  unfold keyWord
  rw [List.contains_iff_mem]
  have hb : ∀ (a : ByteArray) (b : Array UInt8), a = ⟨b⟩ ↔ a.data.toList = b.toList := fun a b => ⟨fun h => by rw [h], fun h => by cases a; exact congrArg ByteArray.mk (Array.ext' h)⟩
  simp only [keyZ, keyL, List.mem_cons, List.not_mem_nil, or_false, hb]
theorem keyword_any (w : World) (s : ByteArray) : Calls Tryz.prog 153 #[.string s] w fun e w' => e = .returned (.bool (keyWord s)) ∧ Below w.heap.size w w' := by
  obtain ⟨w1, p0, hp0, hw1, l1, n1, b1⟩ := box_new w (.cells #[.string ⟨#[97, 110, 100]⟩, .string ⟨#[111, 114]⟩, .string ⟨#[110, 111, 116]⟩, .string ⟨#[116, 114, 117, 101]⟩, .string ⟨#[102, 97, 108, 115, 101]⟩] 9)
  have hc := Tryz.slices_Contains_string p0 0 5 5 keyZ s w1 (by decide) (by decide) (by
    intro j hj
    rw [cell_of_block n1, Nat.zero_add]
    have : j = 0 ∨ j = 1 ∨ j = 2 ∨ j = 3 ∨ j = 4 := by simp [keyZ] at hj; omega
    rcases this with rfl | rfl | rfl | rfl | rfl <;> rfl)
  rw [show keyZ.take 5 = keyZ from rfl, keyZ_is] at hc
  have HC := Lib.hid hc
  have HB := Lib.hid b1
  obtain ⟨r, hr⟩ : ∃ r, keyWord s = r := ⟨_, rfl⟩
  rw [hr] at HC ⊢
  clear hc b1 n1 hr
  go_enter Tryz.func153, Tryz.ntmps153
  go_wp2_with (go_at_call 86; refine HC.out.mono ?_; rintro e w2 ⟨rfl, rfl⟩; refine Hid.out ?_)
  refine Lib.hid ?_
  go_wp2_with fail
  go_ret
  exact ⟨rfl, by first | exact HB.out | (rw [hp0]; exact HB.out)⟩
end Go.Proofs.YtjcaaahbfkjipaaGreatDoor

/- Of EvalNodes: what FRuleNames uses (shake.py). -/
set_option maxRecDepth 100000
/- slices.IndexFunc and slices.ContainsFunc over nodes. -/
namespace Go.Proofs.YtjcaaahbfkjipaaGreatDoor
open Go.RowKit
set_option maxHeartbeats 1000000 in
theorem nodesIdx_any (w : World) (v : Value) (l : List Nd) (h : KidsR w w.heap.size v l) (fid : Nat) (caps : Array Value) (p : Nd → Bool)
    (hrun : ∀ (args : Array Value) (W : World), (callFunc fid args).run Tryz.prog W = .ok (.enter fid args) W)
    (hf : ∀ i (hi : i < l.length) (vk : Value) (W : World), Below w.heap.size w W → KidsR W w.heap.size vk l[i].kids → HeadW l[i] → Calls Tryz.prog fid (#[valN l[i] vk] ++ caps) W fun e w' => e = .returned (.bool (p l[i])) ∧ Below W.heap.size W w') :
    Calls Tryz.prog 170 #[v, .func (.func fid) #[] caps] w fun e w' => e = .returned (.int .i64 (idxL p l 0)) ∧ Below w.heap.size w w' := by
  have hll := h.len
  obtain ⟨a, c, rfl, hat⟩ := kid_at h
  have HA := Lib.hid hat
  have HF := Lib.hid hf
  clear hf h hat
  go_enter Tryz.func170, Tryz.ntmps170
  go_wp2_with fail
  go_loopg [8] l.length (fun g s8 wr => ∃ k : Nat, k + g = l.length ∧ s8 = .int .i64 (k : Int) ∧ Hid (idxL p (l.drop k) (k : Int) = idxL p l 0) ∧ Below w.heap.size w wr)
  case atStart => exact ⟨0, by omega, rfl, rfl, Below.refl _ _⟩
  case round =>
    obtain ⟨k, hkg, rfl, hI, hB⟩ := hrel
    by_cases hk : k < l.length
    · obtain ⟨b, o, vk, rfl, hb, hw, hkk, hc⟩ := HA.out k hk
      have hcall := HF.out k hk vk wr hB (hkk.mono hB (Nat.le_refl _)) hw
      obtain ⟨c0, c1, c2, c3, c4, c5, c6⟩ := kid_cells hc hB hb
      obtain ⟨x, hx⟩ : ∃ x, l[k] = x := ⟨_, rfl⟩
      rw [hx] at c0 c1 c2 c3 c4 c5 hcall
      have hd : Hid (idxL p (l.drop k) (k : Int) = if p x then (k : Int) else idxL p (l.drop (k + 1)) ((k + 1 : Nat) : Int)) := Lib.hid (by rw [idxL_drop hk, hx])
      have HB := Lib.hid hB
      have dk : decide (k < l.length) = true := decide_eq_true hk
      have k1 : (0 : Int) ≤ (k : Int) := by omega
      have k2 : (k : Int) < (l.length : Int) := by omega
      clear hx hB hc hkk hw
      cases hp : p x with
      | true =>
        rw [hp] at hcall
        have Hf : Hid ((k : Int) = idxL p l 0) := by rw [← hI.out, hd.out, hp]; exact rfl
        have HC := Lib.hid hcall
        clear hcall hp
        go_wp2_with fail
        refine HC.out.mono ?_
        rintro e w2 ⟨rfl, hb2⟩
        have HB2 := Lib.hid (HB.out.trans (hb2.mono HB.out.size))
        clear hb2
        go_wp2_with fail
        go_ret
        exact ⟨ret_int Hf.out, HB2.out⟩
      | false =>
        rw [hp] at hcall
        have Hf : Hid (idxL p (l.drop (k + 1)) ((k + 1 : Nat) : Int) = idxL p l 0) := by rw [← hI.out, hd.out, hp]; exact rfl
        have HC := Lib.hid hcall
        clear hcall hp
        go_wp2_with fail
        refine HC.out.mono ?_
        rintro e w2 ⟨rfl, hb2⟩
        have HB2 := Lib.hid (HB.out.trans (hb2.mono HB.out.size))
        clear hb2
        go_wp2_with fail
        go_roundg (gk - 1)
        case measure => omega
        case rel => exact ⟨k + 1, by omega, by go_num, Hf, HB2.out⟩
    · have Hf : Hid (-1 = idxL p l 0) := by rw [← hI.out, List.drop_eq_nil_of_le (by omega)]; exact rfl
      have dk : decide (k < l.length) = false := decide_eq_false hk
      go_wp2_with fail
      go_ret
      exact ⟨ret_int Hf.out, hB⟩
theorem idxL_any {α : Type} (p : α → Bool) : ∀ (l : List α) (k : Int), 0 ≤ k → decide (0 ≤ idxL p l k) = l.any p
  | [], k, _ => by simp [idxL]
  | x :: r, k, hk => by
    unfold idxL
    cases hp : p x with
    | true => simp [hp, hk]
    | false => simpa [hp] using idxL_any p r (k + 1) (by omega)
theorem nodesHas_any (w : World) (v : Value) (l : List Nd) (h : KidsR w w.heap.size v l) (fid : Nat) (caps : Array Value) (p : Nd → Bool)
    (hrun : ∀ (args : Array Value) (W : World), (callFunc fid args).run Tryz.prog W = .ok (.enter fid args) W)
    (hf : ∀ i (hi : i < l.length) (vk : Value) (W : World), Below w.heap.size w W → KidsR W w.heap.size vk l[i].kids → HeadW l[i] → Calls Tryz.prog fid (#[valN l[i] vk] ++ caps) W fun e w' => e = .returned (.bool (p l[i])) ∧ Below W.heap.size W w') :
    Calls Tryz.prog 154 #[v, .func (.func fid) #[] caps] w fun e w' => e = .returned (.bool (l.any p)) ∧ Below w.heap.size w w' := by
  have S1 := Lib.hid (nodesIdx_any w v l h fid caps p hrun hf)
  have HI := Lib.hid (idxL_any p l 0 (by omega))
  obtain ⟨r, hr⟩ : ∃ r, l.any p = r := ⟨_, rfl⟩
  obtain ⟨j, hj⟩ : ∃ j, idxL p l 0 = j := ⟨_, rfl⟩
  rw [hr, hj] at HI
  rw [hj] at S1
  rw [hr]
  have dj := HI.out
  obtain ⟨a, c, rfl⟩ := h.val
  clear hr hj hf h
  go_enter Tryz.func154, Tryz.ntmps154
  go_wp2_with (go_at_call 170; refine S1.out.mono ?_; rintro e w2 ⟨rfl, hb2⟩; refine Hid.out ?_)
  refine Lib.hid ?_
  have HB := Lib.hid hb2
  clear hb2
  go_wp2_with fail
  go_ret
  exact ⟨rfl, HB.out⟩
end Go.Proofs.YtjcaaahbfkjipaaGreatDoor
