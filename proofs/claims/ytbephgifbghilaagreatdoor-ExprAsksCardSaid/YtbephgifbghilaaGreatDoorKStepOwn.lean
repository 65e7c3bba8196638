/- Of StepOwn: what XFAs uses (shake.py). -/
import Derived.Test.YtbephgifbghilaaGreatDoorKAppCol
import Derived.Laws.OwnMore
import Derived.Maps.AppendAt
import Derived.Laws.NewBlocks
/- append onto a row of the call's own as a step of a region that draws its order; worlds in which all old blocks stand but some. -/
set_option maxRecDepth 100000
namespace Go.Proofs.YtbephgifbghilaaGreatDoor
open Go.RowKit
/-- append(dst, src...) at a step of a drawn region: dst the call's own, src a literal's block. -/
theorem step_append_own {P : Program} (w : World) {ops : Array Oper} {o : Oper} {a : Act} {K : Act → World → Prop} {Q : Exit → Act → World → Prop} {E : Prop} (hgd : o.guard = none) (s x : Operand) (t : TypeId)
    (ho : o.op = .call { callee := .builtin .append, args := #[s, x], argTypes := #[t, t] })
    (base : Nat) (e : TypeId) (i : TypeInfo) (z : Value) (size bytes : Nat) (ht : P.underlying t = some (.slice e)) (hi : P.info? e = some i) (hz : i.zero = some z)
    (hsize : i.size = size) (hby : i.bytes = bytes) (hzs : z.cells.size = size) (hsz : 0 < size)
    (v : Value) (n : Nat) (xs : List Value) (hs : a.eval s = v) (hown : w.ownsRow base e size v n xs)
    (ad : Addr) (m c : Nat) (news : List Value) (hx : a.eval x = .slice (some ad) m c) (hl : news.length = m * size) (hnews : ∀ j u, news[j]? = some u → w.cell? (ad.add j) = some u) (h1 : ∀ u ∈ news, u.oneCell' = true)
    (h63 : n + m ≤ maxLen) (hbytes : (n + m) * bytes ≤ 140737488355328) (hbase : base ≤ w.heap.size)
    (h : ∀ v' w', w'.ownsRow base e size v' (n + m) (xs ++ news) → w.grownBy w' v.ownBlock → (v'.ownBlock = v.ownBlock ∨ v'.ownBlock = some w.heap.size) → K (a.put o.dst v') w') :
    if Region.wanted o (yielded ops a.tmps) = true then Oper.wp P o a w K Q else E := by
  have hw : Region.wanted o (yielded ops a.tmps) = true := by simp [Region.wanted, hgd]
  rw [if_pos hw]
  obtain ⟨v', w', hr, h2, h3, _, h5⟩ := run_append_own_at (P := P) w base t o.type e i z size bytes ht hi hz hsize hby hzs hsz v n xs hown ad m c news hl hnews h1 h63 hbytes hbase
  unfold Oper.wp execOp
  simp only [ho, resolve, invoke, builtin, Sem.run_bind, Sem.run_pure, Result.andThen_ok, List.map_toArray, List.map_cons, List.map_nil, hs, hx, hr]
  exact h v' w' h2 h3 h5
theorem cells_new (w : World) (cs : Array Value) (T : TypeId) : ∀ j u, cs.toList[j]? = some u → (w.alloc (.cells cs T)).cell? ((⟨w.heap.size, 0, none⟩ : Addr).add j) = some u := by
  intro j u h
  rw [add_addr, Nat.zero_add, cell_of_block (heap_alloc_new _ _)]
  simpa using h
theorem grownBy_setCell (W : World) (b i : Nat) (v : Value) : W.grownBy (W.setCell ⟨b, i, none⟩ v) (some b) :=
  ⟨rfl, rfl, rfl, by simp, fun k _ hk => heap_setCell_other W ⟨b, i, none⟩ k v (fun e => hk (by rw [e]))⟩
theorem heap_setCell_self {w : World} {b i : Nat} {c : Array Value} {t : TypeId} {fr : Nat × Nat} (v : Value) (h : w.heap[b]? = some (.cells c t fr)) : (w.setCell ⟨b, i, none⟩ v).heap[b]? = some (.cells (c.setIfInBounds i v) t fr) := by
  simp [World.setCell, Array.getElem?_modify, h]
theorem type_ne {w : World} {a b : Nat} {c d : Array Value} {s t : TypeId} {f g : Nat × Nat} (ha : w.heap[a]? = some (.cells c s f)) (hb : w.heap[b]? = some (.cells d t g)) (h : s ≠ t) : a ≠ b := by
  intro e
  subst e
  rw [ha] at hb
  exact h (by injection hb with hb; injection hb)
/-- All old blocks stand but some. -/
structure Frm (S : List (Option Nat)) (w w' : World) : Prop where
  os : w'.os = w.os
  tape : w'.tape = w.tape
  output : w'.output = w.output
  size : w.heap.size ≤ w'.heap.size
  keep : ∀ k, k < w.heap.size → (∀ r ∈ S, r ≠ some k) → w'.heap[k]? = w.heap[k]?
theorem Frm.refl (S : List (Option Nat)) (w : World) : Frm S w w := ⟨rfl, rfl, rfl, Nat.le_refl _, fun _ _ _ => rfl⟩
theorem Frm.ofBelow {S : List (Option Nat)} {w w2 : World} (hb : Below w.heap.size w w2) : Frm S w w2 := ⟨hb.os, hb.tape, hb.output, hb.size, fun k hk _ => hb.block k hk⟩
theorem Frm.below {S : List (Option Nat)} {w w1 w2 : World} (h : Frm S w w1) (hb : Below w1.heap.size w1 w2) : Frm S w w2 :=
  ⟨hb.os.trans h.os, hb.tape.trans h.tape, hb.output.trans h.output, Nat.le_trans h.size hb.size, fun k hk hr => (hb.block k (Nat.lt_of_lt_of_le hk h.size)).trans (h.keep k hk hr)⟩
theorem Frm.grown {S : List (Option Nat)} {w w1 w2 : World} {r : Option Nat} (h : Frm S w w1) (hg : w1.grownBy w2 r) (hr : r ∈ S) : Frm S w w2 :=
  ⟨hg.os.trans h.os, hg.tape.trans h.tape, hg.output.trans h.output, Nat.le_trans h.size hg.size, fun k hk hs => (hg.block k (Nat.lt_of_lt_of_le hk h.size) (Ne.symm (hs r hr))).trans (h.keep k hk hs)⟩
theorem Frm.trans {S T : List (Option Nat)} {w w1 w2 : World} (h : Frm S w w1) (k : Frm T w1 w2) (hT : ∀ r ∈ T, r ∈ S ∨ ∃ j, r = some j ∧ w.heap.size ≤ j) : Frm S w w2 :=
  ⟨k.os.trans h.os, k.tape.trans h.tape, k.output.trans h.output, Nat.le_trans h.size k.size, fun j hj hs => (k.keep j (Nat.lt_of_lt_of_le hj h.size) (fun r hr e => by
    rcases hT r hr with h1 | ⟨q, h1, h2⟩
    · exact hs r h1 e
    · rw [h1] at e; injection e with e; omega)).trans (h.keep j hj hs)⟩
theorem Frm.mono {S T : List (Option Nat)} {w w1 : World} (h : Frm S w w1) (hT : ∀ r ∈ S, r ∈ T) : Frm T w w1 :=
  ⟨h.os, h.tape, h.output, h.size, fun k hk hs => h.keep k hk (fun r hr => hs r (hT r hr))⟩
/-- What turns lies from B on. -/
theorem Frm.toBelow {S : List (Option Nat)} {B : Nat} {w w' : World} (h : Frm S w w') (hB : B ≤ w.heap.size) (hS : ∀ r ∈ S, ∀ k, r = some k → B ≤ k) : Below B w w' :=
  ⟨h.os, h.tape, h.output, h.size, fun k hk => h.keep k (by omega) (fun r hr e => by have := hS r hr k e; omega)⟩
theorem Frm.block {S : List (Option Nat)} {w w' : World} (h : Frm S w w') {k : Nat} {o : Obj} (hk : w.heap[k]? = some o) (hs : ∀ r ∈ S, r ≠ some k) : w'.heap[k]? = some o :=
  (h.keep k (lt_of_block hk) hs).trans hk
/-- The block of v' is v's, or a new one. -/
def Fresh (w : World) (v v' : Value) : Prop := v'.ownBlock = v.ownBlock ∨ ∃ k, v'.ownBlock = some k ∧ w.heap.size ≤ k
theorem Fresh.refl (w : World) (v : Value) : Fresh w v v := Or.inl rfl
theorem Fresh.trans {w w1 : World} {v v1 v2 : Value} (h : Fresh w v v1) (k : Fresh w1 v1 v2) (hw : w.heap.size ≤ w1.heap.size) : Fresh w v v2 := by
  rcases k with e | ⟨j, e, hj⟩
  · rcases h with e1 | ⟨i, e1, hi⟩
    · exact Or.inl (e.trans e1)
    · exact Or.inr ⟨i, e.trans e1, hi⟩
  · exact Or.inr ⟨j, e, by omega⟩
end Go.Proofs.YtbephgifbghilaaGreatDoor
