/- Of XNam: what XFAs uses (shake.py). -/
import Derived.Test.YtbephgifbghilaaGreatDoorKEvalDeepP
import Derived.Test.YtbephgifbghilaaGreatDoorKStepOwn
import Derived.Test.YtbephgifbghilaaGreatDoorKShelfI
import Derived.Test.YtbephgifbghilaaGreatDoorKXTyp
import Derived.Maps.OwnOps
import Derived.Maps.OwnSet
import Derived.Maps.Views
import Derived.Sort.KeysCollected
import Derived.CallsIn
import Derived.Sort.OwnSorted
import Derived.Maps.AppendAt
import Derived.Lib.OwnBridge
import Derived.Laws.EntriesVeiled
import Derived.Lib.SlicesCompact
/- Texts fused by fuse.py: EvalReadP, EvalSeen, EvalIter, EvalReads, EvalNam, EvalNam2. -/
/- The statement EvalRead on plain data: what a node comes to hangs on what is read alone. -/
set_option maxRecDepth 100000
namespace Go.Proofs.YtbephgifbghilaaGreatDoor
mutual
/-- A node's variables, in their order. -/
def namN : Nd → List ByteArray
  | .mk op _ nm ks => (if op = 2 then [nm] else []) ++ namL ks
def namL : List Nd → List ByteArray
  | [] => []
  | k :: r => namN k ++ namL r
end
end Go.Proofs.YtbephgifbghilaaGreatDoor
/- The names that are read, in a map of the call's own. -/
set_option maxRecDepth 100000
namespace Go.Proofs.YtbephgifbghilaaGreatDoor
open Go.RowKit Go.Maps
theorem nodup_len {α : Type} [DecidableEq α] : ∀ (A B : List α), A.Nodup → (∀ x ∈ A, x ∈ B) → A.length ≤ B.length
  | [], _, _, _ => Nat.zero_le _
  | a :: r, B, h, hs => by
    rw [List.nodup_cons] at h
    have ha := hs a List.mem_cons_self
    have := nodup_len r (B.erase a) h.2 (fun x hx => by
      have hxa : x ≠ a := fun e => h.1 (e ▸ hx)
      exact (List.mem_erase_of_ne hxa).2 (hs x (List.mem_cons_of_mem _ hx)))
    rw [List.length_erase_of_mem ha] at this
    have h0 : 0 < B.length := List.length_pos_of_mem ha
    simp only [List.length_cons]
    omega
def nmB (s : ByteArray) : List UInt8 := s.data.toList
/-- The map at block b has just the names in S, each a name of l. -/
structure SeenS (l : List Bd) (w : World) (b : Nat) (S : List ByteArray) (D : DataW Unit) : Prop where
  own : w.ownsMap Tryz.prog 9 (plainElem Tryz.prog 4) b (Maps.size D) D
  map : IsMap D
  has : ∀ x : List UInt8, has D (.string x) = true ↔ ∃ s ∈ S, nmB s = x
  names : ∀ s ∈ S, ∃ v, findB l s = some v
theorem found_name {l : List Bd} {s : ByteArray} {v : Vl} (h : findB l s = some v) : nmB s ∈ l.map (fun b => nmB b.name) := by
  induction l with
  | nil => cases h
  | cons b r ih =>
    unfold findB at h
    split at h
    · rename_i e
      simp only [beq_iff_eq] at e
      have := bytes_eq e
      simp [this]
    · exact List.mem_cons_of_mem _ (ih h)
section
variable {l : List Bd} {w w' : World} {b : Nat} {S : List ByteArray} {D : DataW Unit}
theorem SeenS.lt (h : SeenS l w b S D) : b < w.heap.size := h.own.lt
theorem SeenS.made (l : List Bd) (w : World) : SeenS l (w.alloc (.map #[] 0)) w.heap.size [] (.map []) :=
  ⟨World.ownsMap_made _ _ _ _, ⟨[], rfl⟩, fun x => by simp [Go.Maps.has], by simp⟩
theorem SeenS.nodup (h : SeenS l w b S D) : (strKeys D).Nodup := by
  obtain ⟨es, hD, hp⟩ := h.own.tidy (string_keyed Tryz.underlying9)
  obtain ⟨es', hD', hko⟩ := h.own.keysOf
  obtain rfl : es = es' := by rw [hD] at hD'; simpa using hD'
  rw [hD]
  show (es.map fun p => strOf p.1).Nodup
  refine List.pairwise_map.2 (hp.imp_of_mem fun {p q} hp' hq' hne e => hne ?_)
  obtain ⟨v, hv⟩ := hko p hp'
  obtain ⟨x, _, hx, _⟩ := Maps.keyOf_str Tryz.underlying9 hv
  obtain ⟨v2, hv2⟩ := hko q hq'
  obtain ⟨y, _, hy, _⟩ := Maps.keyOf_str Tryz.underlying9 hv2
  rw [hx, hy] at e ⊢
  exact congrArg _ e
theorem SeenS.small (h : SeenS l w b S D) : Maps.size D ≤ l.length := by
  have hnd := h.nodup
  obtain ⟨es, hD, hko⟩ := h.own.keysOf
  have hs : Maps.size D = (strKeys D).length := by rw [hD]; simp [Maps.size, strKeys]
  have hm : ∀ x ∈ strKeys D, x ∈ l.map (fun b => nmB b.name) := fun x hx => by
    rw [hD] at hx
    obtain ⟨p, hp', rfl⟩ := List.mem_map.1 hx
    obtain ⟨v, hv⟩ := hko p hp'
    obtain ⟨y, _, hy, _⟩ := Maps.keyOf_str Tryz.underlying9 hv
    have hh : Go.Maps.has D (.string y) = true := by
      rw [hD]
      show es.any (fun q => q.1.sameKey (.string y)) = true
      exact List.any_eq_true.2 ⟨p, hp', by rw [hy]; simp [Lit.sameKey]⟩
    obtain ⟨s, hs, e⟩ := (h.has y).1 hh
    obtain ⟨v, hv⟩ := h.names s hs
    rw [hy]
    show y ∈ _
    rw [← e]
    exact found_name hv
  rw [hs]
  have := nodup_len _ _ hnd hm
  simpa using this
theorem SeenS.put (h : SeenS l w b S D) (s : ByteArray) (hs : s.size ≤ 140737488355328) (hf : ∃ v, findB l s = some v) (hl : l.length ≤ 2513169435000) :
    ∃ w' D', (Instr.mapUpdate 99 (.map (some b)) (.string s) (.bool true)).run Tryz.prog w = .ok () w' ∧ SeenS l w' b (S ++ [s]) D' ∧ w.grownBy w' (some b) := by
  have hsm := h.small
  have hsz : s.size ≤ maxLen := by unfold maxLen; omega
  obtain ⟨w', hrun, h4, h5⟩ := h.own.update (string_keyed Tryz.underlying9) Tryz.underlying99 (show Maps.size D < maxLen by unfold maxLen; omega) (Go.WideMaps.keyOf_string_mk Tryz.underlying9 hsz) (plainElem_bool Tryz.underlying4 true)
  refine ⟨w', D.put (.string s.data.toList) (.lit (.bool true)), hrun, ⟨?_, h.map.put _ _, fun x => ?_, fun t ht => ?_⟩, h5⟩
  · obtain ⟨es, ck, hb, F, _, hD⟩ := h4
    exact ⟨es, ck, hb, F, by rw [hD]; simp [Maps.size, length_sorted], hD⟩
  · by_cases e : x = nmB s
    · subst e
      rw [show (Lit.string (nmB s)) = .string s.data.toList from rfl, has_put_same h.map (by trivial)]
      simp
    · rw [has_put_other (by intro h; injection h with h; exact e h), h.has x]
      constructor
      · rintro ⟨t, ht, e2⟩
        exact ⟨t, by simp [ht], e2⟩
      · rintro ⟨t, ht, e2⟩
        rcases List.mem_append.1 ht with ht | ht
        · exact ⟨t, ht, e2⟩
        · rw [List.mem_singleton.1 ht] at e2; exact absurd e2.symm e
  · rcases List.mem_append.1 ht with ht | ht
    · exact h.names t ht
    · rw [List.mem_singleton.1 ht]; exact hf
end
end Go.Proofs.YtbephgifbghilaaGreatDoor
/- slices.Sorted(maps.Keys(m)) at a map of strings to truths: the shelf's contracts. -/
set_option maxRecDepth 100000
namespace Go.Proofs.YtbephgifbghilaaGreatDoor
open Go.RowKit Go.Maps Go.Sort Go.Shelf
/-- Names in a rising row, none twice. -/
def Rises (l : List (List UInt8)) : Prop := l.Pairwise (fun x y => x < y)
end Go.Proofs.YtbephgifbghilaaGreatDoor
/- eval.Reads. -/
set_option maxRecDepth 100000
namespace Go.Proofs.YtbephgifbghilaaGreatDoor
open Go.RowKit Go.Maps Go.Sort
section
variable (w : World) (n : Nd) (vk vv : Value) (l : List Bd) (hn : NdR w w.heap.size vk n) (hl : BdsR w w.heap.size vv l) (hT : Tabs8 w)
include hn hl hT
end
end Go.Proofs.YtbephgifbghilaaGreatDoor
/- expr.Names at a node that may be: the walk over the parts. -/
set_option maxRecDepth 100000
namespace Go.Proofs.YtbephgifbghilaaGreatDoor
open Go.RowKit Go.Sort
theorem alloc_keeps (w : World) (o : Obj) (i : Nat) (h : i < w.heap.size) : (w.alloc o).heap[i]? = w.heap[i]? := by
  show (w.heap.push o)[i]? = _
  rw [Array.getElem?_push, if_neg (by omega)]
/-- The names so far, in a row of the call's own behind a cell. -/
structure NamS (W : World) (base po pw : Nat) (v : Value) (acc : List (List UInt8)) : Prop where
  out : W.heap[po]? = some (.cells #[v] 44 (0, 0))
  fn : W.heap[pw]? = some (.cells #[.func (.func 61) #[] #[.pointer (some ⟨po, 0, none⟩), .pointer (some ⟨pw, 0, none⟩)]] 104 (0, 0))
  row : W.ownsRow base 9 1 v acc.length (acc.map encStr)
  po : po < base
  pw : pw < base
  base : base ≤ W.heap.size
section
variable {W W' : World} {base po pw : Nat} {v : Value} {acc : List (List UInt8)}
theorem NamS.below (h : NamS W base po pw v acc) (hb : Below W.heap.size W W') : NamS W' base po pw v acc :=
  ⟨(hb.block po (lt_of_block h.out)).trans h.out, (hb.block pw (lt_of_block h.fn)).trans h.fn, h.row.kept (below_grownBy hb none) (by cases hv : v.ownBlock <;> simp), h.po, h.pw, Nat.le_trans h.base hb.size⟩
/-- A block of another kind is none of its own. -/
theorem NamS.ne (h : NamS W base po pw v acc) {q : Nat} {c : Array Value} {t : TypeId} {fr : Nat × Nat} (hq : W.heap[q]? = some (.cells c t fr)) (h1 : t ≠ 44) (h2 : t ≠ 9) : ∀ r ∈ [some po, v.ownBlock], r ≠ some q := by
  intro r hr e
  simp only [List.mem_cons, List.not_mem_nil, or_false] at hr
  rcases hr with rfl | rfl
  · exact type_ne h.out hq (Ne.symm h1) (Option.some.inj e)
  · rcases h.row.2 with ⟨e0, _⟩ | ⟨g, cap, cur, e0, _, hg, _⟩
    · rw [e0] at e; cases e
    · rw [e0] at e
      exact type_ne hg hq (Ne.symm h2) (Option.some.inj e)
theorem NamS.low (h : NamS W base po pw v acc) {B : Nat} (hB : B ≤ po) : ∀ r ∈ [some po, v.ownBlock], ∀ k, r = some k → B ≤ k := by
  intro r hr k e
  simp only [List.mem_cons, List.not_mem_nil, or_false] at hr
  rcases hr with rfl | rfl
  · cases e; exact hB
  · have := (h.row.lt k e).1
    have := h.po
    omega
end
/-- What a call at a part does. -/
def NamK (base po pw B : Nat) (k : Nd) : Prop := ∀ (W : World) (v : Value) (acc : List (List UInt8)) (vk : Value), NamS W base po pw v acc → KidsR W B vk k.kids → acc.length + (namN k).length ≤ 1048576 →
  Calls Tryz.prog 61 #[valN k vk, .pointer (some ⟨po, 0, none⟩), .pointer (some ⟨pw, 0, none⟩)] W fun e w' => e = .returned (.tuple #[]) ∧ ∃ v', NamS w' base po pw v' (acc ++ (namN k).map nmB) ∧ Frm [some po, v.ownBlock] W w' ∧ Fresh W v v'
theorem info_str1 : (Tryz.prog.info? 9).map (fun i => (i.zero, i.size, i.bytes)) = some (some (.string ⟨#[]⟩), 1, 16) := by kernel_rfl
section
variable {base po pw B : Nat} (op : Int) (u : Vl) (nm : ByteArray) (vk : Value)
end
theorem namL_app : ∀ a b : List Nd, namL (a ++ b) = namL a ++ namL b
  | [], _ => rfl
  | x :: r, b => by
    show namN x ++ namL (r ++ b) = namN x ++ namL r ++ namL b
    rw [namL_app r b, List.append_assoc]
theorem namL_take {ks : List Nd} {k : Nat} (h : k < ks.length) : namL (ks.take (k + 1)) = namL (ks.take k) ++ namN ks[k] := by
  rw [List.take_add_one, List.getElem?_eq_getElem h, namL_app]
  show _ ++ (namN ks[k] ++ []) = _
  rw [List.append_nil]
theorem namL_le (ks : List Nd) (k : Nat) : (namL (ks.take k)).length ≤ (namL ks).length := by
  have := namL_app (ks.take k) (ks.drop k)
  rw [List.take_append_drop] at this
  rw [this, List.length_append]
  omega
section
variable {base po pw B : Nat} (op : Int) (u : Vl) (nm : ByteArray) (vk : Value)
set_option maxHeartbeats 2000000 in
theorem nam_kids (W : World) (v : Value) (acc : List (List UInt8)) (ks : List Nd) (d2 : (op == 2) = false) (h : NamS W base po pw v acc) (hk : KidsR W B vk ks) (hB : B ≤ po) (hlen : acc.length + (namL ks).length ≤ 1048576) (HK : ∀ i (hi : i < ks.length), NamK base po pw B ks[i]) :
    Calls Tryz.prog 61 #[valO op u nm vk, .pointer (some ⟨po, 0, none⟩), .pointer (some ⟨pw, 0, none⟩)] W fun e w' => e = .returned (.tuple #[]) ∧ ∃ v', NamS w' base po pw v' (acc ++ (namL ks).map nmB) ∧ Frm [some po, v.ownBlock] W w' ∧ Fresh W v v' := by
  obtain ⟨w1, p0, hp0, hw1, l1, n1, b1⟩ := box_new W (objN op u nm vk)
  have h1 := h.below b1
  have HP := Lib.hid (fun (V : World) (e : V.heap[p0]? = w1.heap[p0]?) => (show V.cell? ⟨p0, 0, none⟩ = some (.int .u8 op) ∧ V.cell? ⟨p0, 6, none⟩ = some vk from ⟨(cell_of_block (e.trans n1) 0).trans rfl, (cell_of_block (e.trans n1) 6).trans rfl⟩))
  obtain ⟨c0, c6⟩ := HP.out w1 rfl
  have hll := hk.len
  obtain ⟨ka, kc, rfl, hat⟩ := kid_at hk
  have HA := Lib.hid hat
  have HKK := Lib.hid HK
  have HL := Lib.hid hlen
  have H0 := Lib.hid (And.intro h1 (And.intro (Frm.ofBelow (S := [some po, v.ownBlock]) b1) (Fresh.refl W v)))
  have HN1 := Lib.hid n1
  have HBW := Lib.hid (show B ≤ W.heap.size from Nat.le_trans hB (Nat.le_of_lt (lt_of_block h.out)))
  have HLow := Lib.hid (h.low hB)
  have HBpo := hB
  clear hk HK hat h h1 n1 b1 hlen hB
  go_enter Tryz.func61, Tryz.ntmps61
  go_wp2_with fail
  go_loopg [17] ks.length (fun g s17 wr => ∃ (k : Nat) (v' : Value), k + g = ks.length ∧ s17 = .int .i64 (k : Int) ∧ Hid (NamS wr base po pw v' (acc ++ (namL (ks.take k)).map nmB) ∧ Frm [some po, v.ownBlock] W wr ∧ Fresh W v v' ∧ wr.heap[p0]? = w1.heap[p0]? ∧ w1.heap.size ≤ wr.heap.size))
  case atStart => exact ⟨0, v, by omega, rfl, Lib.hid ⟨by simpa [namL] using H0.out.1, H0.out.2.1, H0.out.2.2, rfl, Nat.le_refl _⟩⟩
  case round =>
    obtain ⟨k, v', hkg, rfl, hI⟩ := hrel
    obtain ⟨hS, hF, hFr, hp, hsz⟩ := hI.out
    by_cases hk : k < ks.length
    · have hBel : Below B W wr := hF.toBelow HBW.out HLow.out
      obtain ⟨b, o, vk', rfl, hb, hw, hkk, hcc⟩ := HA.out k hk
      obtain ⟨e0, e1, e2, e3, e4, e5, e6⟩ := kid_cells hcc hBel hb
      obtain ⟨w2, p2, hp2, hw2, l2, n2, b2⟩ := box_new wr (objN ks[k].op ks[k].v ks[k].name vk')
      have hS2 := hS.below b2
      have hp2' : w2.heap[p0]? = w1.heap[p0]? := (b2.block p0 (by omega)).trans hp
      have hkB2 := (hkk.mono hBel (Nat.le_refl _)).mono (b2.mono (Nat.le_trans HBW.out hF.size)) (Nat.le_refl _)
      have hlk : (acc ++ (namL (ks.take k)).map nmB).length + (namN ks[k]).length ≤ 1048576 := by
        have e1 := namL_take hk
        have e2 := namL_le ks (k + 1)
        rw [e1, List.length_append] at e2
        have := HL.out
        simp only [List.length_append, List.length_map]
        omega
      have HCall := Lib.hid (HKK.out k hk w2 v' _ vk' hS2 hkB2 hlk)
      have HT := Lib.hid (namL_take hk)
      have g0 : w2.cell? ⟨pw, 0, none⟩ = some (.func (.func 61) #[] #[.pointer (some ⟨po, 0, none⟩), .pointer (some ⟨pw, 0, none⟩)]) := (cell_of_block hS2.fn 0).trans rfl
      have HF2 := Lib.hid (And.intro hS2 (And.intro (hF.below b2) (And.intro hFr hp2')))
      have hsz2 : W.heap.size ≤ w2.heap.size := Nat.le_trans hF.size b2.size
      obtain ⟨ak, ck, rfl⟩ := hkk.val
      obtain ⟨x, hx⟩ : ∃ x, ks[k] = x := ⟨_, rfl⟩
      obtain ⟨nk, hnk⟩ : ∃ nk, ks[k].kids.length = nk := ⟨_, rfl⟩
      rw [hnk] at e6 hw2 n2 HCall
      rw [hx] at e0 e1 e2 e3 e4 e5 hw2 n2 HCall HT
      have hw2' : wr.alloc (.cells #[.int .u8 x.op, .int .u8 x.v.kind, .int .i64 x.v.num, .bool x.v.tr, .string x.v.text, .string x.name, .slice ak nk ck] 29) = w2 := hw2
      obtain ⟨f0, f1, f2, f3, f4, f5, f6⟩ := n_cells n2
      have k1 : (0 : Int) ≤ (k : Int) := by omega
      have k2 : (k : Int) < (ks.length : Int) := by omega
      clear hx hnk hw2 n2 b2 hkk hcc hw hBel hS hF hFr hp hS2 hp2' hkB2 hlk hI
      go_wp2_with (go_at_call 61; refine HCall.out.mono ?_; rintro e w3 ⟨rfl, v3, hS3, hF3, hFr3⟩; refine Hid.out ?_)
      refine Lib.hid ?_
      obtain ⟨hS2, hFW, hFrW, hp2'⟩ := HF2.out
      have hp3 : w3.heap[p0]? = w1.heap[p0]? := (hF3.keep p0 (lt_of_block (hp2'.trans HN1.out)) (fun r hr e => hS2.ne (hp2'.trans HN1.out) (by decide) (by decide) r hr e)).trans hp2'
      have hFn : Frm [some po, v.ownBlock] W w3 := Frm.trans hFW hF3 (fun r hr => by
        simp only [List.mem_cons, List.not_mem_nil, or_false] at hr
        rcases hr with rfl | rfl
        · exact Or.inl (by simp)
        · rcases hFrW with e | ⟨j, e, hj⟩
          · rw [e]; exact Or.inl (by simp)
          · exact Or.inr ⟨j, e, hj⟩)
      have hFrn : Fresh W v v3 := Fresh.trans hFrW hFr3 hsz2
      have hSn : NamS w3 base po pw v3 (acc ++ (namL (ks.take (k + 1))).map nmB) := by
        rw [HT.out, List.map_append, ← List.append_assoc]
        exact hS3
      have HE := Lib.hid (And.intro hSn (And.intro hFn (And.intro hFrn (And.intro hp3 (show w1.heap.size ≤ w3.heap.size from by have := hF3.size; omega)))))
      clear hS3 hF3 hFr3 hS2 hFW hFrW hp2' hp3 hFn hFrn hSn
      go_wp2_with fail
      go_roundg (gk - 1)
      case measure => omega
      case rel => exact ⟨k + 1, v3, by omega, by go_num, HE⟩
    · have dk : decide (k < ks.length) = false := decide_eq_false hk
      have HE := Lib.hid (show NamS wr base po pw v' (acc ++ (namL ks).map nmB) ∧ Frm [some po, v.ownBlock] W wr ∧ Fresh W v v' from ⟨by rw [List.take_of_length_le (by omega)] at hS; exact hS, hF, hFr⟩)
      clear hS hF hFr hp hI
      go_wp2_with fail
      refine bodyPost_end (results_none rfl _ _ _) rfl ?_
      exact ⟨rfl, _, HE.out.1, HE.out.2.1, HE.out.2.2⟩
end
end Go.Proofs.YtbephgifbghilaaGreatDoor
/- expr.Names at a node that may be: all its variables stand in what it answers. -/
set_option maxRecDepth 100000
namespace Go.Proofs.YtbephgifbghilaaGreatDoor
open Go.RowKit Go.Sort
theorem mem_compactUpTo (d : Array (List UInt8)) (m : Nat) : ∀ j, j < m → d[j]! ∈ Lib.compactUpTo d m := by
  intro j
  induction j with
  | zero =>
    intro h
    unfold Lib.compactUpTo
    exact List.mem_map.2 ⟨0, List.mem_filter.2 ⟨List.mem_range.2 h, Lib.keeps_lt_one d 0 (by omega)⟩, rfl⟩
  | succ j ih =>
    intro h
    by_cases e : d[j + 1]! = d[j + 1 - 1]!
    · rw [e]; exact ih (by omega)
    · unfold Lib.compactUpTo
      exact List.mem_map.2 ⟨j + 1, List.mem_filter.2 ⟨List.mem_range.2 h, Lib.keeps_pos e⟩, rfl⟩
theorem mem_compact {zs : List (List UInt8)} {x : List UInt8} (h : x ∈ zs) : x ∈ Lib.compact zs := by
  obtain ⟨j, hj, rfl⟩ := List.getElem_of_mem h
  have := mem_compactUpTo zs.toArray zs.length j hj
  rw [getElem!_pos _ _ (by simpa using hj)] at this
  simpa [Lib.compact] using this
theorem compact_le (zs : List (List UInt8)) : (Lib.compact zs).length ≤ zs.length := by
  unfold Lib.compact Lib.compactUpTo
  rw [List.length_map]
  exact Nat.le_trans (List.length_filter_le _ _) (by simp)
/-- A node's names: sorted, each once. -/
def namesL (n : Nd) : List (List UInt8) := Lib.compact (((namN n).map nmB).mergeSort fun x y => decide (x ≤ y))
theorem mem_namesL (n : Nd) {s : ByteArray} (h : s ∈ namN n) : nmB s ∈ namesL n := mem_compact ((List.mergeSort_perm _ _).mem_iff.2 (List.mem_map.2 ⟨s, h, rfl⟩))
end Go.Proofs.YtbephgifbghilaaGreatDoor
