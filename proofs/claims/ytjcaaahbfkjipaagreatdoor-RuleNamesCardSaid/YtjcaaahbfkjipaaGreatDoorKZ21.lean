/- Texts fused by fuse.py: KRuleBuild. -/
import Derived.Test.YtjcaaahbfkjipaaGreatDoorKZ18
import Derived.Test.YtjcaaahbfkjipaaGreatDoorKZ16
/- Of RuleBuild: what FRuleNames uses (shake.py). -/
set_option maxRecDepth 100000
/- rule.indexOf: a model's elements and flows by ids. -/
namespace Go.Proofs.YtjcaaahbfkjipaaGreatDoor
open Go.RowKit
section
variable {α : Type} {f : α → List Value} {e : TypeId} {k : Nat}
variable {w w1 : World} {base : Nat} {bk : Bool → Nat} {R : Bool → ByteArray → Option Value} {L : Bool → ByteArray → List α}
/-- Another map turns. -/
theorem FloR.kept (H : FloR f e k w base bk R L) {b : Nat} (hg : w.grownBy w1 (some b)) (hb : ∀ c, bk c ≠ b) (hm : ∃ es ck, w.heap[b]? = some (.map es ck)) : FloR f e k w1 base bk R L :=
  ⟨fun c => (H.raw c).kept hg (fun e => hb c (Option.some.inj e)), fun c s => (H.own c s).turned hg (fun g n cap hv e2 => by
    obtain ⟨cur, h1, _⟩ := ownF_cells (H.own c s) (g := g) (by rw [hv]; rfl)
    obtain ⟨es, ck, h2⟩ := hm
    rw [Option.some.inj e2] at h1
    rw [h1] at h2
    cases h2), H.one, H.two⟩
end
theorem info_fl : (Tryz.prog.info? 36).map (fun i => (i.zero, i.size, i.bytes)) = some (some (valFl Fl.zero), 4, 64) := by kernel_rfl
theorem find_snoc (l : List El) (e : El) (s : ByteArray) : findE (l ++ [e]) s = (findE l s).or (if sEq e.id s then some e else none) := by
  unfold findE
  rw [List.find?_append]
  congr 1
  rw [List.find?_cons]
  cases sEq e.id s <;> rfl
theorem find_old {l : List El} {e : El} (h : (findE l e.id).isSome = true) : (fun s => (findE (l ++ [e]) s).map valEl) = fun s => (findE l s).map valEl := by
  funext s
  rw [find_snoc]
  cases hs : findE l s with
  | some x => rfl
  | none =>
    have : sEq e.id s = false := by
      rw [← Bool.not_eq_true, sEq_iff]
      intro h2
      rw [h2, hs] at h
      cases h
    rw [this]; rfl
theorem find_new {l : List El} {e : El} (h : (findE l e.id).isSome = false) : putSt (fun s => (findE l s).map valEl) e.id (valEl e) = fun s => (findE (l ++ [e]) s).map valEl := by
  funext s
  rw [find_snoc]
  unfold putSt
  by_cases hs : s = e.id
  · subst hs
    rw [if_pos rfl, sEq_refl]
    cases hf : findE l e.id with
    | none => rfl
    | some x => rw [hf] at h; cases h
  · rw [if_neg hs]
    have : sEq e.id s = false := by rw [← Bool.not_eq_true, sEq_iff]; exact fun e2 => hs e2.symm
    rw [this]
    show (findE l s).map valEl = _
    cases findE l s <;> rfl
/-- The flows into an id, or out of it. -/
def floL (l : List Fl) (c : Bool) (s : ByteArray) : List Fl := if c then insF l s else outsF l s
theorem floL_snoc (l : List Fl) (f : Fl) : updL (updL (floL l) true f.into (insF l f.into ++ [f])) false f.frm (outsF l f.frm ++ [f]) = floL (l ++ [f]) := by
  funext c s
  unfold updL floL insF outsF
  cases c with
  | true =>
    simp only [if_true, Bool.true_eq_false, false_and, if_false, true_and]
    by_cases h : s = f.into
    · subst h
      rw [if_pos rfl, List.filter_append, List.filter_cons, sEq_refl]; rfl
    · rw [if_neg h, List.filter_append, List.filter_cons]
      have : sEq f.into s = false := by rw [← Bool.not_eq_true, sEq_iff]; exact fun e2 => h e2.symm
      rw [this]; simp
  | false =>
    simp only [Bool.false_eq_true, if_false, false_and, true_and]
    by_cases h : s = f.frm
    · subst h
      rw [if_pos rfl, List.filter_append, List.filter_cons, sEq_refl]; rfl
    · rw [if_neg h, List.filter_append, List.filter_cons]
      have : sEq f.frm s = false := by rw [← Bool.not_eq_true, sEq_iff]; exact fun e2 => h e2.symm
      rw [this]; simp
/-- An index under way. -/
structure IoR (w wr : World) (px eb ib ob : Nat) (m : Md) (vv ve vf : Value) (E : List El) (R : Bool → ByteArray → Option Value) (L : Bool → ByteArray → List Fl) : Prop where
  blk : wr.heap[px]? = some (.cells #[.string m.id, .string m.name, vv, ve, vf, .map (some eb), .map (some ib), .map (some ob)] 70 (0, 0))
  els : RawS wr eb (fun s => (findE E s).map valEl)
  flo : FloR cellFl 36 4 wr w.heap.size (fun c => if c then ib else ob) R L
  bel : Below w.heap.size w wr
  b0 : w.heap.size ≤ px
  b1 : w.heap.size ≤ eb
  b2 : w.heap.size ≤ ib
  b3 : w.heap.size ≤ ob
  n1 : ib ≠ eb
  n2 : ob ≠ eb
section
variable {w wr w' : World} {px eb ib ob : Nat} {m : Md} {vv ve vf : Value} {E : List El} {R : Bool → ByteArray → Option Value} {L : Bool → ByteArray → List Fl}
theorem IoR.below (h : IoR w wr px eb ib ob m vv ve vf E R L) (hb : Below wr.heap.size wr w') : IoR w w' px eb ib ob m vv ve vf E R L :=
  { h with blk := (hb.block px (lt_of_block h.blk)).trans h.blk, els := h.els.below hb, flo := h.flo.below hb, bel := h.bel.trans (hb.mono h.bel.size) }
theorem IoR.cells (h : IoR w wr px eb ib ob m vv ve vf E R L) : wr.cell? ⟨px, 5, none⟩ = some (.map (some eb)) ∧ wr.cell? ⟨px, 6, none⟩ = some (.map (some ib)) ∧ wr.cell? ⟨px, 7, none⟩ = some (.map (some ob)) :=
  ⟨(cell_of_block h.blk 5).trans rfl, (cell_of_block h.blk 6).trans rfl, (cell_of_block h.blk 7).trans rfl⟩
theorem IoR.put (h : IoR w wr px eb ib ob m vv ve vf E R L) {e : El} (hn : (findE E e.id).isSome = false) : ∃ w', (Instr.mapUpdate 67 (.map (some eb)) (.string e.id) (valEl e)).run Tryz.prog wr = .ok () w' ∧
    IoR w w' px eb ib ob m vv ve vf (E ++ [e]) R L ∧ wr.grownBy w' (some eb) := by
  obtain ⟨w', r, hm, hg⟩ := h.els.put (k := 9) (e := 39) Tryz.underlying9 Tryz.underlying67 e.id (valEl e) zeroEl
  rw [find_new hn] at hm
  have hp : some px ≠ some eb := fun e2 => by
    obtain ⟨es, ck, h2⟩ := h.els.isMap
    rw [← Option.some.inj e2, h.blk] at h2
    cases h2
  exact ⟨w', r, { h with blk := (hg.block px (lt_of_block h.blk) hp).trans h.blk, els := hm, flo := h.flo.kept hg (fun c => by cases c <;> simp [h.n1, h.n2]) h.els.isMap, bel := h.bel.grown hg h.bel.size (fun r hr => by cases hr; exact h.b1) }, hg⟩
theorem IoR.lookE (h : IoR w wr px eb ib ob m vv ve vf E R L) (s : ByteArray) : (Instr.lookup 67 (.map (some eb)) (.string s) true).run Tryz.prog wr = .ok (.tuple #[valEl (elemE E s), .bool (findE E s).isSome]) wr := by
  have := (h.els.look (k := 9) (e := 39) Tryz.underlying9 Tryz.underlying67 (zeroEl wr) s).2
  rw [elemE_get] at this
  refine this.trans ?_
  cases findE E s <;> rfl
theorem IoR.lookF (h : IoR w wr px eb ib ob m vv ve vf E R L) (c : Bool) (s : ByteArray) : (Instr.lookup 68 (.map (some (if c then ib else ob))) (.string s) false).run Tryz.prog wr = .ok ((R c s).getD nilS) wr :=
  ((h.flo.raw c).look (k := 9) (e := 24) Tryz.underlying9 Tryz.underlying68 (zeroFls wr) s).1
/-- The slice at a text has grown; it is stored. -/
theorem IoR.grow (h : IoR w wr px eb ib ob m vv ve vf E R L) {c : Bool} {s : ByteArray} {v' : Value} {l' : List Fl} {w6 : World} (hg : wr.grownBy w6 ((R c s).getD nilS).ownBlock) (ho : OwnF cellFl 36 4 w6 w.heap.size v' l')
    (hl : v'.ownBlock = ((R c s).getD nilS).ownBlock ∨ v'.ownBlock = some wr.heap.size) :
    ∃ w7, (Instr.mapUpdate 68 (.map (some (if c then ib else ob))) (.string s) v').run Tryz.prog w6 = .ok () w7 ∧ IoR w w7 px eb ib ob m vv ve vf E (updR R c s v') (updL L c s l') ∧ w6.grownBy w7 (some (if c then ib else ob)) ∧ w6.heap[px]? = wr.heap[px]? := by
  have hap : ∀ b, ((R c s).getD nilS).ownBlock = some b → w.heap.size ≤ b := fun b hb => by
    obtain ⟨_, _, h2⟩ := ownF_cells (h.flo.own c s) hb
    exact h2
  have hraw : RawS w6 (if c then ib else ob) (R c) := (h.flo.raw c).kept hg (fun e2 => h.flo.apart c c s e2.symm)
  obtain ⟨w7, r, hm, hg7⟩ := hraw.put (k := 9) (e := 24) Tryz.underlying9 Tryz.underlying68 s v' zeroFls
  have hpx : some px ≠ ((R c s).getD nilS).ownBlock := fun e2 => by
    obtain ⟨cur, h1, _⟩ := ownF_cells (h.flo.own c s) e2.symm
    rw [h.blk] at h1
    injection h1 with h1
    injection h1 with _ h2
    exact absurd h2 (by decide)
  have hebn : some eb ≠ ((R c s).getD nilS).ownBlock := fun e2 => by
    obtain ⟨cur, h1, _⟩ := ownF_cells (h.flo.own c s) e2.symm
    obtain ⟨es, ck, h2⟩ := h.els.isMap
    rw [h1] at h2
    cases h2
  have hp6 := hg.block px (lt_of_block h.blk) hpx
  have hb7 : some px ≠ some (if c then ib else ob) := fun e2 => by
    obtain ⟨es, ck, h2⟩ := hraw.isMap
    rw [← Option.some.inj e2, hp6, h.blk] at h2
    cases h2
  have hle : w.heap.size ≤ (if c then ib else ob) := by cases c with
    | true => exact h.b2
    | false => exact h.b3
  have hne7 : some eb ≠ some (if c then ib else ob) := fun e2 => by cases c with
    | true => exact h.n1 (Option.some.inj e2).symm
    | false => exact h.n2 (Option.some.inj e2).symm
  have b6 : Below w.heap.size w w6 := h.bel.grown hg h.bel.size hap
  refine ⟨w7, r, { h with blk := ((hg7.block px (by have := lt_of_block h.blk; have := hg.size; omega) hb7).trans hp6).trans h.blk, els := (h.els.kept hg hebn).kept hg7 (fun e2 => hne7 e2), flo := h.flo.grow hg ho (hl.imp_right fun h2 => ⟨_, Nat.le_refl _, h2⟩) (fun _ => hm) hg7, bel := b6.grown hg7 b6.size (fun r hr => by cases hr; exact hle) }, hg7, hp6⟩
end
end Go.Proofs.YtjcaaahbfkjipaaGreatDoor
