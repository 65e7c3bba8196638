/- Texts fused by fuse.py: KRuleFlo, KRuleIdx, KRuleHas. -/
import Derived.Test.YtjcaaahbfkjipaaGreatDoorKZ13
import Derived.Test.YtjcaaahbfkjipaaGreatDoorKZ00
/- Of RuleFlo: what FRuleNames uses (shake.py). -/
set_option maxRecDepth 100000
/- Two maps of slices that grow: m[s] = append(m[s], x); each slice in a block of its own. -/
namespace Go.Proofs.YtjcaaahbfkjipaaGreatDoor
open Go.RowKit
abbrev nilS : Value := .slice none 0 0
section
variable {α : Type} {f : α → List Value} {e : TypeId} {k : Nat}
/-- What the two maps hold: slices that are the call's own, no two in one block. -/
structure FloR (f : α → List Value) (e : TypeId) (k : Nat) (w : World) (base : Nat) (bk : Bool → Nat) (R : Bool → ByteArray → Option Value) (L : Bool → ByteArray → List α) : Prop where
  raw : ∀ c, RawS w (bk c) (R c)
  own : ∀ c s, OwnF f e k w base ((R c s).getD nilS) (L c s)
  one : ∀ c s c' s' g, ((R c s).getD nilS).ownBlock = some g → ((R c' s').getD nilS).ownBlock = some g → c = c' ∧ s = s'
  two : bk false ≠ bk true
variable {w w1 w2 w3 : World} {base : Nat} {bk : Bool → Nat} {R : Bool → ByteArray → Option Value} {L : Bool → ByteArray → List α}
theorem ownF_cells {v : Value} {A : List α} (h : OwnF f e k w base v A) {g : Nat} (hg : v.ownBlock = some g) : ∃ cur, w.heap[g]? = Option.some (.cells cur e (0, 0)) ∧ base ≤ g := by
  rcases h.val with ⟨rfl, _⟩ | ⟨g', cap, rfl, hb, _⟩
  · cases hg
  · obtain ⟨cur, h1, h2, _⟩ := h.block
    cases hg
    exact ⟨cur, h1, hb⟩
theorem FloR.apart (H : FloR f e k w base bk R L) (c c' : Bool) (s : ByteArray) : ((R c s).getD nilS).ownBlock ≠ some (bk c') := by
  intro h
  obtain ⟨cur, h1, _⟩ := ownF_cells (H.own c s) h
  obtain ⟨es, ck, h2⟩ := (H.raw c').isMap
  rw [h1] at h2
  cases h2
theorem FloR.below (H : FloR f e k w base bk R L) (hb : Below w.heap.size w w1) : FloR f e k w1 base bk R L :=
  ⟨fun c => (H.raw c).below hb, fun c s => (H.own c s).kept hb, H.one, H.two⟩
def updL (L : Bool → ByteArray → List α) (c : Bool) (s : ByteArray) (l : List α) : Bool → ByteArray → List α := fun c' s' => if c' = c ∧ s' = s then l else L c' s'
def updR (R : Bool → ByteArray → Option Value) (c : Bool) (s : ByteArray) (v : Value) : Bool → ByteArray → Option Value := fun c' s' => if c' = c ∧ s' = s then some v else R c' s'
/-- The slice at a text has grown (w to w2), and is stored (w2 to w3). -/
theorem FloR.grow (H : FloR f e k w base bk R L) {c : Bool} {s : ByteArray} {v' : Value} {l' : List α} (hg : w.grownBy w2 ((R c s).getD nilS).ownBlock) (ho : OwnF f e k w2 base v' l')
    (hl : v'.ownBlock = ((R c s).getD nilS).ownBlock ∨ ∃ n, w.heap.size ≤ n ∧ v'.ownBlock = some n) (h3 : RawS w2 (bk c) (R c) → RawS w3 (bk c) (putSt (R c) s v')) (g3 : w2.grownBy w3 (some (bk c))) :
    FloR f e k w3 base bk (updR R c s v') (updL L c s l') := by
  have raw2 : ∀ c', RawS w2 (bk c') (R c') := fun c' => (H.raw c').kept hg (fun h => H.apart c c' s h.symm)
  have old : ∀ c' s', ¬ (c' = c ∧ s' = s) → OwnF f e k w2 base ((R c' s').getD nilS) (L c' s') := fun c' s' hne =>
    (H.own c' s').turned hg fun g n cap hv hgg => hne (by
      have h1 : ((R c' s').getD nilS).ownBlock = some g := by rw [hv]; rfl
      exact H.one c' s' c s g h1 hgg.symm)
  have ismap : ∃ es ck, w2.heap[bk c]? = some (.map es ck) := (raw2 c).isMap
  have notown : ∀ {v : Value} {A : List α}, OwnF f e k w2 base v A → ∀ g n cap, v = .slice (some ⟨g, 0, none⟩) n cap → some g ≠ some (bk c) := by
    intro v A h g n cap hv he
    obtain ⟨cur, h1, _⟩ := ownF_cells h (g := g) (by rw [hv]; rfl)
    obtain ⟨es, ck, h2⟩ := ismap
    injection he with he
    rw [he] at h1
    rw [h1] at h2
    cases h2
  refine ⟨fun c' => ?_, fun c' s' => ?_, fun c1 s1 c2 s2 g h1 h2 => ?_, H.two⟩
  · by_cases hc : c' = c
    · subst hc
      have : updR R c' s v' c' = putSt (R c') s v' := funext fun y => by unfold updR putSt; simp
      rw [this]
      exact h3 (raw2 c')
    · have : updR R c s v' c' = R c' := funext fun y => by unfold updR; simp [hc]
      rw [this]
      refine (raw2 c').kept g3 fun he => ?_
      injection he with he
      cases c <;> cases c' <;> simp_all [H.two, Ne.symm H.two]
  · unfold updR updL
    by_cases hc : c' = c ∧ s' = s
    · rw [if_pos hc, if_pos hc]
      exact ho.turned g3 (notown ho)
    · rw [if_neg hc, if_neg hc]
      exact (old c' s' hc).turned g3 (notown (old c' s' hc))
  · have new : ∀ c' s', ¬ (c' = c ∧ s' = s) → ∀ g, ((R c' s').getD nilS).ownBlock = some g → v'.ownBlock ≠ some g := by
      intro c' s' hne g hg1 hg2
      rcases hl with h | ⟨n, hn, h⟩
      · rw [h] at hg2
        exact hne (H.one c' s' c s g hg1 hg2)
      · rw [h] at hg2
        injection hg2 with hg2
        obtain ⟨cur, hc, _⟩ := ownF_cells (H.own c' s') hg1
        have := lt_of_block hc
        omega
    unfold updR at h1 h2
    by_cases a1 : c1 = c ∧ s1 = s <;> by_cases a2 : c2 = c ∧ s2 = s
    · exact ⟨a1.1.trans a2.1.symm, a1.2.trans a2.2.symm⟩
    · rw [if_pos a1] at h1
      rw [if_neg a2] at h2
      exact absurd h1 (new c2 s2 a2 g h2)
    · rw [if_neg a1] at h1
      rw [if_pos a2] at h2
      exact absurd h2 (new c1 s1 a1 g h1)
    · rw [if_neg a1] at h1
      rw [if_neg a2] at h2
      exact H.one c1 s1 c2 s2 g h1 h2
end
end Go.Proofs.YtjcaaahbfkjipaaGreatDoor

/- Of RuleIdx: what FRuleNames uses (shake.py). -/
set_option maxRecDepth 100000
/- rule.index: how it reads; looks into its maps; rule.first where nothing is kept. -/
namespace Go.Proofs.YtjcaaahbfkjipaaGreatDoor
open Go.RowKit
/-- An index in memory: its block, its three maps, the model's three rows. -/
structure IX where
  p : Nat
  eb : Nat
  ib : Nat
  ob : Nat
  ri : ByteArray → Option Value
  ro : ByteArray → Option Value
  vv : Value
  ve : Value
  vf : Value
structure IdxR (w : World) (B : Nat) (x : IX) (m : Md) : Prop where
  blk : w.heap[x.p]? = some (.cells #[.string m.id, .string m.name, x.vv, x.ve, x.vf, .map (some x.eb), .map (some x.ib), .map (some x.ob)] 70 (0, 0))
  els : RawS w x.eb (fun s => (findE m.els s).map valEl)
  ins : RawS w x.ib x.ri
  outs : RawS w x.ob x.ro
  insR : ∀ s, FlsR w B ((x.ri s).getD nilS) (insF m.fls s)
  outsR : ∀ s, FlsR w B ((x.ro s).getD nilS) (outsF m.fls s)
  md : MdR w B x.vv x.ve x.vf m
  lp : x.p < B
  le : x.eb < B
  li : x.ib < B
  lo : x.ob < B
section
variable {w w' : World} {B B' : Nat} {x : IX} {m : Md}
theorem IdxR.mono (h : IdxR w B x m) (hb : Below B w w') (hB : B ≤ B') : IdxR w' B' x m where
  blk := (hb.block _ h.lp).trans h.blk
  els := h.els.sameB (hb.block _ h.le)
  ins := h.ins.sameB (hb.block _ h.li)
  outs := h.outs.sameB (hb.block _ h.lo)
  insR := fun s => (h.insR s).mono hb hB
  outsR := fun s => (h.outsR s).mono hb hB
  md := h.md.mono hb hB
  lp := Nat.lt_of_lt_of_le h.lp hB
  le := Nat.lt_of_lt_of_le h.le hB
  li := Nat.lt_of_lt_of_le h.li hB
  lo := Nat.lt_of_lt_of_le h.lo hB
theorem zeroEl (w : World) : (zeroValue 39).run Tryz.prog w = .ok (valEl El.zero) w := by kernel_rfl
theorem zeroFls (w : World) : (zeroValue 24).run Tryz.prog w = .ok nilS w := by kernel_rfl
theorem elemE_get (l : List El) (s : ByteArray) : ((findE l s).map valEl).getD (valEl El.zero) = valEl (elemE l s) := by
  unfold elemE
  cases findE l s <;> rfl
theorem IdxR.look (h : IdxR w B x m) (s : ByteArray) : (Instr.lookup 67 (.map (some x.eb)) (.string s) false).run Tryz.prog w = .ok (valEl (elemE m.els s)) w ∧
    (Instr.lookup 67 (.map (some x.eb)) (.string s) true).run Tryz.prog w = .ok (.tuple #[valEl (elemE m.els s), .bool (findE m.els s).isSome]) w := by
  have := h.els.look (k := 9) (e := 39) Tryz.underlying9 Tryz.underlying67 (zeroEl w) s
  rw [elemE_get] at this
  refine ⟨this.1, this.2.trans ?_⟩
  cases findE m.els s <;> rfl
theorem IdxR.lookI (h : IdxR w B x m) (s : ByteArray) : (Instr.lookup 68 (.map (some x.ib)) (.string s) false).run Tryz.prog w = .ok ((x.ri s).getD nilS) w :=
  (h.ins.look (k := 9) (e := 24) Tryz.underlying9 Tryz.underlying68 (zeroFls w) s).1
theorem IdxR.lookO (h : IdxR w B x m) (s : ByteArray) : (Instr.lookup 68 (.map (some x.ob)) (.string s) false).run Tryz.prog w = .ok ((x.ro s).getD nilS) w :=
  (h.outs.look (k := 9) (e := 24) Tryz.underlying9 Tryz.underlying68 (zeroFls w) s).1
theorem IdxR.cells (h : IdxR w B x m) : w.cell? ⟨x.p, 0, none⟩ = some (.string m.id) ∧ w.cell? ⟨x.p, 1, none⟩ = some (.string m.name) ∧ w.cell? ⟨x.p, 2, none⟩ = some x.vv ∧ w.cell? ⟨x.p, 3, none⟩ = some x.ve ∧
    w.cell? ⟨x.p, 4, none⟩ = some x.vf ∧ w.cell? ⟨x.p, 5, none⟩ = some (.map (some x.eb)) ∧ w.cell? ⟨x.p, 6, none⟩ = some (.map (some x.ib)) ∧ w.cell? ⟨x.p, 7, none⟩ = some (.map (some x.ob)) :=
  ⟨(cell_of_block h.blk 0).trans rfl, (cell_of_block h.blk 1).trans rfl, (cell_of_block h.blk 2).trans rfl, (cell_of_block h.blk 3).trans rfl, (cell_of_block h.blk 4).trans rfl, (cell_of_block h.blk 5).trans rfl, (cell_of_block h.blk 6).trans rfl, (cell_of_block h.blk 7).trans rfl⟩
/-- What a rule's closure captured: the index's pointer in a cell. -/
structure CapX (W : World) (B cx : Nat) (x : IX) (m : Md) : Prop where
  cell : W.cell? ⟨cx, 0, none⟩ = some (.pointer (some ⟨x.p, 0, none⟩))
  idx : IdxR W B x m
  le : B ≤ W.heap.size
theorem CapX.below {cx : Nat} (h : CapX w B cx x m) (hb : Below w.heap.size w w') : CapX w' B cx x m :=
  ⟨(Below.cellB hb (cellLt h.cell)).trans h.cell, h.idx.mono (hb.mono h.le) (Nat.le_refl _), Nat.le_trans h.le hb.size⟩
end
theorem boxEl {w : World} {p : Nat} {x : El} {t : TypeId} {fr : Nat × Nat} (h : w.heap[p]? = some (.cells (cellEl x).toArray t fr)) : w.cell? ⟨p, 0, none⟩ = some (.string x.id) ∧ w.cell? ⟨p, 1, none⟩ = some (.string x.name) ∧ w.cell? ⟨p, 2, none⟩ = some (.int .u8 x.kind) ∧ w.cell? ⟨p, 3, none⟩ = some (.string x.inn) ∧
    w.cell? ⟨p, 4, none⟩ = some (.string x.dflt) ∧ w.cell? ⟨p, 5, none⟩ = some (.string x.att) ∧ w.cell? ⟨p, 6, none⟩ = some (.int .u8 x.event) ∧ w.cell? ⟨p, 7, none⟩ = some (.string x.ref) ∧ w.cell? ⟨p, 8, none⟩ = some (.string x.key) ∧ w.cell? ⟨p, 9, none⟩ = some (.int .i64 x.ticks) ∧ w.cell? ⟨p, 10, none⟩ = some (.int .i64 x.tries) :=
  ⟨(cell_of_block h 0).trans rfl, (cell_of_block h 1).trans rfl, (cell_of_block h 2).trans rfl, (cell_of_block h 3).trans rfl, (cell_of_block h 4).trans rfl, (cell_of_block h 5).trans rfl, (cell_of_block h 6).trans rfl, (cell_of_block h 7).trans rfl, (cell_of_block h 8).trans rfl, (cell_of_block h 9).trans rfl, (cell_of_block h 10).trans rfl⟩
theorem boxFl {w : World} {p : Nat} {x : Fl} {t : TypeId} {fr : Nat × Nat} (h : w.heap[p]? = some (.cells (cellFl x).toArray t fr)) : w.cell? ⟨p, 0, none⟩ = some (.string x.id) ∧ w.cell? ⟨p, 1, none⟩ = some (.string x.frm) ∧ w.cell? ⟨p, 2, none⟩ = some (.string x.into) ∧ w.cell? ⟨p, 3, none⟩ = some (.string x.cond) :=
  ⟨(cell_of_block h 0).trans rfl, (cell_of_block h 1).trans rfl, (cell_of_block h 2).trans rfl, (cell_of_block h 3).trans rfl⟩
abbrev oEl (x : El) : Obj := .cells #[.string x.id, .string x.name, .int .u8 x.kind, .string x.inn, .string x.dflt, .string x.att, .int .u8 x.event, .string x.ref, .string x.key, .int .i64 x.ticks, .int .i64 x.tries] 39
abbrev oFl (x : Fl) : Obj := .cells #[.string x.id, .string x.frm, .string x.into, .string x.cond] 36
theorem elementID_any (x : El) (w : World) : Calls Tryz.prog 65 #[valEl x] w fun e w' => e = .returned (.string x.id) ∧ Below w.heap.size w w' := by
  obtain ⟨w1, p0, hp0, hw1, l1, n1, b1⟩ := box_new w (oEl x)
  obtain ⟨c0, -⟩ := boxEl n1
  have HB := Lib.hid b1
  clear n1 b1
  go_enter Tryz.func65, Tryz.ntmps65
  go_wp2_with fail
  go_ret
  exact ⟨rfl, by first | exact HB.out | (rw [hp0]; exact HB.out)⟩
theorem flowID_any (x : Fl) (w : World) : Calls Tryz.prog 68 #[valFl x] w fun e w' => e = .returned (.string x.id) ∧ Below w.heap.size w w' := by
  obtain ⟨w1, p0, hp0, hw1, l1, n1, b1⟩ := box_new w (oFl x)
  obtain ⟨c0, -⟩ := boxFl n1
  have HB := Lib.hid b1
  clear n1 b1
  go_enter Tryz.func68, Tryz.ntmps68
  go_wp2_with fail
  go_ret
  exact ⟨rfl, by first | exact HB.out | (rw [hp0]; exact HB.out)⟩
/-- What a rule tells. -/
def RuleR (r : Option ByteArray) (w : World) (e : Ending) (w' : World) : Prop := e = .returned (.tuple #[.string (r.getD ⟨#[]⟩), .bool r.isSome]) ∧ Below w.heap.size w w'
section
variable {w : World}
theorem firstEl0 (v : Value) (l : List El) (h : ElsR w w.heap.size v l) (fid : Nat) (caps : Array Value) (ok : El → Bool)
    (hrun : ∀ (args : Array Value) (W : World), (callFunc fid args).run Tryz.prog W = .ok (.enter fid args) W)
    (hf : ∀ x ∈ l, ∀ W, Below w.heap.size w W → Calls Tryz.prog fid (#[valEl x] ++ caps) W fun e w' => e = .returned (.bool (ok x)) ∧ Below W.heap.size W w') :
    Calls Tryz.prog 64 #[v, .func (.func 65) #[] #[], .func (.func fid) #[] caps] w (RuleR (firstBad El.id ok l) w) := by
  have S := firstEl (w := w) (base := w.heap.size) (row := none) (Nat.le_refl _) (fun _ h => by cases h) v l h 65 fid #[] caps El.id (fun _ _ => True) (pAt ok l) (enters_of Tryz.func65 (by kernel_rfl) rfl) hrun trivial (fun _ _ _ _ _ => trivial) (fun _ h => by cases h)
    (fun i hi W _ => (elementID_any l[i] W).mono fun _ _ h => h) (fun i hi W hW _ _ => (hf l[i] (List.getElem_mem hi) W (below_row (fun _ h => by cases h) (Nat.le_refl _) hW)).mono fun _ _ ⟨e, hb⟩ => ⟨by rw [e, pAt_get hi], below_grownBy hb none, fun _ => trivial⟩)
  rw [firstO_firstBad] at S
  exact S.mono fun _ _ ⟨e, hg, _⟩ => ⟨e, below_row (fun _ h => by cases h) (Nat.le_refl _) hg⟩
theorem firstFl0 (v : Value) (l : List Fl) (h : FlsR w w.heap.size v l) (fid : Nat) (caps : Array Value) (ok : Fl → Bool)
    (hrun : ∀ (args : Array Value) (W : World), (callFunc fid args).run Tryz.prog W = .ok (.enter fid args) W)
    (hf : ∀ x ∈ l, ∀ W, Below w.heap.size w W → Calls Tryz.prog fid (#[valFl x] ++ caps) W fun e w' => e = .returned (.bool (ok x)) ∧ Below W.heap.size W w') :
    Calls Tryz.prog 67 #[v, .func (.func 68) #[] #[], .func (.func fid) #[] caps] w (RuleR (firstBad Fl.id ok l) w) := by
  have S := firstFl (w := w) (base := w.heap.size) (row := none) (Nat.le_refl _) (fun _ h => by cases h) v l h 68 fid #[] caps Fl.id (fun _ _ => True) (pAt ok l) (enters_of Tryz.func68 (by kernel_rfl) rfl) hrun trivial (fun _ _ _ _ _ => trivial) (fun _ h => by cases h)
    (fun i hi W _ => (flowID_any l[i] W).mono fun _ _ h => h) (fun i hi W hW _ _ => (hf l[i] (List.getElem_mem hi) W (below_row (fun _ h => by cases h) (Nat.le_refl _) hW)).mono fun _ _ ⟨e, hb⟩ => ⟨by rw [e, pAt_get hi], below_grownBy hb none, fun _ => trivial⟩)
  rw [firstO_firstBad] at S
  exact S.mono fun _ _ ⟨e, hg, _⟩ => ⟨e, below_row (fun _ h => by cases h) (Nat.le_refl _) hg⟩
end
end Go.Proofs.YtjcaaahbfkjipaaGreatDoor

/- Of RuleHas: what FRuleNames uses (shake.py). -/
set_option maxRecDepth 100000
/- slices.ContainsFunc over elements, flows and binds (printed by wip/gen_rulehas.py). -/
namespace Go.Proofs.YtjcaaahbfkjipaaGreatDoor
open Go.RowKit
instance : Inhabited Bd := ⟨⟨⟨#[]⟩, ⟨0, 0, false, ⟨#[]⟩⟩⟩⟩
section
variable {w : World}
set_option maxHeartbeats 1000000 in
theorem hasEl (v : Value) (l : List El) (h : ElsR w w.heap.size v l) (fid : Nat) (caps : Array Value) (q : El → Bool)
    (hrun : ∀ (args : Array Value) (W : World), (callFunc fid args).run Tryz.prog W = .ok (.enter fid args) W)
    (hf : ∀ x ∈ l, ∀ W, Below w.heap.size w W → Calls Tryz.prog fid (#[valEl x] ++ caps) W fun e w' => e = .returned (.bool (q x)) ∧ Below W.heap.size W w') :
    Calls Tryz.prog 84 #[v, .func (.func fid) #[] caps] w fun e w' => e = .returned (.bool (l.any q)) ∧ Below w.heap.size w w' := by
  have S := idxEl (w := w) (base := w.heap.size) (row := none) (Nat.le_refl _) (fun _ h => by cases h) v l h fid caps (fun _ _ => True) (fun i => !q (l.getD i default)) hrun trivial
    (fun i hi W hW _ _ => (hf l[i] (List.getElem_mem hi) W (below_row (fun _ h => by cases h) (Nat.le_refl _) hW)).mono fun _ _ ⟨e, hb⟩ => ⟨by rw [e]; simp [hi], below_grownBy hb none, fun _ => trivial⟩)
  have HZ := any_idx (n := l.length) (fun i => q (l.getD i default))
  rw [any_range q l] at HZ
  obtain ⟨z, hz⟩ : ∃ z, idxZ (fstBad (fun i => !q (l.getD i default)) l.length) = z := ⟨_, rfl⟩
  rw [hz] at S HZ
  obtain ⟨r, hr⟩ : ∃ r, l.any q = r := ⟨_, rfl⟩
  rw [hr] at HZ ⊢
  have HS := Lib.hid S
  obtain ⟨a, c, rfl⟩ := h.val
  clear hf h hz hr S
  go_enter Tryz.func84, Tryz.ntmps84
  go_wp2_with (go_at_call 51; refine HS.out.mono ?_; rintro e w2 ⟨rfl, hb2, _⟩; have HB2 := Lib.hid (below_row (fun _ h => by cases h) (Nat.le_refl _) hb2); clear hb2)
  go_ret
  exact ⟨rfl, HB2.out⟩
set_option maxHeartbeats 1000000 in
theorem hasFl (v : Value) (l : List Fl) (h : FlsR w w.heap.size v l) (fid : Nat) (caps : Array Value) (q : Fl → Bool)
    (hrun : ∀ (args : Array Value) (W : World), (callFunc fid args).run Tryz.prog W = .ok (.enter fid args) W)
    (hf : ∀ x ∈ l, ∀ W, Below w.heap.size w W → Calls Tryz.prog fid (#[valFl x] ++ caps) W fun e w' => e = .returned (.bool (q x)) ∧ Below W.heap.size W w') :
    Calls Tryz.prog 74 #[v, .func (.func fid) #[] caps] w fun e w' => e = .returned (.bool (l.any q)) ∧ Below w.heap.size w w' := by
  have S := idxFl (w := w) (base := w.heap.size) (row := none) (Nat.le_refl _) (fun _ h => by cases h) v l h fid caps (fun _ _ => True) (fun i => !q (l.getD i default)) hrun trivial
    (fun i hi W hW _ _ => (hf l[i] (List.getElem_mem hi) W (below_row (fun _ h => by cases h) (Nat.le_refl _) hW)).mono fun _ _ ⟨e, hb⟩ => ⟨by rw [e]; simp [hi], below_grownBy hb none, fun _ => trivial⟩)
  have HZ := any_idx (n := l.length) (fun i => q (l.getD i default))
  rw [any_range q l] at HZ
  obtain ⟨z, hz⟩ : ∃ z, idxZ (fstBad (fun i => !q (l.getD i default)) l.length) = z := ⟨_, rfl⟩
  rw [hz] at S HZ
  obtain ⟨r, hr⟩ : ∃ r, l.any q = r := ⟨_, rfl⟩
  rw [hr] at HZ ⊢
  have HS := Lib.hid S
  obtain ⟨a, c, rfl⟩ := h.val
  clear hf h hz hr S
  go_enter Tryz.func74, Tryz.ntmps74
  go_wp2_with (go_at_call 110; refine HS.out.mono ?_; rintro e w2 ⟨rfl, hb2, _⟩; have HB2 := Lib.hid (below_row (fun _ h => by cases h) (Nat.le_refl _) hb2); clear hb2)
  go_ret
  exact ⟨rfl, HB2.out⟩
set_option maxHeartbeats 1000000 in
theorem hasBd (v : Value) (l : List Bd) (h : BdsR w w.heap.size v l) (fid : Nat) (caps : Array Value) (q : Bd → Bool)
    (hrun : ∀ (args : Array Value) (W : World), (callFunc fid args).run Tryz.prog W = .ok (.enter fid args) W)
    (hf : ∀ x ∈ l, ∀ W, Below w.heap.size w W → Calls Tryz.prog fid (#[valBd x] ++ caps) W fun e w' => e = .returned (.bool (q x)) ∧ Below W.heap.size W w') :
    Calls Tryz.prog 88 #[v, .func (.func fid) #[] caps] w fun e w' => e = .returned (.bool (l.any q)) ∧ Below w.heap.size w w' := by
  have S := idxBd (w := w) (base := w.heap.size) (row := none) (Nat.le_refl _) (fun _ h => by cases h) v l h fid caps (fun _ _ => True) (fun i => !q (l.getD i default)) hrun trivial
    (fun i hi W hW _ _ => (hf l[i] (List.getElem_mem hi) W (below_row (fun _ h => by cases h) (Nat.le_refl _) hW)).mono fun _ _ ⟨e, hb⟩ => ⟨by rw [e]; simp [hi], below_grownBy hb none, fun _ => trivial⟩)
  have HZ := any_idx (n := l.length) (fun i => q (l.getD i default))
  rw [any_range q l] at HZ
  obtain ⟨z, hz⟩ : ∃ z, idxZ (fstBad (fun i => !q (l.getD i default)) l.length) = z := ⟨_, rfl⟩
  rw [hz] at S HZ
  obtain ⟨r, hr⟩ : ∃ r, l.any q = r := ⟨_, rfl⟩
  rw [hr] at HZ ⊢
  have HS := Lib.hid S
  obtain ⟨a, c, rfl⟩ := h.val
  clear hf h hz hr S
  go_enter Tryz.func88, Tryz.ntmps88
  go_wp2_with (go_at_call 104; refine HS.out.mono ?_; rintro e w2 ⟨rfl, hb2, _⟩; have HB2 := Lib.hid (below_row (fun _ h => by cases h) (Nat.le_refl _) hb2); clear hb2)
  go_ret
  exact ⟨rfl, HB2.out⟩
end
end Go.Proofs.YtjcaaahbfkjipaaGreatDoor
