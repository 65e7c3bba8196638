/- Instances in memory of the call's own: a row of instances, each with own rows of variables and tokens. append of any slice of structs onto an own row. -/
import Derived.Test.YtggnheekkbideaaInsR
import Derived.Test.YtggnheekkbideaaRowsK
import Derived.Test.YtggnheekkbideaaStepOwn
import Derived.Laws.MakeOwn
set_option maxRecDepth 100000
namespace Go.Proofs.Ytggnheekkbideaa
open Go.RowKit

section
variable {P : Program} (w : World) {α : Type} {f : α → List Value} {k : Nat}
/-- append(dst, src...): dst the call's own, src any slice of structs that may be read. -/
theorem run_append_slF (hf : ∀ x, (f x).length = k) (h1 : ∀ x, ∀ u ∈ f x, u.oneCell' = true) (base : Nat) (t ty e : TypeId) (i : TypeInfo) (z : Value) (bytes : Nat) (ht : P.underlying t = some (.slice e)) (hi : P.info? e = some i) (hz : i.zero = some z)
    (hsize : i.size = k) (hby : i.bytes = bytes) (hzs : z.cells.size = k) (hk : 0 < k)
    (v : Value) (n : Nat) (xs : List Value) (hown : w.ownsRow base e k v n xs) {L B : Nat} {sv : Value} {l : List α} (hsv : SlF f k L w B sv l)
    (h63 : n + l.length ≤ maxLen) (hbytes : (n + l.length) * bytes ≤ 140737488355328) (hbase : base ≤ w.heap.size) :
    ∃ v' w', (Builtin.append_ #[t, t] ty #[v, sv]).run P w = .ok v' w' ∧ w'.ownsRow base e k v' (n + l.length) (xs ++ cellsF f l) ∧ w.grownBy w' v.ownBlock ∧ (v'.ownBlock = v.ownBlock ∨ v'.ownBlock = some w.heap.size) := by
  obtain ⟨a, cap, rfl, hl, _, hc⟩ := hsv
  cases a with
  | none =>
    have hl0 : l = [] := by
      cases l with
      | nil => rfl
      | cons x l => obtain ⟨b, o, hb, _⟩ := hc 0 (by simp); cases hb
    subst hl0
    exact ⟨v, w, run_append_none w base t ty e i k ht hi v n cap xs hown, by simpa [cellsF] using hown, ⟨rfl, rfl, rfl, Nat.le_refl _, fun _ _ _ => rfl⟩, Or.inl rfl⟩
  | some ad =>
    have hnews : ∀ j u, (cellsF f l)[j]? = some u → w.cell? (ad.add j) = some u := by
      intro j u hu
      have hj : j < (cellsF f l).length := (List.getElem?_eq_some_iff.1 hu).1
      rw [cellsF_len hf] at hj
      have hi : j / k < l.length := (Nat.div_lt_iff_lt_mul hk).2 hj
      obtain ⟨b, o, hb, _, hcc⟩ := hc (j / k) hi
      cases hb
      have hm : j % k < k := Nat.mod_lt _ hk
      have e := Nat.div_add_mod' j k
      rw [add_addrK, show o + j = o + (j / k) * k + j % k by omega, hcc _ hm, ← hu]
      have := cellsF_at hf l (j / k) (j % k) hi hm
      rw [e] at this
      exact this.symm
    obtain ⟨v', w', hr, g1, g2, _, g3⟩ := run_append_own_at (P := P) w base t ty e i z k bytes ht hi hz hsize hby hzs hk v n xs hown ad l.length cap (cellsF f l) (cellsF_len hf l) hnews
      (cellsF_one' h1 l) h63 hbytes hbase
    exact ⟨v', w', hr, g1, g2, g3⟩

theorem wpList_append_slF {ops : Array Oper} {rest : List Oper} {o : Oper} {a : Act} {Q : Exit → Act → World → Prop} (hgd : o.guard = none) (s x : Operand) (t : TypeId)
    (ho : o.op = .call { callee := .builtin .append, args := #[s, x], argTypes := #[t, t] })
    (hf : ∀ x, (f x).length = k) (h1 : ∀ x, ∀ u ∈ f x, u.oneCell' = true) (base : Nat) (e : TypeId) (i : TypeInfo) (z : Value) (bytes : Nat) (ht : P.underlying t = some (.slice e)) (hi : P.info? e = some i) (hz : i.zero = some z)
    (hsize : i.size = k) (hby : i.bytes = bytes) (hzs : z.cells.size = k) (hk : 0 < k)
    (v : Value) (n : Nat) (xs : List Value) (hs : a.eval s = v) (hown : w.ownsRow base e k v n xs) {L B : Nat} {sv : Value} {l : List α} (hx : a.eval x = sv) (hsv : SlF f k L w B sv l)
    (h63 : n + l.length ≤ maxLen) (hbytes : (n + l.length) * bytes ≤ 140737488355328) (hbase : base ≤ w.heap.size)
    (h : ∀ v' w', w'.ownsRow base e k v' (n + l.length) (xs ++ cellsF f l) → w.grownBy w' v.ownBlock → (v'.ownBlock = v.ownBlock ∨ v'.ownBlock = some w.heap.size) → wpList P ops Q rest (a.put o.dst v') w') : wpList P ops Q (o :: rest) a w := by
  obtain ⟨v', w', hr, h2, h3, h4⟩ := run_append_slF (P := P) w hf h1 base t o.type e i z bytes ht hi hz hsize hby hzs hk v n xs hown hsv h63 hbytes hbase
  refine wpList_plain hgd fun K hK => ?_
  unfold Oper.wp execOp
  simp only [ho, resolve, invoke, builtin, Sem.run_bind, Sem.run_pure, Result.andThen_ok, List.map_toArray, List.map_cons, List.map_nil, hs, hx, hr]
  exact hK _ _ (h v' w' h2 h3 h4)
end

/-- An own row may be read. -/
theorem OwnF.sl {α : Type} {f : α → List Value} {k : Nat} {e : TypeId} {w : World} {base B L : Nat} (hf : ∀ x, (f x).length = k) {v : Value} {A : List α} (h : OwnF f e k w base v A) (hB : ∀ g, v.ownBlock = .some g → g < B) (hL : A.length ≤ L) : SlF f k L w B v A := by
  obtain ⟨a, cap, rfl⟩ := OwnF.shape h
  refine ⟨a, cap, rfl, hL, OwnF.cap h, fun i hi => ?_⟩
  obtain ⟨g, rfl, _, _, _⟩ := OwnF.some h (by omega)
  exact ⟨g, 0, rfl, hB g rfl, fun j hj => by rw [Nat.zero_add]; exact h.at hf hi hj⟩
theorem OwnF.lt {α : Type} {f : α → List Value} {k : Nat} {e : TypeId} {w : World} {base : Nat} {v : Value} {A : List α} (h : OwnF f e k w base v A) : ∀ g, v.ownBlock = .some g → base ≤ g ∧ g < w.heap.size := World.ownsRow.lt h
/-- It stands where its block stands. -/
theorem OwnF.keepB {α : Type} {f : α → List Value} {k : Nat} {e : TypeId} {w w' : World} {base : Nat} {v : Value} {A : List α} (h : OwnF f e k w base v A) (hk : ∀ g, v.ownBlock = .some g → w'.heap[g]? = w.heap[g]?) : OwnF f e k w' base v A := by
  refine ⟨h.1, ?_⟩
  rcases h.2 with h0 | ⟨g, cap, cur, rfl, hb, hg, rest⟩
  · exact Or.inl h0
  · exact Or.inr ⟨g, cap, cur, rfl, hb, (hk g rfl).trans hg, rest⟩

/-- An instance and where its rows lie. -/
structure Ih where
  x : Ins
  va : Option Addr
  vc : Nat
  ta : Option Addr
  tc : Nat
instance : Inhabited Ih := ⟨⟨default, none, 0, none, 0⟩⟩
abbrev vvI (h : Ih) : Value := .slice h.va h.x.vars.length h.vc
abbrev tvI (h : Ih) : Value := .slice h.ta h.x.toks.length h.tc
def cellI (h : Ih) : List Value := [.int .i64 h.x.id, .string h.x.model, .int .u8 h.x.state, vvI h, tvI h]
theorem cellI_len : ∀ h : Ih, (cellI h).length = 5 := fun _ => rfl
theorem cellI_one (h : Ih) : ∀ u ∈ cellI h, u.oneCell' = true := by
  intro u hu
  simp only [cellI, List.mem_cons, List.mem_nil_iff, or_false] at hu
  rcases hu with rfl | rfl | rfl | rfl | rfl <;> rfl

abbrev RowI (w : World) (lo : Nat) (v : Value) (R : List Ih) : Prop := OwnF cellI 45 5 w lo v R
abbrev RowB (w : World) (lo : Nat) (v : Value) (A : List Bnd) : Prop := OwnF cellB 85 5 w lo v A
abbrev RowT (w : World) (lo : Nat) (v : Value) (A : List Tok) : Prop := OwnF cellT 41 9 w lo v A

/-- Some instances' rows are the call's own, and no two of them share one. -/
structure OwnH (w : World) (lo : Nat) (R : List Ih) : Prop where
  vars : ∀ h ∈ R, RowB w lo (vvI h) h.x.vars
  toks : ∀ h ∈ R, RowT w lo (tvI h) h.x.toks
  apart : R.Pairwise (fun a b => ∀ g, (tvI a).ownBlock = some g → (tvI b).ownBlock ≠ some g)

/-- Instances in memory of the call's own. -/
structure InsO (w : World) (lo : Nat) (v : Value) (R : List Ih) : Prop where
  row : RowI w lo v R
  own : OwnH w lo R

/-- All that it has lies below hi. -/
structure Und (hi : Nat) (v : Value) (R : List Ih) : Prop where
  row : ∀ g, v.ownBlock = some g → g < hi
  vars : ∀ h ∈ R, ∀ g, (vvI h).ownBlock = some g → g < hi
  toks : ∀ h ∈ R, ∀ g, (tvI h).ownBlock = some g → g < hi

section
variable {w w' : World} {lo hi B : Nat} {v : Value} {R : List Ih}
theorem OwnH.nil : OwnH w lo [] := ⟨fun _ h => absurd h List.not_mem_nil, fun _ h => absurd h List.not_mem_nil, List.Pairwise.nil⟩
theorem OwnH.keep (h : OwnH w lo R) (hk : ∀ g, lo ≤ g → g < w.heap.size → (∀ q, w.heap[g]? = some q → (∃ c, q = .cells c 85 (0, 0)) ∨ (∃ c, q = .cells c 41 (0, 0)) → w'.heap[g]? = w.heap[g]?)) : OwnH w' lo R := by
  refine ⟨fun x hx => (h.vars x hx).keepB fun g hg => ?_, fun x hx => (h.toks x hx).keepB fun g hg => ?_, h.apart⟩
  · obtain ⟨h1, h2⟩ := OwnF.lt (h.vars x hx) g hg
    rcases (h.vars x hx).2 with ⟨e, _⟩ | ⟨g', cap, cur, e, _, hgg, _⟩
    · rw [e] at hg; cases hg
    · rw [e] at hg; cases hg
      exact hk _ h1 h2 _ hgg (Or.inl ⟨_, rfl⟩)
  · obtain ⟨h1, h2⟩ := OwnF.lt (h.toks x hx) g hg
    rcases (h.toks x hx).2 with ⟨e, _⟩ | ⟨g', cap, cur, e, _, hgg, _⟩
    · rw [e] at hg; cases hg
    · rw [e] at hg; cases hg
      exact hk _ h1 h2 _ hgg (Or.inr ⟨_, rfl⟩)
theorem OwnH.kept (h : OwnH w lo R) (hb : Below w.heap.size w w') : OwnH w' lo R := h.keep fun g _ hg _ _ _ => hb.block g hg
/-- It stands where a block of another type turns. -/
theorem OwnH.grown {c : Array Value} {t : TypeId} {b : Nat} {fr : Nat × Nat} (h : OwnH w lo R) (hg : w.grownBy w' (some b)) (hb : w.heap[b]? = some (.cells c t fr)) (h1 : t ≠ 85) (h2 : t ≠ 41) : OwnH w' lo R :=
  h.keep fun g _ hlt q hq ht => hg.block g hlt (fun e => by
    injection e with e
    subst e
    rw [hb] at hq
    injection hq with hq
    subst hq
    rcases ht with ⟨c', e⟩ | ⟨c', e⟩
    · injection e with _ e; exact h1 e
    · injection e with _ e; exact h2 e)
theorem OwnH.lower {lo' : Nat} (h : OwnH w lo R) (hl : lo' ≤ lo) : OwnH w lo' R := ⟨fun x hx => OwnF.lower (h.vars x hx) hl, fun x hx => OwnF.lower (h.toks x hx) hl, h.apart⟩
/-- One instance more, whose rows are newer. -/
theorem OwnH.snoc {x : Ih} (h : OwnH w lo R) (hv : RowB w lo (vvI x) x.x.vars) (ht : RowT w lo (tvI x) x.x.toks) (hn : ∀ y ∈ R, ∀ g, (tvI y).ownBlock = some g → (tvI x).ownBlock ≠ some g) : OwnH w lo (R ++ [x]) := by
  refine ⟨fun y hy => ?_, fun y hy => ?_, List.pairwise_append.2 ⟨h.apart, List.pairwise_singleton _ _, fun a ha b hb => ?_⟩⟩
  · rcases List.mem_append.1 hy with h' | h'
    · exact h.vars y h'
    · rw [List.mem_singleton.1 h']; exact hv
  · rcases List.mem_append.1 hy with h' | h'
    · exact h.toks y h'
    · rw [List.mem_singleton.1 h']; exact ht
  · rw [List.mem_singleton.1 hb]; exact hn a ha

theorem InsO.kept (h : InsO w lo v R) (hb : Below w.heap.size w w') : InsO w' lo v R := ⟨OwnF.kept h.row hb, h.own.kept hb⟩
theorem InsO.und (h : InsO w lo v R) : Und w.heap.size v R := ⟨fun g hg => (OwnF.lt h.row g hg).2, fun x hx g hg => (OwnF.lt (h.own.vars x hx) g hg).2, fun x hx g hg => (OwnF.lt (h.own.toks x hx) g hg).2⟩
theorem Und.mono {hi' : Nat} (h : Und hi v R) (hh : hi ≤ hi') : Und hi' v R := ⟨fun g hg => Nat.lt_of_lt_of_le (h.row g hg) hh, fun x hx g hg => Nat.lt_of_lt_of_le (h.vars x hx g hg) hh, fun x hx g hg => Nat.lt_of_lt_of_le (h.toks x hx g hg) hh⟩
/-- It stands where its range stands. -/
theorem InsO.range (h : InsO w lo v R) (hu : Und hi v R) (hk : ∀ g, lo ≤ g → g < hi → w'.heap[g]? = w.heap[g]?) : InsO w' lo v R :=
  ⟨h.row.keepB fun g hg => hk g (OwnF.lt h.row g hg).1 (hu.row g hg),
   fun x hx => (h.own.vars x hx).keepB fun g hg => hk g (OwnF.lt (h.own.vars x hx) g hg).1 (hu.vars x hx g hg),
   fun x hx => (h.own.toks x hx).keepB fun g hg => hk g (OwnF.lt (h.own.toks x hx) g hg).1 (hu.toks x hx g hg), h.own.apart⟩

/-- Not too much for what comes. -/
def SmL (l : List Ins) : Prop := l.length ≤ 1048576 ∧ ∀ x ∈ l, x.vars.length ≤ 1048576 ∧ x.toks.length ≤ 1048576

/-- It may be read. -/
theorem InsO.read (h : InsO w lo v R) (hu : Und B v R) (hl : SmL (R.map (·.x))) : InsR w B v (R.map (·.x)) := by
  obtain ⟨a, cap, rfl⟩ := OwnF.shape h.row
  obtain ⟨hl1, hl2⟩ := hl
  refine ⟨a, cap, by rw [List.length_map], by omega, by rw [List.length_map]; exact OwnF.cap h.row, fun i hi => ?_⟩
  rw [List.length_map] at hi
  obtain ⟨g, rfl, _, _, _⟩ := OwnF.some h.row (by omega)
  have hm : R[i] ∈ R := List.getElem_mem hi
  have hx : (R.map (·.x))[i]'(by rw [List.length_map]; exact hi) = R[i].x := by simp
  obtain ⟨s1, s2⟩ := hl2 R[i].x (List.mem_map_of_mem hm)
  have hat : ∀ j, j < 5 → w.cell? ⟨g, i * 5 + j, none⟩ = (cellI R[i])[j]? := fun j hj => OwnF.at cellI_len h.row hi hj
  refine ⟨g, 0, vvI R[i], tvI R[i], rfl, hu.row g rfl, ?_, ?_, ?_, ?_, ?_, ?_, ?_⟩
  · rw [hx, Nat.zero_add]; exact hat 0 (by omega)
  · rw [hx, Nat.zero_add]; exact hat 1 (by omega)
  · rw [hx, Nat.zero_add]; exact hat 2 (by omega)
  · rw [Nat.zero_add]; exact hat 3 (by omega)
  · rw [Nat.zero_add]; exact hat 4 (by omega)
  · rw [hx]; exact OwnF.sl cellB_len (h.own.vars _ hm) (hu.vars _ hm) (by omega)
  · rw [hx]; exact OwnF.sl cellT_len (h.own.toks _ hm) (hu.toks _ hm) (by omega)
end
end Go.Proofs.Ytggnheekkbideaa
