/- Transitions and strings in memory of the call's own (seat net: the lines of RefTwin and LReachNames that ask no reference). -/
import Derived.Test.YtopgakpggnkkmaaRowsF
import Derived.Test.YtopgakpggnkkmaaBoxes
import Derived.Test.YtopgakpggnkkmaaNetSame
set_option maxRecDepth 100000
namespace Go.Proofs.Ytopgakpggnkkmaa
open Go.RowKit

def cellT (x : Tr × Value × Value) : List Value := [.string x.1.label, x.2.1, x.2.2]
theorem cellT_len (x : Tr × Value × Value) : (cellT x).length = 3 := rfl
/-- Transitions in memory of the call's own. -/
def OwnT (w : World) (base : Nat) (v : Value) (A : List (Tr × Value × Value)) : Prop := OwnF cellT 38 3 w base v A ∧ ∀ x ∈ A, OwnI w base x.2.1 x.1.inn ∧ OwnI w base x.2.2 x.1.out
theorem OwnT.nil (w : World) (base : Nat) : OwnT w base (.slice none 0 0) [] := ⟨OwnF.nil _ _, fun x hx => by cases hx⟩
theorem OwnT.kept {w w' : World} {base : Nat} {v : Value} {A : List (Tr × Value × Value)} (h : OwnT w base v A) (hb : Below w.heap.size w w') : OwnT w' base v A :=
  ⟨h.1.kept hb, fun x hx => ⟨(h.2 x hx).1.kept hb (Nat.le_refl _), (h.2 x hx).2.kept hb (Nat.le_refl _)⟩⟩
/-- They stand where a block of another type is turned. -/
theorem OwnT.turned {w w' : World} {base b : Nat} {v : Value} {A : List (Tr × Value × Value)} (h : OwnT w base v A) (hg : w.grownBy w' (some b)) (h1 : ∀ cur, w.heap[b]? ≠ some (.cells cur 3 (0, 0))) (h2 : ∀ cur, w.heap[b]? ≠ some (.cells cur 38 (0, 0))) : OwnT w' base v A := by
  refine ⟨h.1.turned hg ?_, fun x hx => ⟨(h.2 x hx).1.turned hg h1, (h.2 x hx).2.turned hg h1⟩⟩
  rintro g m cap rfl e
  cases e
  obtain ⟨cur, hc, _⟩ := h.1.block
  exact h2 cur hc
theorem OwnT.read {w : World} {base B : Nat} {v : Value} {A : List (Tr × Value × Value)} (h : OwnT w base v A) (hB : w.heap.size ≤ B) (hl : A.length ≤ 2199023255552) (hm : ∀ x ∈ A, x.1.inn.length ≤ 17592186044416 ∧ x.1.out.length ≤ 17592186044416) : Trs w B v (A.map Prod.fst) := by
  obtain ⟨a, cap, rfl⟩ := h.1.shape
  refine ⟨a, cap, by simp, by simpa using hl, fun i hi => ?_⟩
  have hiA : i < A.length := by simpa using hi
  obtain ⟨b, o, rfl, hb, hc⟩ := h.1.col cellT_len hB i hiA
  have hx := h.2 _ (List.getElem_mem hiA)
  have hl := hm _ (List.getElem_mem hiA)
  refine ⟨b, o, A[i].2.1, A[i].2.2, rfl, hb, ?_, ?_, ?_, ?_, ?_⟩
  · have := hc 0 (by omega); rw [List.getElem_map]; exact this
  · have := hc 1 (by omega); exact this
  · have := hc 2 (by omega); exact this
  · simpa using hx.1.col (by simpa using hl.1) hB
  · simpa using hx.2.col (by simpa using hl.2) hB

theorem OwnI.turnedO {w w' : World} {base : Nat} {r : Option Nat} {v : Value} {l : List Int} (h : OwnI w base v l) (hg : w.grownBy w' r) (hne : ∀ b cur, r = some b → w.heap[b]? ≠ some (.cells cur 3 (0, 0))) : OwnI w' base v l := by
  cases r with
  | none => exact h.kept ((Below.refl _ _).grown hg (Nat.le_refl _) (fun k hk => by cases hk)) (Nat.le_refl _)
  | some b => exact h.turned hg (fun cur => hne b cur rfl)
theorem OwnT.push {w w' : World} {base : Nat} {v v' vi vo : Value} {A : List (Tr × Value × Value)} {x : Tr} (h : OwnT w base v A) (hg : w.grownBy w' v.ownBlock) (hown : w'.ownsRow base 38 3 v' (A.length + 1) (cellsF cellT A ++ cellT (x, vi, vo)))
    (hi : OwnI w base vi x.inn) (ho : OwnI w base vo x.out) : OwnT w' base v' (A ++ [(x, vi, vo)]) := by
  have hne : ∀ b cur, v.ownBlock = some b → w.heap[b]? ≠ some (.cells cur 3 (0, 0)) := by
    intro b cur hb e
    rcases h.1.val with ⟨rfl, _⟩ | ⟨g, cap, rfl, _⟩
    · cases hb
    · obtain ⟨cur', hc, _⟩ := h.1.block
      obtain rfl : g = b := Option.some.inj hb
      rw [hc] at e; injection e with e; injection e with _ e _; exact absurd e (by decide)
  refine ⟨?_, fun y hy => ?_⟩
  · unfold OwnF
    rw [List.length_append, List.length_singleton, cellsF_app]
    exact hown
  · rcases List.mem_append.1 hy with hy | hy
    · exact ⟨(h.2 y hy).1.turnedO hg hne, (h.2 y hy).2.turnedO hg hne⟩
    · obtain rfl : y = (x, vi, vo) := by simpa using hy
      exact ⟨hi.turnedO hg hne, ho.turnedO hg hne⟩

/-- Strings in memory of the call's own. -/
def OwnS (w : World) (base : Nat) (v : Value) (l : List ByteArray) : Prop := w.ownsRow base 9 1 v l.length (l.map Value.string)
theorem OwnS.kept {w w' : World} {base : Nat} {v : Value} {l : List ByteArray} (h : OwnS w base v l) (hb : Below w.heap.size w w') : OwnS w' base v l := by
  refine World.ownsRow.kept h (below_grownBy hb none) ?_
  rcases h.2 with ⟨rfl, _⟩ | ⟨g, cap, cur, rfl, _⟩
  · exact Or.inl rfl
  · exact Or.inr (by simp [Value.ownBlock])
theorem OwnS.turned {w w' : World} {base b : Nat} {v : Value} {l : List ByteArray} (h : OwnS w base v l) (hg : w.grownBy w' (some b)) (h1 : ∀ cur, w.heap[b]? ≠ some (.cells cur 9 (0, 0))) : OwnS w' base v l := by
  refine World.ownsRow.kept h hg ?_
  rcases h.2 with ⟨rfl, _⟩ | ⟨g, cap, cur, rfl, _, hg2, _⟩
  · exact Or.inl rfl
  · exact Or.inr fun e => by cases e; exact h1 cur hg2
theorem OwnS.shape {w : World} {base : Nat} {v : Value} {l : List ByteArray} (h : OwnS w base v l) : ∃ a cap, v = .slice a l.length cap := by
  rcases h.2 with ⟨rfl, h0⟩ | ⟨g, cap, cur, rfl, _⟩
  · exact ⟨none, 0, by rw [h0]⟩
  · exact ⟨_, cap, rfl⟩
theorem OwnS.read {w : World} {base B : Nat} {v : Value} {l : List ByteArray} (h : OwnS w base v l) (hB : w.heap.size ≤ B) (hl : l.length ≤ 8796093022208) : Strs w B v l := by
  have h0 := h
  rcases h.2 with ⟨rfl, h1⟩ | ⟨g, cap, cur, rfl, hb, hg, hc, _⟩
  · obtain rfl : l = [] := List.eq_nil_of_length_eq_zero h1
    exact ColV.nil _ _ _ _
  · refine ⟨_, cap, rfl, hl, hc, fun i hi => ⟨g, 0, rfl, by have := lt_of_block hg; omega, ?_⟩⟩
    have := World.ownsRow.cellAt h0 i (by omega)
    rw [Nat.zero_add, this]
    simp [hi]
theorem info_str : (Try.prog.info? 9).map (fun i => (i.zero, i.size, i.bytes)) = some (some (.string ⟨#[]⟩), 1, 16) := by kernel_rfl
theorem info_tr : (Try.prog.info? 38).map (fun i => (i.zero, i.size, i.bytes)) = some (some (.agg #[.string ⟨#[]⟩, .slice none 0 0, .slice none 0 0]), 3, 64) := by kernel_rfl

/-- A row whose cells fill its block. -/
theorem own_lit {w : World} {base g : Nat} {l : List Int} (h : w.heap[g]? = some (.cells (l.map (Value.int .i64)).toArray 3)) (hb : base ≤ g) (hl : l.length ≤ 1000) : OwnI w base (.slice (some ⟨g, 0, none⟩) l.length l.length) l :=
  ⟨by simp, Or.inr ⟨g, l.length, _, rfl, hb, h, Nat.le_refl _, by unfold maxLen; omega, by simp, by rw [List.take_of_length_le (by simp)]⟩⟩
theorem owns_lit {w : World} {base g : Nat} {l : List ByteArray} (h : w.heap[g]? = some (.cells (l.map Value.string).toArray 9)) (hb : base ≤ g) (hl : l.length ≤ 1000) : OwnS w base (.slice (some ⟨g, 0, none⟩) l.length l.length) l :=
  ⟨by simp, Or.inr ⟨g, l.length, _, rfl, hb, h, Nat.le_refl _, by unfold maxLen; omega, by simp, by rw [List.take_of_length_le (by simp)]⟩⟩
theorem ownt_lit {w : World} {base g : Nat} {A : List (Tr × Value × Value)} (h : w.heap[g]? = some (.cells (cellsF cellT A).toArray 38)) (hb : base ≤ g) (hl : A.length ≤ 1000) : OwnF cellT 38 3 w base (.slice (some ⟨g, 0, none⟩) A.length A.length) A := by
  have hc := cellsF_len cellT_len A
  exact ⟨hc, Or.inr ⟨g, A.length, _, rfl, hb, h, Nat.le_refl _, by unfold maxLen; omega, by simp [hc], by simp [← hc]⟩⟩

/-- A transition's cells set anew. -/
theorem OwnT.set {w : World} {base g n cap : Nat} {A : List (Tr × Value × Value)} (h : OwnT w base (.slice (some ⟨g, 0, none⟩) n cap) A) {i : Nat} (hi : i < A.length) {vo : Value} {l : List Int} (ho : OwnI w base vo l) :
    OwnT (w.setCell ⟨g, i * 3 + 2, none⟩ vo) base (.slice (some ⟨g, 0, none⟩) n cap) (A.set i (⟨A[i].1.label, A[i].1.inn, l⟩, A[i].2.1, vo)) := by
  have hne : ∀ cur, w.heap[g]? ≠ some (.cells cur 3 (0, 0)) := by
    intro cur e
    obtain ⟨cur', hc, _⟩ := h.1.block
    rw [hc] at e; injection e with e; injection e with _ e _; exact absurd e (by decide)
  refine ⟨OwnF.set cellT_len h.1 hi (j := 2) (by omega) vo _ rfl, fun x hx => ?_⟩
  have hg := grownBy_setCell w g (i * 3 + 2) vo
  rcases List.mem_or_eq_of_mem_set hx with hx | rfl
  · exact ⟨(h.2 x hx).1.turned hg hne, (h.2 x hx).2.turned hg hne⟩
  · exact ⟨(h.2 _ (List.getElem_mem hi)).1.turned hg hne, ho.turned hg hne⟩
/-- Transitions put behind. -/
theorem OwnT.app {w w' : World} {base : Nat} {v v' : Value} {A B : List (Tr × Value × Value)} (h : OwnT w base v A) (hg : w.grownBy w' v.ownBlock) (hown : w'.ownsRow base 38 3 v' (A.length + B.length) (cellsF cellT A ++ cellsF cellT B))
    (hB : ∀ x ∈ B, OwnI w base x.2.1 x.1.inn ∧ OwnI w base x.2.2 x.1.out) : OwnT w' base v' (A ++ B) := by
  have hne : ∀ b cur, v.ownBlock = some b → w.heap[b]? ≠ some (.cells cur 3 (0, 0)) := by
    intro b cur hb e
    rcases h.1.val with ⟨rfl, _⟩ | ⟨g, cap, rfl, _⟩
    · cases hb
    · obtain ⟨cur', hc, _⟩ := h.1.block
      obtain rfl : g = b := Option.some.inj hb
      rw [hc] at e; injection e with e; injection e with _ e _; exact absurd e (by decide)
  refine ⟨?_, fun y hy => ?_⟩
  · unfold OwnF
    rw [List.length_append, cellsF_app2]
    exact hown
  · rcases List.mem_append.1 hy with hy | hy
    · exact ⟨(h.2 y hy).1.turnedO hg hne, (h.2 y hy).2.turnedO hg hne⟩
    · exact ⟨(hB y hy).1.turnedO hg hne, (hB y hy).2.turnedO hg hne⟩
theorem OwnS.turnedT {w w' : World} {base : Nat} {r : Option Nat} {v : Value} {l : List ByteArray} (h : OwnS w base v l) (hg : w.grownBy w' r) (hne : ∀ b cur, r = some b → w.heap[b]? ≠ some (.cells cur 9 (0, 0))) : OwnS w' base v l := by
  cases r with
  | none => exact h.kept ((Below.refl _ _).grown hg (Nat.le_refl _) (fun k hk => by cases hk))
  | some b => exact h.turned hg (fun cur => hne b cur rfl)

theorem own_net {w : World} {base : Nat} {vs vt : Value} {A : List (Tr × Value × Value)} {n : Nt} (hS : OwnS w base vs n.places) (hT : OwnT w base vt A) (hA : A.map Prod.fst = n.trans) (h1 : n.places.length ≤ 1000) (h2 : A.length ≤ 1000)
    (h3 : ∀ x ∈ A, x.1.inn.length ≤ 1000 ∧ x.1.out.length ≤ 1000) : NtR w w.heap.size vs vt n :=
  ⟨hS.read (Nat.le_refl _) (by omega), by rw [← hA]; exact hT.read (Nat.le_refl _) (by omega) (fun x hx => by have := h3 x hx; omega)⟩
/-- What a store into a net's box leaves. -/
theorem box_net {w : World} {base b : Nat} {vs vt v0 : Value} {l : List ByteArray} {A : List (Tr × Value × Value)} {x y : Value} (hb : w.heap[b]? = some (.cells #[vs, v0, x, y] 28)) (hS : OwnS w base vs l) (hT : OwnT w base vt A) :
    (w.setCell ⟨b, 1, none⟩ vt).heap[b]? = some (.cells #[vs, vt, x, y] 28) ∧ OwnS (w.setCell ⟨b, 1, none⟩ vt) base vs l ∧ OwnT (w.setCell ⟨b, 1, none⟩ vt) base vt A := by
  refine ⟨heap_setCell_self (i := 1) vt hb, hS.turned (grownBy_setCell _ _ _ _) ?_, hT.turned (grownBy_setCell _ _ _ _) ?_ ?_⟩
  all_goals (intro cur e; rw [hb] at e; injection e with e; injection e with _ e _; exact absurd e (by decide))

end Go.Proofs.Ytopgakpggnkkmaa
