/- The walk of the closed law ReachNames. -/
import Derived.Test.YtapnkkoplnhleaaDoorLReachHome
import Derived.Test.YtapnkkoplnhleaaDoorRefTwin
set_option maxRecDepth 100000
namespace Go.Proofs.YtapnkkoplnhleaaDoor
open Go.RowKit

def place3 : List ByteArray := [⟨#[40, 105, 110, 41]⟩, ⟨#[97]⟩, ⟨#[40, 111, 117, 116, 41]⟩]
def trS : Tr := ⟨⟨#[115]⟩, [0], [1]⟩
def trE : Tr := ⟨⟨#[101]⟩, [1], [2]⟩
def emptyN : Nt := ⟨[], [], 0, 0⟩
def moreN : Nt := ⟨place3, [trS, trE, ⟨⟨#[109]⟩, [], [1]⟩], 0, 2⟩
def ringN : Nt := ⟨place3, [trS, ⟨⟨#[101]⟩, [1], [0]⟩], 0, 2⟩
def twoN : Nt := ⟨place3, [trS, trE, ⟨⟨#[120]⟩, [0], []⟩, ⟨⟨#[121]⟩, [0, 1], []⟩], 0, 2⟩
def ringG : Gr := ⟨[[1, 0, 0], [0, 1, 0]], [[(0, 1)], [(1, 0)]], [(0, 0), (0, 0)]⟩
def twoG : Gr := ⟨[[1, 0, 0], [0, 1, 0], [0, 0, 0], [0, 0, 1]], [[(0, 1), (2, 2)], [(1, 3)], [], []], [(0, 0), (0, 0), (2, 0), (1, 1)]⟩
theorem names_2 : expR smallC 2 = .inl 170 := by rfl
theorem names_0 : expR smallC 0 = .inl 1 := by rfl
theorem names_1025 : expR smallC 1025 = .inl 1 := by rfl
theorem names_e : expR emptyN 9 = .inl 1 := by rfl
theorem names_1024 : expR smallC 1024 = .inr smallG := by rfl
theorem names_ring : expR ringN 9 = .inr ringG := by rfl
theorem names_two : expR twoN 9 = .inr twoG := by rfl
theorem ringX : XFull ringN 9 ringG := explore_all (n := ringN) (most := 9) (by rfl) (by omega) (by omega) (by rfl)
theorem twoX : XFull twoN 9 twoG := explore_all (n := twoN) (most := 9) (by rfl) (by omega) (by omega) (by rfl)

theorem fire_m (a : Int) (h0 : 0 ≤ a) (h1 : a + 1 ≤ 2147483647) : (moreN.tr 2).fireE [1, a, 0] = (0, [1, a + 1, 0]) := by
  have e : moreN.tr 2 = ⟨⟨#[109]⟩, [], [1]⟩ := rfl
  rw [e]
  have h2 : ¬ (2147483647 < a + 1) := by omega
  simp [Tr.fireE, Tr.enB, decs, incs, addI, getI, h2]
theorem row_m : ∀ (k : Nat) (a c : Int), 0 ≤ a → a + k ≤ 2147483647 → rowGo moreN [1, a, 0] (List.replicate k 2) c = ([1, a + k, 0], c + k, 0)
  | 0, a, c, _, _ => by simp [rowGo]
  | k + 1, a, c, h0, h1 => by
    have hf := fire_m a h0 (by omega)
    rw [List.replicate_succ]
    simp only [rowGo]
    rw [hf, if_pos rfl, row_m k (a + 1) (c + 1) (by omega) (by omega)]
    refine Prod.ext ?_ (Prod.ext ?_ rfl)
    · simp; omega
    · simp; omega
theorem names_more : expR moreN 1024 = .inl 170 := by
  rcases expR_cases moreN 1024 with ⟨c, hc, ⟨rfl, h⟩ | ⟨rfl, _⟩⟩ | ⟨g, hc, hok, _, _, hg⟩
  · have : moreN.okB = true := by rfl
    rcases h with h | h | h
    · rw [this] at h; cases h
    · omega
    · omega
  · exact hc
  · exfalso
    have X := explore_all hok (by decide) (by decide) hg
    have hr : mkAt g 0 = [1, 0, 0] := X.ok.root
    have hb : (List.replicate 2000 (2 : Int)).any moreN.badT = false := by
      rw [List.any_eq_false]
      intro x hx
      rw [List.eq_of_mem_replicate hx]
      decide
    have hrow := row_m 2000 0 0 (by omega) (by omega)
    obtain ⟨j, hj, hm, _⟩ := X.short (List.replicate 2000 2) [1, 0, 0] 0 0 X.ok.pos hr hb (by rw [hrow])
    rw [hrow] at hm
    have hle := X.ok.le
    have hmk := (X.ok.mark j hj).2
    rw [← mkAt_eq hj, hm] at hmk
    have := hmk 2000 (by simp)
    have h1024 : (1024 : Int).toNat = 1024 := rfl
    omega

theorem ring_homes : homesE ringG.edges = [0, 1] := by
  have e01 : Edg ringG.edges 0 1 := ⟨(0, 1), by simp [ringG], rfl⟩
  have e10 : Edg ringG.edges 1 0 := ⟨(1, 0), by simp [ringG], rfl⟩
  have h0 : homeB ringG.edges 0 = true := by
    rw [homeB_iff]
    intro i hi
    have hi3 : i < 2 := hi
    rcases (by omega : i = 0 ∨ i = 1) with rfl | rfl
    · exact Leads.refl 0
    · exact Leads.one e10
  have h1 : homeB ringG.edges 1 = true := by
    rw [homeB_iff]
    intro i hi
    have hi3 : i < 2 := hi
    rcases (by omega : i = 0 ∨ i = 1) with rfl | rfl
    · exact Leads.one e01
    · exact Leads.refl 1
  unfold homesE homesN
  have : List.range ringG.edges.length = [0, 1] := by rfl
  rw [this]
  simp [h0, h1]
theorem two_homes : homesE twoG.edges = [] := dead_many (by decide)

/-- A row whose cells fill its block. -/
theorem own_lit {w : World} {base g : Nat} {l : List Int} (h : w.heap[g]? = some (.cells (l.map (Value.int .i64)).toArray 3)) (hb : base ≤ g) (hl : l.length ≤ 1000) : OwnI w base (.slice (some ⟨g, 0, none⟩) l.length l.length) l :=
  ⟨by simp, Or.inr ⟨g, l.length, _, rfl, hb, h, Nat.le_refl _, by unfold maxLen; omega, by simp, by rw [List.take_of_length_le (by simp)]⟩⟩
theorem owns_lit {w : World} {base g : Nat} {l : List ByteArray} (h : w.heap[g]? = some (.cells (l.map Value.string).toArray 9)) (hb : base ≤ g) (hl : l.length ≤ 1000) : OwnS w base (.slice (some ⟨g, 0, none⟩) l.length l.length) l :=
  ⟨by simp, Or.inr ⟨g, l.length, _, rfl, hb, h, Nat.le_refl _, by unfold maxLen; omega, by simp, by rw [List.take_of_length_le (by simp)]⟩⟩
theorem ownt_lit {w : World} {base g : Nat} {A : List (Tr × Value × Value)} (h : w.heap[g]? = some (.cells (cellsF cellT A).toArray 65)) (hb : base ≤ g) (hl : A.length ≤ 1000) : OwnF cellT 65 3 w base (.slice (some ⟨g, 0, none⟩) A.length A.length) A := by
  have hc := cellsF_len cellT_len A
  exact ⟨hc, Or.inr ⟨g, A.length, _, rfl, hb, h, Nat.le_refl _, by unfold maxLen; omega, by simp [hc], by simp [← hc]⟩⟩

/-- The small net in memory of the call's own. -/
def SmallOwn (w : World) (e : Ending) (w' : World) : Prop :=
  ∃ vp vt i1 o1 i2 o2, e = .returned (.agg #[vp, vt, .int .i64 0, .int .i64 2]) ∧ OwnS w' w.heap.size vp place3 ∧ OwnT w' w.heap.size vt [(trS, i1, o1), (trE, i2, o2)] ∧ Below w.heap.size w w'
set_option maxHeartbeats 400000 in
theorem small_own (w : World) : Calls Tryd.prog 33 #[] w (SmallOwn w) := by
  go_enter Tryd.func33, Tryd.ntmps33
  go_wp2_with fail
  refine bodyPost_ret (v := .agg #[.slice (some ⟨w.heap.size + 1, 0, none⟩) 3 3, .slice (some ⟨w.heap.size + 6, 0, none⟩) 2 2, .int .i64 0, .int .i64 2]) (by simp [results, Tryd.results33, go_sem]) rfl ⟨_, _, .slice (some ⟨w.heap.size + 2, 0, none⟩) 1 1, .slice (some ⟨w.heap.size + 3, 0, none⟩) 1 1, .slice (some ⟨w.heap.size + 4, 0, none⟩) 1 1, .slice (some ⟨w.heap.size + 5, 0, none⟩) 1 1, rfl, ?_, ⟨?_, ?_⟩, ?_⟩
  · refine owns_lit (l := place3) ?_ (by omega) (by decide)
    all_goals (simp only [alloc_get', World.size_alloc]; repeat (first | rfl | rw [if_pos trivial] | rw [if_pos (by omega)] | rw [if_neg (by omega)]))
  · refine ownt_lit (A := [(trS, .slice (some ⟨w.heap.size + 2, 0, none⟩) 1 1, .slice (some ⟨w.heap.size + 3, 0, none⟩) 1 1), (trE, .slice (some ⟨w.heap.size + 4, 0, none⟩) 1 1, .slice (some ⟨w.heap.size + 5, 0, none⟩) 1 1)]) ?_ (by omega) (by simp)
    all_goals (simp only [alloc_get', World.size_alloc]; repeat (first | rfl | rw [if_pos trivial] | rw [if_pos (by omega)] | rw [if_neg (by omega)]))
  · intro x hx
    simp only [List.mem_cons, List.mem_nil_iff, or_false] at hx
    rcases hx with rfl | rfl
    · refine ⟨own_lit (l := [0]) ?_ (by omega) (by decide), own_lit (l := [1]) ?_ (by omega) (by decide)⟩
      all_goals (simp only [alloc_get', World.size_alloc]; repeat (first | rfl | rw [if_pos trivial] | rw [if_pos (by omega)] | rw [if_neg (by omega)]))
    · refine ⟨own_lit (l := [1]) ?_ (by omega) (by decide), own_lit (l := [2]) ?_ (by omega) (by decide)⟩
      all_goals (simp only [alloc_get', World.size_alloc]; repeat (first | rfl | rw [if_pos trivial] | rw [if_pos (by omega)] | rw [if_neg (by omega)]))
  · repeat (first | exact Below.refl _ _ | refine Below.alloc ?_ (by simp <;> omega) _)

/-- A transition's cells set anew. -/
theorem OwnT.set {w : World} {base g n cap : Nat} {A : List (Tr × Value × Value)} (h : OwnT w base (.slice (some ⟨g, 0, none⟩) n cap) A) {i : Nat} (hi : i < A.length) {vo : Value} {l : List Int} (ho : OwnI w base vo l) :
    OwnT (w.setCell ⟨g, i * 3 + 2, none⟩ vo) base (.slice (some ⟨g, 0, none⟩) n cap) (A.set i (⟨A[i].1.label, A[i].1.inn, l⟩, A[i].2.1, vo)) := by
  have hne : ∀ cur, w.heap[g]? ≠ some (.cells cur 3 (0, 0)) := by
    intro cur e
    obtain ⟨cur', hc, _⟩ := h.1.block
    rw [hc] at e; injection e with e; injection e with _ e _; exact absurd e (by decide)
  refine ⟨OwnF.set cellT_len h.1 hi (j := 2) (by omega) vo _ rfl, fun x hx => ?_⟩
  have hg := grownBy_setCell w g (i * 3 + 2) vo
  rcases List.mem_or_eq_of_mem_set hx with hx | rfl
  · exact ⟨(h.2 x hx).1.turned hg hne, (h.2 x hx).2.turned hg hne⟩
  · exact ⟨(h.2 _ (List.getElem_mem hi)).1.turned hg hne, ho.turned hg hne⟩
/-- Transitions put behind. -/
theorem OwnT.app {w w' : World} {base : Nat} {v v' : Value} {A B : List (Tr × Value × Value)} (h : OwnT w base v A) (hg : w.grownBy w' v.ownBlock) (hown : w'.ownsRow base 65 3 v' (A.length + B.length) (cellsF cellT A ++ cellsF cellT B))
    (hB : ∀ x ∈ B, OwnI w base x.2.1 x.1.inn ∧ OwnI w base x.2.2 x.1.out) : OwnT w' base v' (A ++ B) := by
  have hne : ∀ b cur, v.ownBlock = some b → w.heap[b]? ≠ some (.cells cur 3 (0, 0)) := by
    intro b cur hb e
    rcases h.1.val with ⟨rfl, _⟩ | ⟨g, cap, rfl, _⟩
    · cases hb
    · obtain ⟨cur', hc, _⟩ := h.1.block
      obtain rfl : g = b := Option.some.inj hb
      rw [hc] at e; injection e with e; injection e with _ e _; exact absurd e (by decide)
  refine ⟨?_, fun y hy => ?_⟩
  · unfold OwnF
    rw [List.length_append, cellsF_app2]
    exact hown
  · rcases List.mem_append.1 hy with hy | hy
    · exact ⟨(h.2 y hy).1.turnedO hg hne, (h.2 y hy).2.turnedO hg hne⟩
    · exact ⟨(hB y hy).1.turnedO hg hne, (hB y hy).2.turnedO hg hne⟩
theorem OwnS.turnedT {w w' : World} {base : Nat} {r : Option Nat} {v : Value} {l : List ByteArray} (h : OwnS w base v l) (hg : w.grownBy w' r) (hne : ∀ b cur, r = some b → w.heap[b]? ≠ some (.cells cur 9 (0, 0))) : OwnS w' base v l := by
  cases r with
  | none => exact h.kept ((Below.refl _ _).grown hg (Nat.le_refl _) (fun k hk => by cases hk))
  | some b => exact h.turned hg (fun cur => hne b cur rfl)

theorem own_net {w : World} {base : Nat} {vs vt : Value} {A : List (Tr × Value × Value)} {n : Nt} (hS : OwnS w base vs n.places) (hT : OwnT w base vt A) (hA : A.map Prod.fst = n.trans) (h1 : n.places.length ≤ 1000) (h2 : A.length ≤ 1000)
    (h3 : ∀ x ∈ A, x.1.inn.length ≤ 1000 ∧ x.1.out.length ≤ 1000) : NtR w w.heap.size vs vt n :=
  ⟨hS.read (Nat.le_refl _) (by omega), by rw [← hA]; exact hT.read (Nat.le_refl _) (by omega) (fun x hx => by have := h3 x hx; omega)⟩
/-- What a store into a net's box leaves. -/
theorem box_net {w : World} {base b : Nat} {vs vt v0 : Value} {l : List ByteArray} {A : List (Tr × Value × Value)} {x y : Value} (hb : w.heap[b]? = some (.cells #[vs, v0, x, y] 25)) (hS : OwnS w base vs l) (hT : OwnT w base vt A) :
    (w.setCell ⟨b, 1, none⟩ vt).heap[b]? = some (.cells #[vs, vt, x, y] 25) ∧ OwnS (w.setCell ⟨b, 1, none⟩ vt) base vs l ∧ OwnT (w.setCell ⟨b, 1, none⟩ vt) base vt A := by
  refine ⟨heap_setCell_self (i := 1) vt hb, hS.turned (grownBy_setCell _ _ _ _) ?_, hT.turned (grownBy_setCell _ _ _ _) ?_ ?_⟩
  all_goals (intro cur e; rw [hb] at e; injection e with e; injection e with _ e _; exact absurd e (by decide))

end Go.Proofs.YtapnkkoplnhleaaDoor
