/- The walk of the closed law NetNames. -/
import Derived.Test.YtopgakpggnkkmaaNetWorks
import Derived.Test.YtopgakpggnkkmaaOwnTr
import Derived.Laws.MakeOwn
import Derived.Laws.Entries
set_option maxRecDepth 100000
namespace Go.Proofs.Ytopgakpggnkkmaa
open Go.RowKit

def place3 : List ByteArray := [⟨#[40, 105, 110, 41]⟩, ⟨#[97]⟩, ⟨#[40, 111, 117, 116, 41]⟩]
def trS : Tr := ⟨⟨#[115]⟩, [0], [1]⟩
def trE : Tr := ⟨⟨#[101]⟩, [1], [2]⟩
/-- The small net in memory of the call's own. -/
def SmallOwn (w : World) (e : Ending) (w' : World) : Prop :=
  ∃ vp vt i1 o1 i2 o2, e = .returned (.agg #[vp, vt, .int .i64 0, .int .i64 2]) ∧ OwnS w' w.heap.size vp place3 ∧ OwnT w' w.heap.size vt [(trS, i1, o1), (trE, i2, o2)] ∧ Below w.heap.size w w'
set_option maxHeartbeats 400000 in
theorem small_own (w : World) : Calls Try.prog 22 #[] w (SmallOwn w) := by
  go_enter Try.func22, Try.ntmps22
  go_wp2_with fail
  refine bodyPost_ret (v := .agg #[.slice (some ⟨w.heap.size + 1, 0, none⟩) 3 3, .slice (some ⟨w.heap.size + 6, 0, none⟩) 2 2, .int .i64 0, .int .i64 2]) (by simp [results, Try.results22, go_sem]) rfl ⟨_, _, .slice (some ⟨w.heap.size + 2, 0, none⟩) 1 1, .slice (some ⟨w.heap.size + 3, 0, none⟩) 1 1, .slice (some ⟨w.heap.size + 4, 0, none⟩) 1 1, .slice (some ⟨w.heap.size + 5, 0, none⟩) 1 1, rfl, ?_, ⟨?_, ?_⟩, ?_⟩
  · refine owns_lit (l := place3) ?_ (by omega) (by decide)
    all_goals (simp only [alloc_get', World.size_alloc]; repeat (first | rfl | rw [if_pos trivial] | rw [if_pos (by omega)] | rw [if_neg (by omega)]))
  · refine ownt_lit (A := [(trS, .slice (some ⟨w.heap.size + 2, 0, none⟩) 1 1, .slice (some ⟨w.heap.size + 3, 0, none⟩) 1 1), (trE, .slice (some ⟨w.heap.size + 4, 0, none⟩) 1 1, .slice (some ⟨w.heap.size + 5, 0, none⟩) 1 1)]) ?_ (by omega) (by simp)
    all_goals (simp only [alloc_get', World.size_alloc]; repeat (first | rfl | rw [if_pos trivial] | rw [if_pos (by omega)] | rw [if_neg (by omega)]))
  · intro x hx
    simp only [List.mem_cons, List.mem_nil_iff, or_false] at hx
    rcases hx with rfl | rfl
    · refine ⟨own_lit (l := [0]) ?_ (by omega) (by decide), own_lit (l := [1]) ?_ (by omega) (by decide)⟩
      all_goals (simp only [alloc_get', World.size_alloc]; repeat (first | rfl | rw [if_pos trivial] | rw [if_pos (by omega)] | rw [if_neg (by omega)]))
    · refine ⟨own_lit (l := [1]) ?_ (by omega) (by decide), own_lit (l := [2]) ?_ (by omega) (by decide)⟩
      all_goals (simp only [alloc_get', World.size_alloc]; repeat (first | rfl | rw [if_pos trivial] | rw [if_pos (by omega)] | rw [if_neg (by omega)]))
  · repeat (first | exact Below.refl _ _ | refine Below.alloc ?_ (by simp <;> omega) _)


theorem OwnT.lower {w : World} {base base' : Nat} {v : Value} {A : List (Tr × Value × Value)} (h : OwnT w base v A) (hb : base' ≤ base) : OwnT w base' v A :=
  ⟨OwnF.lower h.1 hb, fun x hx => ⟨(h.2 x hx).1.lower hb, (h.2 x hx).2.lower hb⟩⟩
theorem OwnS.lower {w : World} {base base' : Nat} {v : Value} {l : List ByteArray} (h : OwnS w base v l) (hb : base' ≤ base) : OwnS w base' v l := by
  refine ⟨h.1, ?_⟩
  rcases h.2 with h2 | ⟨g, cap, cur, e, h3, r⟩
  · exact Or.inl h2
  · exact Or.inr ⟨g, cap, cur, e, Nat.le_trans hb h3, r⟩
/-- A transition's places taken from set anew. -/
theorem OwnT.setIn {w : World} {base g n cap : Nat} {A : List (Tr × Value × Value)} (h : OwnT w base (.slice (some ⟨g, 0, none⟩) n cap) A) {i : Nat} (hi : i < A.length) {vi : Value} {l : List Int} (ho : OwnI w base vi l) :
    OwnT (w.setCell ⟨g, i * 3 + 1, none⟩ vi) base (.slice (some ⟨g, 0, none⟩) n cap) (A.set i (⟨A[i].1.label, l, A[i].1.out⟩, vi, A[i].2.2)) := by
  have hne : ∀ cur, w.heap[g]? ≠ some (.cells cur 3 (0, 0)) := by
    intro cur e
    obtain ⟨cur', hc, _⟩ := h.1.block
    rw [hc] at e; injection e with e; injection e with _ e _; exact absurd e (by decide)
  refine ⟨OwnF.set cellT_len h.1 hi (j := 1) (by omega) vi _ rfl, fun x hx => ?_⟩
  have hg := grownBy_setCell w g (i * 3 + 1) vi
  rcases List.mem_or_eq_of_mem_set hx with hx | rfl
  · exact ⟨(h.2 x hx).1.turned hg hne, (h.2 x hx).2.turned hg hne⟩
  · exact ⟨ho.turned hg hne, (h.2 _ (List.getElem_mem hi)).2.turned hg hne⟩
/-- A transition's label set anew. -/
theorem OwnT.setLabel {w : World} {base g n cap : Nat} {A : List (Tr × Value × Value)} (h : OwnT w base (.slice (some ⟨g, 0, none⟩) n cap) A) {i : Nat} (hi : i < A.length) (s : ByteArray) :
    OwnT (w.setCell ⟨g, i * 3 + 0, none⟩ (.string s)) base (.slice (some ⟨g, 0, none⟩) n cap) (A.set i (⟨s, A[i].1.inn, A[i].1.out⟩, A[i].2.1, A[i].2.2)) := by
  have hne : ∀ cur, w.heap[g]? ≠ some (.cells cur 3 (0, 0)) := by
    intro cur e
    obtain ⟨cur', hc, _⟩ := h.1.block
    rw [hc] at e; injection e with e; injection e with _ e _; exact absurd e (by decide)
  refine ⟨OwnF.set cellT_len h.1 hi (j := 0) (by omega) _ _ rfl, fun x hx => ?_⟩
  have hg := grownBy_setCell w g (i * 3 + 0) (.string s)
  rcases List.mem_or_eq_of_mem_set hx with hx | rfl
  · exact ⟨(h.2 x hx).1.turned hg hne, (h.2 x hx).2.turned hg hne⟩
  · exact ⟨(h.2 _ (List.getElem_mem hi)).1.turned hg hne, (h.2 _ (List.getElem_mem hi)).2.turned hg hne⟩

theorem names_row : smallN.rowE [1, 0, 0] [0, 0] = ([], 1, 250) := by rfl
theorem names_fire1 : smallN.rowE [1, 0, 0] [1] = ([], 0, 250) := by rfl
theorem names_fire2 : smallN.rowE [1, 0, 0] [2] = ([], 0, 1) := by rfl
theorem names_en1 : smallN.markE [1, 0] = 1 ∧ smallN.enL [1, 0] = [] := ⟨rfl, rfl⟩
theorem names_en2 : smallN.markE [1, 0, -1] = 1 ∧ smallN.enL [1, 0, -1] = [] := ⟨rfl, rfl⟩
theorem names_en3 : smallN.markE [1, 0, 2147483648] = 1 ∧ smallN.enL [1, 0, 2147483648] = [] := ⟨rfl, rfl⟩
/-- Both nets with a list of places that is none. -/
def badIn (l : List Int) : Nt := ⟨place3, [⟨⟨#[115]⟩, l, [1]⟩, trE], 0, 2⟩
def badOut (l : List Int) : Nt := ⟨place3, [trS, ⟨⟨#[101]⟩, [1], l⟩], 0, 2⟩
def BadL (l : List Int) : Prop := (badIn l).checkE = 1 ∧ (badOut l).checkE = 1 ∧ l.length ≤ 2
theorem bad_1 : BadL [1, 0] := ⟨rfl, rfl, by decide⟩
theorem bad_2 : BadL [0, 0] := ⟨rfl, rfl, by decide⟩
theorem bad_3 : BadL [3] := ⟨rfl, rfl, by decide⟩
theorem bad_4 : BadL [-1] := ⟨rfl, rfl, by decide⟩
def otherN : Nt := ⟨place3, [trS, ⟨⟨#[120]⟩, [1], [2]⟩], 0, 2⟩
theorem same_no : sameN otherN smallN = false := by rfl
theorem same_yes : sameN smallN smallN = true := by rfl
theorem check_init : (⟨place3, [trS, trE], 2, 2⟩ : Nt).checkE = 1 := by rfl
theorem check_final : (⟨place3, [trS, trE], 0, 3⟩ : Nt).checkE = 1 := by rfl
theorem check_empty : (⟨[], [], 0, 0⟩ : Nt).checkE = 1 := by rfl
theorem check_rep (p q : Nat) (h2 : 2 ≤ p) (hp : p ≤ 4096) (hq : q ≤ 8192) : (⟨List.replicate p ⟨#[]⟩, List.replicate q ⟨⟨#[]⟩, [], []⟩, 0, 1⟩ : Nt).checkE = 0 := by
  have : (⟨List.replicate p ⟨#[]⟩, List.replicate q ⟨⟨#[]⟩, [], []⟩, 0, 1⟩ : Nt).okB = true := by
    unfold Nt.okB
    rw [Bool.and_eq_true]
    refine ⟨?_, ?_⟩
    · have e1 : (p : Int) ≤ 4096 := by omega
      have e2 : (q : Int) ≤ 8192 := by omega
      have e3 : (0 : Int) < p := by omega
      have e4 : (1 : Int) < p := by omega
      simp [okB0, placeB, e1, e2, e4]; omega
    · rw [List.all_eq_true]
      intro x hx
      rw [List.eq_of_mem_replicate hx]
      rfl
  unfold Nt.checkE; rw [this]; rfl
theorem check_rep_no (p q : Nat) (h : 4096 < p ∨ 8192 < q) : (⟨List.replicate p ⟨#[]⟩, List.replicate q ⟨⟨#[]⟩, [], []⟩, 0, 1⟩ : Nt).checkE = 1 := by
  have : (⟨List.replicate p ⟨#[]⟩, List.replicate q ⟨⟨#[]⟩, [], []⟩, 0, 1⟩ : Nt).okB = false := by
    unfold Nt.okB
    rw [Bool.and_eq_false_iff]
    refine Or.inl ?_
    unfold okB0
    simp only [List.length_replicate]
    rcases h with h | h
    · have e1 : decide ((p : Int) ≤ 4096) = false := decide_eq_false (by omega)
      rw [e1, Bool.false_and]
    · have e1 : decide ((q : Int) ≤ 8192) = false := decide_eq_false (by omega)
      rw [e1, Bool.false_and, Bool.and_false]
  unfold Nt.checkE; rw [this]; rfl
def overN : Nt := ⟨[⟨#[120]⟩, ⟨#[121]⟩], [⟨⟨#[]⟩, [], [0]⟩, ⟨⟨#[]⟩, [0], [0]⟩], 0, 1⟩
theorem over_0 : overN.rowE [2147483647, 0] [0] = ([], 0, 91) := by rfl
theorem over_1 : overN.rowE [2147483647, 0] [1] = ([2147483647, 0], 1, 0) := by rfl

/-- A store into a net's box. -/
theorem box_set {w : World} {base b : Nat} {vs vt : Value} {c : Array Value} {l : List ByteArray} {A : List (Tr × Value × Value)} (hb : w.heap[b]? = some (.cells c 28)) (hS : OwnS w base vs l) (hT : OwnT w base vt A) (i : Nat) (v : Value) :
    (w.setCell ⟨b, i, none⟩ v).heap[b]? = some (.cells (c.setIfInBounds i v) 28) ∧ OwnS (w.setCell ⟨b, i, none⟩ v) base vs l ∧ OwnT (w.setCell ⟨b, i, none⟩ v) base vt A := by
  refine ⟨heap_setCell_self (i := i) v hb, hS.turned (grownBy_setCell _ _ _ _) ?_, hT.turned (grownBy_setCell _ _ _ _) ?_ ?_⟩
  all_goals (intro cur e; rw [hb] at e; injection e with e; injection e with _ e _; exact absurd e (by decide))

theorem make_rowN {P : Program} (t e : TypeId) (i : TypeInfo) (z : Value) (ht : P.underlying t = some (.slice e)) (hi : P.info? e = some i) (hz : i.zero = some z)
    (kl kc : IntKind) (n : Nat) (hbytes : i.bytes * n ≤ 281474976710656) (h63 : n ≤ 9223372036854775807) (w : World) :
    (Instr.makeSlice t (.int kl (n : Int)) (.int kc (n : Int))).run P w = .ok (.slice (some ⟨w.heap.size, 0, none⟩) n n) (w.alloc (.cells (madeCells z.cells (n * i.size)) e)) := by
  have hb : (i.bytes : Int) * (n : Int) ≤ 281474976710656 := by
    have h : ((i.bytes * n : Nat) : Int) ≤ 281474976710656 := by omega
    rwa [Int.natCast_mul] at h
  have hr := run_make (P := P) w t e i z ht hi hz kl kc n n (by omega) (by omega) hb (by omega)
  simp only [Int.toNat_natCast] at hr
  exact hr
/-- make of strings. -/
theorem mk_strs (n : Nat) (hn : n ≤ 10000) : ∃ cs : Array Value, (∀ w, (Instr.makeSlice 25 (.int .i64 (n : Int)) (.int .i64 (n : Int))).run Try.prog w = .ok (.slice (some ⟨w.heap.size, 0, none⟩) n n) (w.alloc (.cells cs 9))) ∧
    ∀ w : World, OwnS (w.alloc (.cells cs 9)) w.heap.size (.slice (some ⟨w.heap.size, 0, none⟩) n n) (List.replicate n ⟨#[]⟩) := by
  refine ⟨madeCells #[.string ⟨#[]⟩] n, fun w => run_make_row' (P := Try.prog) 25 9 (.string ⟨#[]⟩) 16 Try.underlying25 info_str rfl .i64 .i64 n (by omega) (by omega) w, fun w => ?_⟩
  have h := World.ownsRow_lit (base := w.heap.size) (e := 9) (size := 1) w (madeCells #[Value.string ⟨#[]⟩] n) n (Nat.le_refl _) (by unfold maxLen; omega) (by simp [size_madeCells])
  unfold OwnS
  rw [List.length_replicate, List.map_replicate, ← toList_madeCells_one]
  exact h
theorem made_trs (n : Nat) : (madeCells #[Value.string ⟨#[]⟩, .slice none 0 0, .slice none 0 0] (n * 3)).toList = cellsF cellT (List.replicate n ((⟨⟨#[]⟩, [], []⟩ : Tr), Value.slice none 0 0, Value.slice none 0 0)) := by
  refine List.ext_getElem? fun m => ?_
  have hl := cellsF_len cellT_len (List.replicate n ((⟨⟨#[]⟩, [], []⟩ : Tr), Value.slice none 0 0, Value.slice none 0 0))
  rw [List.length_replicate] at hl
  by_cases hm : m < n * 3
  · have h1 : m / 3 < (List.replicate n ((⟨⟨#[]⟩, [], []⟩ : Tr), Value.slice none 0 0, Value.slice none 0 0)).length := by rw [List.length_replicate]; omega
    have := cellsF_at cellT_len _ (m / 3) (m % 3) h1 (Nat.mod_lt _ (by omega))
    rw [show m / 3 * 3 + m % 3 = m by omega, List.getElem_replicate] at this
    rw [this]
    rcases (by omega : m % 3 = 0 ∨ m % 3 = 1 ∨ m % 3 = 2) with h | h | h <;> simp [madeCells, hm, h, cellT]
  · rw [List.getElem?_eq_none (by rw [Array.length_toList, size_madeCells]; omega), List.getElem?_eq_none (by rw [hl]; omega)]
/-- make of transitions. -/
theorem mk_trs (n : Nat) (hn : n ≤ 10000) : ∃ cs : Array Value, (∀ w, (Instr.makeSlice 26 (.int .i64 (n : Int)) (.int .i64 (n : Int))).run Try.prog w = .ok (.slice (some ⟨w.heap.size, 0, none⟩) n n) (w.alloc (.cells cs 38))) ∧
    ∀ w : World, OwnT (w.alloc (.cells cs 38)) w.heap.size (.slice (some ⟨w.heap.size, 0, none⟩) n n) (List.replicate n ((⟨⟨#[]⟩, [], []⟩ : Tr), Value.slice none 0 0, Value.slice none 0 0)) := by
  obtain ⟨i, hi, hz, hs, hb⟩ := info_parts info_tr
  refine ⟨madeCells #[.string ⟨#[]⟩, .slice none 0 0, .slice none 0 0] (n * 3), fun w => ?_, fun w => ?_⟩
  · have := make_rowN (P := Try.prog) 26 38 i _ Try.underlying26 hi hz .i64 .i64 n (by rw [hb]; omega) (by omega) w
    rw [hs] at this
    exact this
  · have h := World.ownsRow_lit (base := w.heap.size) (e := 38) (size := 3) w (madeCells #[Value.string ⟨#[]⟩, .slice none 0 0, .slice none 0 0] (n * 3)) n (Nat.le_refl _) (by unfold maxLen; omega) (by simp [size_madeCells])
    refine ⟨?_, fun x hx => ?_⟩
    · unfold OwnF
      rw [List.length_replicate, ← made_trs]
      exact h
    · rw [List.eq_of_mem_replicate hx]
      exact ⟨OwnI.nil _ _, OwnI.nil _ _⟩

theorem own_netN {w : World} {base : Nat} {vs vt : Value} {A : List (Tr × Value × Value)} {n : Nt} (hS : OwnS w base vs n.places) (hT : OwnT w base vt A) (hA : A.map Prod.fst = n.trans) (h1 : n.places.length ≤ 10000) (h2 : A.length ≤ 10000)
    (h3 : ∀ x ∈ A, x.1.inn.length ≤ 1000 ∧ x.1.out.length ≤ 1000) : NtR w w.heap.size vs vt n :=
  ⟨hS.read (Nat.le_refl _) (by omega), by rw [← hA]; exact hT.read (Nat.le_refl _) (by omega) (fun x hx => by have := h3 x hx; omega)⟩
/-- A net of nothing but its numbers. -/
def repN (p q : Nat) : Nt := ⟨List.replicate p ⟨#[]⟩, List.replicate q ⟨⟨#[]⟩, [], []⟩, 0, 1⟩
theorem rep_net {w : World} {base : Nat} {vs vt : Value} {p q : Nat} (hS : OwnS w base vs (List.replicate p ⟨#[]⟩)) (hT : OwnT w base vt (List.replicate q ((⟨⟨#[]⟩, [], []⟩ : Tr), Value.slice none 0 0, Value.slice none 0 0))) (hp : p ≤ 10000) (hq : q ≤ 10000) : NtR w w.heap.size vs vt (repN p q) :=
  own_netN (n := repN p q) hS hT (by simp [repN]) (by simpa [repN] using hp) (by simpa using hq) (fun x hx => by rw [List.eq_of_mem_replicate hx]; simp)
abbrev MkS (n : Nat) (cs : Array Value) : Prop := ∀ w : World, OwnS (w.alloc (.cells cs 9)) w.heap.size (.slice (some ⟨w.heap.size, 0, none⟩) n n) (List.replicate n ⟨#[]⟩)
abbrev MkT (n : Nat) (cs : Array Value) : Prop := ∀ w : World, OwnT (w.alloc (.cells cs 38)) w.heap.size (.slice (some ⟨w.heap.size, 0, none⟩) n n) (List.replicate n ((⟨⟨#[]⟩, [], []⟩ : Tr), Value.slice none 0 0, Value.slice none 0 0))
theorem chk_ab {p q : Nat} {c : Int} (hc : (repN p q).checkE = c) (hp : p ≤ 10000) (hq : q ≤ 10000) {cs ct : Array Value} (hs : MkS p cs) (ht : MkT q ct) (u : World) :
    Calls Try.prog 24 #[.agg #[.slice (some ⟨u.heap.size, 0, none⟩) p p, .slice (some ⟨u.heap.size + 1, 0, none⟩) q q, .int .i64 0, .int .i64 1]] ((u.alloc (.cells cs 9)).alloc (.cells ct 38)) fun e w' => e = .returned (.int .i64 c) ∧ Below u.heap.size u w' := by
  have b1 : Below (u.alloc (.cells cs 9)).heap.size (u.alloc (.cells cs 9)) ((u.alloc (.cells cs 9)).alloc (.cells ct 38)) := (Below.refl _ _).alloc (Nat.le_refl _) _
  have hS := (hs u).kept b1
  have hT := (ht (u.alloc (.cells cs 9))).lower (show u.heap.size ≤ (u.alloc (.cells cs 9)).heap.size by simp)
  have hz : (u.alloc (.cells cs 9)).heap.size = u.heap.size + 1 := by simp
  rw [hz] at hT
  refine (check_is _ _ _ (repN p q) _ (Nat.le_refl _) (rep_net hS hT hp hq) hc).mono ?_
  rintro e w' ⟨rfl, hb⟩
  refine ⟨rfl, ?_⟩
  have b0 : Below u.heap.size u ((u.alloc (.cells cs 9)).alloc (.cells ct 38)) := ((Below.refl _ _).alloc (Nat.le_refl _) _).alloc (by simp) _
  exact b0.trans (hb.mono b0.size)
theorem chk_ba {p q : Nat} {c : Int} (hc : (repN p q).checkE = c) (hp : p ≤ 10000) (hq : q ≤ 10000) {cs ct : Array Value} (hs : MkS p cs) (ht : MkT q ct) (u : World) :
    Calls Try.prog 24 #[.agg #[.slice (some ⟨u.heap.size + 1, 0, none⟩) p p, .slice (some ⟨u.heap.size, 0, none⟩) q q, .int .i64 0, .int .i64 1]] ((u.alloc (.cells ct 38)).alloc (.cells cs 9)) fun e w' => e = .returned (.int .i64 c) ∧ Below u.heap.size u w' := by
  have b1 : Below (u.alloc (.cells ct 38)).heap.size (u.alloc (.cells ct 38)) ((u.alloc (.cells ct 38)).alloc (.cells cs 9)) := (Below.refl _ _).alloc (Nat.le_refl _) _
  have hT := (ht u).kept b1
  have hS := (hs (u.alloc (.cells ct 38))).lower (show u.heap.size ≤ (u.alloc (.cells ct 38)).heap.size by simp)
  have hz : (u.alloc (.cells ct 38)).heap.size = u.heap.size + 1 := by simp
  rw [hz] at hS
  refine (check_is _ _ _ (repN p q) _ (Nat.le_refl _) (rep_net hS hT hp hq) hc).mono ?_
  rintro e w' ⟨rfl, hb⟩
  refine ⟨rfl, ?_⟩
  have b0 : Below u.heap.size u ((u.alloc (.cells ct 38)).alloc (.cells cs 9)) := ((Below.refl _ _).alloc (Nat.le_refl _) _).alloc (by simp) _
  exact b0.trans (hb.mono b0.size)
theorem chk_p {p : Nat} {c : Int} (hc : (repN p 0).checkE = c) (hp : p ≤ 10000) {cs : Array Value} (hs : MkS p cs) (u : World) :
    Calls Try.prog 24 #[.agg #[.slice (some ⟨u.heap.size, 0, none⟩) p p, .slice none 0 0, .int .i64 0, .int .i64 1]] (u.alloc (.cells cs 9)) fun e w' => e = .returned (.int .i64 c) ∧ Below u.heap.size u w' := by
  refine (check_is _ _ _ (repN p 0) _ (Nat.le_refl _) (rep_net (hs u) (OwnT.nil _ _) hp (by omega)) hc).mono ?_
  rintro e w' ⟨rfl, hb⟩
  refine ⟨rfl, ?_⟩
  have b0 : Below u.heap.size u (u.alloc (.cells cs 9)) := (Below.refl _ _).alloc (Nat.le_refl _) _
  exact b0.trans (hb.mono b0.size)
theorem chk_none (u : World) : Calls Try.prog 24 #[.agg #[.slice none 0 0, .slice none 0 0, .int .i64 0, .int .i64 0]] u fun e w' => e = .returned (.int .i64 1) ∧ Below u.heap.size u w' :=
  check_is u _ _ ⟨[], [], 0, 0⟩ _ (Nat.le_refl _) ⟨ColV.nil _ _ _ _, by have := (OwnT.nil u 0).read (Nat.le_refl _) (by simp) (by simp); exact this⟩ check_empty

/-- The last net of the law, in new memory. -/
def overW (w : World) : World := (((((w.alloc (.cells #[.string ⟨#[120]⟩, .string ⟨#[121]⟩] 9)).alloc (.cells #[.int .i64 0] 3)).alloc (.cells #[.int .i64 0] 3)).alloc (.cells #[.int .i64 0] 3)).alloc (.cells #[.string ⟨#[]⟩, .slice none 0 0, .slice (some ⟨w.heap.size + 1, 0, none⟩) 1 1, .string ⟨#[]⟩, .slice (some ⟨w.heap.size + 1 + 1, 0, none⟩) 1 1, .slice (some ⟨w.heap.size + 1 + 1 + 1, 0, none⟩) 1 1] 38)).alloc (.cells #[.slice (some ⟨w.heap.size, 0, none⟩) 2 2, .slice (some ⟨w.heap.size + 1 + 1 + 1 + 1, 0, none⟩) 2 2, .int .i64 0, .int .i64 1] 28)
theorem over_at (w : World) : NtR (overW w) (overW w).heap.size (.slice (some ⟨w.heap.size, 0, none⟩) 2 2) (.slice (some ⟨w.heap.size + 1 + 1 + 1 + 1, 0, none⟩) 2 2) overN ∧
    (overW w).heap[w.heap.size + 1 + 1 + 1 + 1 + 1]? = some (.cells #[.slice (some ⟨w.heap.size, 0, none⟩) 2 2, .slice (some ⟨w.heap.size + 1 + 1 + 1 + 1, 0, none⟩) 2 2, .int .i64 0, .int .i64 1] 28) ∧ Below w.heap.size w (overW w) := by
  have h5 : (overW w).heap[w.heap.size + 1 + 1 + 1 + 1 + 1]? = some (.cells #[.slice (some ⟨w.heap.size, 0, none⟩) 2 2, .slice (some ⟨w.heap.size + 1 + 1 + 1 + 1, 0, none⟩) 2 2, .int .i64 0, .int .i64 1] 28) := by
    unfold overW; simp only [alloc_get', World.size_alloc]; repeat (first | rfl | rw [if_pos trivial] | rw [if_pos (by omega)] | rw [if_neg (by omega)])
  have h4 : (overW w).heap[w.heap.size + 1 + 1 + 1 + 1]? = some (.cells #[.string ⟨#[]⟩, .slice none 0 0, .slice (some ⟨w.heap.size + 1, 0, none⟩) 1 1, .string ⟨#[]⟩, .slice (some ⟨w.heap.size + 1 + 1, 0, none⟩) 1 1, .slice (some ⟨w.heap.size + 1 + 1 + 1, 0, none⟩) 1 1] 38) := by
    unfold overW; simp only [alloc_get', World.size_alloc]; repeat (first | rfl | rw [if_pos trivial] | rw [if_pos (by omega)] | rw [if_neg (by omega)])
  have h0 : (overW w).heap[w.heap.size]? = some (.cells (([⟨#[120]⟩, ⟨#[121]⟩] : List ByteArray).map Value.string).toArray 9) := by
    unfold overW; simp only [alloc_get', World.size_alloc]; repeat (first | rfl | rw [if_pos trivial] | rw [if_pos (by omega)] | rw [if_neg (by omega)])
  have h1 : (overW w).heap[w.heap.size + 1]? = some (.cells (([0] : List Int).map (Value.int .i64)).toArray 3) := by
    unfold overW; simp only [alloc_get', World.size_alloc]; repeat (first | rfl | rw [if_pos trivial] | rw [if_pos (by omega)] | rw [if_neg (by omega)])
  have h2 : (overW w).heap[w.heap.size + 1 + 1]? = some (.cells (([0] : List Int).map (Value.int .i64)).toArray 3) := by
    unfold overW; simp only [alloc_get', World.size_alloc]; repeat (first | rfl | rw [if_pos trivial] | rw [if_pos (by omega)] | rw [if_neg (by omega)])
  have h3 : (overW w).heap[w.heap.size + 1 + 1 + 1]? = some (.cells (([0] : List Int).map (Value.int .i64)).toArray 3) := by
    unfold overW; simp only [alloc_get', World.size_alloc]; repeat (first | rfl | rw [if_pos trivial] | rw [if_pos (by omega)] | rw [if_neg (by omega)])
  refine ⟨?_, h5, ?_⟩
  · have hS : OwnS (overW w) w.heap.size (.slice (some ⟨w.heap.size, 0, none⟩) 2 2) [⟨#[120]⟩, ⟨#[121]⟩] := owns_lit h0 (Nat.le_refl _) (by decide)
    have hT : OwnT (overW w) w.heap.size (.slice (some ⟨w.heap.size + 1 + 1 + 1 + 1, 0, none⟩) 2 2) [(⟨⟨#[]⟩, [], [0]⟩, .slice none 0 0, .slice (some ⟨w.heap.size + 1, 0, none⟩) 1 1), (⟨⟨#[]⟩, [0], [0]⟩, .slice (some ⟨w.heap.size + 1 + 1, 0, none⟩) 1 1, .slice (some ⟨w.heap.size + 1 + 1 + 1, 0, none⟩) 1 1)] := by
      refine ⟨ownt_lit (A := [(⟨⟨#[]⟩, [], [0]⟩, .slice none 0 0, .slice (some ⟨w.heap.size + 1, 0, none⟩) 1 1), (⟨⟨#[]⟩, [0], [0]⟩, .slice (some ⟨w.heap.size + 1 + 1, 0, none⟩) 1 1, .slice (some ⟨w.heap.size + 1 + 1 + 1, 0, none⟩) 1 1)]) h4 (by omega) (by simp), fun x hx => ?_⟩
      simp only [List.mem_cons, List.mem_nil_iff, or_false] at hx
      rcases hx with rfl | rfl
      · exact ⟨OwnI.nil _ _, own_lit (l := [0]) h1 (by omega) (by decide)⟩
      · exact ⟨own_lit (l := [0]) h2 (by omega) (by decide), own_lit (l := [0]) h3 (by omega) (by decide)⟩
    exact own_netN (n := overN) hS hT rfl (show (2 : Nat) ≤ 10000 by omega) (by simp) (by intro x hx; simp at hx; rcases hx with rfl | rfl <;> simp)
  · unfold overW
    repeat (first | exact Below.refl _ _ | refine Below.alloc ?_ (by simp <;> omega) _)

end Go.Proofs.Ytopgakpggnkkmaa
