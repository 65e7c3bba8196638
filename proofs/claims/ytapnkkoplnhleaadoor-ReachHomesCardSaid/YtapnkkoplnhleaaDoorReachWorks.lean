/- The example's net, long, Explore at a known result, works: what each statement on graphs asks first. -/
import Derived.Test.YtapnkkoplnhleaaDoorReachDead
set_option maxRecDepth 100000
namespace Go.Proofs.YtapnkkoplnhleaaDoor
open Go.RowKit

def smallC : Nt := ⟨[⟨#[40, 105, 110, 41]⟩, ⟨#[97]⟩, ⟨#[40, 111, 117, 116, 41]⟩], [⟨⟨#[115]⟩, [0], [1]⟩, ⟨⟨#[101]⟩, [1], [2]⟩], 0, 2⟩
/-- What a function that makes a net hands back. -/
def NetPostC (w : World) (n : Nt) (e : Ending) (w' : World) : Prop :=
  ∃ vp vt, e = .returned (.agg #[vp, vt, .int .i64 n.init, .int .i64 n.final]) ∧ NtR w' w'.heap.size vp vt n ∧ Below w.heap.size w w'

theorem net2_reads {W : World} {N : Nat} {p0 p1 p2 la lb : ByteArray} {i0 o0 i1 o1 : List Int} {i f : Int} (h1 : W.heap[N + 1]? = some (.cells #[.string p0, .string p1, .string p2] 9))
    (h2 : W.heap[N + 2]? = some (.cells (i0.map (Value.int .i64)).toArray 3)) (h3 : W.heap[N + 3]? = some (.cells (o0.map (Value.int .i64)).toArray 3)) (h4 : W.heap[N + 4]? = some (.cells (i1.map (Value.int .i64)).toArray 3)) (h5 : W.heap[N + 5]? = some (.cells (o1.map (Value.int .i64)).toArray 3))
    (l2 : i0.length ≤ 1000) (l3 : o0.length ≤ 1000) (l4 : i1.length ≤ 1000) (l5 : o1.length ≤ 1000)
    (h6 : W.heap[N + 6]? = some (.cells #[.string la, .slice (some ⟨N + 2, 0, none⟩) i0.length i0.length, .slice (some ⟨N + 3, 0, none⟩) o0.length o0.length, .string lb, .slice (some ⟨N + 4, 0, none⟩) i1.length i1.length, .slice (some ⟨N + 5, 0, none⟩) o1.length o1.length] 65)) :
    NtR W W.heap.size (.slice (some ⟨N + 1, 0, none⟩) 3 3) (.slice (some ⟨N + 6, 0, none⟩) 2 2) ⟨[p0, p1, p2], [⟨la, i0, o0⟩, ⟨lb, i1, o1⟩], i, f⟩ := by
  have l6 := lt_of_block h6
  have j2 := ints_lit (B := W.heap.size) (cap := i0.length) h2 (by omega) (by omega)
  have j3 := ints_lit (B := W.heap.size) (cap := o0.length) h3 (by omega) (by omega)
  have j4 := ints_lit (B := W.heap.size) (cap := i1.length) h4 (by omega) (by omega)
  have j5 := ints_lit (B := W.heap.size) (cap := o1.length) h5 (by omega) (by omega)
  refine ⟨⟨_, 3, rfl, by simp, by simp, ?_⟩, ⟨_, 2, rfl, by simp, ?_⟩⟩
  · intro i hi
    refine ⟨N + 1, 0, rfl, by omega, ?_⟩
    rw [cell_of_block h1]
    have hi3 : i < 3 := hi
    rcases (by omega : i = 0 ∨ i = 1 ∨ i = 2) with rfl | rfl | rfl <;> rfl
  · intro i hi
    have hi2 : i < 2 := hi
    rcases (by omega : i = 0 ∨ i = 1) with rfl | rfl
    · refine ⟨N + 6, 0, _, _, rfl, by omega, ?_, ?_, ?_, j2, j3⟩
      all_goals rw [cell_of_block h6]; rfl
    · refine ⟨N + 6, 0, _, _, rfl, by omega, ?_, ?_, ?_, j4, j5⟩
      all_goals rw [cell_of_block h6]; rfl

set_option maxHeartbeats 400000 in
theorem small_any (w : World) : Calls Tryd.prog 33 #[] w (NetPostC w smallC) := by
  go_enter Tryd.func33, Tryd.ntmps33
  go_wp2_with fail
  refine bodyPost_ret (v := .agg #[.slice (some ⟨w.heap.size + 1, 0, none⟩) 3 3, .slice (some ⟨w.heap.size + 6, 0, none⟩) 2 2, .int .i64 0, .int .i64 2]) (by simp [results, Tryd.results33, go_sem]) rfl ⟨_, _, rfl, ?_, ?_⟩
  · refine net2_reads (i0 := [0]) (o0 := [1]) (i1 := [1]) (o1 := [2]) ?_ ?_ ?_ ?_ ?_ (by decide) (by decide) (by decide) (by decide) ?_
    all_goals (simp only [alloc_get', World.size_alloc]; repeat (first | rfl | rw [if_pos trivial] | rw [if_pos (by omega)] | rw [if_neg (by omega)]))
  · repeat (first | exact Below.refl _ _ | refine Below.alloc ?_ (by simp <;> omega) _)
def longB (n : Nt) : Bool := decide (40 < n.places.length) || decide (40 < n.trans.length)
theorem long_is (w : World) (vp vt : Value) (n : Nt) (B : Nat) (hn : NtR w B vp vt n) {t : Bool} (ht : longB n = t) :
    Calls Tryd.prog 11 #[.agg #[vp, vt, .int .i64 n.init, .int .i64 n.final]] w fun e w' => e = .returned (.bool t) ∧ Below w.heap.size w w' := by
  obtain ⟨ap, cp, rfl⟩ := hn.1.val
  obtain ⟨at_, ct, rfl⟩ := hn.2.val
  have hb := (Below.refl w.heap.size w).alloc (Nat.le_refl _) (.cells #[.slice ap n.places.length cp, .slice at_ n.trans.length ct, .int .i64 n.init, .int .i64 n.final] 25)
  unfold longB at ht
  by_cases h1 : 40 < n.places.length
  · obtain rfl : t = true := by rw [← ht]; simp [h1]
    have d1 : decide ((40 : Int) < (n.places.length : Int)) = true := decide_eq_true (by omega)
    clear ht
    go_enter Tryd.func11, Tryd.ntmps11
    go_wp2_with fail
    go_ret
    exact ⟨rfl, hb⟩
  · have d1 : decide ((40 : Int) < (n.places.length : Int)) = false := decide_eq_false (by omega)
    by_cases h2 : 40 < n.trans.length
    · have d2 : decide ((40 : Int) < (n.trans.length : Int)) = true := decide_eq_true (by omega)
      obtain rfl : t = true := by rw [← ht]; simp [h2]
      clear ht
      go_enter Tryd.func11, Tryd.ntmps11
      go_wp2_with fail
      go_ret
      exact ⟨rfl, hb⟩
    · have d2 : decide ((40 : Int) < (n.trans.length : Int)) = false := decide_eq_false (by omega)
      obtain rfl : t = false := by rw [← ht]; simp [h1, h2]
      clear ht
      go_enter Tryd.func11, Tryd.ntmps11
      go_wp2_with fail
      go_ret
      exact ⟨rfl, hb⟩


/-- A graph that was explored. -/
def ExpOk (w : World) (n : Nt) (_most : Nat) (g : Gr) (e : Ending) (w' : World) : Prop :=
  ∃ p, e = .returned (.tuple #[.pointer (some ⟨p, 0, none⟩), .int .i64 0]) ∧ GrR w' w'.heap.size p n.trans.length g (homesE g.edges) ∧ Below w.heap.size w w'
theorem exp_ok (w : World) (B : Nat) (hB : B ≤ w.heap.size) (vp vt : Value) (n : Nt) (hn : NtR w B vp vt n) (most : Int) (htab : Pow10 B w) {g : Gr} (h : expR n most = .inr g) :
    Calls Tryd.prog 13 #[.agg #[vp, vt, .int .i64 n.init, .int .i64 n.final], .int .i64 most] w (ExpOk w n most.toNat g) :=
  (explore_any w B hB vp vt n hn most htab).mono fun e w' hp => by
    obtain ⟨hb, ⟨c, h1, _⟩ | ⟨g', p, h1, h2, h3⟩⟩ := hp
    · rw [h] at h1; cases h1
    · rw [h] at h1; cases h1; exact ⟨p, h2, h3, hb⟩
theorem exp_no (w : World) (B : Nat) (hB : B ≤ w.heap.size) (vp vt : Value) (n : Nt) (hn : NtR w B vp vt n) (most : Int) (htab : Pow10 B w) {c : Int} (h : expR n most = .inl c) :
    Calls Tryd.prog 13 #[.agg #[vp, vt, .int .i64 n.init, .int .i64 n.final], .int .i64 most] w fun e w' => e = .returned (.tuple #[.pointer none, .int .i64 c]) ∧ Below w.heap.size w w' :=
  (explore_any w B hB vp vt n hn most htab).mono fun e w' hp => by
    obtain ⟨hb, ⟨c, h1, h2⟩ | ⟨g', p, h1, h2, h3⟩⟩ := hp
    · rw [h] at h1; cases h1; exact ⟨h2, hb⟩
    · rw [h] at h1; cases h1
theorem expR_cases (n : Nt) (most : Int) : (∃ c, expR n most = .inl c ∧ (c = 1 ∧ (n.okB = false ∨ most < 1 ∨ 1024 < most) ∨ c = 170 ∧ n.okB = true ∧ 1 ≤ most ∧ most ≤ 1024 ∧ exploreE n most.toNat = none)) ∨ (∃ g, expR n most = .inr g ∧ n.okB = true ∧ 1 ≤ most ∧ most ≤ 1024 ∧ exploreE n most.toNat = some g) := by
  unfold expR
  cases hok : n.okB with
  | false => exact Or.inl ⟨1, by simp, Or.inl ⟨rfl, Or.inl rfl⟩⟩
  | true =>
    by_cases h1 : most < 1
    · exact Or.inl ⟨1, by simp [h1], Or.inl ⟨rfl, Or.inr (Or.inl h1)⟩⟩
    · by_cases h2 : 1024 < most
      · exact Or.inl ⟨1, by simp [h1, h2], Or.inl ⟨rfl, Or.inr (Or.inr h2)⟩⟩
      · cases e : exploreE n most.toNat with
        | none => exact Or.inl ⟨170, by simp [h1, h2], Or.inr ⟨rfl, rfl, by omega, by omega, rfl⟩⟩
        | some g => exact Or.inr ⟨g, by simp [h1, h2], rfl, by omega, by omega, rfl⟩

def smallG : Gr := ⟨[[1, 0, 0], [0, 1, 0], [0, 0, 1]], [[(0, 1)], [(1, 2)], []], [(0, 0), (0, 0), (1, 1)]⟩
theorem small_explored : expR smallC 3 = .inr smallG := by rfl
theorem smallX : XFull smallC 3 smallG := explore_all (n := smallC) (most := 3) (by rfl) (by omega) (by omega) (by rfl)
theorem small_homes : homesE smallG.edges = [2] := by
  have e01 : Edg smallG.edges 0 1 := ⟨(0, 1), by simp [smallG], rfl⟩
  have e12 : Edg smallG.edges 1 2 := ⟨(1, 2), by simp [smallG], rfl⟩
  have h2 : homeB smallG.edges 2 = true := by
    rw [homeB_iff]
    intro i hi
    have hi3 : i < 3 := hi
    rcases (by omega : i = 0 ∨ i = 1 ∨ i = 2) with rfl | rfl | rfl
    · exact Leads.head e01 (Leads.one e12)
    · exact Leads.one e12
    · exact Leads.refl 2
  have no : ∀ k, k ≠ 2 → ¬ Leads smallG.edges 2 k := by
    intro k hk h
    rcases h.back with e | ⟨j, ⟨e, he, _⟩, _⟩
    · exact hk e.symm
    · simp [smallG] at he
  have h0 : homeB smallG.edges 0 = false := by
    cases e : homeB smallG.edges 0 with
    | false => rfl
    | true => exact absurd (homeB_iff.1 e 2 (by decide)) (no 0 (by decide))
  have h1 : homeB smallG.edges 1 = false := by
    cases e : homeB smallG.edges 1 with
    | false => rfl
    | true => exact absurd (homeB_iff.1 e 2 (by decide)) (no 1 (by decide))
  unfold homesE homesN
  have : List.range smallG.edges.length = [0, 1, 2] := by rfl
  rw [this]
  simp [h0, h1, h2]

theorem glen_is (w : World) (B p nt : Nat) (g : Gr) (hs : List Int) (h : GrR w B p nt g hs) {t : Int} (ht : (g.marks.length : Int) = t) : Calls Tryd.prog 18 #[.pointer (some ⟨p, 0, none⟩)] w fun e w' => e = .returned (.int .i64 t) ∧ w = w' := by
  rw [← ht]; exact glen_any w B p nt g hs h

theorem ghome_is (w : World) (B p nt : Nat) (g : Gr) (hs : List Int) (h : GrR w B p nt g hs) (i : Nat) (hi : i < g.marks.length) {j : Int} (hj : (i : Int) = j) {t : Bool} (ht : hs.contains (i : Int) = t) : Calls Tryd.prog 31 #[.pointer (some ⟨p, 0, none⟩), .int .i64 j] w fun e w' => e = .returned (.tuple #[.bool t, .int .i64 0]) ∧ w = w' := by
  rw [← hj, ← ht]; exact ghome_any w B p nt g hs h i hi

set_option maxHeartbeats 2000000 in
theorem works_any (w : World) (B : Nat) (hB : B ≤ w.heap.size) (htab : Pow10 B w) : Calls Tryd.prog 32 #[] w fun e w' => e = .returned (.bool true) ∧ Below w.heap.size w w' := by
  have hE := smallX.eok (by omega) (by decide)
  have hT : ∀ l ∈ smallG.edges, ∀ e ∈ l, 0 ≤ e.1 ∧ e.1 < ((2 : Nat) : Int) := fun l hl e he => (smallX.ok.edge l hl e he).1
  have HE := Lib.hid (And.intro hE hT)
  have HX := Lib.hid smallX
  clear hE hT
  go_enter Tryd.func32, Tryd.ntmps32
  go_wp2_with fail
  refine (small_any _).mono ?_
  rintro e w1 ⟨vp, vt, rfl, hn1, hb1⟩
  have t1 := tab_up (htab.on (hb1.mono hB)) (show B ≤ w1.heap.size by have := hb1.size; omega)
  go_wp2_with fail
  refine (exp_ok _ _ (Nat.le_refl _) _ _ smallC hn1 3 t1 small_explored).mono ?_
  rintro e w2 ⟨p, rfl, hg, hb2⟩
  have B2 := hb1.trans (hb2.mono hb1.size)
  rw [small_homes] at hg
  have hg2 : GrR w2 w2.heap.size p 2 smallG [2] := hg
  clear hn1 t1 hg
  go_wp2_with (first | (go_at_call 18; refine (glen_is _ _ p 2 smallG [2] hg2 (t := 3) rfl).mono ?_; rintro e w3 ⟨rfl, rfl⟩; refine Hid.out ?_))
  refine Lib.hid ?_
  go_wp2_with (first | (go_at_call 20; refine (gedges_any _ _ p 2 smallG [2] hg2 (Nat.le_refl _) HE.out.1 rfl 0 (by decide)).mono ?_; rintro e w3 ⟨v3, rfl, ho3, hb3⟩; refine Hid.out ?_))
  refine Lib.hid ?_
  have B3 := B2.trans (hb3.mono B2.size)
  have hg3 := hg2.mono hb3 hb3.size
  have hE3 : RowE w3 w2.heap.size v3 [(0, 1)] := ho3
  obtain ⟨a3, c3, rfl⟩ := OwnF.shape hE3
  obtain ⟨g3, rfl, -, -, hl3⟩ := OwnF.some hE3 (by decide)
  have x30 := OwnF.at cellE_len hE3 (i := 0) (j := 0) (by decide) (by decide)
  have x31 := OwnF.at cellE_len hE3 (i := 0) (j := 1) (by decide) (by decide)
  have y30 : w3.cell? ⟨g3, 0, none⟩ = some (.int .i64 0) := x30
  have y31 : w3.cell? ⟨g3, 1, none⟩ = some (.int .i64 1) := x31
  clear x30 x31 ho3
  go_wp2_with (first | (go_at_call 21; refine (gway_any _ _ p 2 smallG [2] hg3 (Nat.le_refl _) HX.out.ok (by omega) 2 (by decide)).mono ?_; rintro e w4 ⟨v4, rfl, ho4, hb4⟩; refine Hid.out ?_))
  refine Lib.hid ?_
  have B4 := B3.trans (hb4.mono B3.size)
  have hg4 := hg3.mono hb4 hb4.size
  have hO4 : OwnI w4 w3.heap.size v4 [0, 1] := ho4
  obtain ⟨a4, c4, rfl⟩ := hO4.shape
  rcases hO4.val with ⟨-, h0⟩ | ⟨g4, cap4, hv4, hg40, hl4⟩
  · cases h0
  obtain rfl : a4 = some ⟨g4, 0, none⟩ := by injection hv4
  have y40 := (hO4.at (i := 0) (by decide)).1
  have y41 := (hO4.at (i := 1) (by decide)).1
  have z40 : w4.cell? ⟨g4, 0, none⟩ = some (.int .i64 0) := y40
  have z41 : w4.cell? ⟨g4, 1, none⟩ = some (.int .i64 1) := y41
  rw [← Below.cellB hb4 hl3] at y30 y31
  clear y40 y41 ho4 hv4
  go_wp2_with fail
  refine (ghome_is _ _ p 2 smallG [2] hg4 2 (by decide) (j := 2) rfl (t := true) (by decide)).mono ?_
  rintro e w5 ⟨rfl, rfl⟩
  go_wp2_with fail
  refine (ghome_is _ _ p 2 smallG [2] hg4 1 (by decide) (j := 1) rfl (t := false) (by decide)).mono ?_
  rintro e w5 ⟨rfl, rfl⟩
  go_wp2_with (first | (go_at_call 26; refine (gdeadl_any _ _ p 2 smallG [2] hg4 (Nat.le_refl _) HE.out.1).mono ?_; rintro e w5 ⟨v5, rfl, ho5, hb5⟩; refine Hid.out ?_))
  refine Lib.hid ?_
  have B5 := B4.trans (hb5.mono B4.size)
  have hg5 := hg4.mono hb5 hb5.size
  have hO5 : OwnI w5 w4.heap.size v5 [2] := ho5
  obtain ⟨a5, c5, rfl⟩ := hO5.shape
  clear ho5 hO5
  go_wp2_with (first | (go_at_call 27; refine (gdead_any _ _ p 2 smallG [2] hg5 (Nat.le_refl _) HE.out.1 HE.out.2).mono ?_; rintro e w6 ⟨v6, rfl, ho6, hb6⟩; refine Hid.out ?_))
  refine Lib.hid ?_
  have B6 := B5.trans (hb6.mono B5.size)
  have hg6 := hg5.mono hb6 hb6.size
  have hO6 : OwnI w6 w5.heap.size v6 [] := ho6
  obtain ⟨a6, c6, rfl⟩ := hO6.shape
  clear ho6 hO6
  go_wp2_with (first | (go_at_call 28; refine (ghomes_any _ _ p 2 smallG [2] hg6 (Nat.le_refl _)).mono ?_; rintro e w7 ⟨v7, rfl, ho7, hb7⟩; refine Hid.out ?_))
  refine Lib.hid ?_
  obtain ⟨a7, c7, rfl⟩ := ho7.shape
  have B7 := B6.trans (hb7.mono B6.size)
  clear ho7
  go_wp2_with fail
  go_ret
  exact ⟨rfl, B7⟩

end Go.Proofs.YtapnkkoplnhleaaDoor
