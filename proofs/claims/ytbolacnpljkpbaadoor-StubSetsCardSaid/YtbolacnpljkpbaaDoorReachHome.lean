/- home's other inner functions, slices.Contains at truths, and home. -/
import Derived.Test.YtbolacnpljkpbaaDoorReachSpread
set_option maxRecDepth 100000
namespace Go.Proofs.YtbolacnpljkpbaaDoor
open Go.RowKit Go.Maps Go.WideMaps

set_option maxHeartbeats 1000000 in
theorem forth_any (w : World) (B p : Nat) (hB : B ≤ w.heap.size) (E : List (List (Int × Int))) (h : GrE w B p E.length E) (hE : EOk E) (bx : Nat) (_hbx : bx < w.heap.size) (hbc : w.cell? ⟨bx, 0, none⟩ = some (.pointer (some ⟨p, 0, none⟩))) (k : Nat) (hk : k < E.length) :
    Calls Tryd.prog 60 #[.int .i64 (k : Int), .pointer (some ⟨bx, 0, none⟩)] w fun e w' => ∃ v, e = .returned v ∧ OwnI w' w.heap.size v (E[k].map Prod.snd) ∧ Below w.heap.size w w' := by
  obtain ⟨aM, cM, vE, k4, k6, hp, hv⟩ := h
  have hl := hE.len
  obtain ⟨i0, hti, hz0, hz1, hz2⟩ := info_parts info_int
  obtain ⟨aE, cE, rfl⟩ := hv.val
  obtain ⟨bE, oE, u, rfl, hbE, hcu, hu⟩ := hv.at k hk
  have hrow := hE.row _ (List.getElem_mem hk)
  obtain ⟨row, hrw⟩ : ∃ row, E[k] = row := ⟨_, rfl⟩
  rw [hrw] at hu hrow ⊢
  clear hrw
  obtain ⟨au, cu, rfl⟩ := hu.val
  go_enter Tryd.func60, Tryd.ntmps60
  go_wp2_with fail
  go_loopg [4, 15] row.length (fun gh s4 s15 wr => ∃ q : Nat, q + gh = row.length ∧ s15 = .int .i64 (q : Int) ∧ OwnI wr w.heap.size s4 ((row.take q).map Prod.snd) ∧ Below w.heap.size w wr)
  case atStart => exact ⟨0, by omega, rfl, OwnI.nil _ _, Below.refl _ _⟩
  case round =>
    obtain ⟨q, hqg, rfl, hT, hbel⟩ := hrel
    by_cases hq : q < row.length
    · obtain ⟨be, oe, rfl, hbe, h0, h1⟩ := hu.at hq
      rw [← Below.cellB hbel (by omega)] at h0 h1
      have htk : Hid ((row.take (q + 1)).map Prod.snd = (row.take q).map Prod.snd ++ [row[q].2]) := by
        refine Lib.hid ?_; rw [List.take_succ_eq_append_getElem hq, List.map_append, List.map_cons, List.map_nil]
      obtain ⟨e1, he1⟩ : ∃ e1, row[q].1 = e1 := ⟨_, rfl⟩
      obtain ⟨e2, he2⟩ : ∃ e2, row[q].2 = e2 := ⟨_, rfl⟩
      rw [he1] at h0
      rw [he2] at h1 htk
      clear he1 he2
      have hx3 := ((Below.refl wr.heap.size wr).alloc (Nat.le_refl _) (.cells #[.int .i64 e1, .int .i64 e2] 79)).alloc (by simp) (.cells #[.int .i64 e2] 3)
      obtain ⟨l, hll⟩ : ∃ l, (row.take q).map Prod.snd = l := ⟨_, rfl⟩
      have hln : l.length ≤ 8192 := by rw [← hll]; simp; omega
      rw [hll] at hT htk
      clear hll
      obtain ⟨a4, c4, rfl⟩ := hT.shape
      have hT4 := hT.kept hx3 (Nat.le_refl _)
      have HX := Lib.hid (hbel.trans (hx3.mono hbel.size))
      have hws := hbel.size
      clear hx3
      go_wp2_with (at_builtin; refine wpList_append_own_at _ rfl _ _ 26 rfl w.heap.size 3 i0 (.int .i64 0) 1 8 Tryd.underlying26 hti hz0 hz1 hz2 rfl (by decide) _ _ _ rfl hT4 ⟨wr.heap.size + 1, 0, none⟩ 1 1 [.int .i64 e2] rfl rfl (by have := cell_one_new (wr.alloc (.cells #[.int .i64 e1, .int .i64 e2] 79)) (.int .i64 e2) 3; rw [World.size_alloc] at this; exact this) (by intro u hu; simp at hu; subst hu; rfl) (by unfold maxLen; omega) (by omega) (by simp; omega) ?_; intro v6 w6 hown6 hg6 _ hat6)
      go_roundg (gk - 1)
      case measure => omega
      case rel => exact ⟨q + 1, by omega, by go_num, by rw [htk.out]; unfold OwnI; simpa using hown6, HX.out.grown hg6 HX.out.size (fun k hk => (World.ownsRow.lt hT4 k hk).1)⟩
    · have hq' : ¬ ((q : Int) < (row.length : Int)) := by omega
      go_wp2_with fail
      go_ret
      exact ⟨_, rfl, by rw [List.take_of_length_le (by omega)] at hT; exact hT, hbel⟩

theorem before_any (w : World) (base : Nat) (v : Value) (A : List (List Int × Value)) (hG : Grid cellI 3 1 26 w base v A) (_hA : A.length ≤ 1024) (bx : Nat) (hbx : w.cell? ⟨bx, 0, none⟩ = some v) (k : Nat) (hk : k < A.length) :
    Calls Tryd.prog 62 #[.int .i64 (k : Int), .pointer (some ⟨bx, 0, none⟩)] w fun e w' => e = .returned A[k].2 ∧ w = w' := by
  obtain ⟨g, cap, rfl, hgb, hgc, ⟨cur, hgh⟩, hgo⟩ := hG.at hk
  obtain ⟨a, c, hs⟩ := OwnF.shape hgo
  rw [hs] at hgc ⊢
  clear hgo hs
  go_enter Tryd.func62, Tryd.ntmps62
  go_wp2_with fail
  go_ret
  exact ⟨rfl, rfl⟩

/-- A row of truths that may be read. -/
abbrev Bools (w : World) (B : Nat) (v : Value) (l : List Bool) : Prop := ColV Value.bool 17592186044416 w B v l
theorem OwnF.bools {w : World} {base B : Nat} {v : Value} {l : List Bool} (h : OwnF cellB 4 1 w base v l) (hl : l.length ≤ 17592186044416) (hB : w.heap.size ≤ B) : Bools w B v l := by
  rcases h.val with ⟨rfl, rfl⟩ | ⟨g, cap, rfl, _, hg⟩
  · exact ColV.nil _ _ _ _
  · refine ⟨_, cap, rfl, hl, OwnF.cap h, fun i hi => ⟨g, 0, rfl, by omega, ?_⟩⟩
    have := OwnF.at cellB_len h hi (j := 0) (by omega)
    rw [Nat.mul_one, Nat.add_zero] at this
    rw [Nat.zero_add, this]; rfl

def idxB (x : Bool) : List Bool → Int → Int
  | [], _ => -1
  | y :: l, k => if y = x then k else idxB x l (k + 1)
theorem idxB_drop {x : Bool} {l : List Bool} {k : Nat} (h : k < l.length) : idxB x (l.drop k) k = if l[k] = x then (k : Int) else idxB x (l.drop (k + 1)) ((k + 1 : Nat) : Int) := by
  rw [List.drop_eq_getElem_cons h]; rfl
theorem idxB_iff (x : Bool) : ∀ (l : List Bool) (k : Int), 0 ≤ k → (0 ≤ idxB x l k ↔ x ∈ l)
  | [], k, _ => by simp [idxB]
  | y :: l, k, hk => by
    simp only [idxB, List.mem_cons]
    by_cases h : y = x
    · simp [h, hk]
    · rw [if_neg h, idxB_iff x l (k + 1) (by omega)]
      exact ⟨Or.inr, fun h2 => h2.elim (fun e => absurd e.symm h) id⟩
set_option maxHeartbeats 400000 in
theorem indexB_any (w : World) (B : Nat) (_hB : B ≤ w.heap.size) (v : Value) (l : List Bool) (h : Bools w B v l) (x : Bool) : Calls Tryd.prog 77 #[v, .bool x] w fun e w' => e = .returned (.int .i64 (idxB x l 0)) ∧ w = w' := by
  obtain ⟨a, c, rfl⟩ := h.val
  have hl := h.len
  go_enter Tryd.func77, Tryd.ntmps77
  go_wp2_with fail
  go_loopg [8] l.length (fun g s8 wr => ∃ k : Nat, k + g = l.length ∧ s8 = .int .i64 k ∧ Hid (idxB x (l.drop k) k = idxB x l 0) ∧ w = wr)
  case atStart => exact ⟨0, by omega, rfl, rfl, rfl⟩
  case round =>
    obtain ⟨k, hkg, rfl, hI, rfl⟩ := hrel
    by_cases hk : k < l.length
    · obtain ⟨b, o, rfl, hb, hc⟩ := h.col k hk
      have hd := Lib.hid (idxB_drop (x := x) hk)
      obtain ⟨y, hy⟩ : ∃ y, l[k] = y := ⟨_, rfl⟩
      rw [hy] at hc hd
      clear hy
      by_cases hyx : y = x
      · subst hyx
        have Hf : Hid ((k : Int) = idxB y l 0) := by rw [← hI.out, hd.out, if_pos rfl]; exact rfl
        go_wp2_with fail
        go_ret
        exact ⟨ret_int Hf.out, rfl⟩
      · have Hf : Hid (idxB x (l.drop (k + 1)) ((k + 1 : Nat) : Int) = idxB x l 0) := by rw [← hI.out, hd.out, if_neg hyx]; exact rfl
        have hne : (x == y) = false := by cases x <;> cases y <;> simp at hyx ⊢
        clear hyx
        go_wp2_with fail
        go_roundg (gk - 1)
        case measure => omega
        case rel => exact ⟨k + 1, by omega, by go_num, Hf, rfl⟩
    · have hk' : ¬ ((k : Int) < (l.length : Int)) := by omega
      have Hf : Hid (-1 = idxB x l 0) := by rw [← hI.out, List.drop_eq_nil_of_le (by omega)]; exact rfl
      go_wp2_with fail
      go_ret
      exact ⟨ret_int Hf.out, rfl⟩

theorem containsB_any (w : World) (B : Nat) (hB : B ≤ w.heap.size) (v : Value) (l : List Bool) (h : Bools w B v l) (x : Bool) : Calls Tryd.prog 63 #[v, .bool x] w fun e w' => e = .returned (.bool (decide (x ∈ l))) ∧ w = w' := by
  have HC := Lib.hid (indexB_any w B hB v l h x)
  obtain ⟨a, c, rfl⟩ := h.val
  have hx := idxB_iff x l 0 (by omega)
  have HX : Hid (decide (x ∈ l) = decide (0 ≤ idxB x l 0)) := by refine Lib.hid ?_; rw [decide_eq_decide]; exact hx.symm
  clear hx
  obtain ⟨i, hi⟩ : ∃ i, idxB x l 0 = i := ⟨_, rfl⟩
  rw [hi] at HC HX
  clear hi
  go_enter Tryd.func63, Tryd.ntmps63
  go_wp2_with (go_at_call 77; go_must (refine HC.out.mono ?_; rintro e w2 ⟨rfl, rfl⟩))
  go_ret
  exact ⟨ret_bool HX.out.symm, rfl⟩

end Go.Proofs.YtbolacnpljkpbaaDoor
