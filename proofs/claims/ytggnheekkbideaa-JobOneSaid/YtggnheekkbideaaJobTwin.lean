/- Instances in new memory: slices.Clone on tokens and variables, job.twins, the document's Twin. -/
import Derived.Test.YtggnheekkbideaaInsO
import Derived.Maps.AppendAt
import Derived.IntWalk
set_option maxRecDepth 100000
namespace Go.Proofs.Ytggnheekkbideaa
open Go.RowKit

/-- Where a row turns whose elements are of another type. -/
theorem OwnF.grownT {α : Type} {f : α → List Value} {k k' : Nat} {e e' : TypeId} {w w' : World} {base base' n' : Nat} {v v' : Value} {A : List α} {xs : List Value} (h : OwnF f e k w base v A) (hr : w.ownsRow base' e' k' v' n' xs) (hne : e ≠ e') (hg : w.grownBy w' v'.ownBlock) : OwnF f e k w' base v A :=
  h.keepB fun g hgg => hg.block g (OwnF.lt h g hgg).2 (fun e1 => by
    rcases h.2 with ⟨e2, _⟩ | ⟨g1, c1, cur1, e2, _, h1, _⟩
    · rw [e2] at hgg; cases hgg
    · rw [e2] at hgg; cases hgg
      rcases hr.2 with ⟨e3, _⟩ | ⟨g2, c2, cur2, e3, _, h2, _⟩
      · rw [e3] at e1; cases e1
      · rw [e3] at e1; injection e1 with e1
        simp only at e1
        subst e1
        rw [h1] at h2
        injection h2 with h2
        injection h2 with _ h2
        exact hne h2)
theorem OwnH.grownT {w w' : World} {lo base' n' k' : Nat} {e' : TypeId} {R : List Ih} {v' : Value} {xs : List Value} (h : OwnH w lo R) (hr : w.ownsRow base' e' k' v' n' xs) (h1 : 85 ≠ e') (h2 : 41 ≠ e') (hg : w.grownBy w' v'.ownBlock) : OwnH w' lo R :=
  ⟨fun x hx => OwnF.grownT (h.vars x hx) hr h1 hg, fun x hx => OwnF.grownT (h.toks x hx) hr h2 hg, h.apart⟩
theorem ownT_of {w : World} {base n : Nat} {v : Value} {l : List Tok} (h : w.ownsRow base 41 9 v (0 + n) ([] ++ cellsF cellT l)) (hn : l.length = n) : RowT w base v l := by
  subst hn
  unfold RowT OwnF
  simpa using h
theorem ownB_of {w : World} {base n : Nat} {v : Value} {l : List Bnd} (h : w.ownsRow base 85 5 v (0 + n) ([] ++ cellsF cellB l)) (hn : l.length = n) : RowB w base v l := by
  subst hn
  unfold RowB OwnF
  simpa using h

set_option maxHeartbeats 2000000 in
theorem cloneT_any (w : World) (v : Value) (l : List Tok) (h : TsR w w.heap.size v l) (hl : l.length ≤ 1048576) :
    Calls Try.prog 49 #[v] w fun e w' => ∃ vo, e = .returned vo ∧ RowT w' w.heap.size vo l ∧ Below w.heap.size w w' := by
  obtain ⟨i0, hti, hz0, hz1, hz2⟩ := info_parts (show (Try.prog.info? 41).map (fun i => (i.zero, i.size, i.bytes)) = some (some (.agg #[.int .i64 0, .string default, .string default, .int .i64 0, .int .i64 0, .string default, .int .i64 0, .int .u8 0, .int .i64 0]), 9, 96) by kernel_rfl)
  have q22 : ∀ (w : World) (a : Option Addr) (n c n' c' : Nat), (binOp .eql 43 (.slice a n c) (.slice none n' c')).run Try.prog w = .ok (.bool a.isNone) w := fun w a n c n' c' => Lib.run_eql_slice_nil w _ _ a n c n' c' Try.underlying43
  obtain ⟨a, c, rfl⟩ :=  h.val
  cases a with
  | none =>
    have hl0 : l = [] := by
      cases l with
      | nil => rfl
      | cons x l => obtain ⟨b, o, hb, _⟩ := h.col 0 (by simp); cases hb
    subst hl0
    go_enter Try.func49, Try.ntmps49
    go_wp2_with fail
    go_ret
    exact ⟨_, rfl, OwnF.nil _ _, Below.refl _ _⟩
  | some ad =>
    have hb := (Below.refl w.heap.size w).alloc (Nat.le_refl _) (.cells #[] 41)
    have HS := Lib.hid (h.mono hb (Nat.le_refl _))
    obtain ⟨n, hn⟩ : ∃ n, l.length = n := ⟨_, rfl⟩
    have Hn := Lib.hid hn
    rw [hn] at HS hl ⊢
    clear h hb hn
    go_enter Try.func49, Try.ntmps49
    go_wp2_with (at_builtin; refine wpList_append_slF _ rfl (.tmp 5) (.tmp 6) 43 rfl cellT_len cellT_one w.heap.size 41 i0 _ 96 Try.underlying43 hti hz0 hz1 hz2 rfl (by decide) _ 0 [] rfl (World.ownsRow_made w #[] 0 (Nat.le_refl _) (by simp) (by simp)) rfl HS.out (by unfold maxLen; rw [Hn.out]; omega) (by rw [Hn.out]; omega) (by simp) ?_; intro v' w1 hown hg _)
    go_ret
    exact ⟨_, rfl, ownT_of (by rwa [Hn.out] at hown) Hn.out, (Below.refl _ _).alloc (Nat.le_refl _) _ |>.grown hg (by simp) (fun k hk => by cases hk; exact Nat.le_refl _)⟩

set_option maxHeartbeats 2000000 in
theorem cloneB_any (w : World) (v : Value) (l : List Bnd) (h : BsR w w.heap.size v l) (hl : l.length ≤ 1048576) :
    Calls Try.prog 50 #[v] w fun e w' => ∃ vo, e = .returned vo ∧ RowB w' w.heap.size vo l ∧ Below w.heap.size w w' := by
  obtain ⟨i0, hti, hz0, hz1, hz2⟩ := info_parts (show (Try.prog.info? 85).map (fun i => (i.zero, i.size, i.bytes)) = some (some (.agg #[.string default, .int .u8 0, .int .i64 0, .bool false, .string default]), 5, 56) by kernel_rfl)
  have q22 : ∀ (w : World) (a : Option Addr) (n c n' c' : Nat), (binOp .eql 42 (.slice a n c) (.slice none n' c')).run Try.prog w = .ok (.bool a.isNone) w := fun w a n c n' c' => Lib.run_eql_slice_nil w _ _ a n c n' c' Try.underlying42
  obtain ⟨a, c, rfl⟩ :=  h.val
  cases a with
  | none =>
    have hl0 : l = [] := by
      cases l with
      | nil => rfl
      | cons x l => obtain ⟨b, o, hb, _⟩ := h.col 0 (by simp); cases hb
    subst hl0
    go_enter Try.func50, Try.ntmps50
    go_wp2_with fail
    go_ret
    exact ⟨_, rfl, OwnF.nil _ _, Below.refl _ _⟩
  | some ad =>
    have hb := (Below.refl w.heap.size w).alloc (Nat.le_refl _) (.cells #[] 85)
    have HS := Lib.hid (h.mono hb (Nat.le_refl _))
    obtain ⟨n, hn⟩ : ∃ n, l.length = n := ⟨_, rfl⟩
    have Hn := Lib.hid hn
    rw [hn] at HS hl ⊢
    clear h hb hn
    go_enter Try.func50, Try.ntmps50
    go_wp2_with (at_builtin; refine wpList_append_slF _ rfl (.tmp 5) (.tmp 6) 42 rfl cellB_len cellB_one w.heap.size 85 i0 _ 56 Try.underlying42 hti hz0 hz1 hz2 rfl (by decide) _ 0 [] rfl (World.ownsRow_made w #[] 0 (Nat.le_refl _) (by simp) (by simp)) rfl HS.out (by unfold maxLen; rw [Hn.out]; omega) (by rw [Hn.out]; omega) (by simp) ?_; intro v' w1 hown hg _)
    go_ret
    exact ⟨_, rfl, ownB_of (by rwa [Hn.out] at hown) Hn.out, (Below.refl _ _).alloc (Nat.le_refl _) _ |>.grown hg (by simp) (fun k hk => by cases hk; exact Nat.le_refl _)⟩

end Go.Proofs.Ytggnheekkbideaa
