/- Two clocks, lists of alarms and a map side by side: what stands where one of them turns. -/
import Derived.Test.YtofpmhkjagdmmaaClockAwake
import Derived.Test.YtofpmhkjagdmmaaMapB
import Derived.Laws.StructEq
set_option maxRecDepth 100000
namespace Go.Proofs.Ytofpmhkjagdmmaa
open Go.RowKit

/-- A clock in memory of the call's own. -/
structure CkS (w : World) (base p : Nat) (now : Int) (v : Value) (l : List Ent) (many : Int) : Prop where
  clk : Clk w p now v many
  row : Row w base v l
  heap : HeapE l

theorem CkS.below {w w' : World} {base p : Nat} {now many : Int} {v : Value} {l : List Ent} (h : CkS w base p now v l many) (hb : Below w.heap.size w w') : CkS w' base p now v l many :=
  ⟨h.clk.below hb (Nat.le_refl _), h.row.kept hb (Nat.le_refl _), h.heap⟩
theorem CkS.frm {S : List (Option Nat)} {w w' : World} {base p : Nat} {now many : Int} {v : Value} {l : List Ent} (h : CkS w base p now v l many) (hf : Frm S w w') (h1 : ∀ r ∈ S, r ≠ some p) (h2 : ∀ r ∈ S, r = none ∨ r ≠ v.ownBlock) : CkS w' base p now v l many :=
  ⟨h.clk.frm hf h1, h.row.frm hf h2, h.heap⟩
/-- Unlike blocks of two clocks' rows. -/
def Apart (v v' : Value) : Prop := v.ownBlock = none ∨ v'.ownBlock = none ∨ v.ownBlock ≠ v'.ownBlock
theorem Apart.symm {v v' : Value} (h : Apart v v') : Apart v' v := by
  rcases h with h | h | h
  · exact Or.inr (Or.inl h)
  · exact Or.inl h
  · exact Or.inr (Or.inr (Ne.symm h))
theorem Apart.fresh {w : World} {base : Nat} {v v' v2 : Value} {l : List Ent} (h : Apart v v') (hr : Row w base v l) (hf : Fresh w v' v2) : Apart v v2 := by
  rcases hf with e | ⟨k, e, hk⟩
  · unfold Apart; rw [e]; exact h
  · rcases hr.own with ⟨rfl, _⟩ | ⟨g, cap, rfl, _, hg⟩
    · exact Or.inl rfl
    · refine Or.inr (Or.inr ?_)
      rw [e]
      simp only [Value.ownBlock, ne_eq, Option.some.injEq]
      omega
/-- A clock stands where another one turns. -/
theorem CkS.other {w w' : World} {base base' p p' : Nat} {now now' many many' : Int} {v v' : Value} {l l' : List Ent} (h : CkS w base p now v l many) (k : CkS w base' p' now' v' l' many') (hp : p ≠ p') (ha : Apart v v') (hf : Frm [some p', v'.ownBlock] w w') : CkS w' base p now v l many := by
  refine h.frm hf (fun r hr => ?_) (fun r hr => ?_)
  · rcases (show r = some p' ∨ r = v'.ownBlock by simpa using hr) with rfl | rfl
    · simpa using Ne.symm hp
    · exact k.row.ne h.clk (by decide)
  · rcases (show r = some p' ∨ r = v'.ownBlock by simpa using hr) with rfl | rfl
    · exact Or.inr (Ne.symm (h.row.ne k.clk (by decide)))
    · rcases ha with e | e | e
      · cases hv : v'.ownBlock with
        | none => exact Or.inl rfl
        | some b => exact Or.inr (by rw [e]; simp)
      · exact Or.inl e
      · exact Or.inr (Ne.symm e)
/-- A list of alarms stands where a clock turns. -/
theorem als_other {w w' : World} {b base p : Nat} {now many : Int} {v vA : Value} {l : List Ent} {A : List Al} (h : Als w b vA A) (k : CkS w base p now v l many) (hf : Frm [some p, v.ownBlock] w w') : Als w' b vA A :=
  own_frm h hf (fun r hr => by
    rcases (show r = some p ∨ r = v.ownBlock by simpa using hr) with rfl | rfl
    · exact Or.inr (Ne.symm (own_blk h k.clk (by decide)))
    · exact own_row h k.row (by decide))
theorem seen_ne {w : World} {b p : Nat} {S : List Int} {c : Array Value} {t : TypeId} (h : SeenM w b S) (hp : w.heap[p]? = some (.cells c t)) : p ≠ b := by
  obtain ⟨es, ck, hb⟩ := h.isMap
  intro e
  subst e
  rw [hp] at hb
  injection hb with hb
  cases hb
theorem seen_ne_own {w : World} {b base : Nat} {S : List Int} {e : TypeId} {size n : Nat} {v : Value} {xs : List Value} (h : SeenM w b S) (k : w.ownsRow base e size v n xs) : v.ownBlock ≠ some b := by
  rcases k.2 with ⟨rfl, _⟩ | ⟨g, cap, cur, rfl, _, hg, _⟩
  · simp [Value.ownBlock]
  · have := seen_ne h hg
    simpa [Value.ownBlock] using this
/-- A map stands where a clock turns. -/
theorem seen_other {w w' : World} {b base p : Nat} {now many : Int} {v : Value} {l : List Ent} {S : List Int} (h : SeenM w b S) (k : CkS w base p now v l many) (hf : Frm [some p, v.ownBlock] w w') : SeenM w' b S :=
  h.frm hf (fun r hr => by
    rcases (show r = some p ∨ r = v.ownBlock by simpa using hr) with rfl | rfl
    · simpa using seen_ne h k.clk
    · exact seen_ne_own h k.row)
/-- A clock stands where a list of alarms grows. -/
theorem CkS.als {w w' : World} {b base p : Nat} {now many : Int} {v vA : Value} {l : List Ent} {A : List Al} (h : CkS w base p now v l many) (k : Als w b vA A) (hf : Frm [vA.ownBlock] w w') : CkS w' base p now v l many :=
  h.frm hf (fun r hr => by rw [List.mem_singleton.1 hr]; exact own_blk k h.clk (by decide)) (fun r hr => by rw [List.mem_singleton.1 hr]; exact own_row h.row k (by decide))
theorem seen_als {w w' : World} {b b' : Nat} {vA : Value} {A : List Al} {S : List Int} (h : SeenM w b S) (k : Als w b' vA A) (hf : Frm [vA.ownBlock] w w') : SeenM w' b S :=
  h.frm hf (fun r hr => by rw [List.mem_singleton.1 hr]; exact seen_ne_own h k)
/-- .. where a map turns. -/
theorem CkS.map {w w' : World} {b base p : Nat} {now many : Int} {v : Value} {l : List Ent} {S : List Int} (h : CkS w base p now v l many) (k : SeenM w b S) (hf : Frm [some b] w w') : CkS w' base p now v l many :=
  h.frm hf (fun r hr => by rw [List.mem_singleton.1 hr]; simpa using (seen_ne k h.clk).symm) (fun r hr => by rw [List.mem_singleton.1 hr]; exact Or.inr (Ne.symm (seen_ne_own k h.row)))
theorem als_map {w w' : World} {b b' : Nat} {vA : Value} {A : List Al} {S : List Int} (h : Als w b' vA A) (k : SeenM w b S) (hf : Frm [some b] w w') : Als w' b' vA A :=
  own_frm h hf (fun r hr => by rw [List.mem_singleton.1 hr]; exact Or.inr (Ne.symm (seen_ne_own k h)))

/-- tollgatelaw22.given: the same alarm. -/
theorem given_any (w : World) (a : Al) : Calls Try.prog 10 #[valA a] w fun r w' => r = .returned (valA a) ∧ Below w.heap.size w w' := by
  obtain ⟨ad, at_, av, ai⟩ := a
  have hb1 := (Below.refl w.heap.size w).alloc (Nat.le_refl _) (.cells #[.int .i64 ad, .int .i64 at_, .string av, .int .i64 ai] 31)
  have hs1 : (w.alloc (.cells #[.int .i64 ad, .int .i64 at_, .string av, .int .i64 ai] 31)).heap.size = w.heap.size + 1 := World.size_alloc _ _
  obtain ⟨w1, hw1⟩ : ∃ w1, w.alloc (.cells #[.int .i64 ad, .int .i64 at_, .string av, .int .i64 ai] 31) = w1 := ⟨_, rfl⟩
  have hn := heap_alloc_new w (.cells #[.int .i64 ad, .int .i64 at_, .string av, .int .i64 ai] 31)
  rw [hw1] at hb1 hs1 hn
  have n0 : w1.cell? ⟨w.heap.size, 0, none⟩ = some (.int .i64 ad) := by rw [cell_of_block hn]; rfl
  have n1 : w1.cell? ⟨w.heap.size, 1, none⟩ = some (.int .i64 at_) := by rw [cell_of_block hn]; rfl
  have n2 : w1.cell? ⟨w.heap.size, 2, none⟩ = some (.string av) := by rw [cell_of_block hn]; rfl
  have n3 : w1.cell? ⟨w.heap.size, 3, none⟩ = some (.int .i64 ai) := by rw [cell_of_block hn]; rfl
  have hlt : w.heap.size < w1.heap.size := by omega
  have HB := Lib.hid (show ∀ o, Below w.heap.size w (w1.alloc o) from fun o => hb1.alloc (by omega) o)
  clear hb1 hs1 hn
  go_enter Try.func10, Try.ntmps10
  go_wp2_with fail
  exact bodyPost_ret (v := valA ⟨ad, at_, av, ai⟩) (by simp [results, Try.results10, go_sem]) rfl ⟨rfl, HB.out _⟩

end Go.Proofs.Ytofpmhkjagdmmaa
