/- Alarms of unlike tokens go off in one order, in whatever order they were set. On lists. -/
import Derived.Test.YtofpmhkjagdmmaaClockRefP
set_option maxRecDepth 100000
namespace Go.Proofs.Ytofpmhkjagdmmaa

theorem tick_perm {C : List Ent} {S : List Al} {n : Int} (hC : (C.map Ent.al).Perm S) (hh : HeapE C) : ((tickE C n).1.map Ent.al).Perm (S.filter (fun a => decide (a.due ≤ n))) := by
  obtain ⟨t1, _, _, t4, t5⟩ := tick_ok n _ C rfl hh
  obtain ⟨p1, _⟩ := perm_filter_out t1 t4 t5
  have h2 := (p1.map Ent.al).symm
  rw [filter_al C (fun a => decide (a.due ≤ n))] at h2
  exact h2.trans (hC.filter _)
theorem tick_nodup {C : List Ent} {S : List Al} {n : Int} (hC : (C.map Ent.al).Perm S) (hh : HeapE C) (hn : (S.map Al.token).Nodup) : (((tickE C n).1.map Ent.al).map Al.token).Nodup := by
  rw [((tick_perm (n := n) hC hh).map Al.token).nodup_iff]
  exact List.Nodup.sublist ((List.filter_sublist (l := S)).map Al.token) hn
theorem order_tick {C D : List Ent} {S : List Al} {n : Int} (hC : (C.map Ent.al).Perm S) (hD : (D.map Ent.al).Perm S) (kC : HeapE C) (kD : HeapE D) (hn : (S.map Al.token).Nodup) : (tickE C n).1.map Ent.al = (tickE D n).1.map Ent.al :=
  order_one ((tick_perm hC kC).trans (tick_perm hD kD).symm) (tick_sorted kC) (tick_sorted kD) (tick_nodup hC kC hn)
theorem order_next {A : List Al} (hs : A.Pairwise leAl) (hn : (A.map Al.token).Nodup) {i : Nat} (hi : i + 1 < A.length) : A[i].due < A[i + 1].due ∨ (A[i].due = A[i + 1].due ∧ A[i].token < A[i + 1].token) := by
  have h1 := List.pairwise_iff_getElem.1 hs i (i + 1) (by omega) hi (by omega)
  have h2 := List.pairwise_iff_getElem.1 hn i (i + 1) (by simp; omega) (by simp; omega) (by omega)
  rw [List.getElem_map, List.getElem_map] at h2
  unfold leAl at h1
  omega
/-- None of the tokens is set. -/
theorem hasA_no {C : List Ent} {S : List Al} (hC : (C.map Ent.al).Perm S) {x : Al} (hx : x.token ∉ S.map Al.token) {sm : Al → Ent → Bool} (hsm : ∀ a e, sm a e = true → e.al.token = a.token) : C.any (sm x) = false := by
  rw [List.any_eq_false]
  intro e he h
  have := hsm x e (by simpa using h)
  refine hx ?_
  rw [← this]
  have h1 : e.al ∈ S := hC.subset (List.mem_map.2 ⟨e, he, rfl⟩)
  exact List.mem_map.2 ⟨e.al, h1, rfl⟩
theorem push_al {C : List Ent} {S : List Al} (hC : (C.map Ent.al).Perm S) (x : Al) (k : Int) : ((pushE ltEnt C ⟨x, k⟩).map Ent.al).Perm (S ++ [x]) :=
  ((push_perm C ⟨x, k⟩).map Ent.al).trans ((hC.cons x).trans (List.perm_append_comm (l₁ := [x]) (l₂ := S)))
theorem push_al' {C : List Ent} {S : List Al} (hC : (C.map Ent.al).Perm S) (x : Al) (k : Int) : ((pushE ltEnt C ⟨x, k⟩).map Ent.al).Perm (x :: S) :=
  ((push_perm C ⟨x, k⟩).map Ent.al).trans (hC.cons x)

end Go.Proofs.Ytofpmhkjagdmmaa
