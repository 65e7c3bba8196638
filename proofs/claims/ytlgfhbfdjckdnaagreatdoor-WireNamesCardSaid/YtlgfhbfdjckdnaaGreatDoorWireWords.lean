/- wire.words: a map of what statuses say (seat wire). -/
import Derived.Test.YtlgfhbfdjckdnaaGreatDoorWireGnd
import Derived.Test.YtlgfhbfdjckdnaaGreatDoorWireP
import Derived.Maps.OwnOps
import Derived.Maps.OwnSet
set_option maxRecDepth 100000
namespace Go.Proofs.YtlgfhbfdjckdnaaGreatDoor
open Go.RowKit Go.Maps

theorem plainElem_str_inv {e : TypeId} {P : Program} (he : P.underlying e = some .string) {v : Value} {z : DataW Unit × List MemPlace} (h : plainElem P e v = some z) : ∃ s : ByteArray, v = .string s ∧ z = (.lit (.string s.data.toList), []) := by
  unfold plainElem at h
  rw [he] at h
  cases v <;> simp at h
  exact ⟨_, rfl, h.2.symm⟩
theorem bytes_ext {x y : ByteArray} (h : x.data.toList = y.data.toList) : x = y := by
  cases x; cases y
  congr 1
  exact Array.ext' h

/-- The map at block b, of at most N entries, says h; what is there is not empty. -/
def WdM (w : World) (b N : Nat) (h : Int → ByteArray) : Prop :=
  ∃ (n : Nat) (D : DataW Unit), n ≤ N ∧ w.ownsMap Tryz.prog 3 (plainElem Tryz.prog 9) b n D ∧ IsMap D ∧ ∀ x : Int, (Lit.int .i64 x).wf = true → D.atKey (.int .i64 x) (.lit (.string [])) = .lit (.string (h x).data.toList) ∧ Maps.has D (.int .i64 x) = decide ((h x).size ≠ 0)
theorem WdM.made (w : World) : WdM (w.alloc (.map #[] 0)) w.heap.size 0 (fun _ => ⟨#[]⟩) :=
  ⟨0, .map [], Nat.le_refl _, World.ownsMap_made _ _ _ _, ⟨[], rfl⟩, fun _ _ => ⟨rfl, rfl⟩⟩
theorem WdM.look {w : World} {b N : Nat} {h : Int → ByteArray} (H : WdM w b N h) (hz : (zeroValue 9).run Tryz.prog w = .ok (.string ⟨#[]⟩) w) (x : Int) (hx : (Lit.int .i64 x).wf = true) :
    (Instr.lookup 67 (.map (some b)) (.int .i64 x) false).run Tryz.prog w = .ok (.string (h x)) w := by
  obtain ⟨n, D, _, h1, h2, h3⟩ := H
  obtain ⟨v, ps, hrun, hv⟩ := h1.lookup (int_keyed Tryz.underlying3) Tryz.underlying67 hz (zd := .lit (.string [])) (zp := []) (plainElem_string Tryz.underlying9 (by decide)) (keyOf_int_mk Tryz.underlying3 hx)
  obtain ⟨c, rfl, hc⟩ := plainElem_str_inv Tryz.underlying9 hv
  rw [(h3 x hx).1] at hc
  injection hc with hc
  injection hc with hc
  injection hc with hc
  rw [hrun, bytes_ext hc]
theorem WdM.look_ok {w : World} {b N : Nat} {h : Int → ByteArray} (H : WdM w b N h) (hz : (zeroValue 9).run Tryz.prog w = .ok (.string ⟨#[]⟩) w) (x : Int) (hx : (Lit.int .i64 x).wf = true) :
    (Instr.lookup 67 (.map (some b)) (.int .i64 x) true).run Tryz.prog w = .ok (.tuple #[.string (h x), .bool (decide ((h x).size ≠ 0))]) w := by
  obtain ⟨n, D, _, h1, h2, h3⟩ := H
  obtain ⟨v, ps, hrun, hv⟩ := h1.look_ok (int_keyed Tryz.underlying3) Tryz.underlying67 hz (zd := .lit (.string [])) (zp := []) (plainElem_string Tryz.underlying9 (by decide)) (keyOf_int_mk Tryz.underlying3 hx)
  obtain ⟨c, rfl, hc⟩ := plainElem_str_inv Tryz.underlying9 hv
  rw [(h3 x hx).1] at hc
  injection hc with hc
  injection hc with hc
  injection hc with hc
  rw [hrun, (h3 x hx).2, bytes_ext hc]
def updW (h : Int → ByteArray) (x : Int) (v : ByteArray) : Int → ByteArray := fun y => if y = x then v else h y
theorem WdM.put {w : World} {b N : Nat} {h : Int → ByteArray} (H : WdM w b N h) (x : Int) (hx : (Lit.int .i64 x).wf = true) (v : ByteArray) (hv : v.size ≤ maxLen) (hv0 : v.size ≠ 0) (hN : N < maxLen) :
    ∃ w', (Instr.mapUpdate 67 (.map (some b)) (.int .i64 x) (.string v)).run Tryz.prog w = .ok () w' ∧ WdM w' b (N + 1) (updW h x v) ∧ w.grownBy w' (some b) := by
  obtain ⟨n, D, h0, h1, h2, h3⟩ := H
  obtain ⟨w', hrun, h4, h5⟩ := h1.update (int_keyed Tryz.underlying3) Tryz.underlying67 (by omega) (keyOf_int_mk Tryz.underlying3 hx) (plainElem_string Tryz.underlying9 hv)
  refine ⟨w', hrun, ⟨n + 1, _, by omega, h4, h2.put _ _, fun y hy => ?_⟩, h5⟩
  unfold updW
  by_cases e : y = x
  · subst e
    rw [if_pos rfl, decide_eq_true hv0]
    exact ⟨atKey_put_same h2 (by trivial) _ _, has_put_same h2 (by trivial) _⟩
  · rw [if_neg e, atKey_put_other (by intro h; injection h with _ h; exact e h), has_put_other (by intro h; injection h with _ h; exact e h)]
    exact h3 y hy
/-- An entry of a map literal. -/
theorem wpList_insert_wd (w : World) {ops : Array Oper} {rest : List Oper} {o : Oper} {a : Act} {Q : Exit → Act → World → Prop} (hg : o.guard = none) (m x v : Operand) (hop : o.op = Op.insert 67 m x v)
    (b N : Nat) (h : Int → ByteArray) (hm : a.eval m = .map (some b)) (H : WdM w b N h) (k : Int) (s : ByteArray) (hx : a.eval x = .int .i64 k) (hv : a.eval v = .string s) (hk : (Lit.int .i64 k).wf = true) (hs : s.size ≤ maxLen) (hs0 : s.size ≠ 0) (hN : N < maxLen)
    (hK : ∀ w', WdM w' b (N + 1) (updW h k s) → w.grownBy w' (some b) → wpList Tryz.prog ops Q rest (a.put o.dst undef) w') : wpList Tryz.prog ops Q (o :: rest) a w := by
  refine wpList_plain hg fun K' hK' => ?_
  obtain ⟨w', hrun, r1, r2⟩ := H.put k hk s hs hs0 hN
  unfold Oper.wp
  simp [execOp, hop, hm, hx, hv, hrun, Result.andThen]
  exact hK' _ _ (hK w' r1 r2)

def wordB (st : Int) : ByteArray := ⟨(wordL st).toArray⟩
theorem wordB_size (st : Int) : (wordB st).size = (wordL st).length := by
  unfold wordB
  exact List.size_toArray
set_option maxHeartbeats 2000000 in
theorem words_any (w : World) : Calls Tryz.prog 27 #[] w fun e w' => ∃ b, e = .returned (.map (some b)) ∧ WdM w' b 14 wordB ∧ Below w.heap.size w w' := by
  have hfin : Hid (∀ h : Int → ByteArray, h = updW (updW (updW (updW (updW (updW (updW (updW (updW (updW (updW (updW (updW (updW (fun _ => ⟨#[]⟩) 200 (wordB 200)) 201 (wordB 201)) 400 (wordB 400)) 404 (wordB 404)) 405 (wordB 405)) 409 (wordB 409)) 413 (wordB 413)) 422 (wordB 422)) 431 (wordB 431)) 500 (wordB 500)) 501 (wordB 501)) 503 (wordB 503)) 505 (wordB 505)) 507 (wordB 507) → h = wordB) := by
    refine Lib.hid (fun h e => ?_)
    subst e
    funext x
    by_cases h200 : x = 200
    · subst h200; rfl
    by_cases h201 : x = 201
    · subst h201; rfl
    by_cases h400 : x = 400
    · subst h400; rfl
    by_cases h404 : x = 404
    · subst h404; rfl
    by_cases h405 : x = 405
    · subst h405; rfl
    by_cases h409 : x = 409
    · subst h409; rfl
    by_cases h413 : x = 413
    · subst h413; rfl
    by_cases h422 : x = 422
    · subst h422; rfl
    by_cases h431 : x = 431
    · subst h431; rfl
    by_cases h500 : x = 500
    · subst h500; rfl
    by_cases h501 : x = 501
    · subst h501; rfl
    by_cases h503 : x = 503
    · subst h503; rfl
    by_cases h505 : x = 505
    · subst h505; rfl
    by_cases h507 : x = 507
    · subst h507; rfl
    unfold updW wordB wordL
    simp only [h200, h201, h400, h404, h405, h409, h413, h422, h431, h500, h501, h503, h505, h507, if_false]
  have hmm := @run_makeMap Tryz.prog
  have HM : Hid (WdM (w.alloc (.map #[] 0)) w.heap.size 0 (fun _ => ⟨#[]⟩) ∧ Below w.heap.size w (w.alloc (.map #[] 0))) := Lib.hid ⟨WdM.made w, (Below.refl _ _).alloc (Nat.le_refl _) _⟩
  go_enter Tryz.func27, Tryz.ntmps27
  go_wp2_with (refine wpList_insert_wd _ rfl _ _ _ rfl w.heap.size _ _ rfl HM.out.1 _ _ rfl rfl rfl (by decide) (by decide) (by decide) ?_; intro w9 hM hG; have HM := Lib.hid (And.intro hM (HM.out.2.grown hG HM.out.2.size (fun k hk => by injection hk with hk; omega))); clear hM hG)
  go_ret
  have e := hfin.out _ rfl
  refine ⟨_, rfl, ?_, HM.out.2⟩
  rw [← e]
  exact HM.out.1
end Go.Proofs.YtlgfhbfdjckdnaaGreatDoor
