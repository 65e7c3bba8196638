/- A set of numbers as a map of the call's own: its keys, and the range over it in whatever order. -/
import Derived.Test.YtbolacnpljkpbaaDoorMapB
import Derived.Maps.RangeWalk
set_option maxRecDepth 100000
namespace Go.Proofs.YtbolacnpljkpbaaDoor
open Go.RowKit Go.Maps

def KeyD (D : DataW Unit) (S : List Int) : Prop :=
  IsMap D ∧ ∀ x : Int, (Lit.int .i64 x).wf = true → Maps.has D (.int .i64 x) = S.contains x ∧ D.atKey (.int .i64 x) (.lit (.bool false)) = .lit (.bool (S.contains x))
/-- The map at block b says true of just the numbers in S, and has no other keys. -/
def KeyM (w : World) (b : Nat) (S : List Int) : Prop :=
  ∃ (D : DataW Unit), w.ownsMap Tryd.prog 3 (plainElem Tryd.prog 4) b S.length D ∧ KeyD D S

theorem KeyM.seen {w : World} {b : Nat} {S : List Int} (h : KeyM w b S) : SeenM w b S := by
  obtain ⟨D, h1, h2, h3⟩ := h
  exact ⟨D, h1, h2, fun x hx => (h3 x hx).2⟩
theorem KeyD.empty : KeyD (.map []) [] := ⟨⟨[], rfl⟩, fun _ _ => ⟨rfl, rfl⟩⟩
theorem KeyM.made (w : World) : KeyM (w.alloc (.map #[] 0)) w.heap.size [] := ⟨.map [], World.ownsMap_made _ _ _ _, .empty⟩
theorem KeyM.lt {w : World} {b : Nat} {S : List Int} (h : KeyM w b S) : b < w.heap.size := h.seen.lt
theorem KeyM.kept {w w' : World} {b : Nat} {S : List Int} {row : Option Nat} (h : KeyM w b S) (hg : w.grownBy w' row) (hne : some b ≠ row) : KeyM w' b S := by
  obtain ⟨D, h1, h2⟩ := h
  exact ⟨D, h1.kept hg hne, h2⟩
theorem KeyM.below {w w' : World} {b : Nat} {S : List Int} (h : KeyM w b S) (hb : Below w.heap.size w w') : KeyM w' b S := h.kept (below_grownBy hb none) (by simp)
theorem KeyM.frm {T : List (Option Nat)} {w w' : World} {b : Nat} {S : List Int} (h : KeyM w b S) (hf : Frm T w w') (hne : ∀ r ∈ T, r ≠ some b) : KeyM w' b S := by
  obtain ⟨D, ⟨es, ck, hb, hr⟩, h2⟩ := h
  exact ⟨D, ⟨es, ck, hf.block hb hne, hr⟩, h2⟩
theorem KeyM.look {w : World} {b : Nat} {S : List Int} (h : KeyM w b S) (x : Int) (hx : (Lit.int .i64 x).wf = true) (hz : (zeroValue 4).run Tryd.prog w = .ok (.bool false) w) :
    (Instr.lookup 92 (.map (some b)) (.int .i64 x) false).run Tryd.prog w = .ok (.bool (S.contains x)) w := h.seen.look x hx hz
theorem KeyM.put {w : World} {b : Nat} {S : List Int} (h : KeyM w b S) (x : Int) (hx : (Lit.int .i64 x).wf = true) (hn : S.length < maxLen) :
    ∃ w', (Instr.mapUpdate 92 (.map (some b)) (.int .i64 x) (.bool true)).run Tryd.prog w = .ok () w' ∧ KeyM w' b (S ++ [x]) ∧ w.grownBy w' (some b) := by
  obtain ⟨D, h1, h2, h3⟩ := h
  obtain ⟨w', hrun, h4, h5⟩ := h1.update (int_keyed Tryd.underlying3) Tryd.underlying92 hn (keyOf_int_mk Tryd.underlying3 hx) (plainElem_bool Tryd.underlying4 true)
  refine ⟨w', hrun, ⟨_, by rw [List.length_append, List.length_singleton]; exact h4, h2.put _ _, fun y hy => ?_⟩, h5⟩
  by_cases e : y = x
  · subst e
    rw [atKey_put_same h2 (by trivial), has_put_same h2 (by trivial)]
    simp
  · have hne : (Lit.int .i64 y) ≠ (Lit.int .i64 x) := by intro h; injection h with _ h; exact e h
    rw [atKey_put_other hne, has_put_other hne, (h3 y hy).1, (h3 y hy).2]
    simp [e]
/-- An entry of a map literal. -/
theorem wpList_insert_key (w : World) {ops : Array Oper} {rest : List Oper} {o : Oper} {a : Act} {Q : Exit → Act → World → Prop} (hg : o.guard = none) (m x v : Operand) (hop : o.op = Op.insert 92 m x v)
    (b : Nat) (S : List Int) (hm : a.eval m = .map (some b)) (h : KeyM w b S) (k : Int) (hk : (Lit.int .i64 k).wf = true) (hn : S.length < maxLen) (hx : a.eval x = .int .i64 k) (hv : a.eval v = .bool true)
    (hK : ∀ w', KeyM w' b (S ++ [k]) → w.grownBy w' (some b) → wpList Tryd.prog ops Q rest (a.put o.dst undef) w') : wpList Tryd.prog ops Q (o :: rest) a w := by
  refine wpList_plain hg fun K' hK' => ?_
  obtain ⟨w', hrun, r1, r2⟩ := h.put k hk hn
  unfold Oper.wp
  simp [execOp, hop, hm, hx, hv, hrun, Result.andThen]
  exact hK' _ _ (hK w' r1 r2)

/-- A range over such a map under way: acc is what came. -/
def IterM (w : World) (b r : Nat) (S acc : List Int) (cnt : Nat) : Prop :=
  ∃ (D : DataW Unit) (left : Lit → Bool), w.ranges Tryd.prog 3 (plainElem Tryd.prog 4) b r S.length D left cnt ∧ KeyD D S ∧ acc.Nodup ∧ (∀ x ∈ acc, x ∈ S) ∧ ∀ x : Int, (Lit.int .i64 x).wf = true → (left (.int .i64 x) = true ↔ x ∈ S ∧ x ∉ acc)
theorem IterM.keys {w : World} {b r : Nat} {S acc : List Int} {cnt : Nat} (h : IterM w b r S acc cnt) : KeyM w b S := by
  obtain ⟨D, left, h1, h2, _⟩ := h
  exact ⟨D, h1.owns, h2⟩
theorem IterM.left {w : World} {b r : Nat} {S acc : List Int} {cnt : Nat} (h : IterM w b r S acc cnt) : w.rangeLeft b r = cnt := by
  obtain ⟨D, left, h1, _⟩ := h
  exact h1.left_eq
theorem IterM.lt {w : World} {b r : Nat} {S acc : List Int} {cnt : Nat} (h : IterM w b r S acc cnt) : b < w.heap.size ∧ r < w.heap.size ∧ r ≠ b := by
  obtain ⟨D, left, h1, _⟩ := h
  exact ⟨h1.owns.lt, h1.lt, h1.ne⟩
theorem IterM.nodup {w : World} {b r : Nat} {S acc : List Int} {cnt : Nat} (h : IterM w b r S acc cnt) : acc.Nodup ∧ ∀ x ∈ acc, x ∈ S := by
  obtain ⟨D, left, _, _, h1, h2, _⟩ := h
  exact ⟨h1, h2⟩
theorem IterM.kept {w w' : World} {b r : Nat} {S acc : List Int} {cnt : Nat} {row : Option Nat} (h : IterM w b r S acc cnt) (hg : w.grownBy w' row) (hb : some b ≠ row) (hr : some r ≠ row) : IterM w' b r S acc cnt := by
  obtain ⟨D, left, h1, h2⟩ := h
  exact ⟨D, left, h1.kept hg hb hr, h2⟩
theorem IterM.below {w w' : World} {b r : Nat} {S acc : List Int} {cnt : Nat} (h : IterM w b r S acc cnt) (hb : Below w.heap.size w w') : IterM w' b r S acc cnt := h.kept (below_grownBy hb none) (by simp) (by simp)

theorem wpList_range_keys (w : World) {ops : Array Oper} {rest : List Oper} {o : Oper} {a : Act} {Q : Exit → Act → World → Prop} (hg : o.guard = none) (m : Operand) (hop : o.op = Op.range 92 m)
    (b : Nat) (S : List Int) (hm : a.eval m = .map (some b)) (h : KeyM w b S)
    (hK : ∀ w' cnt, IterM w' b w.heap.size S [] cnt → w.grownBy w' none → w'.heap.size = w.heap.size + 1 → wpList Tryd.prog ops Q rest (a.put o.dst (.pointer (some ⟨w.heap.size, 0, none⟩))) w') :
    wpList Tryd.prog ops Q (o :: rest) a w := by
  obtain ⟨D, h1, h2⟩ := h
  refine wpList_range_own w hg m 92 hop 3 4 (int_keyed Tryd.underlying3) Tryd.underlying92 _ b S.length D hm h1 fun w' r1 r2 r3 => hK w' _ ⟨D, _, r1, h2, List.nodup_nil, by simp, fun x hx => ?_⟩ r2 r3
  rw [(h2.2 x hx).1]
  simp

theorem wpList_next_keys (w : World) {ops : Array Oper} {rest : List Oper} {o : Oper} {a : Act} {Q : Exit → Act → World → Prop} (hg : o.guard = none) (it : Operand) (hop : o.op = Op.next it false)
    (b r : Nat) (S acc : List Int) (cnt : Nat) (hit : a.eval it = .pointer (some ⟨r, 0, none⟩)) (h : IterM w b r S acc cnt)
    (hDone : (∀ x : Int, (Lit.int .i64 x).wf = true → x ∈ S → x ∈ acc) → wpList Tryd.prog ops Q rest (a.put o.dst (.tuple #[.bool false])) w)
    (hMore : ∀ (x : Int) (w' : World) (cnt' : Nat), (Lit.int .i64 x).wf = true → x ∈ S → x ∉ acc → IterM w' b r S (acc ++ [x]) cnt' → cnt' < cnt → w.grownBy w' (some r) → w'.heap.size = w.heap.size →
      (Instr.entry (.pointer (some ⟨r, 0, none⟩))).run Tryd.prog w' = .ok (.tuple #[.int .i64 x, .bool true]) w' → wpList Tryd.prog ops Q rest (a.put o.dst (.tuple #[.bool true, .int .i64 x, .bool true])) w') :
    wpList Tryd.prog ops Q (o :: rest) a w := by
  obtain ⟨D, left, h1, h2, h3, h4, h5⟩ := h
  refine wpList_next_ranges w hg it hop 3 (int_keyed Tryd.underlying3) (plainElem Tryd.prog 4) (Value.int .i64) Value.bool (fun key kl hkey => by obtain ⟨x, rfl, _⟩ := Maps.keyOf_int_inv Tryd.underlying3 hkey; exact ⟨x, rfl⟩)
    (fun v y hv => by obtain ⟨c, rfl, _⟩ := plainElem_bool_inv Tryd.underlying4 hv; exact ⟨c, rfl⟩) b r S.length D left cnt hit h1 (fun _ hl => hDone fun x hx hxS => ?_) ?_
  · by_cases hxa : x ∈ acc
    · exact hxa
    · have := (h5 x hx).2 ⟨hxS, hxa⟩
      rw [hl] at this; cases this
  · intro x c kl y w' cnt' hkey hlk hv hat hrg hlt hgr hsz hen
    obtain ⟨x', ex, rfl, hwx⟩ := Maps.keyOf_int_inv Tryd.underlying3 hkey
    cases ex
    obtain ⟨c', ec, rfl⟩ := plainElem_bool_inv Tryd.underlying4 hv
    cases ec
    obtain ⟨hxS, hxa⟩ := (h5 x hwx).1 hlk
    have hc := hat (.lit (.bool false))
    rw [(h2.2 x hwx).2] at hc
    have hct : S.contains x = true := by simpa using hxS
    rw [hct] at hc
    obtain rfl : true = c := by injection hc with hc; injection hc
    refine hMore x w' cnt' hwx hxS hxa ⟨D, _, hrg, h2, ?_, ?_, fun z hz => ?_⟩ hlt hgr hsz hen
    · rw [List.nodup_append]
      refine ⟨h3, by simp, fun p hp q hq => ?_⟩
      obtain rfl : q = x := by simpa using hq
      rintro rfl
      exact hxa hp
    · intro z hz
      rcases List.mem_append.1 hz with hz | hz
      · exact h4 z hz
      · obtain rfl : z = x := by simpa using hz
        exact hxS
    · rw [Bool.and_eq_true, h5 z hz]
      by_cases e : z = x
      · subst e
        simp [Lit.sameKey]
      · have : Lit.sameKey (.int .i64 z) (.int .i64 x) = false := by
          cases hs : Lit.sameKey (.int .i64 z) (.int .i64 x)
          · rfl
          · exact absurd (WideAt.sameKey_eq hs) (by intro h; injection h with _ h; exact e h)
        rw [this]
        simp [e]
end Go.Proofs.YtbolacnpljkpbaaDoor
