/- append(dst, src...): dst the call's own, src any slice of structs without slices of their own that may be read: nil, empty or not. -/
import Derived.Test.YtlgfhbfdjckdnaaGreatDoorRowsF
import Derived.Test.YtlgfhbfdjckdnaaGreatDoorAppCol
set_option maxRecDepth 100000
namespace Go.Proofs.YtlgfhbfdjckdnaaGreatDoor
open Go.RowKit

section
variable {P : Program} (w : World) {α : Type} {f : α → List Value} {k : Nat}
theorem add_addrF (b o i : Nat) : (⟨b, o, none⟩ : Addr).add i = ⟨b, o + i, none⟩ := by
  unfold Addr.add
  split <;> simp_all
theorem cellsF_one2 (h1 : ∀ x, ∀ u ∈ f x, u.oneCell' = true) (l : List α) : ∀ u ∈ cellsF f l, u.oneCell' = true := by
  intro u hu
  obtain ⟨x, _, hx⟩ := List.mem_flatMap.1 hu
  exact h1 x u hx
theorem run_append_colF (hf : ∀ x, (f x).length = k) (h1 : ∀ x, ∀ u ∈ f x, u.oneCell' = true) (base : Nat) (t ty e : TypeId) (i : TypeInfo) (z : Value) (bytes : Nat) (ht : P.underlying t = some (.slice e)) (hi : P.info? e = some i) (hz : i.zero = some z)
    (hsize : i.size = k) (hby : i.bytes = bytes) (hzs : z.cells.size = k) (hk : 0 < k)
    (v : Value) (n : Nat) (xs : List Value) (hown : w.ownsRow base e k v n xs) {B cap : Nat} {a : Option Addr} {l : List α} (hc : ColF f k w B a l)
    (h63 : n + l.length ≤ maxLen) (hbytes : (n + l.length) * bytes ≤ 140737488355328) (hbase : base ≤ w.heap.size) :
    ∃ v' w', (Builtin.append_ #[t, t] ty #[v, .slice a l.length cap]).run P w = .ok v' w' ∧ w'.ownsRow base e k v' (n + l.length) (xs ++ cellsF f l) ∧ w.grownBy w' v.ownBlock ∧ (v'.ownBlock = v.ownBlock ∨ v'.ownBlock = some w.heap.size) := by
  cases a with
  | none =>
    have hl0 : l = [] := by
      cases l with
      | nil => rfl
      | cons x l => obtain ⟨b, o, hb, _⟩ := hc 0 (by simp); cases hb
    subst hl0
    exact ⟨v, w, run_append_none w base t ty e i k ht hi v n cap xs hown, by simpa [cellsF] using hown, ⟨rfl, rfl, rfl, Nat.le_refl _, fun _ _ _ => rfl⟩, Or.inl rfl⟩
  | some ad =>
    have hnews : ∀ j u, (cellsF f l)[j]? = some u → w.cell? (ad.add j) = some u := by
      intro j u hu
      have hj : j < (cellsF f l).length := (List.getElem?_eq_some_iff.1 hu).1
      rw [cellsF_len hf] at hj
      have hi : j / k < l.length := (Nat.div_lt_iff_lt_mul hk).2 hj
      obtain ⟨b, o, hb, _, hcc⟩ := hc (j / k) hi
      cases hb
      have hm : j % k < k := Nat.mod_lt _ hk
      have e := Nat.div_add_mod' j k
      rw [add_addrF, show o + j = o + (j / k) * k + j % k by omega, hcc _ hm, ← hu]
      have := cellsF_at hf l (j / k) (j % k) hi hm
      rw [e] at this
      exact this.symm
    obtain ⟨v', w', hr, g1, g2, _, g3⟩ := run_append_own_at (P := P) w base t ty e i z k bytes ht hi hz hsize hby hzs hk v n xs hown ad l.length cap (cellsF f l) (cellsF_len hf l) hnews
      (cellsF_one2 h1 l) h63 hbytes hbase
    exact ⟨v', w', hr, g1, g2, g3⟩

theorem wpList_append_colF {ops : Array Oper} {rest : List Oper} {o : Oper} {a : Act} {Q : Exit → Act → World → Prop} (hgd : o.guard = none) (s x : Operand) (t : TypeId)
    (ho : o.op = .call { callee := .builtin .append, args := #[s, x], argTypes := #[t, t] })
    (hf : ∀ x, (f x).length = k) (h1 : ∀ x, ∀ u ∈ f x, u.oneCell' = true) (base : Nat) (e : TypeId) (i : TypeInfo) (z : Value) (bytes : Nat) (ht : P.underlying t = some (.slice e)) (hi : P.info? e = some i) (hz : i.zero = some z)
    (hsize : i.size = k) (hby : i.bytes = bytes) (hzs : z.cells.size = k) (hk : 0 < k)
    (v : Value) (n : Nat) (xs : List Value) (hs : a.eval s = v) (hown : w.ownsRow base e k v n xs) {B cap : Nat} {ad : Option Addr} {l : List α} (hx : a.eval x = .slice ad l.length cap) (hc : ColF f k w B ad l)
    (h63 : n + l.length ≤ maxLen) (hbytes : (n + l.length) * bytes ≤ 140737488355328) (hbase : base ≤ w.heap.size)
    (h : ∀ v' w', w'.ownsRow base e k v' (n + l.length) (xs ++ cellsF f l) → w.grownBy w' v.ownBlock → (v'.ownBlock = v.ownBlock ∨ v'.ownBlock = some w.heap.size) → wpList P ops Q rest (a.put o.dst v') w') : wpList P ops Q (o :: rest) a w := by
  obtain ⟨v', w', hr, h2, h3, h4⟩ := run_append_colF (P := P) (cap := cap) w hf h1 base t o.type e i z bytes ht hi hz hsize hby hzs hk v n xs hown hc h63 hbytes hbase
  refine wpList_plain hgd fun K hK => ?_
  unfold Oper.wp execOp
  simp only [ho, resolve, invoke, builtin, Sem.run_bind, Sem.run_pure, Result.andThen_ok, List.map_toArray, List.map_cons, List.map_nil, hs, hx, hr]
  exact hK _ _ (h v' w' h2 h3 h4)
end
/-- A built slice is the call's own. -/
theorem ownF_built {α : Type} {f : α → List Value} {k : Nat} (hf : ∀ x, (f x).length = k) {e : TypeId} {w : World} {base g n : Nat} {A : List α} {cur : Array Value} (hb : base ≤ g) (h : w.heap[g]? = some (.cells cur e (0, 0))) (hc : cur.toList = cellsF f A) (hn : A.length = n) (hm : n ≤ maxLen) : w.ownsRow base e k (.slice (some ⟨g, 0, none⟩) n n) n (cellsF f A) := by
  have hl := cellsF_len hf A
  have hs : cur.size = n * k := by
    have : cur.toList.length = n * k := by rw [hc, hl, hn]
    simpa using this
  exact ⟨by rw [hl, hn], .inr ⟨g, n, cur, rfl, hb, h, Nat.le_refl _, hm, hs, by rw [hc, List.take_of_length_le (by rw [hl, hn]; omega)]⟩⟩
end Go.Proofs.YtlgfhbfdjckdnaaGreatDoor
