/- Maps from numbers in memory of the call's own, whatever the plain element: what a number stands for; 'm[k] = v' in one statement with others (entry, then store). -/
import Derived.Test.YtggnheekkbideaaMapB
import Derived.WideKeyEntry
set_option maxRecDepth 100000
namespace Go.Proofs.Ytggnheekkbideaa
open Go.RowKit Go.Maps
open Go.ChangeMaps (setBlock heap_setBlock_same heap_setBlock_other)

section
variable {P : Program} {β : Type}
/-- How an element lies and reads. -/
structure ElemK (P : Program) (e : TypeId) (mk : β → Value) (rl : β → Lit) (ok : β → Prop) : Prop where
  lay : ∀ x, ok x → plainElem (H := Unit) P e (mk x) = some (.lit (rl x), [])
  back : ∀ v z, plainElem (H := Unit) P e v = some z → ∃ x, v = mk x ∧ z = (.lit (rl x), [])
  inj : ∀ x y, rl x = rl y → x = y

/-- The map at block b, with at most N entries, has h x at x, where what is not there counts as z0. -/
def MapN (P : Program) (k e : TypeId) (rl : β → Lit) (z0 : β) (w : World) (b N : Nat) (h : Int → β) : Prop :=
  ∃ (n : Nat) (D : DataW Unit), n ≤ N ∧ w.ownsMap P k (plainElem P e) b n D ∧ IsMap D ∧ ∀ x : Int, (Lit.int .i64 x).wf = true → D.atKey (.int .i64 x) (.lit (rl z0)) = .lit (rl (h x))

variable {k e t : TypeId} {mk : β → Value} {rl : β → Lit} {ok : β → Prop} {z0 : β} {w w' : World} {b N : Nat} {h : Int → β}
theorem MapN.made (P : Program) (k e : TypeId) (rl : β → Lit) (z0 : β) (w : World) : MapN P k e rl z0 (w.alloc (.map #[] 0)) w.heap.size 0 (fun _ => z0) :=
  ⟨0, .map [], Nat.le_refl _, World.ownsMap_made _ _ _ _, ⟨[], rfl⟩, fun _ _ => rfl⟩
theorem MapN.lt (H : MapN P k e rl z0 w b N h) : b < w.heap.size := by
  obtain ⟨n, D, _, h1, _⟩ := H
  exact h1.lt
theorem MapN.le {N' : Nat} (H : MapN P k e rl z0 w b N h) (hn : N ≤ N') : MapN P k e rl z0 w b N' h := by
  obtain ⟨n, D, h0, h1⟩ := H
  exact ⟨n, D, by omega, h1⟩
theorem MapN.sameB (H : MapN P k e rl z0 w b N h) (hb : w'.heap[b]? = w.heap[b]?) : MapN P k e rl z0 w' b N h := by
  obtain ⟨n, D, h0, ⟨es, ck, h1, h2⟩, h3⟩ := H
  exact ⟨n, D, h0, ⟨es, ck, hb.trans h1, h2⟩, h3⟩
theorem MapN.below (H : MapN P k e rl z0 w b N h) (hb : Below w.heap.size w w') : MapN P k e rl z0 w' b N h := H.sameB (hb.block b H.lt)
theorem MapN.kept {row : Option Nat} (H : MapN P k e rl z0 w b N h) (hg : w.grownBy w' row) (hne : some b ≠ row) : MapN P k e rl z0 w' b N h := H.sameB (hg.block b H.lt hne)
theorem MapN.isMap (H : MapN P k e rl z0 w b N h) : ∃ es ck, w.heap[b]? = some (.map es ck) := by
  obtain ⟨n, D, _, ⟨es, ck, hb, _⟩, _⟩ := H
  exact ⟨es, ck, hb⟩
theorem MapN.look (H : MapN P k e rl z0 w b N h) (E : ElemK P e mk rl ok) (hk : P.underlying k = some (.int .i64)) (ht : P.underlying t = some (.map k e)) (h0 : ok z0) (hz : (zeroValue e).run P w = .ok (mk z0) w) (x : Int) (hx : (Lit.int .i64 x).wf = true) :
    (Instr.lookup t (.map (some b)) (.int .i64 x) false).run P w = .ok (mk (h x)) w := by
  obtain ⟨n, D, _, h1, h2, h3⟩ := H
  obtain ⟨v, ps, hrun, hv⟩ := h1.lookup (int_keyed hk) ht hz (E.lay z0 h0) (keyOf_int_mk hk hx)
  obtain ⟨c, rfl, hc⟩ := E.back _ _ hv
  rw [h3 x hx] at hc
  injection hc with hc
  injection hc with hc
  rw [hrun, E.inj _ _ hc]
def updF (h : Int → β) (x : Int) (v : β) : Int → β := fun y => if y = x then v else h y
theorem MapN.putAt {x : Int} {v : β} {n : Nat} {D : DataW Unit} {M : World} (hn : n ≤ N) (h1 : M.ownsMap P k (plainElem P e) b (n + 1) (D.put (.int .i64 x) (.lit (rl v)))) (h2 : IsMap D) (h3 : ∀ x : Int, (Lit.int .i64 x).wf = true → D.atKey (.int .i64 x) (.lit (rl z0)) = .lit (rl (h x))) : MapN P k e rl z0 M b (N + 1) (updF h x v) := by
  refine ⟨n + 1, _, by omega, h1, h2.put _ _, fun y hy => ?_⟩
  unfold updF
  by_cases e : y = x
  · subst e
    rw [if_pos rfl]
    exact atKey_put_same h2 (by trivial) _ _
  · rw [if_neg e, atKey_put_other (by intro h; injection h with _ h; exact e h), h3 y hy]
theorem MapN.put (H : MapN P k e rl z0 w b N h) (E : ElemK P e mk rl ok) (hk : P.underlying k = some (.int .i64)) (ht : P.underlying t = some (.map k e)) (x : Int) (hx : (Lit.int .i64 x).wf = true) (v : β) (hv : ok v) (hN : N < maxLen) :
    ∃ w', (Instr.mapUpdate t (.map (some b)) (.int .i64 x) (mk v)).run P w = .ok () w' ∧ MapN P k e rl z0 w' b (N + 1) (updF h x v) ∧ w.grownBy w' (some b) := by
  obtain ⟨n, D, h0, h1, h2, h3⟩ := H
  obtain ⟨w', hrun, h4, h5⟩ := h1.update (int_keyed hk) ht (by omega) (keyOf_int_mk hk hx) (E.lay v hv)
  exact ⟨w', hrun, MapN.putAt h0 h4 h2 h3, h5⟩

theorem keys_int {R : Value → Option (DataW Unit × List MemPlace)} {es : Array MapEntry} {ck : Nat} (hk : P.underlying k = some (.int .i64)) (F : Go.WideElems.Fit P k R es ck) : ∀ x ∈ es.toList, MapKept.IsKey (.int .i64) x.key := by
  intro x hx
  obtain ⟨y, hy⟩ := F.reads x hx
  have : ∃ l, keyOf P k x.key = some l := ⟨_, Go.WideElems.rd_key hy⟩
  obtain ⟨l, hl⟩ := this
  have hl' : mapKey P k x.key = some l := by simpa [keyOf, hk] using hl
  obtain ⟨d', hd', h1, _⟩ := Go.WideShapes.mapKey_isKey hl'
  rw [hk] at hd'
  cases hd'
  exact h1

/-- 'm[x] = v' in two steps: the entry is made, then stored. -/
theorem MapN.entry (H : MapN P k e rl z0 w b N h) (E : ElemK P e mk rl ok) (hk : P.underlying k = some (.int .i64)) (ht : P.underlying t = some (.map k e)) (hz : ∀ u : World, (zeroValue e).run P u = .ok (mk z0) u) (x : Int) (hx : (Lit.int .i64 x).wf = true) (v : β) (hv : ok v) (hN : N < maxLen) :
    ∃ (v0 : Value) (st : Int) (M1 M2 : Obj), (∀ W : World, W.heap[b]? = w.heap[b]? → (Instr.mapEntry t (.map (some b)) (.int .i64 x)).run P W = .ok (.tuple #[v0, .int .i64 st]) (setBlock W b M1)) ∧
      (∀ W : World, W.heap[b]? = some M1 → (Instr.entryStore t (.map (some b)) (.int .i64 st) (mk v)).run P W = .ok () (setBlock W b M2)) ∧
      (∃ es ck, M1 = .map es ck) ∧ ∀ W : World, W.heap[b]? = some M2 → MapN P k e rl z0 W b (N + 1) (updF h x v) := by
  obtain ⟨n, D, h0, h1, h2, h3⟩ := H
  obtain ⟨w', hrun, h4, h5⟩ := h1.update (int_keyed hk) ht (by omega) (keyOf_int_mk hk hx) (E.lay v hv)
  have HG : MapN P k e rl z0 w' b (N + 1) (updF h x v) := MapN.putAt h0 h4 h2 h3
  obtain ⟨es, ck, hb, F, _⟩ := h1
  have hks := keys_int hk F
  have hkx : MapKept.IsKey (.int .i64) (.int .i64 x) := by simp [MapKept.IsKey]
  have chk : ∀ W : World, (Instr.checkKey false 10000 k (.int .i64 x)).run P W = .ok () W := fun W => MapKept.run_checkKey hk hkx false 9999
  obtain ⟨s1, s2, _⟩ := F.stamped
  have key : ∃ (v0 : Value) (st : Nat) (es1 : Array MapEntry) (ck1 : Nat) (M2 : Obj), (∀ W : World, W.heap[b]? = w.heap[b]? → (Instr.mapEntry t (.map (some b)) (.int .i64 x)).run P W = .ok (.tuple #[v0, goInt st]) (setBlock W b (.map es1 ck1))) ∧
      (∀ W : World, W.heap[b]? = some (.map es1 ck1) → (Instr.entryStore t (.map (some b)) (goInt st) (mk v)).run P W = .ok () (setBlock W b M2)) ∧ (Instr.mapUpdate t (.map (some b)) (.int .i64 x) (mk v)).run P w = .ok () (setBlock w b M2) := by
    rcases MapKept.findNow_spec hkx es.toList 0 hks with ⟨g1, g2⟩ | ⟨j, e0, g1, g2, g3⟩
    · have f1 : ∀ W : World, (Instr.findKey k (.int .i64 x) es.toList).run P W = .ok none W := fun W => MapKept.run_findKey hk g1
      refine ⟨mk z0, ck, es.push ⟨.int .i64 x, mk z0, ck⟩, ck + 1, .map (es.push ⟨.int .i64 x, mk v, ck⟩) (ck + 1), fun W hW => ?_, fun W hW => ?_, ?_⟩
      · simp [Instr.mapEntry, run_underlying ht, MapKept.run_getObj_map (hW.trans hb), chk W, f1 W, hz, MapKept.run_setObj_map _ (hW.trans hb), Result.andThen, setBlock]
      · have hidx : (es.push ⟨.int .i64 x, mk z0, ck⟩).findIdx? (fun e => ((e.born : Nat) : Int) == ((ck : Nat) : Int)) = some es.size := by
          rw [Go.WideElems.findIdx_arr]
          have := Go.WideElems.findIdx_born (l := (es.push ⟨.int .i64 x, mk z0, ck⟩).toList) (j := es.size) (e0 := ⟨.int .i64 x, mk z0, ck⟩) (by
            simp only [Array.toList_push, List.map_append, List.map_cons, List.map_nil]
            refine List.nodup_append.2 ⟨s2, by simp, fun a ha c hc e1 => ?_⟩
            simp only [List.mem_singleton] at hc
            obtain ⟨y, hy, rfl⟩ := List.mem_map.1 ha
            have := s1 y hy
            omega) (by simp)
          exact this
        have hmod : (es.push ⟨.int .i64 x, mk z0, ck⟩).modify es.size (fun e => { e with val := mk v }) = es.push ⟨.int .i64 x, mk v, ck⟩ := by
          apply Array.ext'
          rw [Array.toList_modify, Array.toList_push, Array.toList_push, ← Array.length_toList, Go.WideElems.modify_last]
        simp [Instr.entryStore, MapKept.run_getObj_map hW, asInt, asIntOf, goInt, hidx, hmod, MapKept.run_setObj_map _ hW, Result.andThen, setBlock]
      · simp [Instr.mapUpdate, run_underlying ht, MapKept.run_getObj_map hb, chk w, f1 w, MapKept.run_setObj_map _ hb, Result.andThen, setBlock]
    · have f1 : ∀ W : World, (Instr.findKey k (.int .i64 x) es.toList).run P W = .ok (some (j, e0.val)) W := fun W => MapKept.run_findKey hk (by simpa using g1)
      have hj : es[j]? = some e0 := by simpa using g2
      have hsame : es.modify j (fun e => { e with key := .int .i64 x }) = es := by
        apply Array.ext'
        rw [Array.toList_modify, Go.ChangeMaps.modify_eq_set _ _ _ _ g2]
        have : ({ e0 with key := .int .i64 x } : MapEntry) = e0 := by rw [← g3]
        rw [this]
        exact Go.WideElems.set_self _ _ _ g2
      have stay : ∀ W : World, (Instr.keyThatStays (.int .i64 x) (.int .i64 x)).run P W = .ok (.int .i64 x) W := fun W => MapKept.run_keyThatStays hkx
      refine ⟨e0.val, e0.born, es, ck, .map (es.modify j (fun e' => { e' with key := .int .i64 x, val := mk v })) ck, fun W hW => ?_, fun W hW => ?_, ?_⟩
      · simp [Instr.mapEntry, run_underlying ht, MapKept.run_getObj_map (hW.trans hb), chk W, f1 W, hj, g3, stay W, hsame, MapKept.run_setObj_map _ (hW.trans hb), Result.andThen, setBlock]
      · have hidx : es.findIdx? (fun e => ((e.born : Nat) : Int) == ((e0.born : Nat) : Int)) = some j := by
          rw [Go.WideElems.findIdx_arr]
          exact Go.WideElems.findIdx_born s2 g2
        have hmod : es.modify j (fun e => { e with val := mk v }) = es.modify j (fun e' => { e' with key := .int .i64 x, val := mk v }) := by
          apply Array.ext'
          rw [Array.toList_modify, Array.toList_modify, Go.ChangeMaps.modify_eq_set _ _ _ _ g2, Go.ChangeMaps.modify_eq_set _ _ _ _ g2, ← g3]
        simp [Instr.entryStore, MapKept.run_getObj_map hW, asInt, asIntOf, goInt, hidx, hmod, MapKept.run_setObj_map _ hW, Result.andThen, setBlock]
      · simp [Instr.mapUpdate, run_underlying ht, MapKept.run_getObj_map hb, chk w, f1 w, hj, g3, stay w, MapKept.run_setObj_map _ hb, Result.andThen, setBlock]
  obtain ⟨v0, st, es1, ck1, M2, k1, k2, k3⟩ := key
  refine ⟨v0, st, .map es1 ck1, M2, k1, k2, ⟨es1, ck1, rfl⟩, fun W hW => HG.sameB ?_⟩
  rw [k3] at hrun
  injection hrun with _ hrun
  rw [← hrun, heap_setBlock_same hb, hW]
end

theorem elem_int (e : TypeId) {P : Program} (he : P.underlying e = some (.int .i64)) : ElemK P e (Value.int .i64) (Lit.int .i64) (fun x => (Lit.int .i64 x).wf = true) :=
  ⟨fun _ hx => plainElem_int he hx, fun v z hv => by
    obtain ⟨a, h1, h2, _⟩ := plainElem_int_inv he hv
    exact ⟨a, h1, h2⟩, fun _ _ h => by injection h⟩
theorem elem_str (e : TypeId) {P : Program} (he : P.underlying e = some .string) : ElemK P e Value.string (fun s : ByteArray => Lit.string s.data.toList) (fun s => s.size ≤ maxLen) :=
  ⟨fun _ hx => plainElem_string he hx, fun v z hv => by
    unfold plainElem at hv
    rw [he] at hv
    cases v <;> simp at hv
    exact ⟨_, rfl, hv.2.symm⟩, fun x y h => by
      injection h with h
      cases x; cases y
      congr 1
      exact Array.ext' h⟩

end Go.Proofs.Ytggnheekkbideaa
