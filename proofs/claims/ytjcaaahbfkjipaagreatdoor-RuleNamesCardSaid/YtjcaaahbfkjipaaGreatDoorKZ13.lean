/- Texts fused by fuse.py: KMapS, KRuleFresh. -/
import Derived.Test.YtjcaaahbfkjipaaGreatDoorKZ04
import Derived.WideKeyEntry
import Derived.Maps.Own
import Derived.Test.YtjcaaahbfkjipaaGreatDoorKZ12
import Derived.Test.YtjcaaahbfkjipaaGreatDoorKZ01
/- Of MapS: what FRuleNames uses (shake.py). -/
set_option maxRecDepth 100000
/- Maps from texts in memory of the call's own, whatever they hold: what a text stands for, value by value. -/
namespace Go.Proofs.YtjcaaahbfkjipaaGreatDoor
open Go.RowKit
open Go.ChangeMaps (setBlock heap_setBlock_same heap_setBlock_other)
section
variable {P : Program}
/-- The map at block b has, at each text, what h says. -/
def RawS (w : World) (b : Nat) (h : ByteArray → Option Value) : Prop :=
  ∃ es ck, w.heap[b]? = some (.map es ck) ∧ MapKept.Stamped es ck ∧ (∀ x ∈ es.toList, ∃ s, x.key = .string s) ∧ ∀ s v, h s = some v ↔ ∃ x ∈ es.toList, x.key = .string s ∧ x.val = v
def putSt (h : ByteArray → Option Value) (s : ByteArray) (v : Value) : ByteArray → Option Value := fun y => if y = s then some v else h y
variable {k e t : TypeId} {w w' : World} {b : Nat} {h : ByteArray → Option Value}
theorem RawS.made (w : World) : RawS (w.alloc (.map #[] 0)) w.heap.size (fun _ => none) :=
  ⟨#[], 0, heap_alloc_new w _, MapKept.stamped_empty 0, by simp, by simp⟩
theorem RawS.lt (H : RawS w b h) : b < w.heap.size := by
  obtain ⟨es, ck, h1, _⟩ := H
  exact lt_of_block h1
theorem RawS.sameB (H : RawS w b h) (hb : w'.heap[b]? = w.heap[b]?) : RawS w' b h := by
  obtain ⟨es, ck, h1, h2⟩ := H
  exact ⟨es, ck, hb.trans h1, h2⟩
theorem RawS.below (H : RawS w b h) (hb : Below w.heap.size w w') : RawS w' b h := H.sameB (hb.block b H.lt)
theorem RawS.kept {row : Option Nat} (H : RawS w b h) (hg : w.grownBy w' row) (hne : some b ≠ row) : RawS w' b h := H.sameB (hg.block b H.lt hne)
theorem RawS.isMap (H : RawS w b h) : ∃ es ck, w.heap[b]? = some (.map es ck) := by
  obtain ⟨es, ck, hb, _⟩ := H
  exact ⟨es, ck, hb⟩
theorem rawS_keys {es : Array MapEntry} (hk : ∀ x ∈ es.toList, ∃ s, x.key = .string s) : ∀ x ∈ es.toList, MapKept.IsKey .string x.key := by
  intro x hx
  obtain ⟨s, e⟩ := hk x hx
  rw [e]; simp [MapKept.IsKey]
/-- A look at a text: with or without 'is it there'. -/
theorem RawS.lookY (H : RawS w b h) (hk : P.underlying k = some .string) (ht : P.underlying t = some (.map k e)) {s : ByteArray} {v : Value} (hs : h s = some v) :
    (Instr.lookup t (.map (some b)) (.string s) false).run P w = .ok v w ∧ (Instr.lookup t (.map (some b)) (.string s) true).run P w = .ok (.tuple #[v, .bool true]) w := by
  obtain ⟨es, ck, hb, st, hks, hF⟩ := H
  have hkx : MapKept.IsKey .string (.string s) := by simp [MapKept.IsKey]
  have chk : ∀ q, (Instr.checkKey q 10000 k (.string s)).run P w = .ok () w := fun q => MapKept.run_checkKey hk hkx q 9999
  obtain ⟨x, hx, e1, e2⟩ := (hF s v).1 hs
  rcases MapKept.findNow_spec hkx es.toList 0 (rawS_keys hks) with ⟨_, g2⟩ | ⟨j, e0, g1, g2, g3⟩
  · exact absurd e1 (g2 x hx)
  · have : h s = some e0.val := (hF s _).2 ⟨e0, List.mem_of_getElem? g2, g3, rfl⟩
    have hv : e0.val = v := by rw [hs] at this; injection this with this; exact this.symm
    have f1 : (Instr.findKey k (.string s) es.toList).run P w = .ok (some (j, e0.val)) w := MapKept.run_findKey hk (by simpa using g1)
    rw [← hv]
    constructor <;> simp [Instr.lookup, run_underlying ht, MapKept.run_getObj_map hb, chk, f1, Result.andThen]
theorem RawS.lookN (H : RawS w b h) (hk : P.underlying k = some .string) (ht : P.underlying t = some (.map k e)) {s : ByteArray} {z : Value} (hs : h s = none) (hz : (zeroValue e).run P w = .ok z w) :
    (Instr.lookup t (.map (some b)) (.string s) false).run P w = .ok z w ∧ (Instr.lookup t (.map (some b)) (.string s) true).run P w = .ok (.tuple #[z, .bool false]) w := by
  obtain ⟨es, ck, hb, st, hks, hF⟩ := H
  have hkx : MapKept.IsKey .string (.string s) := by simp [MapKept.IsKey]
  have chk : ∀ q, (Instr.checkKey q 10000 k (.string s)).run P w = .ok () w := fun q => MapKept.run_checkKey hk hkx q 9999
  rcases MapKept.findNow_spec hkx es.toList 0 (rawS_keys hks) with ⟨g1, g2⟩ | ⟨j, e0, g1, g2, g3⟩
  · have f1 : (Instr.findKey k (.string s) es.toList).run P w = .ok none w := MapKept.run_findKey hk g1
    constructor <;> simp [Instr.lookup, run_underlying ht, MapKept.run_getObj_map hb, chk, f1, hz, Result.andThen]
  · have : h s = some e0.val := (hF s _).2 ⟨e0, List.mem_of_getElem? g2, g3, rfl⟩
    rw [hs] at this
    cases this
/-- The same in one: what is not there is the zero value. -/
theorem RawS.look (H : RawS w b h) (hk : P.underlying k = some .string) (ht : P.underlying t = some (.map k e)) {z : Value} (hz : (zeroValue e).run P w = .ok z w) (s : ByteArray) :
    (Instr.lookup t (.map (some b)) (.string s) false).run P w = .ok ((h s).getD z) w ∧ (Instr.lookup t (.map (some b)) (.string s) true).run P w = .ok (.tuple #[(h s).getD z, .bool (h s).isSome]) w := by
  cases hs : h s with
  | none => exact H.lookN hk ht hs hz
  | some v => exact H.lookY hk ht hs
/-- 'm[s] = v', and the same in two steps. -/
theorem RawS.set (H : RawS w b h) (hk : P.underlying k = some .string) (ht : P.underlying t = some (.map k e)) (s : ByteArray) (v : Value) {z : Value} (hz : ∀ u : World, (zeroValue e).run P u = .ok z u) :
    ∃ (v0 : Value) (st : Int) (M1 M2 : Obj), (∀ W : World, W.heap[b]? = w.heap[b]? → (Instr.mapEntry t (.map (some b)) (.string s)).run P W = .ok (.tuple #[v0, .int .i64 st]) (setBlock W b M1)) ∧
      (∀ W : World, W.heap[b]? = some M1 → (Instr.entryStore t (.map (some b)) (.int .i64 st) v).run P W = .ok () (setBlock W b M2)) ∧
      (∀ W : World, W.heap[b]? = w.heap[b]? → (Instr.mapUpdate t (.map (some b)) (.string s) v).run P W = .ok () (setBlock W b M2)) ∧
      (∃ es ck, M1 = .map es ck) ∧ ∀ W : World, W.heap[b]? = some M2 → RawS W b (putSt h s v) := by
  obtain ⟨es, ck, hb, st, hks, hF⟩ := H
  have hkx : MapKept.IsKey .string (.string s) := by simp [MapKept.IsKey]
  have chk : ∀ W : World, (Instr.checkKey false 10000 k (.string s)).run P W = .ok () W := fun W => MapKept.run_checkKey hk hkx false 9999
  obtain ⟨s1, s2, s3⟩ := st
  rcases MapKept.findNow_spec hkx es.toList 0 (rawS_keys hks) with ⟨g1, g2⟩ | ⟨j, e0, g1, g2, g3⟩
  · have f1 : ∀ W : World, (Instr.findKey k (.string s) es.toList).run P W = .ok none W := fun W => MapKept.run_findKey hk g1
    refine ⟨z, ck, .map (es.push ⟨.string s, z, ck⟩) (ck + 1), .map (es.push ⟨.string s, v, ck⟩) (ck + 1), fun W hW => ?_, fun W hW => ?_, fun W hW => ?_, ⟨_, _, rfl⟩, fun W hW => ⟨_, _, hW, MapKept.stamped_push ⟨s1, s2, s3⟩ g2, ?_, ?_⟩⟩
    · simp [Instr.mapEntry, run_underlying ht, MapKept.run_getObj_map (hW.trans hb), chk W, f1 W, hz, MapKept.run_setObj_map _ (hW.trans hb), Result.andThen, setBlock, goInt]
    · have hidx : (es.push ⟨.string s, z, ck⟩).findIdx? (fun e => ((e.born : Nat) : Int) == ((ck : Nat) : Int)) = some es.size := by
        rw [Go.WideElems.findIdx_arr]
        have := Go.WideElems.findIdx_born (l := (es.push ⟨.string s, z, ck⟩).toList) (j := es.size) (e0 := ⟨.string s, z, ck⟩) (by
          simp only [Array.toList_push, List.map_append, List.map_cons, List.map_nil]
          refine List.nodup_append.2 ⟨s2, by simp, fun a ha c hc e1 => ?_⟩
          simp only [List.mem_singleton] at hc
          obtain ⟨y, hy, rfl⟩ := List.mem_map.1 ha
          have := s1 y hy
          omega) (by simp)
        exact this
      have hmod : (es.push ⟨.string s, z, ck⟩).modify es.size (fun e => { e with val := v }) = es.push ⟨.string s, v, ck⟩ := by
        apply Array.ext'
        rw [Array.toList_modify, Array.toList_push, Array.toList_push, ← Array.length_toList, Go.WideElems.modify_last]
      simp [Instr.entryStore, MapKept.run_getObj_map hW, asInt, asIntOf, hidx, hmod, MapKept.run_setObj_map _ hW, Result.andThen, setBlock]
    · simp [Instr.mapUpdate, run_underlying ht, MapKept.run_getObj_map (hW.trans hb), chk W, f1 W, MapKept.run_setObj_map _ (hW.trans hb), Result.andThen, setBlock]
    · intro x hx
      rw [Array.toList_push, List.mem_append, List.mem_singleton] at hx
      rcases hx with hx | rfl
      · exact hks x hx
      · exact ⟨s, rfl⟩
    · intro y u
      unfold putSt
      constructor
      · intro hy
        split at hy
        · rename_i e1
          injection hy with hy
          exact ⟨⟨.string s, v, ck⟩, by simp, by rw [e1], hy⟩
        · obtain ⟨x, hx, e1, e2⟩ := (hF y u).1 hy
          exact ⟨x, by simp [hx], e1, e2⟩
      · rintro ⟨x, hx, e1, e2⟩
        rw [Array.toList_push, List.mem_append, List.mem_singleton] at hx
        rcases hx with hx | rfl
        · have hne : y ≠ s := fun e3 => g2 x hx (by rw [e1, e3])
          rw [if_neg hne]
          exact (hF y u).2 ⟨x, hx, e1, e2⟩
        · injection e1 with e1
          rw [if_pos e1.symm, ← e2]
  · have f1 : ∀ W : World, (Instr.findKey k (.string s) es.toList).run P W = .ok (some (j, e0.val)) W := fun W => MapKept.run_findKey hk (by simpa using g1)
    have hj : es[j]? = some e0 := by simpa using g2
    have hsame : es.modify j (fun e => { e with key := .string s }) = es := by
      apply Array.ext'
      rw [Array.toList_modify, Go.ChangeMaps.modify_eq_set _ _ _ _ g2]
      have : ({ e0 with key := .string s } : MapEntry) = e0 := by rw [← g3]
      rw [this]
      exact Go.WideElems.set_self _ _ _ g2
    have stay : ∀ W : World, (Instr.keyThatStays (.string s) (.string s)).run P W = .ok (.string s) W := fun W => MapKept.run_keyThatStays hkx
    have hlist : (es.modify j (fun e' => { e' with key := .string s, val := v })).toList = es.toList.set j { e0 with val := v } := by
      rw [Array.toList_modify, Go.ChangeMaps.modify_eq_set _ _ _ _ g2]
      congr 1
      rw [← g3]
    have hjl : j < es.toList.length := (List.getElem?_eq_some_iff.1 g2).1
    have hcol : ∀ {β : Type} (f : MapEntry → β), f { e0 with val := v } = f e0 → (es.toList.set j { e0 with val := v }).map f = es.toList.map f := by
      intro β f hf
      rw [List.map_set, hf]
      exact Go.WideElems.set_self _ _ _ (by rw [List.getElem?_map, g2]; rfl)
    refine ⟨e0.val, e0.born, .map es ck, .map (es.modify j (fun e' => { e' with key := .string s, val := v })) ck, fun W hW => ?_, fun W hW => ?_, fun W hW => ?_, ⟨es, ck, rfl⟩, fun W hW => ⟨_, _, hW, ⟨?_, ?_, ?_⟩, ?_, ?_⟩⟩
    · simp [Instr.mapEntry, run_underlying ht, MapKept.run_getObj_map (hW.trans hb), chk W, f1 W, hj, g3, stay W, hsame, MapKept.run_setObj_map _ (hW.trans hb), Result.andThen, setBlock, goInt]
    · have hidx : es.findIdx? (fun e => ((e.born : Nat) : Int) == ((e0.born : Nat) : Int)) = some j := by
        rw [Go.WideElems.findIdx_arr]
        exact Go.WideElems.findIdx_born s2 g2
      have hmod : es.modify j (fun e => { e with val := v }) = es.modify j (fun e' => { e' with key := .string s, val := v }) := by
        apply Array.ext'
        rw [Array.toList_modify, Array.toList_modify, Go.ChangeMaps.modify_eq_set _ _ _ _ g2, Go.ChangeMaps.modify_eq_set _ _ _ _ g2, ← g3]
      simp [Instr.entryStore, MapKept.run_getObj_map hW, asInt, asIntOf, hidx, hmod, MapKept.run_setObj_map _ hW, Result.andThen, setBlock]
    · simp [Instr.mapUpdate, run_underlying ht, MapKept.run_getObj_map (hW.trans hb), chk W, f1 W, hj, g3, stay W, MapKept.run_setObj_map _ (hW.trans hb), Result.andThen, setBlock]
    · rw [hlist]
      intro x hx
      rcases List.mem_or_eq_of_mem_set hx with hx | rfl
      · exact s1 x hx
      · exact s1 e0 (List.mem_of_getElem? g2)
    · rw [hlist, hcol (·.born) rfl]; exact s2
    · rw [hlist]
      have := hcol (·.key) rfl
      rw [this]
      exact s3
    · rw [hlist]
      intro x hx
      rcases List.mem_or_eq_of_mem_set hx with hx | rfl
      · exact hks x hx
      · exact hks e0 (List.mem_of_getElem? g2)
    · intro y u
      rw [hlist]
      unfold putSt
      constructor
      · intro hy
        split at hy
        · rename_i e1
          injection hy with hy
          exact ⟨{ e0 with val := v }, List.mem_set hjl _, by rw [e1]; exact g3, hy⟩
        · rename_i e1
          obtain ⟨x, hx, e2, e3⟩ := (hF y u).1 hy
          obtain ⟨i, hi, rfl⟩ := List.getElem_of_mem hx
          have hij : i ≠ j := by
            rintro rfl
            have : es.toList[i] = e0 := by rw [List.getElem?_eq_getElem hi] at g2; injection g2
            rw [this, g3] at e2
            injection e2 with e2
            exact e1 e2.symm
          refine ⟨es.toList[i], ?_, e2, e3⟩
          have := List.getElem_mem (l := es.toList.set j { e0 with val := v }) (n := i) (by rw [List.length_set]; exact hi)
          rwa [List.getElem_set_ne (Ne.symm hij)] at this
      · rintro ⟨x, hx, e1, e2⟩
        obtain ⟨i, hi, rfl⟩ := List.getElem_of_mem hx
        rw [List.length_set] at hi
        by_cases hij : j = i
        · subst hij
          rw [List.getElem_set_self] at e1 e2
          rw [show ({ e0 with val := v } : MapEntry).key = e0.key from rfl, g3] at e1
          injection e1 with e1
          rw [if_pos e1.symm, ← e2]
        · rw [List.getElem_set_ne hij] at e1 e2
          have hne : y ≠ s := by
            rintro rfl
            have hkk : es.toList[i].key = es.toList[j].key := by
              have : es.toList[j] = e0 := by rw [List.getElem?_eq_getElem hjl] at g2; injection g2
              rw [this, g3, e1]
            rcases Nat.lt_or_gt_of_ne hij with h1 | h1
            · exact (List.pairwise_iff_getElem.1 (List.pairwise_map.1 s3) j i hjl hi h1) hkk.symm
            · exact (List.pairwise_iff_getElem.1 (List.pairwise_map.1 s3) i j hi hjl h1) hkk
          rw [if_neg hne]
          exact (hF y u).2 ⟨_, List.getElem_mem hi, e1, e2⟩
theorem grown_setBlock (W : World) {b : Nat} {o : Obj} (M : Obj) (hb : W.heap[b]? = some o) : W.grownBy (setBlock W b M) (some b) :=
  ⟨rfl, rfl, rfl, by simp [setBlock], fun _ _ hi => (MapKept.heap_set hb).2 _ (fun e => hi (by rw [e]))⟩
theorem RawS.put (H : RawS w b h) (hk : P.underlying k = some .string) (ht : P.underlying t = some (.map k e)) (s : ByteArray) (v : Value) {z : Value} (hz : ∀ u : World, (zeroValue e).run P u = .ok z u) :
    ∃ w', (Instr.mapUpdate t (.map (some b)) (.string s) v).run P w = .ok () w' ∧ RawS w' b (putSt h s v) ∧ w.grownBy w' (some b) := by
  obtain ⟨_, _, _, M2, _, _, r3, _, r4⟩ := H.set hk ht s v hz
  obtain ⟨es, ck, hb⟩ := H.isMap
  exact ⟨_, r3 w rfl, r4 _ (MapKept.heap_set hb).1, grown_setBlock w M2 hb⟩
end
end Go.Proofs.YtjcaaahbfkjipaaGreatDoor

/- Of RuleFresh: what FRuleNames uses (shake.py). -/
set_option maxRecDepth 100000
/- rule.fresh: names one after the other, each a name, each for the first time. -/
namespace Go.Proofs.YtjcaaahbfkjipaaGreatDoor
open Go.RowKit
/-- What the map of names has: those that were seen. -/
def seenH (S : List ByteArray) : ByteArray → Option Value := fun y => if S.any (fun t => sEq t y) then some (.bool true) else none
theorem seenH_cons (S : List ByteArray) (s : ByteArray) : putSt (seenH S) s (.bool true) = seenH (s :: S) := by
  funext y
  unfold putSt seenH
  rw [List.any_cons]
  by_cases h : y = s
  · subst h
    rw [if_pos rfl, sEq_refl, Bool.true_or]
    rfl
  · rw [if_neg h]
    have : sEq s y = false := by rw [← Bool.not_eq_true, sEq_iff]; exact fun e => h e.symm
    rw [this, Bool.false_or]
theorem seenH_get (S : List ByteArray) (s : ByteArray) : (seenH S s).getD (.bool false) = .bool (S.any fun t => sEq t s) := by
  unfold seenH
  cases S.any (fun t => sEq t s) <;> rfl
theorem zeroBool (w : World) : (zeroValue 4).run Tryz.prog w = .ok (.bool false) w := by kernel_rfl
section
variable {w : World} {mb : Nat} {S : List ByteArray}
theorem seen_look (hm : RawS w mb (seenH S)) (s : ByteArray) : (Instr.lookup 89 (.map (some mb)) (.string s) false).run Tryz.prog w = .ok (.bool (S.any fun t => sEq t s)) w := by
  rw [← seenH_get]
  exact (hm.look (k := 9) (e := 4) Tryz.underlying9 Tryz.underlying89 (zeroBool w) s).1
theorem seen_put (hm : RawS w mb (seenH S)) (s : ByteArray) : ∃ w', (Instr.mapUpdate 89 (.map (some mb)) (.string s) (.bool true)).run Tryz.prog w = .ok () w' ∧ RawS w' mb (seenH (s :: S)) ∧ w.grownBy w' (some mb) := by
  rw [← seenH_cons]
  exact hm.put (k := 9) (e := 4) Tryz.underlying9 Tryz.underlying89 s _ zeroBool
theorem cellLt {b i : Nat} {v : Value} (h : w.cell? ⟨b, i, none⟩ = some v) : b < w.heap.size := by
  rcases Nat.lt_or_ge b w.heap.size with h1 | h1
  · exact h1
  · unfold World.cell? at h
    rw [show w.heap[b]? = none from Array.getElem?_eq_none h1] at h
    cases h
/-- A cell is no map. -/
theorem cell_map {b i : Nat} {v : Value} {h' : ByteArray → Option Value} (h : w.cell? ⟨b, i, none⟩ = some v) (hm : RawS w mb h') : b ≠ mb := by
  rintro rfl
  obtain ⟨es, ck, hb⟩ := hm.isMap
  unfold World.cell? at h
  simp [hb] at h
theorem grown_cell {w' : World} {row : Option Nat} {b i : Nat} {v : Value} (h : w.cell? ⟨b, i, none⟩ = some v) (hg : w.grownBy w' row) (hne : some b ≠ row) : w'.cell? ⟨b, i, none⟩ = some v := by
  have := hg.block b (cellLt h) hne
  unfold World.cell? at h ⊢
  rw [this]
  exact h
set_option maxHeartbeats 2000000 in
/-- The names' closure at one name. -/
theorem fresh1_any (s : ByteArray) (pc : Nat) (hc : w.cell? ⟨pc, 0, none⟩ = some (.map (some mb))) (hm : RawS w mb (seenH S)) :
    Calls Tryz.prog 103 #[.string s, .pointer (some ⟨pc, 0, none⟩)] w fun e w' => e = .returned (.bool (nameB s && !(S.any fun t => sEq t s))) ∧ w.grownBy w' (some mb) ∧ RawS w' mb (seenH (s :: S)) := by
  have HN := Lib.hid (name_any w s)
  have HM := Lib.hid (And.intro hc hm)
  clear hc hm
  cases hb : nameB s with
  | false =>
    rw [hb] at HN
    clear hb
    go_enter Tryz.func103, Tryz.ntmps103
    go_wp2_with (go_at_call 57; refine HN.out.mono ?_; rintro e w2 ⟨rfl, hb2⟩; obtain ⟨w3, r3, m3, g3⟩ := seen_put (HM.out.2.below hb2) s; have c2 : w2.cell? ⟨pc, 0, none⟩ = some (.map (some mb)) := (Below.cellB hb2 (cellLt HM.out.1)).trans HM.out.1; have HE := Lib.hid (And.intro ((below_grownBy hb2 (some mb)).trans g3) m3); clear hb2 g3 m3)
    go_ret
    exact ⟨rfl, HE.out⟩
  | true =>
    rw [hb] at HN
    clear hb
    cases hs : (S.any fun t => sEq t s) with
    | false =>
      have HS := Lib.hid hs
      clear hs
      go_enter Tryz.func103, Tryz.ntmps103
      go_wp2_with (go_at_call 57; refine HN.out.mono ?_; rintro e w2 ⟨rfl, hb2⟩; obtain ⟨w3, r3, m3, g3⟩ := seen_put (HM.out.2.below hb2) s; have l2 := seen_look (HM.out.2.below hb2) s; rw [HS.out] at l2; have c2 : w2.cell? ⟨pc, 0, none⟩ = some (.map (some mb)) := (Below.cellB hb2 (cellLt HM.out.1)).trans HM.out.1; have HE := Lib.hid (And.intro ((below_grownBy hb2 (some mb)).trans g3) m3); clear hb2 g3 m3)
      go_ret
      exact ⟨rfl, HE.out⟩
    | true =>
      have HS := Lib.hid hs
      clear hs
      go_enter Tryz.func103, Tryz.ntmps103
      go_wp2_with (go_at_call 57; refine HN.out.mono ?_; rintro e w2 ⟨rfl, hb2⟩; obtain ⟨w3, r3, m3, g3⟩ := seen_put (HM.out.2.below hb2) s; have l2 := seen_look (HM.out.2.below hb2) s; rw [HS.out] at l2; have c2 : w2.cell? ⟨pc, 0, none⟩ = some (.map (some mb)) := (Below.cellB hb2 (cellLt HM.out.1)).trans HM.out.1; have HE := Lib.hid (And.intro ((below_grownBy hb2 (some mb)).trans g3) m3); clear hb2 g3 m3)
      go_ret
      exact ⟨rfl, HE.out⟩
end
/-- A closure of names that have been seen. -/
structure FreshF (w : World) (base pc mb : Nat) (S : List ByteArray) : Prop where
  cell : w.cell? ⟨pc, 0, none⟩ = some (.map (some mb))
  map : RawS w mb (seenH S)
  p1 : base ≤ pc
  p2 : base ≤ mb
theorem FreshF.below {w w' : World} {base pc mb : Nat} {S : List ByteArray} (h : FreshF w base pc mb S) (hb : Below w.heap.size w w') : FreshF w' base pc mb S :=
  ⟨(Below.cellB hb (cellLt h.cell)).trans h.cell, h.map.below hb, h.p1, h.p2⟩
set_option maxHeartbeats 2000000 in
theorem fresh_any (w : World) (v : Value) (l : List ByteArray) (h : StsR w w.heap.size v l) (hl : l.length ≤ 1000) :
    Calls Tryz.prog 59 #[v] w fun e w' => ∃ pc mb, e = .returned (.func (.func 103) #[] #[.pointer (some ⟨pc, 0, none⟩)]) ∧ FreshF w' w.heap.size pc mb l.reverse ∧ Below w.heap.size w w' := by
  have hmm := @run_makeMap Tryz.prog
  obtain ⟨w0, mb, hb0, hw0, l0, n0, k0⟩ := box_new w (.map #[] 0)
  obtain ⟨w1, pc, hp1, hw1, l1, n1, k1⟩ := box_new w0 (.cells #[.map (some mb)] 89)
  have m1 : RawS w1 mb (seenH []) := RawS.below (⟨#[], 0, n0, MapKept.stamped_empty 0, by simp, by simp [seenH]⟩ : RawS w0 mb (seenH [])) k1
  have c1 : w1.cell? ⟨pc, 0, none⟩ = some (.map (some mb)) := (cell_of_block n1 0).trans rfl
  have g1 : w0.frozen? ⟨pc, 0, none⟩ = w0.frozen? ⟨pc, 0, none⟩ := rfl
  have HB1 := Lib.hid (k0.trans (k1.mono (by omega)))
  have HS := Lib.hid (And.intro m1 c1)
  have HR := Lib.hid h
  have e1 : w.heap.size ≤ mb := by omega
  have e2 : w.heap.size ≤ pc := by omega
  obtain ⟨a, c, rfl⟩ := h.val
  clear n0 n1 k0 k1 m1 c1 h g1
  go_enter Tryz.func59, Tryz.ntmps59
  go_wp2_with fail
  go_loopg [9] l.length (fun g s9 wr => ∃ k : Nat, k + g = l.length ∧ s9 = .int .i64 (k : Int) ∧ Hid (FreshF wr w.heap.size pc mb (l.take k).reverse) ∧ Hid (Below w.heap.size w wr))
  case atStart => exact ⟨0, by omega, rfl, Lib.hid ⟨HS.out.2, HS.out.1, e2, e1⟩, HB1⟩
  case round =>
    obtain ⟨k, hkg, rfl, hF, hB⟩ := hrel
    by_cases hk : k < l.length
    · obtain ⟨b, o, rfl, hb, hw, h0⟩ := stsR_at (HR.out.mono hB.out (Nat.le_refl _)) hk
      have hx0 : (l.take (k + 1)).reverse = l[k] :: (l.take k).reverse := by rw [List.take_succ_eq_append_getElem hk, List.reverse_append]; rfl
      obtain ⟨x, hx⟩ : ∃ x, l[k] = x := ⟨_, rfl⟩
      rw [hx] at h0 hx0
      have HX := Lib.hid hx0
      have hc := hF.out.cell
      obtain ⟨w3, r3, m3, g3⟩ := seen_put hF.out.map x
      have HE : Hid (FreshF w3 w.heap.size pc mb (l.take (k + 1)).reverse ∧ Below w.heap.size w w3) := Lib.hid ⟨⟨grown_cell hc g3 (fun e => cell_map hc hF.out.map (Option.some.inj e)), by rw [HX.out]; exact m3, e2, e1⟩, hB.out.grown g3 hB.out.size (fun r hr => by cases hr; exact e1)⟩
      have dk : decide (k < l.length) = true := decide_eq_true hk
      have k1 : (0 : Int) ≤ (k : Int) := by omega
      have k2 : (k : Int) < (l.length : Int) := by omega
      clear hx hw hx0 m3 g3
      go_wp2_with fail
      go_roundg (gk - 1)
      case measure => omega
      case rel => exact ⟨k + 1, by omega, by go_num, Lib.hid HE.out.1, Lib.hid HE.out.2⟩
    · obtain rfl : k = l.length := by omega
      have dk : decide (l.length < l.length) = false := decide_eq_false hk
      have HE := Lib.hid hF.out
      rw [List.take_length] at HE
      clear hF
      go_wp2_with fail
      go_ret
      exact ⟨pc, mb, rfl, HE.out, hB.out⟩
end Go.Proofs.YtjcaaahbfkjipaaGreatDoor
