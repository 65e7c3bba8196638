/- Of EvalMap: what XFAs uses (shake.py). -/
import Derived.Test.YtbephgifbghilaaGreatDoorKEvalFind
import Derived.Maps.Own
/- eval.both: the map of operations, entry by entry. -/
set_option maxRecDepth 100000
namespace Go.Proofs.YtbephgifbghilaaGreatDoor
open Go.RowKit
open Go.ChangeMaps (setBlock)
/-- The map at block b has just these entries. -/
def RawM (w : World) (b : Nat) (F : List (Int × Value)) : Prop := ∃ es ck, w.heap[b]? = some (.map es ck) ∧ es.toList.map (fun e => (e.key, e.val)) = F.map (fun p => (Value.int .u8 p.1, p.2))
theorem RawM.made (w : World) : RawM (w.alloc (.map #[] 0)) w.heap.size [] := ⟨#[], 0, heap_alloc_new w _, rfl⟩
theorem RawM.sameB {w w' : World} {b : Nat} {F : List (Int × Value)} (h : RawM w b F) (hb : w'.heap[b]? = w.heap[b]?) : RawM w' b F := by
  obtain ⟨es, ck, h1, h2⟩ := h
  exact ⟨es, ck, hb.trans h1, h2⟩
theorem RawM.lt {w : World} {b : Nat} {F : List (Int × Value)} (h : RawM w b F) : b < w.heap.size := by
  obtain ⟨es, ck, h1, _⟩ := h
  exact lt_of_block h1
theorem RawM.below {w w' : World} {b : Nat} {F : List (Int × Value)} (h : RawM w b F) (hb : Below w.heap.size w w') : RawM w' b F := h.sameB (hb.block b h.lt)
theorem raw_keys {es : Array MapEntry} {F : List (Int × Value)} (h : es.toList.map (fun e => (e.key, e.val)) = F.map (fun p => (Value.int .u8 p.1, p.2))) : ∀ x ∈ es.toList, ∃ p ∈ F, x.key = .int .u8 p.1 ∧ x.val = p.2 := by
  intro x hx
  have : (x.key, x.val) ∈ F.map (fun p => (Value.int .u8 p.1, p.2)) := by rw [← h]; exact List.mem_map.2 ⟨x, hx, rfl⟩
  obtain ⟨p, hp, e⟩ := List.mem_map.1 this
  injection e with e1 e2
  exact ⟨p, hp, e1.symm, e2.symm⟩
theorem key_u8 (x : Int) : MapKept.IsKey (.int .u8) (.int .u8 x) := by simp [MapKept.IsKey]
theorem RawM.put {w : World} {b : Nat} {F : List (Int × Value)} (h : RawM w b F) (k : Int) (v : Value) (hk : ∀ p ∈ F, p.1 ≠ k) :
    ∃ w', (Instr.mapUpdate 122 (.map (some b)) (.int .u8 k) v).run Tryz.prog w = .ok () w' ∧ RawM w' b (F ++ [(k, v)]) ∧ w.grownBy w' (some b) := by
  obtain ⟨es, ck, hb, hF⟩ := h
  have hks : ∀ x ∈ es.toList, MapKept.IsKey (.int .u8) x.key := fun x hx => by
    obtain ⟨p, _, e, _⟩ := raw_keys hF x hx
    rw [e]; exact key_u8 _
  have f1 : (Instr.findKey 5 (.int .u8 k) es.toList).run Tryz.prog w = .ok none w := by
    rcases MapKept.findNow_spec (key_u8 k) es.toList 0 hks with ⟨g1, _⟩ | ⟨j, e0, _, g2, g3⟩
    · exact MapKept.run_findKey Tryz.underlying5 g1
    · exfalso
      obtain ⟨p, hp, e, _⟩ := raw_keys hF e0 (List.mem_of_getElem? g2)
      rw [g3] at e
      injection e with _ e
      exact hk p hp e.symm
  have chk : (Instr.checkKey false 10000 5 (.int .u8 k)).run Tryz.prog w = .ok () w := MapKept.run_checkKey Tryz.underlying5 (key_u8 k) false 9999
  refine ⟨setBlock w b (.map (es.push ⟨.int .u8 k, v, ck⟩) (ck + 1)), ?_, ⟨_, _, (MapKept.heap_set hb).1, ?_⟩, ⟨rfl, rfl, rfl, by simp [setBlock], fun i _ hi => (MapKept.heap_set hb).2 i (fun e => hi (by rw [e]))⟩⟩
  · simp [Instr.mapUpdate, run_underlying Tryz.underlying122, MapKept.run_getObj_map hb, chk, f1, MapKept.run_setObj_map _ hb, Result.andThen, setBlock]
  · rw [Array.toList_push, List.map_append, hF, List.map_append]
    rfl
theorem RawM.look {w : World} {b : Nat} {F : List (Int × Value)} (h : RawM w b F) (k : Int) :
    (∃ p ∈ F, p.1 = k ∧ (Instr.lookup 122 (.map (some b)) (.int .u8 k) true).run Tryz.prog w = .ok (.tuple #[p.2, .bool true]) w) ∨ ((∀ p ∈ F, p.1 ≠ k) ∧ (Instr.lookup 122 (.map (some b)) (.int .u8 k) true).run Tryz.prog w = .ok (.tuple #[.nilFunc, .bool false]) w) := by
  obtain ⟨es, ck, hb, hF⟩ := h
  have hks : ∀ x ∈ es.toList, MapKept.IsKey (.int .u8) x.key := fun x hx => by
    obtain ⟨p, _, e, _⟩ := raw_keys hF x hx
    rw [e]; exact key_u8 _
  have chk : ∀ q, (Instr.checkKey q 10000 5 (.int .u8 k)).run Tryz.prog w = .ok () w := fun q => MapKept.run_checkKey Tryz.underlying5 (key_u8 k) q 9999
  have hz : (zeroValue 161).run Tryz.prog w = .ok .nilFunc w := by kernel_rfl
  rcases MapKept.findNow_spec (key_u8 k) es.toList 0 hks with ⟨g1, g2⟩ | ⟨j, e0, g1, g2, g3⟩
  · have f1 : (Instr.findKey 5 (.int .u8 k) es.toList).run Tryz.prog w = .ok none w := MapKept.run_findKey Tryz.underlying5 g1
    refine Or.inr ⟨fun p hp e => ?_, ?_⟩
    · have : (Value.int .u8 p.1, p.2) ∈ es.toList.map (fun e => (e.key, e.val)) := by rw [hF]; exact List.mem_map.2 ⟨p, hp, rfl⟩
      obtain ⟨x, hx, e2⟩ := List.mem_map.1 this
      injection e2 with e2 _
      exact g2 x hx (by rw [e2, e])
    · simp [Instr.lookup, run_underlying Tryz.underlying122, MapKept.run_getObj_map hb, chk, f1, hz, Result.andThen]
  · have f1 : (Instr.findKey 5 (.int .u8 k) es.toList).run Tryz.prog w = .ok (some (j, e0.val)) w := MapKept.run_findKey Tryz.underlying5 (by simpa using g1)
    obtain ⟨p, hp, e, e2⟩ := raw_keys hF e0 (List.mem_of_getElem? g2)
    rw [g3] at e
    injection e with _ e
    refine Or.inl ⟨p, hp, e.symm, ?_⟩
    rw [← e2]
    simp [Instr.lookup, run_underlying Tryz.underlying122, MapKept.run_getObj_map hb, chk, f1, Result.andThen]
def twoF : List (Int × Value) := [(7, .func (.func 114) #[] #[]), (8, .func (.func 116) #[] #[]), (9, .func (.func 117) #[] #[]), (12, .func (.func 119) #[] #[]), (11, .func (.func 120) #[] #[]), (10, .func (.func 121) #[] #[]), (13, .func (.func 122) #[] #[]), (14, .func (.func 123) #[] #[]), (15, .func (.func 124) #[] #[]), (16, .func (.func 125) #[] #[]), (17, .func (.func 126) #[] #[])]
end Go.Proofs.YtbephgifbghilaaGreatDoor
