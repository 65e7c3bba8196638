/- A reader in memory; its refusal (seat wire). -/
import Derived.Test.YtlgfhbfdjckdnaaGreatDoorWireHead
import Derived.Laws.BytesArg
import Derived.Laws.BytesString
set_option maxRecDepth 100000
namespace Go.Proofs.YtlgfhbfdjckdnaaGreatDoor
open Go.RowKit

theorem bytes_ext2 {x y : ByteArray} (h : x.data.toList = y.data.toList) : x = y := by
  cases x; cases y
  congr 1
  exact Array.ext' h
/-- Bytes as numbers. -/
def u8s (l : List UInt8) : List Int := l.map fun c => (c.toNat : Int)
theorem u8s_len (l : List UInt8) : (u8s l).length = l.length := by unfold u8s; exact List.length_map _
theorem u8s_of (l : List UInt8) : Lib.bytesOf (u8s l) = l := by
  unfold Lib.bytesOf u8s
  rw [List.map_map]
  conv => rhs; rw [← List.map_id l]
  refine List.map_congr_left fun c _ => ?_
  show UInt8.ofNat ((c.toNat : Int).toNat) = c
  rw [Int.toNat_natCast, UInt8.ofNat_toNat]
theorem u8s_str (l : List UInt8) : strOfNums (u8s l) = bytesL l := by
  refine bytes_ext2 ?_
  have h := Lib.strOfNums_toList (u8s l)
  rw [u8s_of, ByteArray.toList_eq] at h
  rw [h, bytesL_list]
theorem u8s_rng {l : List UInt8} : ∀ x ∈ u8s l, 0 ≤ x ∧ x < 256 := fun x hx => by
  obtain ⟨c, _, rfl⟩ := List.mem_map.1 hx
  have := c.toNat_lt
  omega
theorem u8s_at {l : List UInt8} {i : Nat} (h : i < l.length) : (u8s l).getD i 0 = (l[i].toNat : Int) := by
  rw [List.getD_eq_getElem?_getD, List.getElem?_eq_getElem (by rw [u8s_len]; exact h)]
  unfold u8s
  rw [List.getElem_map]
  rfl
theorem u8s_sub {l : List UInt8} {a k i : Nat} (h : i < ((l.drop a).take k).length) : (u8s ((l.drop a).take k)).getD i 0 = (u8s l).getD (a + i) 0 := by
  have h1 : a + i < l.length := by rw [List.length_take, List.length_drop] at h; omega
  rw [u8s_at h, u8s_at h1, List.getElem_take, List.getElem_drop]

/-- A slice of bytes in memory not below a base. -/
inductive Byt (w : World) (base : Nat) : Value → List UInt8 → Prop where
  | nil : Byt w base (.slice none 0 0) []
  | row (g o c : Nat) (l : List UInt8) (hg : base ≤ g) (hlt : g < w.heap.size) (hc : l.length ≤ c) (hz : l.length ≤ 700000) (hty : ∃ cur fr, w.heap[g]? = some (.cells cur 5 fr)) (hat : ∀ i, i < l.length → w.cell? ⟨g, o + i, none⟩ = some (.int .u8 ((u8s l).getD i 0))) : Byt w base (.slice (some ⟨g, o, none⟩) l.length c) l
/-- A reader: its bytes; is it closed? -/
def RdR (w : World) (base p : Nat) (l : List UInt8) (cl : Bool) : Prop := ∃ v, w.heap[p]? = some (.cells #[v, .bool cl] 55) ∧ Byt w base v l
theorem Byt.frm {w w' : World} {S : List (Option Nat)} {base : Nat} {v : Value} {l : List UInt8} (h : Byt w base v l) (hf : Frm S w w') (hS : ∀ r ∈ S, ∀ k, r = some k → k < base) : Byt w' base v l := by
  cases h with
  | nil => exact .nil
  | row g o c _ hg hlt hc hz hty hat =>
    have hk := hf.keep g hlt (fun r hr e => by have := hS r hr g e; omega)
    refine .row g o c l hg (Nat.lt_of_lt_of_le hlt hf.size) hc hz (by rw [hk]; exact hty) (fun i hi => ?_)
    rw [← hat i hi]
    unfold World.cell?
    rw [hk]
theorem Byt.below {w w' : World} {base : Nat} {v : Value} {l : List UInt8} (h : Byt w base v l) (hb : Below w.heap.size w w') : Byt w' base v l := h.frm (Frm.ofBelow (S := []) hb) (fun r hr => by cases hr)
theorem Byt.shape {w : World} {base : Nat} {v : Value} {l : List UInt8} (h : Byt w base v l) : ∃ a c, v = .slice a l.length c := by
  cases h with
  | nil => exact ⟨_, _, rfl⟩
  | row g o c _ => exact ⟨_, _, rfl⟩
theorem Byt.lower {w : World} {b b' : Nat} {v : Value} {l : List UInt8} (h : Byt w b v l) (hb : b' ≤ b) : Byt w b' v l := by
  cases h with
  | nil => exact .nil
  | row g o c _ hg hlt hc hz hty hat => exact .row g o c l (Nat.le_trans hb hg) hlt hc hz hty hat

theorem set_selfR {w : World} {b i : Nat} {c : Array Value} {t : TypeId} {fr : Nat × Nat} (v : Value) (h : w.heap[b]? = some (.cells c t fr)) : (w.setCell ⟨b, i, none⟩ v).heap[b]? = some (.cells (c.setIfInBounds i v) t fr) := set_selfH v h
theorem box2R {w : World} {b : Nat} {v0 v1 : Value} {t : TypeId} {fr : Nat × Nat} (h : w.heap[b]? = some (.cells #[v0, v1] t fr)) : w.cell? ⟨b, 0, none⟩ = some v0 ∧ w.cell? ⟨b, 1, none⟩ = some v1 := by
  refine ⟨?_, ?_⟩ <;> (rw [cell_of_block h]; rfl)
theorem Frm.shed {S T : List (Option Nat)} {w w' : World} (h : Frm T w w') (hT : ∀ r ∈ T, r ∈ S ∨ ∃ j, r = some j ∧ w.heap.size ≤ j) : Frm S w w' :=
  ⟨h.os, h.tape, h.output, h.size, fun k hk hr => h.keep k hk (fun r hr2 e => by
    rcases hT r hr2 with h1 | ⟨j, rfl, hj⟩
    · exact hr r h1 e
    · injection e with e; omega)⟩
theorem box5R {w : World} {b : Nat} {v0 v1 v2 v3 v4 : Value} {t : TypeId} {fr : Nat × Nat} (h : w.heap[b]? = some (.cells #[v0, v1, v2, v3, v4] t fr)) : w.cell? ⟨b, 0, none⟩ = some v0 ∧ w.cell? ⟨b, 1, none⟩ = some v1 ∧ w.cell? ⟨b, 2, none⟩ = some v2 ∧ w.cell? ⟨b, 3, none⟩ = some v3 ∧ w.cell? ⟨b, 4, none⟩ = some v4 := by
  refine ⟨?_, ?_, ?_, ?_, ?_⟩ <;> (rw [cell_of_block h]; rfl)
theorem sets5 {w : World} {b : Nat} {v0 v1 v2 v3 v4 : Value} {t : TypeId} {fr : Nat × Nat} (h : w.heap[b]? = some (.cells #[v0, v1, v2, v3, v4] t fr)) (x0 x1 x2 x3 x4 : Value) :
    (((((w.setCell ⟨b, 0, none⟩ x0).setCell ⟨b, 1, none⟩ x1).setCell ⟨b, 2, none⟩ x2).setCell ⟨b, 3, none⟩ x3).setCell ⟨b, 4, none⟩ x4).heap[b]? = some (.cells #[x0, x1, x2, x3, x4] t fr) :=
  set_selfR x4 (set_selfR x3 (set_selfR x2 (set_selfR x1 (set_selfR x0 h))))
def gotV (g : Gp) : Value := .agg #[.string g.m, .string g.p, .string g.k, .string g.b, .int .i64 g.st]

set_option maxHeartbeats 2000000 in
theorem refused_any (w : World) (q p : Nat) (v : Value) (cl : Bool) (hq : w.cell? ⟨q, 0, none⟩ = some (.pointer (some ⟨p, 0, none⟩))) (_hqp : q ≠ p) (hql : q < w.heap.size) (hp : w.heap[p]? = some (.cells #[v, .bool cl] 55)) (st : Int) :
    Calls Tryz.prog 33 #[.int .i64 st, .pointer (some ⟨q, 0, none⟩)] w fun e w' => e = .returned (.tuple #[gotV (refG st), .bool true]) ∧ w'.heap[p]? = some (.cells #[.slice none 0 0, .bool true] 55) ∧ Frm [some p] w w' := by
  obtain ⟨W1, hW1⟩ : ∃ W1, w.alloc (.cells #[.string ⟨#[]⟩, .string ⟨#[]⟩, .string ⟨#[]⟩, .string ⟨#[]⟩, .int .i64 0] 39) = W1 := ⟨_, rfl⟩
  have BW : Hid (Below w.heap.size w W1) := by refine Lib.hid ?_; rw [← hW1]; exact (Below.refl _ _).alloc (Nat.le_refl _) _
  have hN : Hid (W1.heap[w.heap.size]? = some (.cells #[.string ⟨#[]⟩, .string ⟨#[]⟩, .string ⟨#[]⟩, .string ⟨#[]⟩, .int .i64 0] 39)) := by refine Lib.hid ?_; rw [← hW1]; exact (MapKept.heap_alloc w _).1
  have hpl := lt_of_block hp
  have hp1 := (BW.out.block _ hpl).trans hp
  have hq1 : W1.cell? ⟨q, 0, none⟩ = some (.pointer (some ⟨p, 0, none⟩)) := by rw [Below.cellB BW.out hql]; exact hq
  have f1 := free_of_block hp1
  obtain ⟨c0, c1⟩ := box2R hp1
  have HP1 := Lib.hid hp1
  clear hp hp1 hq
  go_enter Tryz.func33, Tryz.ntmps33
  go_upto_region 1 with fail
  go_cut [] (fun wx => ∃ w9, w9 = wx ∧ w9.heap[p]? = some (.cells #[.slice none 0 0, .bool true] 55) ∧ Frm [some p] W1 w9)
  case first =>
    go_region_law (fail)
    all_goals go_wp2_with fail
    all_goals go_meet
    all_goals first
      | exact ⟨_, rfl, set_selfR _ (set_selfR _ HP1.out), (((Frm.refl [some p] W1).set _ (by simp)).set _ (by simp)).drw⟩
      | exact ⟨_, rfl, set_selfR (.bool true) (set_selfR (.slice none 0 0) HP1.out), (((Frm.refl [some p] W1).set _ (by simp)).set _ (by simp)).drw⟩
  case rest =>
    obtain ⟨w9, rfl, hp9, hF9⟩ := hcut
    have y := hF9.block hN.out (by intro r hr; simp only [List.mem_singleton] at hr; subst hr; intro e; injection e with e; omega)
    have f9 := free_of_block y
    obtain ⟨e0, e1, e2, e3, e4⟩ := box5R y
    have Y := Lib.hid y
    have HP9 := Lib.hid hp9
    have HF9 := Lib.hid hF9
    clear y hp9 hF9
    go_wp2_with fail
    obtain ⟨x0, x1, x2, x3, x4⟩ := box5R (sets5 Y.out (.string ⟨#[]⟩) (.string ⟨#[]⟩) (.string ⟨#[]⟩) (.string ⟨#[]⟩) (.int .i64 st))
    refine bodyPost_ret (v := .tuple #[gotV (refG st), .bool true]) (by simp [gotV, refG, bytesL, results, Tryz.results33, go_sem, x0, x1, x2, x3, x4]) rfl ⟨rfl, ?_, ?_⟩
    · rw [heap_setCell_other _ _ _ _ (by simp; omega), heap_setCell_other _ _ _ _ (by simp; omega), heap_setCell_other _ _ _ _ (by simp; omega), heap_setCell_other _ _ _ _ (by simp; omega), heap_setCell_other _ _ _ _ (by simp; omega)]
      exact HP9.out
    · have F : Frm [some p, some w.heap.size] w w9 := (Frm.ofBelow BW.out).trans HF9.out (by intro r hr; simp only [List.mem_singleton] at hr; subst hr; simp)
      have F5 := ((((F.set (b := w.heap.size) (i := 0) (.string ⟨#[]⟩) (by simp)).set (b := w.heap.size) (i := 1) (.string ⟨#[]⟩) (by simp)).set (b := w.heap.size) (i := 2) (.string ⟨#[]⟩) (by simp)).set (b := w.heap.size) (i := 3) (.string ⟨#[]⟩) (by simp)).set (b := w.heap.size) (i := 4) (.int .i64 st) (by simp)
      exact F5.shed (by intro r hr; simp only [List.mem_cons, List.not_mem_nil, or_false] at hr; exact hr.elim (fun e => .inl (by rw [e]; simp)) (fun e => .inr ⟨_, e, Nat.le_refl _⟩))
end Go.Proofs.YtlgfhbfdjckdnaaGreatDoor
