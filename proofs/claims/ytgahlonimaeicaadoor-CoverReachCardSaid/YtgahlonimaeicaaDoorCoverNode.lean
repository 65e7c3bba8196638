/- Readers of a tree: Len, Node, Bounded. -/
import Derived.Test.YtgahlonimaeicaaDoorCoverTreeR
import Derived.Test.YtgahlonimaeicaaDoorNetOne
import Derived.Test.YtgahlonimaeicaaDoorShelf
set_option maxRecDepth 100000
namespace Go.Proofs.YtgahlonimaeicaaDoor
open Go.RowKit

theorem len_any (w : World) (B p : Nat) (l : List Nd) (h : TreeR w B p l) : Calls Tryd.prog 13 #[.pointer (some ⟨p, 0, none⟩)] w fun e w' => e = .returned (.int .i64 (l.length : Int)) ∧ w = w' := by
  obtain ⟨a, cap, hp, hl, hc, hn⟩ := h
  go_enter Tryd.func13, Tryd.ntmps13
  go_wp2_with fail
  go_ret
  exact ⟨rfl, rfl⟩
theorem len_nil (w : World) : Calls Tryd.prog 13 #[.pointer none] w fun e w' => e = .returned (.int .i64 0) ∧ w = w' := by
  go_enter Tryd.func13, Tryd.ntmps13
  go_wp2_with fail
  go_ret
  exact ⟨rfl, rfl⟩

theorem box4 {w : World} {b : Nat} {v0 v1 v2 v3 : Value} {t : TypeId} {fr : Nat × Nat} (h : w.heap[b]? = some (.cells #[v0, v1, v2, v3] t fr)) :
    w.cell? ⟨b, 0, none⟩ = some v0 ∧ w.cell? ⟨b, 1, none⟩ = some v1 ∧ w.cell? ⟨b, 2, none⟩ = some v2 ∧ w.cell? ⟨b, 3, none⟩ = some v3 := by
  refine ⟨?_, ?_, ?_, ?_⟩ <;> (rw [cell_of_block h]; rfl)

theorem set_self {w : World} {b i : Nat} {c : Array Value} {t : TypeId} {fr : Nat × Nat} (v : Value) (h : w.heap[b]? = some (.cells c t fr)) : (w.setCell ⟨b, i, none⟩ v).heap[b]? = some (.cells (c.setIfInBounds i v) t fr) := by
  simp [World.setCell, Array.getElem?_modify, h]
theorem four_sets {w : World} {b : Nat} {v0 v1 v2 v3 : Value} {t : TypeId} {fr : Nat × Nat} (h : w.heap[b]? = some (.cells #[v0, v1, v2, v3] t fr)) (q : Addr) (hq : q.block ≠ b) (u x0 x1 x2 x3 : Value) :
    (((((w.setCell q u).setCell ⟨b, 0, none⟩ x0).setCell ⟨b, 1, none⟩ x1).setCell ⟨b, 2, none⟩ x2).setCell ⟨b, 3, none⟩ x3).heap[b]? = some (.cells #[x0, x1, x2, x3] t fr) := by
  have h0 : (w.setCell q u).heap[b]? = some (.cells #[v0, v1, v2, v3] t fr) := (heap_setCell_other w q b u (fun e => hq e.symm)).trans h
  exact set_self x3 (set_self x2 (set_self x1 (set_self x0 h0)))

theorem OwnI.setOld {w : World} {base b i : Nat} {v : Value} {l : List Int} (h : OwnI w base v l) (hb : b < base) (u : Value) : OwnI (w.setCell ⟨b, i, none⟩ u) base v l := by
  refine World.ownsRow.kept h (row := some b) ⟨rfl, rfl, rfl, by simp, fun k _ hk => heap_setCell_other w ⟨b, i, none⟩ k u (fun e => hk (by rw [e]))⟩ ?_
  rcases h.val with ⟨rfl, _⟩ | ⟨g, cap, rfl, hg, _⟩
  · exact Or.inl rfl
  · right
    intro e
    have : g = b := by injection e
    omega

def noNode : Value := .agg #[.int .i64 0, .int .i64 0, .slice none 0 0, .int .i64 0]

theorem node_nil (w : World) (i : Int) : Calls Tryd.prog 14 #[.pointer none, .int .i64 i] w fun e w' => e = .returned (.tuple #[noNode, .int .i64 2]) ∧ Below w.heap.size w w' := by
  go_enter Tryd.func14, Tryd.ntmps14
  go_wp2_with fail
  exact bodyPost_ret (v := .tuple #[noNode, .int .i64 2]) (by simp [noNode, results, Tryd.results14, go_sem]) rfl ⟨rfl, (Below.refl _ _).alloc (Nat.le_refl _) _⟩

theorem node_bad (w : World) (B p : Nat) (l : List Nd) (h : TreeR w B p l) (hB : B ≤ w.heap.size) (i : Int) (hi : ¬ (0 ≤ i ∧ i < (l.length : Int))) :
    Calls Tryd.prog 14 #[.pointer (some ⟨p, 0, none⟩), .int .i64 i] w fun e w' => e = .returned (.tuple #[noNode, .int .i64 1]) ∧ Below w.heap.size w w' := by
  obtain ⟨a, cap, hp, hl, hc, hn⟩ := h
  by_cases h0 : i < 0
  · clear hi
    go_enter Tryd.func14, Tryd.ntmps14
    go_wp2_with fail
    exact bodyPost_ret (v := .tuple #[noNode, .int .i64 1]) (by simp [noNode, results, Tryd.results14, go_sem]) rfl ⟨rfl, (Below.refl _ _).alloc (Nat.le_refl _) _⟩
  · have h1 : (l.length : Int) ≤ i := by omega
    have hpw : p < w.heap.size := by omega
    clear hi
    go_enter Tryd.func14, Tryd.ntmps14
    go_wp2_with fail
    exact bodyPost_ret (v := .tuple #[noNode, .int .i64 1]) (by simp [noNode, results, Tryd.results14, go_sem]) rfl ⟨rfl, (Below.refl _ _).alloc (Nat.le_refl _) _⟩

/-- What Node hands back for a node that is there. -/
def NodePost (w : World) (d : Nd) (e : Ending) (w' : World) : Prop :=
  ∃ v, e = .returned (.tuple #[.agg #[.int .i64 d.par, .int .i64 d.tr, v, .int .i64 d.again], .int .i64 0]) ∧ OwnI w' w.heap.size v d.mark ∧ Below w.heap.size w w'

set_option maxHeartbeats 1000000 in
theorem node_any (w : World) (B p : Nat) (l : List Nd) (h : TreeR w B p l) (hB : B ≤ w.heap.size) (i : Nat) (hi : i < l.length) :
    Calls Tryd.prog 14 #[.pointer (some ⟨p, 0, none⟩), .int .i64 (i : Int)] w (NodePost w l[i]) := by
  obtain ⟨a, cap, hp, hl, hc, hn⟩ := h
  obtain ⟨b, o, v, rfl, hb, h0, h1, h2, h3, hm⟩ := hn i hi
  obtain ⟨d, hd⟩ : ∃ d, l[i] = d := ⟨_, rfl⟩
  rw [hd] at h0 h1 h3 hm
  rw [hd]
  clear hd hn
  obtain ⟨am, cm, rfl⟩ := hm.val
  have hpw : p < w.heap.size := by omega
  have hbw : b < w.heap.size := by omega
  obtain ⟨W, hW⟩ : ∃ W, (w.alloc (.cells #[.int .i64 0, .int .i64 0, .slice none 0 0, .int .i64 0] 36)).alloc (.cells #[.int .i64 d.par, .int .i64 d.tr, .slice am d.mark.length cm, .int .i64 d.again] 36) = W := ⟨_, rfl⟩
  have hsz : W.heap.size = w.heap.size + 2 := by rw [← hW]; simp
  have hbW : Below w.heap.size w W := by rw [← hW]; exact ((Below.refl _ _).alloc (Nat.le_refl _) _).alloc (by simp) _
  have hx0 : W.heap[w.heap.size]? = some (.cells #[.int .i64 0, .int .i64 0, .slice none 0 0, .int .i64 0] 36) := by rw [← hW]; exact heap_alloc2_old _ _ _
  have hx1 : W.heap[w.heap.size + 1]? = some (.cells #[.int .i64 d.par, .int .i64 d.tr, .slice am d.mark.length cm, .int .i64 d.again] 36) := by rw [← hW]; exact heap_alloc2_new _ _ _
  have HC := Lib.hid (clone_any W B _ d.mark (hm.mono (hbW.mono hB) (Nat.le_refl _)) (by omega))
  have HX := Lib.hid (And.intro hx0 hx1)
  clear hx0 hx1
  have HW := Lib.hid hW
  clear hW
  go_enter Tryd.func14, Tryd.ntmps14
  go_wp2_with fail
  rw [HW.out]
  refine HC.out.mono ?_
  rintro e w2 ⟨v2, rfl, how, hb2⟩
  obtain ⟨a2, c2, rfl⟩ := how.shape
  have y0 : w2.heap[w.heap.size]? = some (.cells #[.int .i64 0, .int .i64 0, .slice none 0 0, .int .i64 0] 36) := (hb2.block _ (by omega)).trans HX.out.1
  have y1 : w2.heap[w.heap.size + 1]? = some (.cells #[.int .i64 d.par, .int .i64 d.tr, .slice am d.mark.length cm, .int .i64 d.again] 36) := (hb2.block _ (by omega)).trans HX.out.2
  have Y := Lib.hid (And.intro y0 y1)
  have f0 := free_of_block y0
  have f1 := free_of_block y1
  obtain ⟨c0, c1, c2', c3⟩ := box4 y1
  obtain ⟨e0, e1, e2, e3⟩ := box4 y0
  clear y0 y1
  go_wp2_with fail
  obtain ⟨q0, q1, q2, q3⟩ := box4 (four_sets Y.out.1 ⟨w.heap.size + 1, 2, none⟩ (by simp) (.slice a2 d.mark.length c2) (.int .i64 d.par) (.int .i64 d.tr) (.slice a2 d.mark.length c2) (.int .i64 d.again))
  refine bodyPost_ret (v := .tuple #[.agg #[.int .i64 d.par, .int .i64 d.tr, .slice a2 d.mark.length c2, .int .i64 d.again], .int .i64 0]) (by simp [results, Tryd.results14, go_sem, q0, q1, q2, q3]) rfl ⟨_, rfl, ?_, ?_⟩
  · exact (((((how.setOld (by omega) _).setOld (by omega) _).setOld (by omega) _).setOld (by omega) _).setOld (by omega) _).lower (by omega)
  · exact (((((hbW.trans (hb2.mono (by omega))).setCell (by simp) _).setCell (by simp) _).setCell (by simp) _).setCell (by simp) _).setCell (by simp) _

theorem contains_any (w : World) (B : Nat) (v : Value) (l : List Int) (h : Ints w B v l) (x : Int) : Calls Tryd.prog 48 #[v, .int .i64 x] w fun e w' => e = .returned (.bool (l.contains x)) ∧ w = w' := by
  obtain ⟨a, c, rfl⟩ := h.val
  have hl := h.len
  cases l with
  | nil => exact (Tryd.slices_Contains_int_empty a c x w).mono fun e w' ⟨h1, h2⟩ => ⟨by rw [h1]; rfl, h2.symm⟩
  | cons y l =>
    obtain ⟨b, o, rfl, _, _⟩ := h.col 0 (by simp)
    refine (Tryd.slices_Contains_int b o (y :: l).length c (y :: l) x w (Nat.le_refl _) (by omega) (fun j hj => ?_)).mono fun e w' ⟨h1, h2⟩ => ⟨by rw [h1, List.take_length], h2.symm⟩
    obtain ⟨b', o', hb', _, hc⟩ := h.col j hj
    cases hb'
    rw [hc]
    simp only [List.getD_eq_getElem?_getD, List.getElem?_eq_getElem hj, Option.getD_some]

/-- The first node of which something is so, or -1. -/
def idxN (p : Nd → Bool) : List Nd → Int → Int
  | [], _ => -1
  | x :: l, k => if p x then k else idxN p l (k + 1)
theorem idxN_any (p : Nd → Bool) : ∀ (l : List Nd) (k : Int), 0 ≤ k → decide (0 ≤ idxN p l k) = l.any p
  | [], k, _ => by simp [idxN]
  | x :: l, k, hk => by
    simp only [idxN, List.any_cons]
    by_cases h : p x
    · simp [h, hk]
    · simp [h, idxN_any p l (k + 1) (by omega)]
theorem idxN_drop {p : Nd → Bool} {l : List Nd} {k : Nat} (h : k < l.length) : idxN p (l.drop k) k = if p l[k] then (k : Int) else idxN p (l.drop (k + 1)) ((k + 1 : Nat) : Int) := by
  rw [List.drop_eq_getElem_cons h]; rfl

/-- A test on nodes, as it is called. -/
def TestN (w : World) (B : Nat) (fid : Nat) (caps : Array Value) (p : Nd → Bool) (l : List Nd) : Prop :=
  ∀ W, Below w.heap.size w W → ∀ d ∈ l, ∀ v, Ints W B v d.mark → Calls Tryd.prog fid (#[.agg #[.int .i64 d.par, .int .i64 d.tr, v, .int .i64 d.again]] ++ caps) W fun e w' => e = .returned (.bool (p d)) ∧ Below W.heap.size W w'

set_option maxHeartbeats 800000 in
theorem indexFuncN_any (w : World) (B : Nat) (hB : B ≤ w.heap.size) (a : Option Addr) (cap : Nat) (l : List Nd) (hn : NdsC w B a l) (hl : l.length ≤ 4096) (fid : Nat) (caps : Array Value) (p : Nd → Bool)
    (hrun : ∀ (x : Value) (W : World), (callFunc fid (#[x] ++ caps)).run Tryd.prog W = .ok (.enter fid (#[x] ++ caps)) W) (hf : TestN w B fid caps p l) :
    Calls Tryd.prog 44 #[.slice a l.length cap, .func (.func fid) #[] caps] w fun e w' => e = .returned (.int .i64 (idxN p l 0)) ∧ Below w.heap.size w w' := by
  have HF := Lib.hid hf
  clear hf
  go_enter Tryd.func44, Tryd.ntmps44
  go_wp2_with fail
  go_loopg [8] l.length (fun g s8 wr => ∃ k : Nat, k + g = l.length ∧ s8 = .int .i64 k ∧ Hid (idxN p (l.drop k) k = idxN p l 0) ∧ Below w.heap.size w wr)
  case atStart => exact ⟨0, by omega, rfl, rfl, Below.refl _ _⟩
  case round =>
    obtain ⟨k, hkg, rfl, hI, hbel⟩ := hrel
    by_cases hk : k < l.length
    · obtain ⟨b, o, v, rfl, hb, h0, h1, h2, h3, hm⟩ := hn k hk
      rw [← Below.cellB hbel (by omega)] at h0 h1 h2 h3
      have hd := Lib.hid (idxN_drop (p := p) hk)
      have hcall := HF.out wr hbel l[k] (List.getElem_mem hk) v (hm.mono (hbel.mono hB) (Nat.le_refl _))
      obtain ⟨d, hdd⟩ : ∃ d, l[k] = d := ⟨_, rfl⟩
      rw [hdd] at h0 h1 h3 hd hcall
      clear hdd hm
      cases hp : p d with
      | true =>
        rw [hp] at hcall
        have Hf : Hid ((k : Int) = idxN p l 0) := by rw [← hI.out, hd.out, hp]; exact rfl
        have HC := Lib.hid hcall
        clear hcall hp
        go_wp2_with fail
        refine HC.out.mono ?_
        rintro e w2 ⟨rfl, hb2⟩
        have hB2 := hbel.trans (hb2.mono hbel.size)
        go_wp2_with fail
        go_ret
        exact ⟨ret_int Hf.out, hB2⟩
      | false =>
        rw [hp] at hcall
        have Hf : Hid (idxN p (l.drop (k + 1)) ((k + 1 : Nat) : Int) = idxN p l 0) := by rw [← hI.out, hd.out, hp]; exact rfl
        have HC := Lib.hid hcall
        clear hcall hp
        go_wp2_with fail
        refine HC.out.mono ?_
        rintro e w2 ⟨rfl, hb2⟩
        have hB2 := hbel.trans (hb2.mono hbel.size)
        go_wp2_with fail
        go_roundg (gk - 1)
        case measure => omega
        case rel => exact ⟨k + 1, by omega, by go_num, Hf, hB2⟩
    · have hk' : ¬ ((k : Int) < (l.length : Int)) := by omega
      have Hf : Hid (-1 = idxN p l 0) := by rw [← hI.out, List.drop_eq_nil_of_le (by omega)]; exact rfl
      go_wp2_with fail
      go_ret
      exact ⟨ret_int Hf.out, hbel⟩

theorem containsFuncN_any (w : World) (B : Nat) (hB : B ≤ w.heap.size) (a : Option Addr) (cap : Nat) (l : List Nd) (hn : NdsC w B a l) (hl : l.length ≤ 4096) (fid : Nat) (caps : Array Value) (p : Nd → Bool)
    (hrun : ∀ (x : Value) (W : World), (callFunc fid (#[x] ++ caps)).run Tryd.prog W = .ok (.enter fid (#[x] ++ caps)) W) (hf : TestN w B fid caps p l) :
    Calls Tryd.prog 46 #[.slice a l.length cap, .func (.func fid) #[] caps] w fun e w' => e = .returned (.bool (l.any p)) ∧ Below w.heap.size w w' := by
  have hi := indexFuncN_any w B hB a cap l hn hl fid caps p hrun hf
  have hp := idxN_any p l 0 (by omega)
  have Hi := Lib.hid hi
  have HB := Lib.hid hp.symm
  clear hi hf hrun hp hn
  obtain ⟨i, hix⟩ : ∃ i, idxN p l 0 = i := ⟨_, rfl⟩
  rw [hix] at HB Hi
  clear hix
  go_enter Tryd.func46, Tryd.ntmps46
  go_wp2_with (go_at_call 44; go_must (refine Hi.out.mono ?_; rintro e w2 ⟨rfl, hb2⟩))
  go_ret
  exact ⟨ret_bool HB.out.symm, hb2⟩

theorem bounded1 (w : World) (B : Nat) (hB : B ≤ w.heap.size) (d : Nd) (v : Value) (hm : Ints w B v d.mark) :
    Calls Tryd.prog 47 #[.agg #[.int .i64 d.par, .int .i64 d.tr, v, .int .i64 d.again]] w fun e w' => e = .returned (.bool (d.mark.contains (-1))) ∧ Below w.heap.size w w' := by
  have hb1 := (Below.refl w.heap.size w).alloc (Nat.le_refl _) (.cells #[.int .i64 d.par, .int .i64 d.tr, v, .int .i64 d.again] 36)
  have HC := Lib.hid (contains_any _ _ v d.mark (hm.mono (hb1.mono hB) (Nat.le_refl _)) (-1))
  obtain ⟨a, c, rfl⟩ := hm.val
  obtain ⟨t, ht⟩ : ∃ t, d.mark.contains (-1) = t := ⟨_, rfl⟩
  rw [ht] at HC ⊢
  clear ht
  go_enter Tryd.func47, Tryd.ntmps47
  go_wp2_with (go_at_call 48; go_must (refine HC.out.mono ?_; rintro e w2 ⟨rfl, rfl⟩))
  go_ret
  exact ⟨rfl, hb1⟩

theorem run_bounded1 (x : Value) (W : World) : (callFunc 47 (#[x] ++ #[])).run Tryd.prog W = .ok (.enter 47 (#[x] ++ #[])) W := by kernel_rfl

/-- Has no marking Many? -/
def boundedB (l : List Nd) : Bool := !l.any fun d => d.mark.contains (-1)

theorem bounded_any (w : World) (B p : Nat) (l : List Nd) (h : TreeR w B p l) (hB : B ≤ w.heap.size) : Calls Tryd.prog 22 #[.pointer (some ⟨p, 0, none⟩)] w fun e w' => e = .returned (.bool (boundedB l)) ∧ Below w.heap.size w w' := by
  obtain ⟨a, cap, hp, hl, hc, hn⟩ := h
  have HC := Lib.hid (containsFuncN_any w B hB a cap l hn hl 47 #[] (fun d => d.mark.contains (-1)) run_bounded1 (fun W hb d _ v hv => bounded1 W B (Nat.le_trans hB hb.size) d v hv))
  obtain ⟨t, ht⟩ : ∃ t, (l.any fun d => d.mark.contains (-1)) = t := ⟨_, rfl⟩
  have HT : Hid (boundedB l = !t) := by unfold boundedB; rw [ht]; exact rfl
  rw [ht] at HC
  clear ht hn
  go_enter Tryd.func22, Tryd.ntmps22
  go_wp2_with (go_at_call 46; go_must (refine HC.out.mono ?_; rintro e w2 ⟨rfl, hb2⟩))
  go_ret
  exact ⟨ret_bool HT.out.symm, hb2⟩
theorem bounded_nil (w : World) : Calls Tryd.prog 22 #[.pointer none] w fun e w' => e = .returned (.bool false) ∧ w = w' := by
  go_enter Tryd.func22, Tryd.ntmps22
  go_wp2_with fail
  go_ret
  exact ⟨rfl, rfl⟩

end Go.Proofs.YtgahlonimaeicaaDoor
