/- Helpers of the law WireReads: the comparison of rows; a piece more (seat wirez). -/
import Derived.Test.YtlgfhbfdjckdnaaGreatDoorWireRAll
import Derived.Test.YtlgfhbfdjckdnaaGreatDoorWireLawR
import Derived.Laws.IdiomStrings
set_option maxRecDepth 100000
namespace Go.Proofs.YtlgfhbfdjckdnaaGreatDoor
open Go.RowKit

/-- A reader whose bytes do not lie in a block. -/
def RdA (w : World) (base p : Nat) (l : List UInt8) (cl : Bool) (q : Nat) : Prop := ∃ v, w.heap[p]? = some (.cells #[v, .bool cl] 55) ∧ Byt w base v l ∧ ∀ g o n c, v = .slice (some ⟨g, o, none⟩) n c → g ≠ q
theorem RdA.rd {w : World} {b p q : Nat} {l : List UInt8} {cl : Bool} (h : RdA w b p l cl q) : RdR w b p l cl := by
  obtain ⟨v, h1, h2, _⟩ := h
  exact ⟨v, h1, h2⟩
theorem rdA_new {w : World} {b p q : Nat} {l : List UInt8} {cl : Bool} (h : RdR w b p l cl) (hq : q < b) : RdA w b p l cl q := by
  obtain ⟨v, h1, h2⟩ := h
  refine ⟨v, h1, h2, fun g o n c e => ?_⟩
  subst e
  cases h2 with
  | row _ _ _ _ hg => omega
theorem rdA_old {w w' : World} {b p q : Nat} {l : List UInt8} {cl : Bool} (h : RdR w b p l cl) (hb : Below w.heap.size w w') (hq : w.heap.size ≤ q) : RdA w' b p l cl q := by
  obtain ⟨v, h1, h2⟩ := h
  refine ⟨v, (hb.block _ (lt_of_block h1)).trans h1, h2.below hb, fun g o n c e => ?_⟩
  subst e
  cases h2 with
  | row _ _ _ _ hg hlt => omega
theorem rdA_lower {w : World} {b b' p q : Nat} {l : List UInt8} {cl : Bool} (h : RdA w b p l cl q) (hb : b' ≤ b) : RdA w b' p l cl q := by
  obtain ⟨v, h1, h2, h3⟩ := h
  exact ⟨v, h1, h2.lower hb, h3⟩
theorem rdA_grown {w w' : World} {base p q : Nat} {l : List UInt8} {cl : Bool} {v : Value} {A : List Gp} (h : RdA w base p l cl q) (hO : OwnF fG 39 5 w base v A) (hg : w.grownBy w' v.ownBlock) (hp : p < base) : RdA w' base p l cl q := by
  obtain ⟨vr, h1, h2, h3⟩ := h
  obtain ⟨vr2, k1, k2⟩ := rdR_grown ⟨vr, h1, h2⟩ hO hg hp
  have e := (hg.block p (lt_of_block h1) (own_ne hO hp)).trans h1
  rw [k1] at e
  injection e with e
  injection e with e1 _ _
  have e2 : vr2 = vr := by
    have := congrArg (fun a : Array Value => a[0]?) e1
    simpa using this
  subst e2
  exact ⟨vr2, k1, k2, h3⟩
theorem rdA_frm {w w' : World} {base p q : Nat} {l : List UInt8} {cl : Bool} (h : RdA w base p l cl q) (hF : Frm [some q] w w') (hpq : p ≠ q) : RdA w' base p l cl q := by
  obtain ⟨v, h1, h2, h3⟩ := h
  have hk : ∀ g, g ≠ q → ∀ r ∈ [some q], r ≠ some g := fun g hg r hr e => by
    simp only [List.mem_singleton] at hr
    subst hr; injection e with e; exact hg e.symm
  refine ⟨v, hF.block h1 (hk p hpq), ?_, h3⟩
  cases h2 with
  | nil => exact .nil
  | row g o c _ hgb hlt hc hz hty hat =>
    have e := hF.keep g hlt (hk g (h3 g o _ c rfl))
    refine .row g o c l hgb (Nat.lt_of_lt_of_le hlt hF.size) hc hz (by rw [e]; exact hty) (fun i hi => ?_)
    rw [← hat i hi]
    unfold World.cell?
    rw [e]
/-- Feed at the bytes of a text, closed or not: what was turned stands, and is no part of what the reader holds. -/
theorem feed_three (B : Nat) (w : World) (hg : GndB B w) (p b0 : Nat) (hBp : B ≤ p) (hpb : p < b0) (hpw : p < w.heap.size) (l : List UInt8) (cl : Bool) (hR : RdR w b0 p l cl) (hz1 : l.length ≤ 300000) (s : ByteArray) (hs : s.size ≤ 300000) (cap : Nat) :
    Calls Tryz.prog 9 #[.pointer (some ⟨p, 0, none⟩), .slice (some ⟨w.heap.size, 0, none⟩) s.size cap] (Lib.bytesWorld w 5 s) fun e w' => ∃ v, e = .returned v ∧ OwnF fG 39 5 w' w.heap.size v (toldT l cl s.data.toList).1 ∧ RdA w' (p + 1) p (toldT l cl s.data.toList).2.1 (toldT l cl s.data.toList).2.2 w.heap.size ∧ Frm [some p] (Lib.bytesWorld w 5 s) w' := by
  have hb := Lib.bytesWorld_below w 5 s
  cases cl with
  | true =>
    refine (feed_shut (Lib.bytesWorld w 5 s) b0 p l (rdR_below hR hb) _ _ cap).mono ?_
    rintro e w' ⟨rfl, rfl⟩
    exact ⟨_, rfl, OwnF.nil _ _, rdA_lower (rdA_old hR hb (Nat.le_refl _)) hpb, Frm.refl _ _⟩
  | false =>
    refine (feed_str B w hg p b0 hBp hpb l hR hz1 s hs cap).mono ?_
    rintro e w' ⟨v, rfl, hO, hR', hF⟩
    have hbz : (Lib.bytesWorld w 5 s).heap.size = w.heap.size + 1 := Lib.bytesWorld_size w _ s
    exact ⟨v, rfl, hO.lower hb.size, rdA_lower (rdA_new hR' (by rw [hbz]; omega)) (Nat.le_trans hpw hb.size), hF⟩
/-- A piece more. -/
theorem feed_more {P x : List UInt8} {A : List Gp} {L : List UInt8} {cl : Bool} (h : feedS P = (A, L, cl)) : feedS (P ++ x) = (A ++ (toldT L cl x).1, (toldT L cl x).2) := by
  have h2 := feedS_app P x
  rw [h] at h2
  rw [h2]
  unfold toldT
  cases cl with
  | true => simp
  | false => rfl
theorem feed_nil : feedS [] = ([], [], false) := by rfl
/-- A remainder as an index. -/
theorem cut_n (x : Int) (n : Nat) (hn : n ≤ 300000) : ∃ k : Nat, k ≤ n ∧ wrap64 ((IntKind.u64.wrap x).tmod ((n : Int) + 1)) = (k : Int) := by
  have h0 : 0 ≤ IntKind.u64.wrap x := by rw [IntKind.wrap_u64]; omega
  rw [Int.tmod_eq_emod_of_nonneg h0]
  have h1 := Int.emod_nonneg (IntKind.u64.wrap x) (show ((n : Int) + 1) ≠ 0 by omega)
  have h2 := Int.emod_lt_of_pos (IntKind.u64.wrap x) (show 0 < (n : Int) + 1 by omega)
  obtain ⟨m, hm⟩ : ∃ m, IntKind.u64.wrap x % ((n : Int) + 1) = m := ⟨_, rfl⟩
  rw [hm] at h1 h2 ⊢
  exact ⟨m.toNat, by omega, by unfold wrap64; omega⟩

set_option maxHeartbeats 4000000 in
theorem got_same (w : World) (ba bb : Nat) (va vb : Value) (A : List Gp) (ha : OwnF fG 39 5 w ba va A) (hb : OwnF fG 59 5 w bb vb A) (hz : A.length ≤ 100000000) :
    Calls Tryz.prog 11 #[va, vb] w fun e w' => e = .returned (.bool true) ∧ ∃ n, w' = w.drewN n := by
  obtain ⟨aa, ca, rfl⟩ := ha.shape
  obtain ⟨ab, cb, rfl⟩ := hb.shape
  have HA := Lib.hid ha
  have HB := Lib.hid hb
  have t1 : ((A.length : Int) != (A.length : Int)) = false := by simp
  have t1' : (A.length != A.length) = false := by simp
  clear ha hb
  go_enter Tryz.func11, Tryz.ntmps11
  go_wp2_with fail
  go_loopg [5] (A.length) (fun gh s5 wr => ∃ i : Nat, i + gh = A.length ∧ s5 = .int .i64 (i : Int) ∧ ∃ n, wr = w.drewN n)
  case atStart => exact ⟨0, by omega, rfl, 0, rfl⟩
  case round =>
    obtain ⟨i, hig, rfl, n, hw⟩ := hrel
    have hbel : Below w.heap.size w wr := by rw [hw]; exact below_drewN (Below.refl _ _) _
    have HW := Lib.hid hw
    clear t1 t1' hw
    by_cases hi : i < A.length
    · have u1 : decide ((i : Int) < (A.length : Int)) = true := decide_eq_true (by omega)
      have u1' : decide (i < A.length) = true := decide_eq_true hi
      have HA := Lib.hid (HA.out.kept hbel)
      have HB := Lib.hid (HB.out.kept hbel)
      obtain ⟨g1, rfl, -, -, -⟩ := HA.out.some (by omega)
      obtain ⟨g2, rfl, -, -, -⟩ := HB.out.some (by omega)
      obtain ⟨gg, hgi⟩ : ∃ g, A[i] = g := ⟨_, rfl⟩
      obtain ⟨gm, gp, gk, gb, gs⟩ := gg
      have at1 := fun j (hj : j < 5) => OwnF.at fG_len HA.out (i := i) (j := j) hi hj
      have at2 := fun j (hj : j < 5) => OwnF.at fG_len HB.out (i := i) (j := j) hi hj
      rw [hgi] at at1 at2
      have c0 : wr.cell? ⟨g1, i * 5, none⟩ = some (.string gm) := at1 0 (by omega)
      have c1 : wr.cell? ⟨g1, i * 5 + 1, none⟩ = some (.string gp) := at1 1 (by omega)
      have c2 : wr.cell? ⟨g1, i * 5 + 2, none⟩ = some (.string gk) := at1 2 (by omega)
      have c3 : wr.cell? ⟨g1, i * 5 + 3, none⟩ = some (.string gb) := at1 3 (by omega)
      have c4 : wr.cell? ⟨g1, i * 5 + 4, none⟩ = some (.int .i64 gs) := at1 4 (by omega)
      have d0 : wr.cell? ⟨g2, i * 5, none⟩ = some (.string gm) := at2 0 (by omega)
      have d1 : wr.cell? ⟨g2, i * 5 + 1, none⟩ = some (.string gp) := at2 1 (by omega)
      have d2 : wr.cell? ⟨g2, i * 5 + 2, none⟩ = some (.string gk) := at2 2 (by omega)
      have d3 : wr.cell? ⟨g2, i * 5 + 3, none⟩ = some (.string gb) := at2 3 (by omega)
      have d4 : wr.cell? ⟨g2, i * 5 + 4, none⟩ = some (.int .i64 gs) := at2 4 (by omega)
      have s0 : (gm.toList == gm.toList) = true := beq_self_eq_true _
      have s1 : (gp.toList == gp.toList) = true := beq_self_eq_true _
      have s2 : (gk.toList == gk.toList) = true := beq_self_eq_true _
      have s3 : (gb.toList == gb.toList) = true := beq_self_eq_true _
      have s4 : (gs == gs) = true := beq_self_eq_true _
      clear at1 at2 hgi hbel
      go_upto_region 6 with fail
      go_quiet (fail)
      go_wp2_with fail
      go_roundg (A.length - (i + 1))
      case measure => omega
      case rel => exact ⟨i + 1, by omega, by go_num, _, by rw [HW.out, World.drewN_drewN]⟩
    · have u1 : decide ((i : Int) < (A.length : Int)) = false := decide_eq_false (by omega)
      have u1' : decide (i < A.length) = false := decide_eq_false hi
      go_wp2_with fail
      go_ret
      exact ⟨rfl, n, HW.out⟩
end Go.Proofs.YtlgfhbfdjckdnaaGreatDoor
