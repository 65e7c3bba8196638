/- The laws' read (seat wire). -/
import Derived.Test.YtlgfhbfdjckdnaaGreatDoorWireFeed
import Derived.Test.YtlgfhbfdjckdnaaGreatDoorWireMisc
import Derived.Lib.ConvBytes
set_option maxRecDepth 100000
namespace Go.Proofs.YtlgfhbfdjckdnaaGreatDoor
open Go.RowKit

theorem len_list (s : ByteArray) : s.data.toList.length = s.size := by rw [Array.length_toList]; rfl
/-- Feed at the bytes of a text, turned just before. -/
theorem feed_str (B : Nat) (w : World) (hg : GndB B w) (p b0 : Nat) (hBp : B ≤ p) (hpb : p < b0) (l : List UInt8) (hR : RdR w b0 p l false) (hz1 : l.length ≤ 300000) (s : ByteArray) (hs : s.size ≤ 300000) (cap : Nat) :
    Calls Tryz.prog 9 #[.pointer (some ⟨p, 0, none⟩), .slice (some ⟨w.heap.size, 0, none⟩) s.size cap] (Lib.bytesWorld w 5 s) fun e w' => FeedR (Lib.bytesWorld w 5 s) p (l ++ s.data.toList) e w' := by
  have hb := Lib.bytesWorld_below w 5 s
  have hC : ColF fU 1 (Lib.bytesWorld w 5 s) (Lib.bytesWorld w 5 s).heap.size (some ⟨w.heap.size, 0, none⟩) s.data.toList := by
    intro i hi
    refine ⟨w.heap.size, 0, rfl, by rw [Lib.bytesWorld_size]; omega, fun j hj => ?_⟩
    obtain rfl : j = 0 := by omega
    rw [len_list] at hi
    rw [show 0 + i * 1 + 0 = i by omega, Lib.bytesWorld_cell w 5 s i hi]
    have e : s.data.toList.getD i 0 = s.data.toList[i]'(by rw [len_list]; exact hi) := by
      rw [List.getD_eq_getElem?_getD, List.getElem?_eq_getElem (by rw [len_list]; exact hi)]; rfl
    rw [e]
    rfl
  have h := feed_any B (Lib.bytesWorld w 5 s) (hg.below hb) p b0 hBp hpb l (rdR_below hR hb) hz1 (some ⟨w.heap.size, 0, none⟩) s.data.toList cap hC (by rw [len_list]; exact hs)
  rw [len_list] at h
  exact h

set_option maxHeartbeats 1000000 in
theorem lread_any (w : World) (hg : Gnd w) (s : ByteArray) (hs : s.size ≤ 300000) :
    Calls Tryz.prog 16 #[.string s] w fun e w' => ∃ v, e = .returned v ∧ OwnF fG 39 5 w' w.heap.size v (feedS s.data.toList).1 ∧ Below w.heap.size w w' := by
  have HG := Lib.hid hg.toB
  clear hg
  go_enter Tryz.func16, Tryz.ntmps16
  go_wp2_with (first
    | (go_at_call 8; refine (new_any w).mono ?_; rintro e w2 ⟨p, rfl, hR2, hp2, hb2⟩; have hcv := Lib.run_convert_string_bytes (P := Tryz.prog) w2 9 27 5 s Tryz.underlying9 Tryz.underlying27 Tryz.underlying5; have HF := Lib.hid (fun cap => feed_str w.heap.size w2 (HG.out.below hb2) p (p + 1) (by omega) (by omega) [] hR2 (by simp) s hs cap); have HB3 := Lib.hid (hb2.trans ((Lib.bytesWorld_below w2 5 s).mono hb2.size)); have HP := Lib.hid hp2; clear hR2 hp2)
    | (go_at_call 9; refine (HF.out _).mono ?_; rintro e w4 ⟨v, rfl, hO, -, hF4⟩))
  go_ret
  refine ⟨_, rfl, hO.lower HB3.out.size, ?_⟩
  exact HB3.out.trans (hF4.toBelow HB3.out.size (by intro r hr k hk; simp only [List.mem_singleton] at hr; subst hr; injection hk with hk; have := HP.out; omega))

/-- A reader stands while another takes bytes. -/
theorem rdR_other {w w' : World} {b b2 p1 p2 : Nat} {l l2 : List UInt8} {c1 c2 : Bool} (h : RdR w b p1 l c1) (h2 : RdR w b2 p2 l2 c2) (hF : Frm [some p2] w w') (hne : p1 ≠ p2) : RdR w' b p1 l c1 := by
  obtain ⟨v, q1, q2⟩ := h
  obtain ⟨v2, r1, _⟩ := h2
  have hk : ∀ g, g ≠ p2 → ∀ r ∈ [some p2], r ≠ some g := fun g hg r hr e => by
    simp only [List.mem_singleton] at hr
    subst hr; injection e with e; exact hg e.symm
  refine ⟨v, hF.block q1 (hk p1 hne), ?_⟩
  cases q2 with
  | nil => exact .nil
  | row g o c _ hgb hlt hc hz hty hat =>
    have hgp : g ≠ p2 := fun e => by
      subst e
      obtain ⟨cur, fr, hcur⟩ := hty
      rw [r1] at hcur
      injection hcur with hcur
      injection hcur with _ ht _
      exact absurd ht (by decide)
    have e := hF.keep g hlt (hk g hgp)
    refine .row g o c l hgb (Nat.lt_of_lt_of_le hlt hF.size) hc hz (by rw [e]; exact hty) (fun i hi => ?_)
    rw [← hat i hi]
    unfold World.cell?
    rw [e]
theorem rdR_lower {w : World} {b b' p : Nat} {l : List UInt8} {cl : Bool} (h : RdR w b p l cl) (hb : b' ≤ b) : RdR w b' p l cl := by
  obtain ⟨v, q1, q2⟩ := h
  exact ⟨v, q1, q2.lower hb⟩
/-- What a reader tells of more bytes, and what it then holds. -/
def toldT (l : List UInt8) (cl : Bool) (x : List UInt8) : List Gp × List UInt8 × Bool := if cl then ([], l, true) else feedS (l ++ x)
/-- Feed at the bytes of a text, whether the reader is closed or not. -/
theorem feed_two (B : Nat) (w : World) (hg : GndB B w) (p b0 : Nat) (hBp : B ≤ p) (hpb : p < b0) (hpw : p < w.heap.size) (l : List UInt8) (cl : Bool) (hR : RdR w b0 p l cl) (hz1 : l.length ≤ 300000) (s : ByteArray) (hs : s.size ≤ 300000) (cap : Nat) :
    Calls Tryz.prog 9 #[.pointer (some ⟨p, 0, none⟩), .slice (some ⟨w.heap.size, 0, none⟩) s.size cap] (Lib.bytesWorld w 5 s) fun e w' => ∃ v, e = .returned v ∧ OwnF fG 39 5 w' w.heap.size v (toldT l cl s.data.toList).1 ∧ RdR w' (p + 1) p (toldT l cl s.data.toList).2.1 (toldT l cl s.data.toList).2.2 ∧ Frm [some p] w w' := by
  have hb := Lib.bytesWorld_below w 5 s
  cases cl with
  | true =>
    refine (feed_shut (Lib.bytesWorld w 5 s) b0 p l (rdR_below hR hb) _ _ cap).mono ?_
    rintro e w' ⟨rfl, rfl⟩
    exact ⟨_, rfl, OwnF.nil _ _, rdR_lower (rdR_below hR hb) hpb, Frm.ofBelow hb⟩
  | false =>
    refine (feed_str B w hg p b0 hBp hpb l hR hz1 s hs cap).mono ?_
    rintro e w' ⟨v, rfl, hO, hR', hF⟩
    exact ⟨v, rfl, hO.lower hb.size, rdR_lower hR' (Nat.le_trans hpw hb.size), (Frm.ofBelow hb).trans hF (by intro r hr; exact .inl hr)⟩
end Go.Proofs.YtlgfhbfdjckdnaaGreatDoor
