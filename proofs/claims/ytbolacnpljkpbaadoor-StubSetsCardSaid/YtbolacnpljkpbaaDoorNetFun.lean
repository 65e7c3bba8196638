/- slices.IndexFunc, ContainsFunc, Clone on numbers; the small closures of package net. -/
import Derived.Test.YtbolacnpljkpbaaDoorNetCheck
set_option maxRecDepth 100000
namespace Go.Proofs.YtbolacnpljkpbaaDoor
open Go.RowKit

/-- The first index at which a test holds, or -1. -/
def idxI (p : Int → Bool) : List Int → Int → Int
  | [], _ => -1
  | x :: l, k => if p x then k else idxI p l (k + 1)

theorem idxI_any (p : Int → Bool) : ∀ (l : List Int) (k : Int), 0 ≤ k → decide (0 ≤ idxI p l k) = l.any p
  | [], k, _ => by simp [idxI]
  | x :: l, k, hk => by
    simp only [idxI, List.any_cons]
    by_cases h : p x
    · simp [h, hk]
    · simp [h, idxI_any p l (k + 1) (by omega)]

theorem idxI_drop {p : Int → Bool} {l : List Int} {k : Nat} (h : k < l.length) : idxI p (l.drop k) k = if p l[k] then (k : Int) else idxI p (l.drop (k + 1)) ((k + 1 : Nat) : Int) := by
  rw [List.drop_eq_getElem_cons h]; rfl

set_option maxHeartbeats 400000 in
theorem indexFunc_any (w : World) (B : Nat) (v : Value) (l : List Int) (h : Ints w B v l) (fid : Nat) (caps : Array Value) (p : Int → Bool)
    (hrun : ∀ (x : Int) (W : World), (callFunc fid (#[Value.int IntKind.i64 x] ++ caps)).run Tryd.prog W = .ok (.enter fid (#[Value.int IntKind.i64 x] ++ caps)) W)
    (hf : ∀ x ∈ l, Calls Tryd.prog fid (#[.int .i64 x] ++ caps) w fun e w' => e = .returned (.bool (p x)) ∧ w = w') :
    Calls Tryd.prog 72 #[v, .func (.func fid) #[] caps] w fun e w' => e = .returned (.int .i64 (idxI p l 0)) ∧ w = w' := by
  obtain ⟨a, c, rfl⟩ := h.val
  have hl := h.len
  have HF := Lib.hid hf
  clear hf
  go_enter Tryd.func72, Tryd.ntmps72
  go_wp2_with fail
  go_loopg [8] l.length (fun g s8 wr => ∃ k : Nat, k + g = l.length ∧ s8 = .int .i64 k ∧ Hid (idxI p (l.drop k) k = idxI p l 0) ∧ w = wr)
  case atStart => exact ⟨0, by omega, rfl, rfl, rfl⟩
  case round =>
    obtain ⟨k, hkg, rfl, hI, rfl⟩ := hrel
    by_cases hk : k < l.length
    · obtain ⟨b, o, rfl, _, hc⟩ := h.col k hk
      have hd := Lib.hid (idxI_drop (p := p) hk)
      have hcall := HF.out l[k] (List.getElem_mem hk)
      cases hp : p l[k] with
      | true =>
        rw [hp] at hcall
        have Hf : Hid ((k : Int) = idxI p l 0) := by rw [← hI.out, hd.out, hp]; exact rfl
        have HC := Lib.hid hcall
        clear hcall hp
        go_wp2_with fail
        refine HC.out.mono ?_
        rintro e w2 ⟨rfl, rfl⟩
        go_wp2_with fail
        go_ret
        exact ⟨ret_int Hf.out, rfl⟩
      | false =>
        rw [hp] at hcall
        have Hf : Hid (idxI p (l.drop (k + 1)) ((k + 1 : Nat) : Int) = idxI p l 0) := by rw [← hI.out, hd.out, hp]; exact rfl
        have HC := Lib.hid hcall
        clear hcall hp
        go_wp2_with fail
        refine HC.out.mono ?_
        rintro e w2 ⟨rfl, rfl⟩
        go_wp2_with fail
        go_roundg (gk - 1)
        case measure => omega
        case rel => exact ⟨k + 1, by omega, by go_num, Hf, rfl⟩
    · have hk' : ¬ ((k : Int) < (l.length : Int)) := by omega
      have Hf : Hid (-1 = idxI p l 0) := by rw [← hI.out, List.drop_eq_nil_of_le (by omega)]; exact rfl
      go_wp2_with fail
      go_ret
      exact ⟨ret_int Hf.out, rfl⟩

theorem bcell {W w1 : World} (hb : Below W.heap.size W w1) : (∀ b o, b < W.heap.size → w1.cell? ⟨b, o, none⟩ = W.cell? ⟨b, o, none⟩) ∧ (∀ b o, b < W.heap.size → w1.frozen? ⟨b, o, none⟩ = W.frozen? ⟨b, o, none⟩) :=
  ⟨fun b o h => hb.cell (p := ⟨b, o, none⟩) h, fun b o h => hb.frozen (p := ⟨b, o, none⟩) h⟩

theorem containsFunc_any (w : World) (B : Nat) (v : Value) (l : List Int) (h : Ints w B v l) (fid : Nat) (caps : Array Value) (p : Int → Bool) (t : Bool) (ht : l.any p = t)
    (hrun : ∀ (x : Int) (W : World), (callFunc fid (#[Value.int IntKind.i64 x] ++ caps)).run Tryd.prog W = .ok (.enter fid (#[Value.int IntKind.i64 x] ++ caps)) W)
    (hf : ∀ x ∈ l, Calls Tryd.prog fid (#[.int .i64 x] ++ caps) w fun e w' => e = .returned (.bool (p x)) ∧ w = w') :
    Calls Tryd.prog 53 #[v, .func (.func fid) #[] caps] w fun e w' => e = .returned (.bool t) ∧ w = w' := by
  have hi := indexFunc_any w B v l h fid caps p hrun hf
  have hp := idxI_any p l 0 (by omega)
  rw [ht] at hp
  have Hi := Lib.hid hi
  clear hi hf hrun ht
  obtain ⟨i, hix⟩ : ∃ i, idxI p l 0 = i := ⟨_, rfl⟩
  rw [hix] at hp Hi
  clear hix
  go_enter Tryd.func53, Tryd.ntmps53
  go_wp2_with (go_at_call 72; go_must (refine Hi.out.mono ?_; rintro e w2 ⟨rfl, rfl⟩))
  go_ret
  exact ⟨rfl, rfl⟩

/-- Is a number no count of tokens? -/
def badB (x : Int) : Bool := decide (x < 0) || decide (2147483647 < x)

theorem marking1 (x : Int) (w : World) : Calls Tryd.prog 54 #[.int .i64 x] w fun e w' => e = .returned (.bool (badB x)) ∧ w = w' := by
  unfold badB
  by_cases h : x < 0
  · have h2 : decide (x < 0) = true := by simpa using h
    go_enter Tryd.func54, Tryd.ntmps54
    go_wp2
    go_ret
    exact ⟨ret_bool (by simp [h]), rfl⟩
  · have h2 : decide (x < 0) = false := by simpa using h
    go_enter Tryd.func54, Tryd.ntmps54
    go_wp2
    go_ret
    exact ⟨ret_bool (by simp), rfl⟩

theorem run_marking1 (x : Int) (W : World) : (callFunc 54 (#[Value.int IntKind.i64 x] ++ #[])).run Tryd.prog W = .ok (.enter 54 (#[Value.int IntKind.i64 x] ++ #[])) W := by kernel_rfl

/-- Is a list a marking of a net that may be? -/
def Nt.markB (n : Nt) (m : List Int) : Bool := n.okB && (decide (m.length = n.places.length) && !m.any badB)
def Nt.markE (n : Nt) (m : List Int) : Int := if n.markB m then 0 else 1

theorem checkE_yes {n : Nt} (h : n.okB = true) : n.checkE = 0 := by simp [Nt.checkE, h]
theorem markE_1 {n : Nt} {m : List Int} (h : n.okB = false) : 1 = n.markE m := by simp [Nt.markE, Nt.markB, h]
theorem markE_2 {n : Nt} {m : List Int} (h : ¬ m.length = n.places.length) : 1 = n.markE m := by simp [Nt.markE, Nt.markB, h]
theorem markE_3 {n : Nt} {m : List Int} (h : m.any badB = true) : 1 = n.markE m := by
  have : n.markB m = false := by unfold Nt.markB; rw [h]; simp
  simp [Nt.markE, this]
theorem markE_4 {n : Nt} {m : List Int} (h1 : n.okB = true) (h2 : m.length = n.places.length) (h3 : m.any badB = false) : 0 = n.markE m := by
  have : n.markB m = true := by unfold Nt.markB; rw [h1, h3]; simp [h2]
  simp [Nt.markE, this]

theorem check_is {t : Int} (w : World) (vp vt : Value) (n : Nt) (B : Nat) (hB : B ≤ w.heap.size) (hn : NtR w B vp vt n) (ht : n.checkE = t) :
    Calls Tryd.prog 52 #[.agg #[vp, vt, .int .i64 n.init, .int .i64 n.final]] w fun e w' => e = .returned (.int .i64 t) ∧ Below w.heap.size w w' := by
  rw [← ht]; exact check_any w vp vt n B hB hn

set_option maxHeartbeats 800000 in
theorem marking_any (w : World) (vp vt vm : Value) (n : Nt) (m : List Int) (B : Nat) (hB : B ≤ w.heap.size) (hn : NtR w B vp vt n) (hm : Ints w B vm m) :
    Calls Tryd.prog 33 #[.agg #[vp, vt, .int .i64 n.init, .int .i64 n.final], vm] w fun e w' => e = .returned (.int .i64 (n.markE m)) ∧ Below w.heap.size w w' := by
  have hn1 := hn.mono ((Below.refl B w).alloc hB (.cells #[vp, vt, .int .i64 n.init, .int .i64 n.final] 25)) (Nat.le_refl _)
  have hm1 := hm.mono ((Below.refl B w).alloc hB (.cells #[vp, vt, .int .i64 n.init, .int .i64 n.final] 25)) (Nat.le_refl _)
  have hbel1 := (Below.refl w.heap.size w).alloc (Nat.le_refl _) (.cells #[vp, vt, .int .i64 n.init, .int .i64 n.final] 25)
  obtain ⟨ap, cp, rfl⟩ := hn.1.val
  obtain ⟨at_, ct, rfl⟩ := hn.2.val
  obtain ⟨am, cm, rfl⟩ := hm.val
  cases hok : n.okB with
  | false =>
    have Hf := Lib.hid (markE_1 (m := m) hok)
    have Hc := Lib.hid (check_is (w.alloc (.cells #[.slice ap n.places.length cp, .slice at_ n.trans.length ct, .int .i64 n.init, .int .i64 n.final] 25)) _ _ n B (by simp; omega) hn1 (checkE_no hok))
    clear hok
    go_enter Tryd.func33, Tryd.ntmps33
    go_wp2_with (go_at_call 52; go_must (refine Hc.out.mono ?_; rintro e w2 ⟨rfl, hb⟩; obtain ⟨hcl, hfz⟩ := bcell hb))
    go_ret
    exact ⟨ret_int Hf.out, hbel1.trans (hb.mono (by simp))⟩
  | true =>
    have Hc := Lib.hid (check_is (w.alloc (.cells #[.slice ap n.places.length cp, .slice at_ n.trans.length ct, .int .i64 n.init, .int .i64 n.final] 25)) _ _ n B (by simp; omega) hn1 (checkE_yes hok))
    by_cases hl : m.length = n.places.length
    · have hz : ((m.length : Int) != (n.places.length : Int)) = false := by simp [hl]
      cases hb3 : m.any badB with
      | true =>
        have Hf := Lib.hid (markE_3 (n := n) hb3)
        have H3 := Lib.hid hb3
        clear hok hl hb3
        go_enter Tryd.func33, Tryd.ntmps33
        go_wp2_with (first | (go_at_call 52; go_must (refine Hc.out.mono ?_; rintro e w2 ⟨rfl, hb⟩; obtain ⟨hcl, hfz⟩ := bcell hb)) | (go_at_call 53; go_must (refine (containsFunc_any _ _ _ _ (hm1.mono (hb.mono (by simp; omega)) (Nat.le_refl _)) _ _ badB true H3.out run_marking1 (fun x _ => marking1 x _)).mono ?_; rintro e w3 ⟨rfl, rfl⟩)))
        go_ret
        exact ⟨ret_int Hf.out, hbel1.trans (hb.mono (by simp))⟩
      | false =>
        have Hf := Lib.hid (markE_4 hok hl hb3)
        have H3 := Lib.hid hb3
        clear hok hl hb3
        go_enter Tryd.func33, Tryd.ntmps33
        go_wp2_with (first | (go_at_call 52; go_must (refine Hc.out.mono ?_; rintro e w2 ⟨rfl, hb⟩; obtain ⟨hcl, hfz⟩ := bcell hb)) | (go_at_call 53; go_must (refine (containsFunc_any _ _ _ _ (hm1.mono (hb.mono (by simp; omega)) (Nat.le_refl _)) _ _ badB false H3.out run_marking1 (fun x _ => marking1 x _)).mono ?_; rintro e w3 ⟨rfl, rfl⟩)))
        go_ret
        exact ⟨ret_int Hf.out, hbel1.trans (hb.mono (by simp))⟩
    · have hz : ((m.length : Int) != (n.places.length : Int)) = true := by simp; omega
      have Hf := Lib.hid (markE_2 hl)
      clear hok hl
      go_enter Tryd.func33, Tryd.ntmps33
      go_wp2_with (go_at_call 52; go_must (refine Hc.out.mono ?_; rintro e w2 ⟨rfl, hb⟩; obtain ⟨hcl, hfz⟩ := bcell hb))
      go_ret
      exact ⟨ret_int Hf.out, hbel1.trans (hb.mono (by simp))⟩

end Go.Proofs.YtbolacnpljkpbaaDoor
