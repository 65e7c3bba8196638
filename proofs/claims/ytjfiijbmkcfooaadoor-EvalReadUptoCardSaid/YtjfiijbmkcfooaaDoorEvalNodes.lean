/- slices.IndexFunc and slices.ContainsFunc over nodes. -/
import Derived.Test.YtjfiijbmkcfooaaDoorEvalCheck
set_option maxRecDepth 100000
namespace Go.Proofs.YtjfiijbmkcfooaaDoor
open Go.RowKit

set_option maxHeartbeats 1000000 in
theorem nodesIdx_any (w : World) (v : Value) (l : List Nd) (h : KidsR w w.heap.size v l) (fid : Nat) (caps : Array Value) (p : Nd → Bool)
    (hrun : ∀ (args : Array Value) (W : World), (callFunc fid args).run Tryd.prog W = .ok (.enter fid args) W)
    (hf : ∀ i (hi : i < l.length) (vk : Value) (W : World), Below w.heap.size w W → KidsR W w.heap.size vk l[i].kids → HeadW l[i] → Calls Tryd.prog fid (#[valN l[i] vk] ++ caps) W fun e w' => e = .returned (.bool (p l[i])) ∧ Below W.heap.size W w') :
    Calls Tryd.prog 48 #[v, .func (.func fid) #[] caps] w fun e w' => e = .returned (.int .i64 (idxL p l 0)) ∧ Below w.heap.size w w' := by
  have hll := h.len
  obtain ⟨a, c, rfl, hat⟩ := kid_at h
  have HA := Lib.hid hat
  have HF := Lib.hid hf
  clear hf h hat
  go_enter Tryd.func48, Tryd.ntmps48
  go_wp2_with fail
  go_loopg [8] l.length (fun g s8 wr => ∃ k : Nat, k + g = l.length ∧ s8 = .int .i64 (k : Int) ∧ Hid (idxL p (l.drop k) (k : Int) = idxL p l 0) ∧ Below w.heap.size w wr)
  case atStart => exact ⟨0, by omega, rfl, rfl, Below.refl _ _⟩
  case round =>
    obtain ⟨k, hkg, rfl, hI, hB⟩ := hrel
    by_cases hk : k < l.length
    · obtain ⟨b, o, vk, rfl, hb, hw, hkk, hc⟩ := HA.out k hk
      have hcall := HF.out k hk vk wr hB (hkk.mono hB (Nat.le_refl _)) hw
      obtain ⟨c0, c1, c2, c3, c4, c5, c6⟩ := kid_cells hc hB hb
      obtain ⟨x, hx⟩ : ∃ x, l[k] = x := ⟨_, rfl⟩
      rw [hx] at c0 c1 c2 c3 c4 c5 hcall
      have hd : Hid (idxL p (l.drop k) (k : Int) = if p x then (k : Int) else idxL p (l.drop (k + 1)) ((k + 1 : Nat) : Int)) := Lib.hid (by rw [idxL_drop hk, hx])
      have HB := Lib.hid hB
      have dk : decide (k < l.length) = true := decide_eq_true hk
      have k1 : (0 : Int) ≤ (k : Int) := by omega
      have k2 : (k : Int) < (l.length : Int) := by omega
      clear hx hB hc hkk hw
      cases hp : p x with
      | true =>
        rw [hp] at hcall
        have Hf : Hid ((k : Int) = idxL p l 0) := by rw [← hI.out, hd.out, hp]; exact rfl
        have HC := Lib.hid hcall
        clear hcall hp
        go_wp2_with fail
        refine HC.out.mono ?_
        rintro e w2 ⟨rfl, hb2⟩
        have HB2 := Lib.hid (HB.out.trans (hb2.mono HB.out.size))
        clear hb2
        go_wp2_with fail
        go_ret
        exact ⟨ret_int Hf.out, HB2.out⟩
      | false =>
        rw [hp] at hcall
        have Hf : Hid (idxL p (l.drop (k + 1)) ((k + 1 : Nat) : Int) = idxL p l 0) := by rw [← hI.out, hd.out, hp]; exact rfl
        have HC := Lib.hid hcall
        clear hcall hp
        go_wp2_with fail
        refine HC.out.mono ?_
        rintro e w2 ⟨rfl, hb2⟩
        have HB2 := Lib.hid (HB.out.trans (hb2.mono HB.out.size))
        clear hb2
        go_wp2_with fail
        go_roundg (gk - 1)
        case measure => omega
        case rel => exact ⟨k + 1, by omega, by go_num, Hf, HB2.out⟩
    · have Hf : Hid (-1 = idxL p l 0) := by rw [← hI.out, List.drop_eq_nil_of_le (by omega)]; exact rfl
      have dk : decide (k < l.length) = false := decide_eq_false hk
      go_wp2_with fail
      go_ret
      exact ⟨ret_int Hf.out, hB⟩

theorem idxL_any {α : Type} (p : α → Bool) : ∀ (l : List α) (k : Int), 0 ≤ k → decide (0 ≤ idxL p l k) = l.any p
  | [], k, _ => by simp [idxL]
  | x :: r, k, hk => by
    unfold idxL
    cases hp : p x with
    | true => simp [hp, hk]
    | false => simpa [hp] using idxL_any p r (k + 1) (by omega)
theorem nodesHas_any (w : World) (v : Value) (l : List Nd) (h : KidsR w w.heap.size v l) (fid : Nat) (caps : Array Value) (p : Nd → Bool)
    (hrun : ∀ (args : Array Value) (W : World), (callFunc fid args).run Tryd.prog W = .ok (.enter fid args) W)
    (hf : ∀ i (hi : i < l.length) (vk : Value) (W : World), Below w.heap.size w W → KidsR W w.heap.size vk l[i].kids → HeadW l[i] → Calls Tryd.prog fid (#[valN l[i] vk] ++ caps) W fun e w' => e = .returned (.bool (p l[i])) ∧ Below W.heap.size W w') :
    Calls Tryd.prog 30 #[v, .func (.func fid) #[] caps] w fun e w' => e = .returned (.bool (l.any p)) ∧ Below w.heap.size w w' := by
  have S1 := Lib.hid (nodesIdx_any w v l h fid caps p hrun hf)
  have HI := Lib.hid (idxL_any p l 0 (by omega))
  obtain ⟨r, hr⟩ : ∃ r, l.any p = r := ⟨_, rfl⟩
  obtain ⟨j, hj⟩ : ∃ j, idxL p l 0 = j := ⟨_, rfl⟩
  rw [hr, hj] at HI
  rw [hj] at S1
  rw [hr]
  have dj := HI.out
  obtain ⟨a, c, rfl⟩ := h.val
  clear hr hj hf h
  go_enter Tryd.func30, Tryd.ntmps30
  go_wp2_with (go_at_call 48; refine S1.out.mono ?_; rintro e w2 ⟨rfl, hb2⟩; refine Hid.out ?_)
  refine Lib.hid ?_
  have HB := Lib.hid hb2
  clear hb2
  go_wp2_with fail
  go_ret
  exact ⟨rfl, HB.out⟩
end Go.Proofs.YtjfiijbmkcfooaaDoor
