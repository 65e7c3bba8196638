/- method, path and the document's Path (seat wire). -/
import Derived.Test.YtlgfhbfdjckdnaaGreatDoorWireTok
import Derived.Test.YtlgfhbfdjckdnaaGreatDoorShelf
set_option maxRecDepth 100000
namespace Go.Proofs.YtlgfhbfdjckdnaaGreatDoor
open Go.RowKit

theorem isEmpty_size (s : ByteArray) : s.toList.isEmpty = decide (s.size = 0) := by
  rw [ByteArray.toList_eq]
  show s.data.toList.isEmpty = decide (s.data.size = 0)
  cases h : s.data.toList with
  | nil =>
    have := congrArg List.length h
    rw [Array.length_toList] at this
    rw [decide_eq_true (show s.data.size = 0 from this)]; rfl
  | cons x r =>
    have := congrArg List.length h
    rw [Array.length_toList, List.length_cons] at this
    rw [decide_eq_false (by omega)]; rfl

set_option maxHeartbeats 1000000 in
theorem method_any (w : World) (s : ByteArray) (hs : s.size ≤ 140737488355328) : Calls Tryz.prog 23 #[.string s] w fun e w' => e = .returned (.bool (methodB s)) ∧ w = w' := by
  have HA := Lib.hid (wall_any w s hs _ upC eg_m1 m1_any)
  by_cases h0 : s.size = 0
  · have e1 : s.toList.isEmpty = true := by rw [isEmpty_size, decide_eq_true h0]
    have hf : Hid (methodB s = false) := by refine Lib.hid ?_; unfold methodB; rw [decide_eq_false (p := 1 ≤ s.size) (by omega)]; rfl
    clear h0
    go_enter Tryz.func23, Tryz.ntmps23
    go_wp2_with (go_at_call 38; refine HA.out.mono ?_; rintro e w7 ⟨rfl, rfl⟩)
    go_ret
    exact ⟨ret_bool hf.out.symm, rfl⟩
  · have e1 : s.toList.isEmpty = false := by rw [isEmpty_size, decide_eq_false h0]
    by_cases h1 : s.size ≤ 16
    · have e2 : decide ((s.size : Int) ≤ 16) = true := decide_eq_true (by omega)
      have hf : Hid (methodB s = allB upC s) := by refine Lib.hid ?_; unfold methodB; rw [decide_eq_true (p := 1 ≤ s.size) (by omega), decide_eq_true h1]; rfl
      clear h0 h1
      go_enter Tryz.func23, Tryz.ntmps23
      go_wp2_with (go_at_call 38; refine HA.out.mono ?_; rintro e w7 ⟨rfl, rfl⟩)
      go_ret
      exact ⟨ret_bool hf.out.symm, rfl⟩
    · have e2 : decide ((s.size : Int) ≤ 16) = false := decide_eq_false (by omega)
      have hf : Hid (methodB s = false) := by refine Lib.hid ?_; unfold methodB; rw [decide_eq_false h1, Bool.and_false]; rfl
      clear h0 h1
      go_enter Tryz.func23, Tryz.ntmps23
      go_wp2_with (go_at_call 38; refine HA.out.mono ?_; rintro e w7 ⟨rfl, rfl⟩)
      go_ret
      exact ⟨ret_bool hf.out.symm, rfl⟩
def pathB (s : ByteArray) : Bool := Lib.hasPrefix s.data.toList [47] && decide (s.size ≤ 1024) && tokenB s
set_option maxHeartbeats 1000000 in
theorem path_any (w : World) (s : ByteArray) (hs : s.size ≤ 140737488355328) : Calls Tryz.prog 24 #[.string s] w fun e w' => e = .returned (.bool (pathB s)) ∧ w = w' := by
  have HA := Lib.hid (token_any w s hs)
  have HP := Lib.hid (Tryz.strings_HasPrefix s ⟨#[47]⟩ w)
  obtain ⟨b, hb⟩ : ∃ b, Lib.hasPrefix s.data.toList [47] = b := ⟨_, rfl⟩
  have hb2 : Lib.hasPrefix s.data.toList (ByteArray.mk #[47]).data.toList = b := hb
  rw [hb2] at HP
  have hf : Hid (pathB s = (b && decide (s.size ≤ 1024) && tokenB s)) := by refine Lib.hid ?_; unfold pathB; rw [hb]
  clear hb hb2
  cases b with
  | false =>
    go_enter Tryz.func24, Tryz.ntmps24
    go_wp2_with (first | (go_at_call 32; refine HP.out.mono ?_; rintro e w7 ⟨rfl, rfl⟩) | (go_at_call 25; refine HA.out.mono ?_; rintro e w7 ⟨rfl, rfl⟩))
    go_ret
    exact ⟨ret_bool (by rw [hf.out]; rfl), rfl⟩
  | true =>
    by_cases h1 : s.size ≤ 1024
    · have e2 : decide ((s.size : Int) ≤ 1024) = true := decide_eq_true (by omega)
      have hf : Hid (tokenB s = pathB s) := by refine Lib.hid ?_; rw [hf.out, decide_eq_true h1]; rfl
      clear h1
      go_enter Tryz.func24, Tryz.ntmps24
      go_wp2_with (first | (go_at_call 32; refine HP.out.mono ?_; rintro e w7 ⟨rfl, rfl⟩) | (go_at_call 25; refine HA.out.mono ?_; rintro e w7 ⟨rfl, rfl⟩))
      go_ret
      exact ⟨ret_bool hf.out, rfl⟩
    · have e2 : decide ((s.size : Int) ≤ 1024) = false := decide_eq_false (by omega)
      have hf : Hid (false = pathB s) := by refine Lib.hid ?_; rw [hf.out, decide_eq_false h1]; rfl
      clear h1
      go_enter Tryz.func24, Tryz.ntmps24
      go_wp2_with (first | (go_at_call 32; refine HP.out.mono ?_; rintro e w7 ⟨rfl, rfl⟩) | (go_at_call 25; refine HA.out.mono ?_; rintro e w7 ⟨rfl, rfl⟩))
      go_ret
      exact ⟨ret_bool hf.out, rfl⟩

theorem hasPrefix_47 (s : ByteArray) (h : 0 < s.size) : Lib.hasPrefix s.data.toList [47] = decide (s[0].toNat = 47) := by
  have e : s.data.toList.length = s.size := rfl
  have e2 : s.data.toList[0]? = some s[0] := List.getElem?_eq_getElem (show 0 < s.data.toList.length from h)
  cases hl : s.data.toList with
  | nil => rw [hl] at e; simp at e; omega
  | cons c r =>
    rw [hl] at e2
    obtain rfl : c = s[0] := by injection e2
    show (([47] : List UInt8).isPrefixOf (s[0] :: r)) = decide (s[0].toNat = 47)
    rw [List.isPrefixOf_cons_cons]
    show ((47 : UInt8) == s[0] && true) = _
    rw [Bool.and_true]
    by_cases hc : s[0].toNat = 47
    · rw [decide_eq_true hc, beq_iff_eq]
      exact (UInt8.toNat_inj.1 hc).symm
    · rw [decide_eq_false hc, beq_eq_false_iff_ne]
      intro e3
      rw [← e3] at hc
      exact hc rfl
theorem hasPrefix_nil (s : ByteArray) (h : s.size = 0) : Lib.hasPrefix s.data.toList [47] = false := by
  have e : s.data.toList.length = 0 := h
  cases hl : s.data.toList with
  | nil => rfl
  | cons c r => rw [hl] at e; simp at e

set_option maxHeartbeats 1000000 in
theorem rpath_any (w : World) (s : ByteArray) (hs : s.size ≤ 140737488355328) : Calls Tryz.prog 57 #[.string s] w fun e w' => e = .returned (.bool (pathB s)) ∧ w = w' := by
  have HA := Lib.hid (rplain_any w s hs)
  by_cases h0 : s.size = 0
  · have e1 : decide ((1 : Int) ≤ (s.size : Int)) = false := decide_eq_false (by omega)
    have e1' : decide (1 ≤ s.size) = false := decide_eq_false (by omega)
    have hf : Hid (false = pathB s) := by refine Lib.hid ?_; unfold pathB; rw [hasPrefix_nil s h0]; rfl
    clear h0
    go_enter Tryz.func57, Tryz.ntmps57
    go_wp2_with (go_at_call 61; refine HA.out.mono ?_; rintro e w7 ⟨rfl, rfl⟩)
    go_ret
    exact ⟨ret_bool hf.out, rfl⟩
  · have e1 : decide ((1 : Int) ≤ (s.size : Int)) = true := decide_eq_true (by omega)
    have e1' : decide (1 ≤ s.size) = true := decide_eq_true (by omega)
    have hpos : 0 < s.size := by omega
    have hF : Hid (pathB s = (decide (s[0].toNat = 47) && decide (s.size ≤ 1024) && tokenB s)) := by refine Lib.hid ?_; unfold pathB; rw [hasPrefix_47 s hpos]
    by_cases h1 : s.size ≤ 1024
    · have e2 : decide ((s.size : Int) ≤ 1024) = true := decide_eq_true (by omega)
      have e2' : decide (s.size ≤ 1024) = true := decide_eq_true h1
      by_cases h2 : s[0].toNat = 47
      · have e3 : ((s[0].toNat : Int) == 47) = true := by rw [h2]; rfl
        have e3' : (s[0].toNat == 47) = true := by rw [h2]; rfl
        have hf : Hid (tokenB s = pathB s) := by refine Lib.hid ?_; rw [hF.out, decide_eq_true h1, decide_eq_true h2]; rfl
        clear h0 h1 h2
        go_enter Tryz.func57, Tryz.ntmps57
        go_wp2_with (go_at_call 61; refine HA.out.mono ?_; rintro e w7 ⟨rfl, rfl⟩)
        go_ret
        exact ⟨ret_bool hf.out, rfl⟩
      · have e3 : ((s[0].toNat : Int) == 47) = false := beq_eq_false_iff_ne.2 (by omega)
        have e3' : (s[0].toNat == 47) = false := beq_eq_false_iff_ne.2 h2
        have hf : Hid (false = pathB s) := by refine Lib.hid ?_; rw [hF.out, decide_eq_false h2]; rfl
        clear h0 h1 h2
        go_enter Tryz.func57, Tryz.ntmps57
        go_wp2_with (go_at_call 61; refine HA.out.mono ?_; rintro e w7 ⟨rfl, rfl⟩)
        go_ret
        exact ⟨ret_bool hf.out, rfl⟩
    · have e2 : decide ((s.size : Int) ≤ 1024) = false := decide_eq_false (by omega)
      have e2' : decide (s.size ≤ 1024) = false := decide_eq_false h1
      have hf : Hid (false = pathB s) := by refine Lib.hid ?_; rw [hF.out, decide_eq_false h1, Bool.and_false]; rfl
      clear h0 h1
      go_enter Tryz.func57, Tryz.ntmps57
      go_wp2_with (go_at_call 61; refine HA.out.mono ?_; rintro e w7 ⟨rfl, rfl⟩)
      go_ret
      exact ⟨ret_bool hf.out, rfl⟩
end Go.Proofs.YtlgfhbfdjckdnaaGreatDoor
