/- wire.all with its predicates: method, token, path; the document's plain, Method, Path (seat wire). -/
import Derived.Test.YtlgfhbfdjckdnaaGreatDoorBase
import Derived.Shelf.Abstract
set_option maxRecDepth 100000
namespace Go.Proofs.YtlgfhbfdjckdnaaGreatDoor
open Go.RowKit

/-- All bytes of a text are of a kind. -/
def allB (p : Nat → Bool) (s : ByteArray) : Bool := s.data.toList.all fun c => p c.toNat
theorem allB_false {p : Nat → Bool} {s : ByteArray} {k : Nat} (hk : k < s.size) (h : p s[k].toNat = false) : allB p s = false := by
  unfold allB
  rw [List.all_eq_false]
  exact ⟨s[k], List.mem_iff_getElem.2 ⟨k, hk, rfl⟩, by rw [h]; simp⟩
theorem allB_true {p : Nat → Bool} {s : ByteArray} (h : ∀ j (hj : j < s.size), p s[j].toNat = true) : allB p s = true := by
  unfold allB
  rw [List.all_eq_true]
  intro x hx
  obtain ⟨j, hj, rfl⟩ := List.mem_iff_getElem.1 hx
  exact h j hj
theorem upto_succ {p : Nat → Bool} {s : ByteArray} {k : Nat} (hk : k < s.size) (h : ∀ j (hj : j < s.size), j < k → p s[j].toNat = true) (h1 : p s[k].toNat = true) : ∀ j (hj : j < s.size), j < k + 1 → p s[j].toNat = true := fun j hj hjk => by
  by_cases e : j = k
  · subst e; exact h1
  · exact h j hj (by omega)

def upC (x : Nat) : Bool := decide (65 ≤ x) && decide (x ≤ 90)
def visC (x : Nat) : Bool := decide (33 ≤ x) && decide (x ≤ 126)
def methodB (s : ByteArray) : Bool := decide (1 ≤ s.size) && decide (s.size ≤ 16) && allB upC s
def tokenB (s : ByteArray) : Bool := allB visC s

set_option maxHeartbeats 1000000 in
theorem wall_any (w : World) (s : ByteArray) (hs : s.size ≤ 140737488355328) (g : Nat) (p : Nat → Bool) (eg : ∀ args w, (callFunc g args).run Tryz.prog w = .ok (.enter g args) w) (hq : ∀ (W : World) (x : Nat), x < 256 → Calls Tryz.prog g (#[.int .u8 (x : Int)] ++ #[]) W fun e w' => e = .returned (.bool (p x)) ∧ W = w') :
    Calls Tryz.prog 38 #[.string s, .func (.func g) #[] #[]] w fun e w' => e = .returned (.bool (allB p s)) ∧ w = w' := by
  have HQ := Lib.hid hq
  clear hq
  go_enter Tryz.func38, Tryz.ntmps38
  go_wp2_with fail
  go_loop [8] (fun i => ∃ k : Nat, k ≤ s.size ∧ i = .int .i64 k ∧ Hid (∀ j (h : j < s.size), j < k → p s[j].toNat = true)) (fun i => s.size - (intOf i).toNat)
  case atStart => exact ⟨0, Nat.zero_le _, rfl, Lib.hid (fun j h hj => by omega)⟩
  case round =>
    obtain ⟨k, hk, rfl, hall⟩ := hrel
    by_cases hlt : k < s.size
    · have hx : s[k].toNat < 256 := s[k].toNat_lt
      have HC := Lib.hid (HQ.out w s[k].toNat hx)
      cases hp : p s[k].toNat with
      | false =>
        have hf : Hid (allB p s = false) := allB_false hlt hp
        rw [hp] at HC
        clear hp
        go_wp2_with (go_at_fn g; refine HC.out.mono ?_; rintro e w7 ⟨rfl, rfl⟩)
        go_ret
        exact ⟨ret_bool hf.out.symm, rfl⟩
      | true =>
        have hn : Hid (∀ j (h : j < s.size), j < k + 1 → p s[j].toNat = true) := upto_succ hlt hall.out hp
        rw [hp] at HC
        clear hp
        go_wp2_with (go_at_fn g; refine HC.out.mono ?_; rintro e w7 ⟨rfl, rfl⟩)
        go_round
        case rel => exact ⟨k + 1, by omega, by go_num, hn⟩
        case measure => simp [intOf]; omega
    · have hf : Hid (allB p s = true) := allB_true fun j hj => hall.out j hj (by omega)
      go_wp2_with fail
      go_ret
      exact ⟨ret_bool hf.out.symm, rfl⟩

theorem m1_any (W : World) (x : Nat) (hx : x < 256) : Calls Tryz.prog 39 (#[.int .u8 (x : Int)] ++ #[]) W fun e w' => e = .returned (.bool (upC x)) ∧ W = w' := by
  by_cases h1 : 65 ≤ x
  · have e1 : decide ((65 : Int) ≤ (x : Int)) = true := decide_eq_true (by omega)
    have e2 : decide ((x : Int) ≤ 90) = decide (x ≤ 90) := decide_eq_decide.2 (by omega)
    have hf : Hid (decide ((x : Int) ≤ 90) = upC x) := by refine Lib.hid ?_; unfold upC; rw [decide_eq_true h1, e2]; rfl
    clear e2 h1
    go_enter Tryz.func39, Tryz.ntmps39
    go_wp2_with fail
    go_ret
    exact ⟨ret_bool hf.out, rfl⟩
  · have e1 : decide ((65 : Int) ≤ (x : Int)) = false := decide_eq_false (by omega)
    have hf : Hid (false = upC x) := by refine Lib.hid ?_; unfold upC; rw [decide_eq_false h1]; rfl
    clear h1
    go_enter Tryz.func39, Tryz.ntmps39
    go_wp2_with fail
    go_ret
    exact ⟨ret_bool hf.out, rfl⟩
theorem t1_any (W : World) (x : Nat) (hx : x < 256) : Calls Tryz.prog 40 (#[.int .u8 (x : Int)] ++ #[]) W fun e w' => e = .returned (.bool (visC x)) ∧ W = w' := by
  by_cases h1 : 33 ≤ x
  · have e1 : decide ((32 : Int) < (x : Int)) = true := decide_eq_true (by omega)
    have e2 : decide ((x : Int) < 127) = decide (x ≤ 126) := decide_eq_decide.2 (by omega)
    have hf : Hid (decide ((x : Int) < 127) = visC x) := by refine Lib.hid ?_; unfold visC; rw [decide_eq_true h1, e2]; rfl
    clear e2 h1
    go_enter Tryz.func40, Tryz.ntmps40
    go_wp2_with fail
    go_ret
    exact ⟨ret_bool hf.out, rfl⟩
  · have e1 : decide ((32 : Int) < (x : Int)) = false := decide_eq_false (by omega)
    have hf : Hid (false = visC x) := by refine Lib.hid ?_; unfold visC; rw [decide_eq_false h1]; rfl
    clear h1
    go_enter Tryz.func40, Tryz.ntmps40
    go_wp2_with fail
    go_ret
    exact ⟨ret_bool hf.out, rfl⟩
theorem eg_m1 : ∀ args (w : World), (callFunc 39 args).run Tryz.prog w = .ok (.enter 39 args) w := enters_of Tryz.func39 (by kernel_rfl) rfl
theorem eg_t1 : ∀ args (w : World), (callFunc 40 args).run Tryz.prog w = .ok (.enter 40 args) w := enters_of Tryz.func40 (by kernel_rfl) rfl

theorem token_any (w : World) (s : ByteArray) (hs : s.size ≤ 140737488355328) : Calls Tryz.prog 25 #[.string s] w fun e w' => e = .returned (.bool (tokenB s)) ∧ w = w' := by
  have HA := Lib.hid (wall_any w s hs _ visC eg_t1 t1_any)
  go_enter Tryz.func25, Tryz.ntmps25
  go_wp2_with (go_at_call 38; refine HA.out.mono ?_; rintro e w7 ⟨rfl, rfl⟩)
  go_ret
  exact ⟨rfl, rfl⟩

theorem rplain_any (w : World) (s : ByteArray) (hs : s.size ≤ 140737488355328) : Calls Tryz.prog 61 #[.string s] w fun e w' => e = .returned (.bool (tokenB s)) ∧ w = w' := by
  go_enter Tryz.func61, Tryz.ntmps61
  go_wp2_with fail
  go_loop [3] (fun i => ∃ k : Nat, k ≤ s.size ∧ i = .int .i64 k ∧ Hid (∀ j (h : j < s.size), j < k → visC s[j].toNat = true)) (fun i => s.size - (intOf i).toNat)
  case atStart => exact ⟨0, Nat.zero_le _, rfl, Lib.hid (fun j h hj => by omega)⟩
  case round =>
    obtain ⟨k, hk, rfl, hall⟩ := hrel
    by_cases hlt : k < s.size
    · have hx : s[k].toNat < 256 := s[k].toNat_lt
      by_cases h1 : s[k].toNat < 33
      · have e1 : decide ((s[k].toNat : Int) < 33) = true := decide_eq_true (by omega)
        have e1' : decide (s[k].toNat < 33) = true := decide_eq_true h1
        have hf : Hid (tokenB s = false) := allB_false hlt (by unfold visC; rw [decide_eq_false (by omega)]; rfl)
        clear h1
        go_wp2_with fail
        go_ret
        exact ⟨ret_bool hf.out.symm, rfl⟩
      · have e1 : decide ((s[k].toNat : Int) < 33) = false := decide_eq_false (by omega)
        have e1' : decide (s[k].toNat < 33) = false := decide_eq_false h1
        by_cases h2 : 126 < s[k].toNat
        · have e2 : decide (126 < (s[k].toNat : Int)) = true := decide_eq_true (by omega)
          have e2' : decide (126 < s[k].toNat) = true := decide_eq_true h2
          have hf : Hid (tokenB s = false) := allB_false hlt (by unfold visC; rw [decide_eq_false (p := s[k].toNat ≤ 126) (by omega), Bool.and_false])
          clear h1 h2
          go_wp2_with fail
          go_ret
          exact ⟨ret_bool hf.out.symm, rfl⟩
        · have e2 : decide (126 < (s[k].toNat : Int)) = false := decide_eq_false (by omega)
          have e2' : decide (126 < s[k].toNat) = false := decide_eq_false h2
          have hn : Hid (∀ j (h : j < s.size), j < k + 1 → visC s[j].toNat = true) := upto_succ hlt hall.out (by unfold visC; rw [decide_eq_true (p := 33 ≤ s[k].toNat) (by omega), decide_eq_true (p := s[k].toNat ≤ 126) (by omega)]; rfl)
          clear h1 h2
          go_wp2_with fail
          go_round
          case rel => exact ⟨k + 1, by omega, by go_num, hn⟩
          case measure => simp [intOf]; omega
    · have hf : Hid (tokenB s = true) := allB_true fun j hj => hall.out j hj (by omega)
      go_wp2_with fail
      go_ret
      exact ⟨ret_bool hf.out.symm, rfl⟩

theorem rmethod_any (w : World) (s : ByteArray) (hs : s.size ≤ 140737488355328) : Calls Tryz.prog 56 #[.string s] w fun e w' => e = .returned (.bool (methodB s)) ∧ w = w' := by
  go_enter Tryz.func56, Tryz.ntmps56
  go_wp2_with fail
  go_loop [3] (fun i => ∃ k : Nat, k ≤ s.size ∧ i = .int .i64 k ∧ Hid (∀ j (h : j < s.size), j < k → upC s[j].toNat = true)) (fun i => s.size - (intOf i).toNat)
  case atStart => exact ⟨0, Nat.zero_le _, rfl, Lib.hid (fun j h hj => by omega)⟩
  case round =>
    obtain ⟨k, hk, rfl, hall⟩ := hrel
    by_cases hlt : k < s.size
    · have hx : s[k].toNat < 256 := s[k].toNat_lt
      have hbad : Hid (upC s[k].toNat = false → methodB s = false) := fun h => by unfold methodB; rw [allB_false hlt h, Bool.and_false]
      by_cases h1 : s[k].toNat < 65
      · have e1 : decide ((s[k].toNat : Int) < 65) = true := decide_eq_true (by omega)
        have e1' : decide (s[k].toNat < 65) = true := decide_eq_true h1
        have hf : Hid (methodB s = false) := hbad.out (by unfold upC; rw [decide_eq_false (by omega)]; rfl)
        clear h1 hbad
        go_wp2_with fail
        go_ret
        exact ⟨ret_bool hf.out.symm, rfl⟩
      · have e1 : decide ((s[k].toNat : Int) < 65) = false := decide_eq_false (by omega)
        have e1' : decide (s[k].toNat < 65) = false := decide_eq_false h1
        by_cases h2 : 90 < s[k].toNat
        · have e2 : decide (90 < (s[k].toNat : Int)) = true := decide_eq_true (by omega)
          have e2' : decide (90 < s[k].toNat) = true := decide_eq_true h2
          have hf : Hid (methodB s = false) := hbad.out (by unfold upC; rw [decide_eq_false (p := s[k].toNat ≤ 90) (by omega), Bool.and_false])
          clear h1 h2 hbad
          go_wp2_with fail
          go_ret
          exact ⟨ret_bool hf.out.symm, rfl⟩
        · have e2 : decide (90 < (s[k].toNat : Int)) = false := decide_eq_false (by omega)
          have e2' : decide (90 < s[k].toNat) = false := decide_eq_false h2
          have hn : Hid (∀ j (h : j < s.size), j < k + 1 → upC s[j].toNat = true) := upto_succ hlt hall.out (by unfold upC; rw [decide_eq_true (p := 65 ≤ s[k].toNat) (by omega), decide_eq_true (p := s[k].toNat ≤ 90) (by omega)]; rfl)
          clear h1 h2 hbad
          go_wp2_with fail
          go_round
          case rel => exact ⟨k + 1, by omega, by go_num, hn⟩
          case measure => simp [intOf]; omega
    · have ha : allB upC s = true := allB_true fun j hj => hall.out j hj (by omega)
      by_cases h1 : 1 ≤ s.size
      · have e1 : decide ((1 : Int) ≤ (s.size : Int)) = true := decide_eq_true (by omega)
        have e1' : decide (1 ≤ s.size) = true := decide_eq_true h1
        have hf : Hid (decide ((s.size : Int) ≤ 16) = methodB s) := by refine Lib.hid ?_; unfold methodB; rw [ha, decide_eq_true h1, Bool.and_true, Bool.true_and]; exact decide_eq_decide.2 (by omega)
        clear ha h1
        go_wp2_with fail
        go_ret
        exact ⟨ret_bool hf.out, rfl⟩
      · have e1 : decide ((1 : Int) ≤ (s.size : Int)) = false := decide_eq_false (by omega)
        have e1' : decide (1 ≤ s.size) = false := decide_eq_false h1
        have hf : Hid (false = methodB s) := by refine Lib.hid ?_; unfold methodB; rw [decide_eq_false h1]; rfl
        clear ha h1
        go_wp2_with fail
        go_ret
        exact ⟨ret_bool hf.out, rfl⟩
end Go.Proofs.YtlgfhbfdjckdnaaGreatDoor
