/- New, Rest, Closed; Feed at what takes nothing (seat wire). -/
import Derived.Test.YtlgfhbfdjckdnaaGreatDoorWireRd
set_option maxRecDepth 100000
namespace Go.Proofs.YtlgfhbfdjckdnaaGreatDoor
open Go.RowKit

theorem new_any (w : World) : Calls Tryz.prog 8 #[] w fun e w' => ∃ p, e = .returned (.pointer (some ⟨p, 0, none⟩)) ∧ RdR w' (p + 1) p [] false ∧ p = w.heap.size ∧ Below w.heap.size w w' := by
  go_enter Tryz.func8, Tryz.ntmps8
  go_wp2_with fail
  go_ret
  exact ⟨_, rfl, ⟨_, (MapKept.heap_alloc w _).1, .nil⟩, rfl, (Below.refl _ _).alloc (Nat.le_refl _) _⟩
theorem rest_any (w : World) (b0 p : Nat) (l : List UInt8) (cl : Bool) (h : RdR w b0 p l cl) : Calls Tryz.prog 12 #[.pointer (some ⟨p, 0, none⟩)] w fun e w' => e = .returned (.int .i64 (l.length : Int)) ∧ w = w' := by
  obtain ⟨v, hp, hv⟩ := h
  obtain ⟨a, c, rfl⟩ := hv.shape
  obtain ⟨c0, c1⟩ := box2R hp
  clear hp hv
  go_enter Tryz.func12, Tryz.ntmps12
  go_wp2_with fail
  go_ret
  exact ⟨rfl, rfl⟩
theorem rest_nil (w : World) : Calls Tryz.prog 12 #[.pointer none] w fun e w' => e = .returned (.int .i64 0) ∧ w = w' := by
  go_enter Tryz.func12, Tryz.ntmps12
  go_wp2_with fail
  go_ret
  exact ⟨rfl, rfl⟩
theorem closed_any (w : World) (b0 p : Nat) (l : List UInt8) (cl : Bool) (h : RdR w b0 p l cl) : Calls Tryz.prog 13 #[.pointer (some ⟨p, 0, none⟩)] w fun e w' => e = .returned (.bool cl) ∧ w = w' := by
  obtain ⟨v, hp, hv⟩ := h
  obtain ⟨c0, c1⟩ := box2R hp
  clear hp hv
  go_enter Tryz.func13, Tryz.ntmps13
  go_wp2_with fail
  go_ret
  exact ⟨rfl, rfl⟩
theorem closed_nil (w : World) : Calls Tryz.prog 13 #[.pointer none] w fun e w' => e = .returned (.bool true) ∧ w = w' := by
  go_enter Tryz.func13, Tryz.ntmps13
  go_wp2_with fail
  go_ret
  exact ⟨rfl, rfl⟩
theorem feed_shut (w : World) (b0 p : Nat) (l : List UInt8) (h : RdR w b0 p l true) (a : Option Addr) (n c : Nat) : Calls Tryz.prog 9 #[.pointer (some ⟨p, 0, none⟩), .slice a n c] w fun e w' => e = .returned (.slice none 0 0) ∧ w = w' := by
  obtain ⟨v, hp, hv⟩ := h
  obtain ⟨c0, c1⟩ := box2R hp
  clear hp hv
  go_enter Tryz.func9, Tryz.ntmps9
  go_wp2_with fail
  go_ret
  exact ⟨rfl, rfl⟩
theorem feed_none (w : World) (a : Option Addr) (n c : Nat) : Calls Tryz.prog 9 #[.pointer none, .slice a n c] w fun e w' => e = .returned (.slice none 0 0) ∧ w = w' := by
  go_enter Tryz.func9, Tryz.ntmps9
  go_wp2_with fail
  go_ret
  exact ⟨rfl, rfl⟩
end Go.Proofs.YtlgfhbfdjckdnaaGreatDoor
