/- A method looked up through an interface value that holds a pointer. (Laws on the model; no program here.) -/
import Derived.Test.YtofpmhkjagdmmaaBase
import Derived.ChangeKeysEq
set_option maxRecDepth 100000
namespace Go.Proofs.Ytofpmhkjagdmmaa
open Go.RowKit

section
variable {P : Program} {w : World}
theorem run_asAddr' (a : Addr) : (asAddr (.pointer (some a))).run P w = .ok a w := by simp [asAddr]
theorem run_wrapNil (ts : Array TypeId) (t : TypeId) (a : Addr) (s1 s2 : String) : (Builtin.ssaWrapNilChk_ ts t #[.pointer (some a), strVal s1, strVal s2]).run P w = .ok (.pointer (some a)) w := rfl
/-- The method has a pointer for its receiver. -/
theorem run_method_ptr (fuel t : Nat) (name : String) (f elem : Nat) (hm : (P.info? t).bind (fun i => (i.methods.find? (·.name == name)).map fun m => (m.path, m.func)) = some (#[], some (f, true))) (hu : P.underlying t = some (.pointer elem)) (a : Addr) :
    (method (fuel + 1) t (.pointer (some a)) name).run P w = .ok (f, .pointer (some a)) w := by
  cases hi : P.info? t with
  | none => rw [hi] at hm; cases hm
  | some i =>
    rw [hi] at hm
    simp only [Option.bind_some] at hm
    cases hq : i.methods.find? (·.name == name) with
    | none => rw [hq] at hm; cases hm
    | some m =>
      rw [hq] at hm
      simp only [Option.map_some, Option.some.injEq, Prod.mk.injEq] at hm
      obtain ⟨h1, h2⟩ := hm
      unfold method
      simp [Sem.run_bind, run_typeInfo _ hi, hq, h1, h2, follow, receiverAt, run_underlying hu, Place.get, Result.andThen]
/-- The method has the value itself for its receiver: it is loaded. -/
theorem run_method_val (fuel t : Nat) (name : String) (f elem : Nat) (hm : (P.info? t).bind (fun i => (i.methods.find? (·.name == name)).map fun m => (m.path, m.func)) = some (#[], some (f, false))) (hu : P.underlying t = some (.pointer elem))
    (hagg : (isAgg elem).run P w = .ok false w) (a : Addr) (v : Value) (hc : w.cell? a = some v) :
    (method (fuel + 1) t (.pointer (some a)) name).run P w = .ok (f, v) w := by
  cases hi : P.info? t with
  | none => rw [hi] at hm; cases hm
  | some i =>
    rw [hi] at hm
    simp only [Option.bind_some] at hm
    cases hq : i.methods.find? (·.name == name) with
    | none => rw [hq] at hm; cases hm
    | some m =>
      rw [hq] at hm
      simp only [Option.map_some, Option.some.injEq, Prod.mk.injEq] at hm
      obtain ⟨h1, h2⟩ := hm
      unfold method
      simp [Sem.run_bind, run_typeInfo _ hi, hq, h1, h2, follow, receiverAt, run_underlying hu, Place.get, Result.andThen, run_wrapNil, loadVar, hagg, asAddr, hc]
end

end Go.Proofs.Ytofpmhkjagdmmaa
