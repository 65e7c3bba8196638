/- (*reckoner).eval at every node: the ways joined. -/
import Derived.Test.YtbephgifbghilaaGreatDoorEvalReck5
import Derived.Test.YtbephgifbghilaaGreatDoorEvalLawQ
set_option maxRecDepth 100000
namespace Go.Proofs.YtbephgifbghilaaGreatDoor
open Go.RowKit

section
variable {w0 : World} {B0 B1 : Nat} {S : List (Option Nat)} {J : List ByteArray → World → Prop} {rp mb fid : Nat} {caps : Array Value} {vv : Value} {l : List Bd}

theorem reck_one (R : Reck w0 B0 B1 S J rp mb fid caps vv l) {op : Int} (hop : op = 3 ∨ op = 4) (u : Vl) (nm : ByteArray) (b o n c : Nat) (k : Nd) (vk : Value) (hk : KidC w0 b o k vk) (hbl : b < B0) (hn : 0 < n) (xs nt : List ByteArray) (x y : Vl × Int) (K0 : KidE S J B1 rp k vk xs (xs ++ nt) x.1 x.2) (hw : VlW x.1) (W : World) (h1 : B1 ≤ W.heap.size) (hJ : J xs W) :
    Calls Tryz.prog 87 #[.pointer (some ⟨rp, 0, none⟩), valO op u nm (.slice (some ⟨b, o, none⟩) n c)] W fun e w' => e = .returned (.tuple #[valV (combE op x y).1, .int .i64 (combE op x y).2]) ∧ J (xs ++ nt) w' ∧ Frm S W w' := by
  obtain ⟨xv, xe⟩ := x
  by_cases hx : xe = 0
  · subst hx
    rcases hop with rfl | rfl
    · by_cases hk2 : xv.kind = 2
      · rw [show combE 3 (xv, 0) y = (trV (!xv.tr), 0) by unfold combE; simp [hk2]]
        exact ev_not R u nm b o n c k vk hk hbl hn xs _ xv K0 hk2 W h1 hJ
      · rw [show combE 3 (xv, 0) y = (Vl.zero, 90) by unfold combE; simp [hk2]]
        exact ev_kind3 R u nm b o n c k vk hk hbl hn xs _ xv K0 hk2 W h1 hJ
    · rw [show combE 4 (xv, 0) y = negE xv by unfold combE; simp]
      exact ev_neg R u nm b o n c k vk hk hbl hn xs _ xv K0 hw _ _ rfl W h1 hJ
  · rw [show combE op (xv, xe) y = (Vl.zero, xe) by unfold combE; simp [hx]]
    exact ev_bad R op u nm b o n c k vk hk hbl hn (by rw [beq_eq_false_iff_ne]; omega) (by rw [beq_eq_false_iff_ne]; omega) xs _ xv xe K0 hx W h1 hJ

theorem reck_two (R : Reck w0 B0 B1 S J rp mb fid caps vv l) {op : Int} (h5 : 5 ≤ op) (h17 : op ≤ 17) (u : Vl) (nm : ByteArray) (b o n c : Nat) (k k' : Nd) (vk vk' : Value) (hk : KidC w0 b o k vk) (hk' : KidC w0 b (o + 7) k' vk') (hbl : b < B0) (hn : 1 < n) (xs nt nt2 : List ByteArray) (x y : Vl × Int) (K0 : KidE S J B1 rp k vk xs (xs ++ nt) x.1 x.2) (K1 : KidE S J B1 rp k' vk' (xs ++ nt) (xs ++ nt ++ nt2) y.1 y.2) (hw : VlW x.1) (hw' : VlW y.1) (hx1 : Norm x) (hy1 : Norm y) (W : World) (h1 : B1 ≤ W.heap.size) (hJ : J xs W) :
    Calls Tryz.prog 87 #[.pointer (some ⟨rp, 0, none⟩), valO op u nm (.slice (some ⟨b, o, none⟩) n c)] W fun e w' => e = .returned (.tuple #[valV (combE op x y).1, .int .i64 (combE op x y).2]) ∧ J (xs ++ (nt ++ if goesOn op x then nt2 else [])) w' ∧ Frm S W w' := by
  obtain ⟨xv, xe⟩ := x
  obtain ⟨yv, ye⟩ := y
  have e1 : (op == 1) = false := by rw [beq_eq_false_iff_ne]; omega
  have e2 : (op == 2) = false := by rw [beq_eq_false_iff_ne]; omega
  have e3 : (op == 3) = false := by rw [beq_eq_false_iff_ne]; omega
  have e4 : (op == 4) = false := by rw [beq_eq_false_iff_ne]; omega
  by_cases hx : xe = 0
  · subst hx
    by_cases h6 : op ≤ 6
    · have hop : op = 5 ∨ op = 6 := by omega
      by_cases hk2 : xv.kind = 2
      · by_cases ht : xv.tr = decide (op = 6)
        · rw [show combE op (xv, 0) (yv, ye) = (xv, 0) by rcases hop with rfl | rfl <;> (unfold combE; simp_all)]
          rw [show goesOn op (xv, 0) = false by rcases hop with rfl | rfl <;> (unfold goesOn; simp_all), if_neg (by simp), List.append_nil]
          rcases hop with rfl | rfl
          · exact ev_lazy5 R u nm b o n c k vk hk hbl (by omega) xs _ xv K0 hk2 ht W h1 hJ
          · exact ev_lazy6 R u nm b o n c k vk hk hbl (by omega) xs _ xv K0 hk2 ht W h1 hJ
        · rw [show goesOn op (xv, 0) = true by rcases hop with rfl | rfl <;> (unfold goesOn; simp_all), if_pos rfl, ← List.append_assoc]
          by_cases hy : ye = 0
          · by_cases hy2 : yv.kind = 2
            · rw [show combE op (xv, 0) (yv, ye) = (yv, 0) by rcases hop with rfl | rfl <;> (unfold combE; simp_all)]
              rcases hop with rfl | rfl
              · exact ev_last5 R u nm b o n c k k' vk vk' hk hk' hbl hn xs _ _ xv yv ye K0 K1 hk2 (by simpa using ht) hy (fun V h => look_no h (by omega)) hy2 W h1 hJ
              · exact ev_last6 R u nm b o n c k k' vk vk' hk hk' hbl hn xs _ _ xv yv ye K0 K1 hk2 (by simpa using ht) hy (fun V h => look_no h (by omega)) hy2 W h1 hJ
            · rw [show combE op (xv, 0) (yv, ye) = (Vl.zero, 90) by rcases hop with rfl | rfl <;> (unfold combE; simp_all)]
              rcases hop with rfl | rfl
              · exact ev_loose5 R u nm b o n c k k' vk vk' hk hk' hbl hn xs _ _ xv yv ye K0 K1 hk2 (by simpa using ht) hy (fun V h => look_no h (by omega)) hy2 W h1 hJ
              · exact ev_loose6 R u nm b o n c k k' vk vk' hk hk' hbl hn xs _ _ xv yv ye K0 K1 hk2 (by simpa using ht) hy (fun V h => look_no h (by omega)) hy2 W h1 hJ
          · rw [show combE op (xv, 0) (yv, ye) = (Vl.zero, ye) by rcases hop with rfl | rfl <;> (unfold combE; simp_all)]
            rcases hop with rfl | rfl
            · exact ev_bad2_5 R u nm b o n c k k' vk vk' hk hk' hbl hn xs _ _ xv yv ye K0 K1 hk2 (by simpa using ht) hy W h1 hJ
            · exact ev_bad2_6 R u nm b o n c k k' vk vk' hk hk' hbl hn xs _ _ xv yv ye K0 K1 hk2 (by simpa using ht) hy W h1 hJ
      · rw [show combE op (xv, 0) (yv, ye) = (Vl.zero, 90) by rcases hop with rfl | rfl <;> (unfold combE; simp_all)]
        rw [show goesOn op (xv, 0) = false by rcases hop with rfl | rfl <;> (unfold goesOn; simp_all), if_neg (by simp), List.append_nil]
        rcases hop with rfl | rfl
        · exact ev_kind5 R u nm b o n c k vk hk hbl (by omega) xs _ xv K0 hk2 W h1 hJ
        · exact ev_kind6 R u nm b o n c k vk hk hbl (by omega) xs _ xv K0 hk2 W h1 hJ
    · have e5 : (op == 5) = false := by rw [beq_eq_false_iff_ne]; omega
      have e6 : (op == 6) = false := by rw [beq_eq_false_iff_ne]; omega
      rw [show goesOn op (xv, 0) = true by unfold goesOn; rw [e5, e6]; simp [h5], if_pos rfl, ← List.append_assoc, comb_bin (by omega) h17]
      by_cases hy : ye = 0
      · rw [if_pos rfl, if_pos hy]
        obtain ⟨fb, hrun, hlk, hcall⟩ := two_fun op (by omega) h17 xv yv hw hw' (by have := checkB_size (hx1 rfl); have := checkB_size (hy1 hy); simp only at *; omega)
        exact ev_both R op e1 e2 e4 e3 e5 e6 u nm b o n c k k' vk vk' hk hk' hbl hn xs _ _ xv yv ye K0 K1 hy fb hrun (fun V h => hlk V mb h) _ _ hcall W h1 hJ
      · rw [if_pos rfl, if_neg hy]
        exact ev_bad2 R op e1 e2 e4 e3 e5 e6 u nm b o n c k k' vk vk' hk hk' hbl hn xs _ _ xv yv ye K0 K1 hy W h1 hJ
  · rw [show combE op (xv, xe) (yv, ye) = (Vl.zero, xe) by unfold combE; simp [hx]]
    rw [show goesOn op (xv, xe) = false by unfold goesOn; simp [hx], if_neg (by simp), List.append_nil]
    exact ev_bad R op u nm b o n c k vk hk hbl (by omega) e1 e2 xs _ xv xe K0 hx W h1 hJ
end
end Go.Proofs.YtbephgifbghilaaGreatDoor
