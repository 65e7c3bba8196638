/- (*reckoner).eval at every node. -/
import Derived.Test.YtbephgifbghilaaGreatDoorEvalReck6
set_option maxRecDepth 100000
namespace Go.Proofs.YtbephgifbghilaaGreatDoor
open Go.RowKit

section
variable {w0 : World} {B0 B1 : Nat} {S : List (Option Nat)} {J : List ByteArray → World → Prop} {rp mb fid : Nat} {caps : Array Value} {vv : Value} {l : List Bd}

theorem reck_var (R : Reck w0 B0 B1 S J rp mb fid caps vv l) (u : Vl) (nm : ByteArray) (vk : Value) (xs : List ByteArray) (W : World) (hJ : J xs W) (h1 : B1 ≤ W.heap.size) :
    Calls Tryz.prog 87 #[.pointer (some ⟨rp, 0, none⟩), valO 2 u nm vk] W fun e w' => e = .returned (.tuple #[valV (varE l nm).1, .int .i64 (varE l nm).2]) ∧ J (xs ++ (if (varE l nm).2 = 0 then [nm] else [])) w' ∧ Frm S W w' := by
  cases hf : findB l nm with
  | none =>
    rw [show varE l nm = (Vl.zero, 100) by unfold varE; rw [hf], if_neg (by show ¬ ((100 : Int) = 0); omega), List.append_nil]
    exact ev_var0 R u nm vk xs W h1 hJ hf
  | some v =>
    cases hc : checkB v with
    | false =>
      rw [show varE l nm = (Vl.zero, 1) by unfold varE; rw [hf]; simp [hc], if_neg (by show ¬ ((1 : Int) = 0); omega), List.append_nil]
      exact ev_var1 R u nm vk xs W h1 hJ v hf hc
    | true =>
      rw [show varE l nm = (v, 0) by unfold varE; rw [hf]; simp [hc], if_pos rfl]
      exact ev_var2 R u nm vk xs W h1 hJ v hf hc

mutual
theorem reck_N (R : Reck w0 B0 B1 S J rp mb fid caps vv l) (hl : ∀ b ∈ l, VlW b.val) : ∀ n : Nd, checkN n = true → deepW n → ∀ vk, KidsR w0 B0 vk n.kids → ∀ xs, KidE S J B1 rp n vk xs (xs ++ noteN l n) (evalN l n).1 (evalN l n).2
  | .mk op v nm ks, hc, hd, vk, hk, xs => by
    have hc' : (headB op v nm ks.length && checkL ks) = true := hc
    rw [Bool.and_eq_true] at hc'
    obtain ⟨hc1, hc2⟩ := hc'
    obtain ⟨k1, k2⟩ := head_facts hc1
    obtain ⟨hd1, hd2⟩ := hd
    have hk' : KidsR w0 B0 vk ks := hk
    intro V hJ h1
    show Calls Tryz.prog 87 #[.pointer (some ⟨rp, 0, none⟩), valO op v nm vk] V fun e w' => e = .returned (.tuple #[valV (if op = 1 then (v, 0) else if op = 2 then varE l nm else combE op (evalH l ks) (evalT l ks)).1, .int .i64 (if op = 1 then (v, 0) else if op = 2 then varE l nm else combE op (evalH l ks) (evalT l ks)).2]) ∧ J (xs ++ if op = 1 then [] else if op = 2 then (if (varE l nm).2 = 0 then [nm] else []) else noteH l ks ++ (if goesOn op (evalH l ks) then noteT l ks else [])) w' ∧ Frm S V w'
    by_cases o1 : op = 1
    · subst o1
      rw [if_pos rfl, if_pos rfl, List.append_nil]
      exact ev_lit R v nm vk xs V h1 hJ
    · rw [if_neg o1, if_neg o1]
      by_cases o2 : op = 2
      · subst o2
        rw [if_pos rfl, if_pos rfl]
        exact reck_var R v nm vk xs V hJ h1
      · rw [if_neg o2, if_neg o2]
        have h3 : 3 ≤ op ∧ op ≤ 17 := by
          unfold kidsN at k1
          split at k1 <;> omega
        obtain ⟨g0, g1⟩ := reck_L R hl ks hc2 hd2
        obtain ⟨f1, f2⟩ := norm_L l ks hc2
        obtain ⟨u1, u2⟩ := vlw_L hl ks hd2
        obtain ⟨a, cap, rfl, hat⟩ := kid_at hk'
        by_cases h5 : 5 ≤ op
        · have hlen : ks.length = 2 := by
            unfold kidsN at k1; rw [if_neg (by omega), if_neg (by omega), if_neg (by omega)] at k1; omega
          obtain ⟨b, o, vk0, ha, hb, -, hk0, c0⟩ := hat 0 (by omega)
          obtain ⟨b', o', vk1, ha', -, -, hk1, c1⟩ := hat 1 (by omega)
          rw [ha] at ha'
          injection ha' with ha'
          injection ha' with q1 q2
          subst q1 q2 ha
          rw [Nat.zero_mul, Nat.add_zero] at c0
          rw [Nat.one_mul] at c1
          exact reck_two R h5 h3.2 v nm b o ks.length cap ks[0] ks[1] vk0 vk1 c0 c1 hb (by omega) xs (noteH l ks) (noteT l ks) (evalH l ks) (evalT l ks) (g0 (by omega) vk0 hk0 xs) (g1 (by omega) vk1 hk1 _) u1 u2 (f1 (by omega)) (f2 (by omega)) V h1 hJ
        · have hlen : ks.length = 1 := by
            unfold kidsN at k1; rw [if_neg (by omega), if_neg (by omega), if_pos (by omega)] at k1; omega
          obtain ⟨b, o, vk0, ha, hb, -, hk0, c0⟩ := hat 0 (by omega)
          subst ha
          rw [Nat.zero_mul, Nat.add_zero] at c0
          rw [show goesOn op (evalH l ks) = false by unfold goesOn; simp [h5], if_neg (by simp), List.append_nil]
          exact reck_one R (by omega) v nm b o ks.length cap ks[0] vk0 c0 hb (by omega) xs (noteH l ks) (evalH l ks) (evalT l ks) (g0 (by omega) vk0 hk0 xs) u1 V h1 hJ
theorem reck_L (R : Reck w0 B0 B1 S J rp mb fid caps vv l) (hl : ∀ b ∈ l, VlW b.val) : ∀ ks : List Nd, checkL ks = true → deepWL ks → (∀ (h : 0 < ks.length) vk, KidsR w0 B0 vk ks[0].kids → ∀ xs, KidE S J B1 rp ks[0] vk xs (xs ++ noteH l ks) (evalH l ks).1 (evalH l ks).2) ∧ (∀ (h : 1 < ks.length) vk, KidsR w0 B0 vk ks[1].kids → ∀ xs, KidE S J B1 rp ks[1] vk xs (xs ++ noteT l ks) (evalT l ks).1 (evalT l ks).2)
  | [], _, _ => ⟨fun h => absurd h (by simp), fun h => absurd h (by simp)⟩
  | a :: r, hc, hd => by
    have hc' : (checkN a && checkL r) = true := hc
    rw [Bool.and_eq_true] at hc'
    obtain ⟨hd1, hd2⟩ := hd
    exact ⟨fun _ vk hk xs => reck_N R hl a hc'.1 hd1 vk hk xs, fun h vk hk xs => (reck_L R hl r hc'.2 hd2).1 (by simp at h; omega) vk hk xs⟩
end
end
end Go.Proofs.YtbephgifbghilaaGreatDoor
