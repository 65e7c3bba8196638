/- The document's jobs (tollgateref24): Find. -/
import Derived.Test.YtggnheekkbideaaJobList
import Derived.Test.YtggnheekkbideaaJobFind
set_option maxRecDepth 100000
namespace Go.Proofs.Ytggnheekkbideaa
open Go.RowKit

set_option maxHeartbeats 4000000 in
theorem rfind_any (w : World) (v : Value) (l : List Ins) (t : Int) (hI : InsR w w.heap.size v l) :
    Calls Try.prog 21 #[v, .int .i64 t] w fun e w' => e = .returned (findV (findT l t)) ∧ Below w.heap.size w w' := by
  obtain ⟨a, c, rfl⟩ := hI.val
  have HI := Lib.hid hI
  have hll := hI.len
  clear hI
  go_enter Try.func21, Try.ntmps21
  go_wp2_with fail
  go_loopg [7] l.length (fun gh s7 wx => ∃ i : Nat, i + gh = l.length ∧ s7 = .int .i64 (i : Int) ∧ Hid (∀ q ∈ allN l i, isTok t q = false) ∧ Below w.heap.size w wx)
  case atStart => exact ⟨0, by omega, rfl, Lib.hid (by intro q hq; simp [allN] at hq), Below.refl _ _⟩
  case round =>
    obtain ⟨i, hig, rfl, hN, hB⟩ := hrel
    have HB := Lib.hid hB
    by_cases hi : i < l.length
    · have hIr := HI.out.mono hB (Nat.le_refl _)
      obtain ⟨b, o, rfl, hb⟩ := hIr.addr (by omega)
      obtain ⟨x, hx⟩ : ∃ x, l[i] = x := ⟨_, rfl⟩
      obtain ⟨av, cv, at_, ct, q0, q1, q2, q3, q4, -, qT⟩ := hIr.at hi hx
      have hxa : Hid (atL l i = x) := Lib.hid (by rw [atL_eq hi]; exact hx)
      have HQ := Lib.hid qT
      have hTl := qT.len
      clear hx qT q0 q1 q2 q3 q4 hB hIr
      obtain ⟨w1, rfl⟩ : ∃ w1, w1 = wr := ⟨_, rfl⟩
      have hz1 := HB.out.size
      go_wp2_with fail
      go_loopg [8] x.toks.length (fun gh s8 wx => ∃ k : Nat, k + gh = x.toks.length ∧ s8 = .int .i64 (k : Int) ∧ Hid (0 < k → x.state = 1) ∧ Hid (∀ q ∈ tokN i x k, isTok t q = false) ∧ Below w1.heap.size w1 wx)
      case atStart => exact ⟨0, by omega, rfl, Lib.hid (by omega), Lib.hid (by intro q hq; simp [tokN] at hq), Below.refl _ _⟩
      case round =>
        obtain ⟨k, hkg, rfl, hst, hT, hB1⟩ := hrel
        have hB2 := HB.out.trans (hB1.mono hz1)
        have hIr := HI.out.mono hB2 (Nat.le_refl _)
        obtain ⟨av', cv', at', ct', -, -, q2, -, q4, -, qT⟩ := hIr.at hi (x := x) (by rw [← hxa.out, atL_eq hi])
        have HB2 := Lib.hid hB2
        have HB1 := Lib.hid hB1
        clear hB1 hB2 hIr
        by_cases hk : k < x.toks.length
        · by_cases hs : x.state = 1
          · obtain ⟨bt, ot, rfl, hbt⟩ := qT.addr (by omega)
            obtain ⟨y, hy⟩ : ∃ y, x.toks[k] = y := ⟨_, rfl⟩
            obtain ⟨t0, -⟩ := tsR_at qT hk hy
            have d1 : (x.state == 1) = true := by simpa using hs
            have hp : Hid (tokN i x (k + 1) = tokN i x k ++ [⟨i, k, y⟩]) := Lib.hid (by rw [tokN_succ, atL_eq hk, hy])
            have hm : Hid (allN l i ++ tokN i x (k + 1) <+: allT l) := Lib.hid (mid_pre hi hxa.out hs (by omega))
            have hs' := Lib.hid hs
            have hk2 : (k : Int) < (x.toks.length : Int) := by omega
            clear qT hs hy
            by_cases hyt : y.id = t
            · have d2 : (y.id == t) = true := by simpa using hyt
              have HF : Hid (findT l t = some ⟨i, k, y⟩) := Lib.hid (by
                have := hm.out
                rw [hp.out, ← List.append_assoc] at this
                refine find_hit (fun q hq => ?_) d2 this
                exact (List.mem_append.1 hq).elim (hN.out q) (hT.out q))
              clear hyt
              go_wp2_with fail
              go_ret3
              exact ⟨by rw [HF.out]; rfl, HB2.out⟩
            · have d2 : (y.id == t) = false := by simpa using hyt
              have HT : Hid (∀ q ∈ tokN i x (k + 1), isTok t q = false) := Lib.hid (by
                rw [hp.out]
                intro q hq
                rcases List.mem_append.1 hq with h | h
                · exact hT.out q h
                · rw [List.mem_singleton.1 h]; exact d2)
              clear hyt
              go_wp2_with fail
              go_roundg (gk - 1)
              case measure => omega
              case rel => exact ⟨k + 1, by omega, by go_num, Lib.hid (fun _ => hs'.out), HT, HB1.out⟩
          · have d1 : (x.state == 1) = false := by simpa using hs
            have HA : Hid (∀ q ∈ allN l (i + 1), isTok t q = false) := Lib.hid (by rw [allN_not hxa.out hs]; exact hN.out)
            clear hs qT
            go_wp2_with fail
            go_roundg (l.length - (i + 1))
            case measure => omega
            case rel => exact ⟨i + 1, by omega, by go_num, HA, HB2.out⟩
        · have HA : Hid (∀ q ∈ allN l (i + 1), isTok t q = false) := Lib.hid (by
            have hke : k = x.toks.length := by omega
            by_cases hs : x.state = 1
            · rw [allN_run hxa.out hs]
              intro q hq
              exact (List.mem_append.1 hq).elim (hN.out q) (fun h => hT.out q (by rw [hke]; exact h))
            · rw [allN_not hxa.out hs]; exact hN.out)
          clear qT q2
          go_wp2_with fail
          go_roundg (l.length - (i + 1))
          case measure => omega
          case rel => exact ⟨i + 1, by omega, by go_num, HA, HB2.out⟩
    · have HF : Hid (findT l t = none) := Lib.hid (by
        have e : i = l.length := by omega
        subst e
        exact find_none hN.out)
      go_wp2_with fail
      go_ret3
      exact ⟨by rw [HF.out]; rfl, HB.out⟩

end Go.Proofs.Ytggnheekkbideaa
