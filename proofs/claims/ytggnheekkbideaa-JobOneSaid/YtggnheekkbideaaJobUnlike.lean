/- The law's unlike: are all tokens' numbers unlike? -/
import Derived.Test.YtggnheekkbideaaJobOneP
set_option maxRecDepth 100000
namespace Go.Proofs.Ytggnheekkbideaa
open Go.RowKit

theorem zero_bool (w : World) : (zeroValue 4).run Try.prog w = .ok (.bool false) w := by kernel_rfl
theorem zero_int (w : World) : (zeroValue 3).run Try.prog w = .ok (.int .i64 0) w := by kernel_rfl
theorem zero_str (w : World) : (zeroValue 9).run Try.prog w = .ok (.string default) w := by kernel_rfl
theorem idsN_len (l : List Ins) : ∀ i, (idsN l i).length ≤ sumL l i
  | 0 => Nat.le_refl _
  | i + 1 => by
    have := idsN_len l i
    show (idsN l i ++ (atL l i).toks.map (·.id)).length ≤ sumL l i + (atL l i).toks.length + (atL l i).vars.length
    rw [List.length_append, List.length_map]
    omega
def idsK (x : Ins) (k : Nat) : List Int := (x.toks.take k).map (·.id)
theorem idsK_succ {x : Ins} {k : Nat} {y : Tok} (hk : k < x.toks.length) (hy : x.toks[k] = y) : idsK x (k + 1) = idsK x k ++ [y.id] := by
  unfold idsK
  rw [List.take_succ_eq_append_getElem hk, List.map_append, hy]; rfl
theorem idsN_all {l : List Ins} {i : Nat} {x : Ins} (hx : atL l i = x) : idsN l (i + 1) = idsN l i ++ idsK x x.toks.length := by
  show idsN l i ++ (atL l i).toks.map (·.id) = _
  unfold idsK
  rw [hx, List.take_length]
theorem idsN_pre (l : List Ins) : ∀ {i j : Nat}, i ≤ j → idsN l i <+: idsN l j := by
  intro i j h
  induction j with
  | zero => obtain rfl : i = 0 := by omega
            exact List.prefix_refl _
  | succ j ih =>
    by_cases e : i = j + 1
    · subst e; exact List.prefix_refl _
    · exact (ih (by omega)).trans (List.prefix_append _ _)

set_option maxHeartbeats 4000000 in
theorem unlike_any (w : World) (v : Value) (l : List Ins) (hI : InsR w w.heap.size v l) (gl : ∀ x ∈ l, InsI x) (hs : sumL l l.length ≤ 300) :
    Calls Try.prog 9 #[v] w fun e w' => ∃ b, e = .returned (.bool b) ∧ Hid (b = true → (idsN l l.length).Nodup) ∧ Below w.heap.size w w' := by
  obtain ⟨a, c, rfl⟩ := hI.val
  have HI := Lib.hid hI
  have HG := Lib.hid gl
  have hll := hI.len
  have hsum : ∀ i, i ≤ l.length → sumL l i ≤ 300 := fun i hi => Nat.le_trans (sumL_mono l hi) hs
  have HSum := Lib.hid hsum
  have hmm := @run_makeMap Try.prog
  have hm0 := SeenM.made w
  have hb0 := (Below.refl w.heap.size w).alloc (Nat.le_refl _) (.map #[] 0)
  obtain ⟨bm, hbm⟩ : ∃ bm, w.heap.size = bm := ⟨_, rfl⟩
  rw [hbm] at hm0
  have HM0 := Lib.hid hm0
  have HB0 := Lib.hid hb0
  clear hI gl hsum hm0 hb0
  go_enter Try.func9, Try.ntmps9
  go_wp2_with fail
  clear hmm
  go_loopg [4] l.length (fun gh s4 wx => ∃ i : Nat, i + gh = l.length ∧ s4 = .int .i64 (i : Int) ∧ SeenM wx bm (idsN l i) ∧ Hid ((idsN l i).Nodup) ∧ Below w.heap.size w wx)
  case atStart => exact ⟨0, by omega, rfl, HM0.out, Lib.hid List.nodup_nil, HB0.out⟩
  case round =>
    obtain ⟨i, hig, rfl, hM, hN, hB⟩ := hrel
    have HB := Lib.hid hB
    have HM := Lib.hid hM
    by_cases hi : i < l.length
    · have hIr := HI.out.mono hB (Nat.le_refl _)
      obtain ⟨b, o, rfl, hb⟩ := hIr.addr (by omega)
      obtain ⟨x, hx⟩ : ∃ x, l[i] = x := ⟨_, rfl⟩
      have hxa : Hid (atL l i = x) := Lib.hid (by rw [atL_eq hi]; exact hx)
      have hxg : Hid (InsI x) := Lib.hid (HG.out x (by rw [← hx]; exact List.getElem_mem _))
      obtain ⟨av, cv, at_, ct0, q0, q1, q2, q3, q4, -, qT⟩ := hIr.at hi hx
      have hTl := qT.len
      have d1 : decide (i < l.length) = true := decide_eq_true hi
      have hsm := HSum.out (i + 1) (by omega)
      have hsm2 : (idsN l (i + 1)).length ≤ 300 := Nat.le_trans (idsN_len l (i + 1)) hsm
      rw [idsN_all hxa.out] at hsm2
      have HSM := Lib.hid hsm2
      clear hx qT q0 q1 q2 q3 q4 hB hIr hM hsm hsm2
      obtain ⟨w1, rfl⟩ : ∃ w1, w1 = wr := ⟨_, rfl⟩
      go_wp2_with fail
      clear d1
      go_loopg [5] x.toks.length (fun gh s5 wx => ∃ k : Nat, k + gh = x.toks.length ∧ s5 = .int .i64 (k : Int) ∧ SeenM wx bm (idsN l i ++ idsK x k) ∧ Hid ((idsN l i ++ idsK x k).Nodup) ∧ Below w.heap.size w wx)
      case atStart => exact ⟨0, by omega, rfl, by rw [show idsK x 0 = [] from rfl, List.append_nil]; exact HM.out, Lib.hid (by rw [show idsK x 0 = [] from rfl, List.append_nil]; exact hN.out), HB.out⟩
      case round =>
        obtain ⟨k, hkg, rfl, hM, hN1, hB1⟩ := hrel
        have hIr := HI.out.mono hB1 (Nat.le_refl _)
        obtain ⟨av', cv', at', ct, -, -, -, -, q4, -, qT⟩ := hIr.at hi (x := x) (by rw [← hxa.out, atL_eq hi])
        have HB1 := Lib.hid hB1
        have HM1 := Lib.hid hM
        have i1 : (0 : Int) ≤ (i : Int) := by omega
        have i2 : (i : Int) < (l.length : Int) := by omega
        by_cases hk : k < x.toks.length
        · obtain ⟨bt, ot, rfl, hbt⟩ := qT.addr (by omega)
          obtain ⟨y, hy⟩ : ∃ y, x.toks[k] = y := ⟨_, rfl⟩
          obtain ⟨t0, -⟩ := tsR_at qT hk hy
          have hid : (Lit.int .i64 y.id).wf = true := by
            obtain ⟨_, _, _, g⟩ := hxg.out
            exact (g y (by rw [← hy]; exact List.getElem_mem _)).1
          have dk : decide (k < x.toks.length) = true := decide_eq_true hk
          have hp := Lib.hid (idsK_succ hk hy)
          have k1 : (0 : Int) ≤ (k : Int) := by omega
          have k2 : (k : Int) < (x.toks.length : Int) := by omega
          have hlook := hM.look y.id hid (zero_bool wr)
          obtain ⟨bs, hbs⟩ : ∃ bs, (idsN l i ++ idsK x k).contains y.id = bs := ⟨_, rfl⟩
          rw [hbs] at hlook
          have hlen : (idsN l i ++ idsK x k).length < maxLen := by
            have h1 := HSM.out
            have h2 : (idsK x k).length ≤ (idsK x x.toks.length).length := by unfold idsK; simp; omega
            rw [List.length_append] at h1 ⊢
            unfold maxLen; omega
          have HLen := Lib.hid hlen
          have HY := Lib.hid hy
          have HID := Lib.hid hid
          have HBS := Lib.hid hbs
          clear qT hy hIr hM hB1 hid hbs hlen
          cases bs with
          | true =>
            go_wp2_with fail
            go_ret
            exact ⟨false, rfl, Lib.hid (fun h => by cases h), HB1.out⟩
          | false =>
            obtain ⟨w2, hput, hM2, hg2⟩ := HM1.out.put y.id HID.out HLen.out
            have HM2 : Hid (SeenM w2 bm (idsN l i ++ idsK x (k + 1))) := Lib.hid (by rw [hp.out, ← List.append_assoc]; exact hM2)
            have HN2 : Hid ((idsN l i ++ idsK x (k + 1)).Nodup) := Lib.hid (by
              rw [hp.out, ← List.append_assoc]
              refine List.nodup_append.2 ⟨hN1.out, by simp, fun a ha b hb e => ?_⟩
              rw [List.mem_singleton.1 hb] at e
              subst e
              have := HBS.out
              rw [List.contains_eq_mem] at this
              simp only [decide_eq_false_iff_not] at this
              exact this ha)
            have HB2 := Lib.hid (HB1.out.grown hg2 HB1.out.size (fun q hq => by cases hq; omega))
            clear hM2 hg2
            go_wp2_with fail
            go_roundg (x.toks.length - (k + 1))
            case measure => omega
            case rel => exact ⟨k + 1, by omega, by go_num, HM2.out, HN2, HB2.out⟩
        · have dk : decide (k < x.toks.length) = false := decide_eq_false hk
          have HM2 : Hid (SeenM wr bm (idsN l (i + 1))) := Lib.hid (by rw [idsN_all hxa.out, ← show k = x.toks.length by omega]; exact hM)
          have HN2 : Hid ((idsN l (i + 1)).Nodup) := Lib.hid (by rw [idsN_all hxa.out, ← show k = x.toks.length by omega]; exact hN1.out)
          clear qT hIr hM hB1
          go_wp2_with fail
          go_roundg (l.length - (i + 1))
          case measure => omega
          case rel => exact ⟨i + 1, by omega, by go_num, HM2.out, HN2, HB1.out⟩
    · have e : i = l.length := by omega
      subst e
      have d1 : decide (l.length < l.length) = false := decide_eq_false (by omega)
      clear hM hB
      go_wp2_with fail
      go_ret
      exact ⟨true, rfl, Lib.hid (fun _ => hN.out), HB.out⟩

end Go.Proofs.Ytggnheekkbideaa
