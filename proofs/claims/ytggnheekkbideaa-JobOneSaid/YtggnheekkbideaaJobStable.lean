/- slices.stableCmpFunc, slices.SortStableFunc on a row of places. -/
import Derived.Test.YtggnheekkbideaaJobSym2
set_option maxRecDepth 100000
namespace Go.Proofs.Ytggnheekkbideaa
open Go.RowKit

section
variable (w0 : World) (B base g cap N : Nat) (ok : PT → Prop) (gf : Nat) (lb : Array Value) (eg : ∀ args w, (callFunc gf args).run Try.prog w = .ok (.enter gf args) w) (hC : CmpC gf lb ok B w0) (hBg : B ≤ g) (hl : N ≤ 1048576)
include eg hC hBg hl
theorem sym_any : ∀ (f : Nat) (w : World) (d : List PT) (a m b : Nat), Srt B base g cap N ok w0 w d → b ≤ N → a < m → m < b → b - a ≤ f →
    Calls Try.prog 58 #[.slice (some ⟨g, 0, none⟩) N cap, .int .i64 (a : Int), .int .i64 (m : Int), .int .i64 (b : Int), .func (.func gf) #[] lb] w (SymOk base g cap N (symF ltP f d a m b) w)
  | 0, w, d, a, m, b, _, _, h1, h2, h3 => by omega
  | f + 1, w, d, a, m, b, hS, hb, h1, h2, h3 => by
    by_cases c1 : m - a = 1
    · have := sym_one w0 B base g cap N ok gf lb eg hC hBg w d hS hl a m b hb (by omega) h2
      rw [symF, if_pos c1]
      exact this
    · by_cases c2 : b - m = 1
      · have := sym_last w0 B base g cap N ok gf lb eg hC hBg w d hS hl a m b hb h1 c1 (by omega)
        rw [symF, if_neg c1, if_pos c2]
        exact this
      · exact sym_step f w0 B base g cap N ok gf lb eg hC hBg hl (sym_any f) w d hS a m b hb h1 h2 c1 c2 h3
end
theorem insE_perm {D : List PT} {a b : Nat} (hb : b ≤ D.length) : (insE ltP D a b).Perm D := perm_ins a _ D (fun h => by omega)

theorem blocks_go {n f a : Nat} {D : List PT} (h : a + 20 ≤ n) : blocksF ltP n (f + 1) D a = blocksF ltP n f (insE ltP D a (a + 20)) (a + 20) := by rw [blocksF, if_pos h]
theorem blocks_end {n f a : Nat} {D : List PT} (h : ¬ a + 20 ≤ n) : blocksF ltP n (f + 1) D a = insE ltP D a n := by rw [blocksF, if_neg h]
theorem merge_go {n bs f a : Nat} {D : List PT} (h : a + 2 * bs ≤ n) : mergeF ltP n bs (f + 1) D a = mergeF ltP n bs f (symF ltP (2 * bs) D a (a + bs) (a + 2 * bs)) (a + 2 * bs) := by rw [mergeF, if_pos h]
theorem merge_end {n bs f a : Nat} {D : List PT} (h : ¬ a + 2 * bs ≤ n) : mergeF ltP n bs (f + 1) D a = if a + bs < n then symF ltP (n - a) D a (a + bs) n else D := by rw [mergeF, if_neg h]
theorem grow_go {n bs f : Nat} {D : List PT} (h : bs < n) : growF' ltP n (f + 1) D bs = growF' ltP n f (mergeF ltP n bs (n + 1) D 0) (2 * bs) := by rw [growF', if_pos h]
theorem grow_end {n bs f : Nat} {D : List PT} (h : ¬ bs < n) : growF' ltP n f D bs = D := by
  cases f with
  | zero => rfl
  | succ f => rw [growF', if_neg h]

set_option maxHeartbeats 16000000 in
theorem stable_any (w0 : World) (B base g cap N : Nat) (ok : PT → Prop) (gf : Nat) (lb : Array Value) (eg : ∀ args w, (callFunc gf args).run Try.prog w = .ok (.enter gf args) w) (hC : CmpC gf lb ok B w0) (hBg : B ≤ g) (hl : N ≤ 1048576)
    (w : World) (d : List PT) (hS : Srt B base g cap N ok w0 w d) :
    Calls Try.prog 55 #[.slice (some ⟨g, 0, none⟩) N cap, .int .i64 (N : Int), .func (.func gf) #[] lb] w (SymOk base g cap N (stableE ltP d) w) := by
  have hN : d.length = N := hS.len
  have SY := Lib.hid (sym_any w0 B base g cap N ok gf lb eg hC hBg hl)
  have IN := Lib.hid (fun (w : World) (D : List PT) (h : Srt B base g cap N ok w0 w D) (a b : Nat) (ha : a ≤ N) (hb : b ≤ N) => insert_any w0 B base g cap ok gf lb eg hC hBg w D h.old h.hB (by rw [h.len]; exact h.row) (by rw [h.len]; exact hl) h.ok a b (by rw [h.len]; exact hb) (by rw [h.len]; exact ha))
  obtain ⟨R1, hR1⟩ : ∃ R1, blocksF ltP N (N + 1) d 0 = R1 := ⟨_, rfl⟩
  obtain ⟨R, hR⟩ : ∃ R, growF' ltP N (N + 1) R1 20 = R := ⟨_, rfl⟩
  rw [show stableE ltP d = R by unfold stableE; rw [hN, hR1, hR]]
  have HR1 := Lib.hid hR1
  have HR := Lib.hid hR
  have HS := Lib.hid hS
  clear hC hS hR1 hR hN
  go_enter Try.func55, Try.ntmps55
  go_wp2_with fail
  go_loopg [7, 8] N (fun gh s7 s8 wx => ∃ (a f : Nat) (D : List PT), s7 = .int .i64 (a : Int) ∧ s8 = .int .i64 ((a + 20 : Nat) : Int) ∧ a + gh = N ∧ gh < f ∧ Hid (blocksF ltP N f D a = R1) ∧ Hid (Srt B base g cap N ok w0 wx D) ∧ Frm [some g] w wx)
  case atStart => exact ⟨0, N + 1, d, rfl, rfl, by omega, by omega, HR1, HS, Frm.refl _ _⟩
  case round =>
    obtain ⟨a, f, D, rfl, rfl, haN, hf, hB, hS, hF⟩ := hrel
    obtain ⟨f, rfl⟩ : ∃ f', f = f' + 1 := ⟨f - 1, by omega⟩
    have haN1 : a ≤ N := by omega
    have HAN := Lib.hid haN
    clear haN
    by_cases hb : a + 20 ≤ N
    · have d1 : decide (a + 20 ≤ N) = true := decide_eq_true hb
      have d1' : decide (((a + 20 : Nat) : Int) ≤ (N : Int)) = true := decide_eq_true (by omega)
      have d1'' : decide ((a : Int) + 20 ≤ (N : Int)) = true := decide_eq_true (by omega)
      have S1 := Lib.hid (IN.out wr D hS.out a (a + 20) haN1 hb)
      rw [hS.out.len] at S1
      have hB2 : Hid (blocksF ltP N f (insE ltP D a (a + 20)) (a + 20) = R1) := Lib.hid (by rw [← hB.out, blocks_go hb])
      have hp : Hid ((insE ltP D a (a + 20)).Perm D) := Lib.hid (insE_perm (by rw [hS.out.len]; exact hb))
      go_wp2_with (go_at_call 57; refine S1.out.mono ?_; rintro e w2 ⟨rfl, hO2, hF2⟩; refine Hid.out ?_)
      refine Lib.hid ?_
      have hS2 := Lib.hid (hS.out.turn hBg hF2 hO2 hp.out)
      clear hO2
      go_wp2_with fail
      go_roundg (gk - 20)
      case measure => have := HAN.out; omega
      case rel => exact ⟨a + 20, f, _, by go_num, by go_num, by have := HAN.out; omega, by have := HAN.out; omega, hB2, hS2, hF.trans hF2 (fun r hr => Or.inl hr)⟩
    · have d1 : decide (a + 20 ≤ N) = false := decide_eq_false hb
      have d1' : decide (((a + 20 : Nat) : Int) ≤ (N : Int)) = false := decide_eq_false (by omega)
      have d1'' : decide ((a : Int) + 20 ≤ (N : Int)) = false := decide_eq_false (by omega)
      have S1 := Lib.hid (IN.out wr D hS.out a N haN1 (Nat.le_refl _))
      rw [hS.out.len] at S1
      have hB2 : Hid (insE ltP D a N = R1) := Lib.hid (by rw [← hB.out, blocks_end hb])
      have hp : Hid ((insE ltP D a N).Perm D) := Lib.hid (insE_perm (by rw [hS.out.len]; exact Nat.le_refl _))
      go_wp2_with (go_at_call 57; refine S1.out.mono ?_; rintro e w2 ⟨rfl, hO2, hF2⟩; refine Hid.out ?_)
      refine Lib.hid ?_
      have hS2 := Lib.hid (hS.out.turn hBg hF2 hO2 hp.out)
      rw [hB2.out] at hS2
      have hF3 := Lib.hid (hF.trans hF2 (fun r hr => Or.inl hr))
      clear hO2 hF hF2 hS hB hp S1 HAN d1 d1' d1''
      obtain ⟨Wb, rfl⟩ : ∃ Wb : World, Wb = w2 := ⟨_, rfl⟩
      go_wp2_with fail
      go_loopg [6] N (fun gh s6 wx => ∃ (bs f : Nat) (D : List PT), s6 = .int .i64 (bs : Int) ∧ 20 ≤ bs ∧ bs ≤ 2097152 ∧ N ≤ bs + gh ∧ gh < f ∧ Hid (growF' ltP N f D bs = R) ∧ Hid (Srt B base g cap N ok w0 wx D) ∧ Hid (Frm [some g] w wx))
      case atStart => exact ⟨20, N + 1, R1, rfl, by omega, by omega, by omega, by omega, HR, hS2, hF3⟩
      case round =>
        obtain ⟨bs, f, D, rfl, hbs0, hbs1, hbg, hf2, hG, hS, hF⟩ := hrel
        by_cases hbn : bs < N
        · obtain ⟨f, rfl⟩ : ∃ f', f = f' + 1 := ⟨f - 1, by omega⟩
          obtain ⟨R2, hR2⟩ : ∃ R2, mergeF ltP N bs (N + 1) D 0 = R2 := ⟨_, rfl⟩
          have hG2 : Hid (growF' ltP N f R2 (2 * bs) = R) := Lib.hid (by rw [← hG.out, grow_go hbn, hR2])
          have HR2 := Lib.hid hR2
          have HBG := Lib.hid (And.intro hbg hf2)
          have d0 : decide (bs < N) = true := decide_eq_true hbn
          have d0' : decide ((bs : Int) < (N : Int)) = true := decide_eq_true (by omega)
          clear hR2
          obtain ⟨Wc, rfl⟩ : ∃ Wc : World, Wc = wr := ⟨_, rfl⟩
          go_wp2_with fail
          go_loopg [7, 8] N (fun gh s7 s8 wx => ∃ (a f3 : Nat) (E : List PT), s7 = .int .i64 (a : Int) ∧ s8 = .int .i64 ((a + 2 * bs : Nat) : Int) ∧ a + gh = N ∧ gh < f3 ∧ Hid (mergeF ltP N bs f3 E a = R2) ∧ Hid (Srt B base g cap N ok w0 wx E) ∧ Hid (Frm [some g] w wx))
          case atStart => exact ⟨0, N + 1, D, rfl, by go_num, by omega, by omega, HR2, hS, hF⟩
          case round =>
            obtain ⟨a, f3, E, rfl, rfl, haN, hf3, hM, hS3, hF3⟩ := hrel
            obtain ⟨f3, rfl⟩ : ∃ f', f3 = f' + 1 := ⟨f3 - 1, by omega⟩
            have haN1 : a ≤ N := by omega
            have HAN := Lib.hid haN
            clear haN
            obtain ⟨b, hb⟩ : ∃ b, a + 2 * bs = b := ⟨_, rfl⟩
            obtain ⟨m, hm⟩ : ∃ m, a + bs = m := ⟨_, rfl⟩
            have hb1 : m + bs = b := by omega
            rw [hb]
            have em : (a : Int) + (bs : Int) = (m : Int) := by omega
            have HBM := Lib.hid (And.intro hb hm)
            have ham : a < m := by omega
            have hmb : m < b := by omega
            by_cases hbN : b ≤ N
            · have d1 : decide (b ≤ N) = true := decide_eq_true hbN
              have d1' : decide ((b : Int) ≤ (N : Int)) = true := decide_eq_true (by omega)
              have S1 := Lib.hid (SY.out (2 * bs) wr E a m b hS3.out hbN ham hmb (by omega))
              have hM2 : Hid (mergeF ltP N bs f3 (symF ltP (2 * bs) E a m b) b = R2) := Lib.hid (by rw [← hM.out, merge_go (by omega), hb, hm])
              have hp : Hid ((symF ltP (2 * bs) E a m b).Perm E) := Lib.hid (perm_symF _ E a m b ham hmb (by rw [hS3.out.len]; exact hbN))
              clear hb hm hb1
              go_wp2_with (go_at_call 58; refine S1.out.mono ?_; rintro e w3 ⟨rfl, hO3, hF4⟩; refine Hid.out ?_)
              refine Lib.hid ?_
              have hS4 := Lib.hid (hS3.out.turn hBg hF4 hO3 hp.out)
              have hF5 := Lib.hid (hF3.out.trans hF4 (fun r hr => Or.inl hr))
              clear hO3 hF4
              go_wp2_with fail
              go_roundg (N - b)
              case measure => have := HAN.out; omega
              case rel => exact ⟨b, f3, _, rfl, by (congr 1; try omega), by omega, by have := HAN.out; omega, hM2, hS4, hF5⟩
            · have d1 : decide (b ≤ N) = false := decide_eq_false hbN
              have d1' : decide ((b : Int) ≤ (N : Int)) = false := decide_eq_false (by omega)
              have hM2 : Hid ((if m < N then symF ltP (N - a) E a m N else E) = R2) := Lib.hid (by rw [← hM.out, merge_end (by omega), hm])
              by_cases hmN : m < N
              · have d2 : decide (m < N) = true := decide_eq_true hmN
                have d2' : decide ((m : Int) < (N : Int)) = true := decide_eq_true (by omega)
                have S1 := Lib.hid (SY.out (N - a) wr E a m N hS3.out (Nat.le_refl _) ham hmN (Nat.le_refl _))
                have hp : Hid ((symF ltP (N - a) E a m N).Perm E) := Lib.hid (perm_symF _ E a m N ham hmN (by rw [hS3.out.len]; exact Nat.le_refl _))
                have hM3 : Hid (symF ltP (N - a) E a m N = R2) := Lib.hid (by rw [← hM2.out, if_pos hmN])
                clear hb hm hb1
                go_wp2_with (go_at_call 58; refine S1.out.mono ?_; rintro e w3 ⟨rfl, hO3, hF4⟩; refine Hid.out ?_)
                refine Lib.hid ?_
                have hS4 := Lib.hid (hS3.out.turn hBg hF4 hO3 hp.out)
                rw [hM3.out] at hS4
                have hF5 := Lib.hid (hF3.out.trans hF4 (fun r hr => Or.inl hr))
                clear hO3 hF4
                go_wp2_with fail
                go_roundg (N - 2 * bs)
                case measure => have := HBG.out; omega
                case rel => exact ⟨2 * bs, f, R2, by (congr 1; try omega), by omega, by omega, by omega, by have := HBG.out; omega, hG2, hS4, hF5⟩
              · have d2 : decide (m < N) = false := decide_eq_false hmN
                have d2' : decide ((m : Int) < (N : Int)) = false := decide_eq_false (by omega)
                have hM3 : Hid (E = R2) := Lib.hid (by rw [← hM2.out, if_neg hmN])
                have hS4 : Hid (Srt B base g cap N ok w0 wr R2) := by rw [← hM3.out]; exact hS3
                clear hb hm hb1
                go_wp2_with fail
                go_roundg (N - 2 * bs)
                case measure => have := HBG.out; omega
                case rel => exact ⟨2 * bs, f, R2, by (congr 1; try omega), by omega, by omega, by omega, by have := HBG.out; omega, hG2, hS4, hF3⟩
        · have d1 : decide (bs < N) = false := decide_eq_false hbn
          have d2 : ¬ ((bs : Int) < (N : Int)) := by omega
          have hE : Hid (D = R) := Lib.hid (by rw [← hG.out, grow_end hbn])
          go_wp2_with fail
          refine bodyPost_end (results_none rfl _ _ _) rfl ?_
          exact ⟨rfl, by rw [← hE.out]; exact hS.out.row, hF.out⟩

theorem ins_nil (w : World) (fv : Value) : Calls Try.prog 57 #[.slice none 0 0, .int .i64 0, .int .i64 0, fv] w fun e w' => e = .returned (.tuple #[]) ∧ w = w' := by
  go_enter Try.func57, Try.ntmps57
  go_wp2_with fail
  go_loopg [8] 0 (fun gh s8 wx => s8 = .int .i64 1 ∧ w = wx)
  case atStart => exact ⟨rfl, rfl⟩
  case round =>
    obtain ⟨rfl, rfl⟩ := hrel
    go_wp2_with fail
    refine bodyPost_end (results_none rfl _ _ _) rfl ?_
    exact ⟨rfl, rfl⟩
theorem stable_nil (w : World) (fv : Value) : Calls Try.prog 55 #[.slice none 0 0, .int .i64 0, fv] w fun e w' => e = .returned (.tuple #[]) ∧ w = w' := by
  go_enter Try.func55, Try.ntmps55
  go_wp2_with fail
  go_loopg [7, 8] 0 (fun gh s7 s8 wx => s7 = .int .i64 0 ∧ s8 = .int .i64 20 ∧ w = wx)
  case atStart => exact ⟨rfl, rfl, rfl⟩
  case round =>
    obtain ⟨rfl, rfl, rfl⟩ := hrel
    go_wp2_with (go_at_call 57; refine (ins_nil _ _).mono ?_; rintro e w2 ⟨rfl, rfl⟩)
    go_loopg [6] 0 (fun gh s6 wx => s6 = .int .i64 20 ∧ w = wx)
    case atStart => exact ⟨rfl, rfl⟩
    case round =>
      obtain ⟨rfl, rfl⟩ := hrel
      go_wp2_with fail
      refine bodyPost_end (results_none rfl _ _ _) rfl ?_
      exact ⟨rfl, rfl⟩

/-- slices.SortStableFunc on a row of places of the call's own. -/
theorem sortS_any (w : World) (B base : Nat) (v : Value) (d : List PT) (ok : PT → Prop) (gf : Nat) (lb : Array Value) (eg : ∀ args w, (callFunc gf args).run Try.prog w = .ok (.enter gf args) w) (hC : CmpC gf lb ok B w) (hB : B ≤ base) (hBw : B ≤ w.heap.size)
    (hr : PRow w base v d) (hl : d.length ≤ 1048576) (hok : ∀ x ∈ d, ok x) :
    Calls Try.prog 51 #[v, .func (.func gf) #[] lb] w fun e w' => e = .returned (.tuple #[]) ∧ PRow w' base v (stableE ltP d) ∧ Frm [v.ownBlock] w w' := by
  rcases OwnF.val hr with ⟨rfl, rfl⟩ | ⟨g, cap, rfl, hbg, hg⟩
  · go_enter Try.func51, Try.ntmps51
    go_wp2_with (go_at_call 55; refine (stable_nil _ _).mono ?_; rintro e w2 ⟨rfl, rfl⟩)
    refine bodyPost_end (results_none rfl _ _ _) rfl ?_
    exact ⟨rfl, hr, Frm.refl _ _⟩
  · have S1 := Lib.hid (stable_any w B base g cap d.length ok gf lb eg hC (Nat.le_trans hB hbg) hl w d ⟨Below.refl _ _, hBw, hr, rfl, hok⟩)
    obtain ⟨N, hN⟩ : ∃ N, d.length = N := ⟨_, rfl⟩
    rw [hN] at S1 hl ⊢
    clear hr hC hok hN
    go_enter Try.func51, Try.ntmps51
    go_wp2_with (go_at_call 55; refine S1.out.mono ?_; rintro e w2 ⟨rfl, hO2, hF2⟩; refine Hid.out ?_)
    refine Lib.hid ?_
    go_wp2_with fail
    refine bodyPost_end (results_none rfl _ _ _) rfl ?_
    exact ⟨rfl, hO2, hF2⟩

end Go.Proofs.Ytggnheekkbideaa
