/- The document's clock: Tick. -/
import Derived.Test.YtofpmhkjagdmmaaRAll
set_option maxRecDepth 100000
namespace Go.Proofs.Ytofpmhkjagdmmaa
open Go.RowKit

theorem filter_step {α : Type} {f : α → Bool} {L : List α} {i : Nat} (hi : i < L.length) : (L.take (i + 1)).filter f = (L.take i).filter f ++ if f L[i] then [L[i]] else [] := by
  rw [List.take_add_one, List.getElem?_eq_getElem hi]
  simp only [Option.toList_some, List.filter_append]
  congr 1
  cases h : f L[i] <;> simp [h]

set_option maxHeartbeats 2000000 in
theorem rtick_bad (w : World) (p : Nat) (now n : Int) (v : Value) (hc : RClk w p now v) (hn0 : 0 ≤ now) (hn1 : now ≤ 1099511627776) (hb : badT now n) :
    Calls Try.prog 18 #[.pointer (some ⟨p, 0, none⟩), .int .i64 n] w fun r w' => r = .returned (.tuple #[.slice none 0 0, .int .i64 1]) ∧ w = w' := by
  obtain ⟨k0, k1⟩ := box2 hc
  have h3 : n < 0 ∨ (0 ≤ n ∧ 1048576 < n) ∨ (0 ≤ n ∧ n ≤ 1048576 ∧ 1099511627776 < now + n) := by unfold badT at hb; omega
  clear hc hb
  rcases h3 with h1 | ⟨h1, h2⟩ | ⟨h1, h2, h3⟩
  · have d1 : decide (n < 0) = true := decide_eq_true h1
    go_enter Try.func18, Try.ntmps18
    go_wp2_with fail
    go_ret2
    exact ⟨rfl, rfl⟩
  · have d1 : decide (n < 0) = false := decide_eq_false (by omega)
    have d2 : decide (n > 1048576) = true := decide_eq_true h2
    go_enter Try.func18, Try.ntmps18
    go_wp2_with fail
    go_ret2
    exact ⟨rfl, rfl⟩
  · have d1 : decide (n < 0) = false := decide_eq_false (by omega)
    have d2 : decide (n > 1048576) = false := decide_eq_false (by omega)
    have d3 : decide (now + n > 1099511627776) = true := decide_eq_true h3
    go_enter Try.func18, Try.ntmps18
    go_wp2_with fail
    go_ret2
    exact ⟨rfl, rfl⟩

def dueB (nx : Int) (a : Al) : Bool := decide (a.due ≤ nx)
def stayB (nx : Int) (a : Al) : Bool := decide (nx < a.due)
/-- What the document's Tick leaves. -/
def RTickOk (w : World) (p : Nat) (nx : Int) (L : List Al) (r : Ending) (w' : World) : Prop :=
  ∃ vo v', r = .returned (.tuple #[vo, .int .i64 0]) ∧ RAls w' w.heap.size vo ((allA L).filter (dueB nx)) ∧ RClk w' p nx v' ∧ RAls w' w.heap.size v' (L.filter (stayB nx)) ∧ Frm [some p] w w'

set_option maxHeartbeats 8000000 in
theorem rtick_any (w : World) (base p : Nat) (now n : Int) (v : Value) (L : List Al) (hc : RClk w p now v) (hr : RAls w base v L) (hl : L.length ≤ 1048576) (hn0 : 0 ≤ now) (hb : ¬ badT now n) :
    Calls Try.prog 18 #[.pointer (some ⟨p, 0, none⟩), .int .i64 n] w (RTickOk w p (now + n) L) := by
  obtain ⟨i1, hti, hz0, hz1, hz2⟩ := info_parts info_ral
  have h3 : 0 ≤ n ∧ n ≤ 1048576 ∧ now + n ≤ 1099511627776 := by unfold badT at hb; omega
  obtain ⟨h4, h5, h6⟩ := h3
  obtain ⟨k0, k1⟩ := box2 hc
  have f0 := free_of_block hc 0
  have hp := lt_of_block hc
  obtain ⟨q, cap, rfl⟩ := hr.shape
  have d1 : decide (n < 0) = false := decide_eq_false (by omega)
  have d2 : decide (n > 1048576) = false := decide_eq_false (by omega)
  have d3 : decide (now + n > 1099511627776) = false := decide_eq_false (by omega)
  obtain ⟨nx, hto⟩ : ∃ nx, now + n = nx := ⟨_, rfl⟩
  have hc1 : RClk (w.setCell ⟨p, 0, none⟩ (.int .i64 nx)) p nx (.slice q L.length cap) := heap_setCell_self _ hc
  have hF1 : Frm [some p] w (w.setCell ⟨p, 0, none⟩ (.int .i64 nx)) := (Frm.refl _ _).grown (grownBy_setCell _ _ _ _) (by simp)
  have hr1 : RAls (w.setCell ⟨p, 0, none⟩ (.int .i64 nx)) base (.slice q L.length cap) L := own_frm hr hF1 (fun r hr' => Or.inr (by rw [List.mem_singleton.1 hr']; exact Ne.symm (own_blk hr hc (by decide))))
  have HC1 := Lib.hid hc1
  have HF1 := Lib.hid hF1
  have HR1 := Lib.hid hr1
  have FIN := Lib.hid (show ∀ vo v' w', RAls w' w.heap.size vo ((allA L).filter (dueB nx)) → RClk w' p nx v' → RAls w' w.heap.size v' (L.filter (stayB nx)) → Frm [some p] w w' → RTickOk w p nx L (.returned (.tuple #[vo, .int .i64 0])) w' from fun vo v' w' h1 h2 h3 h4 => ⟨vo, v', rfl, h1, h2, h3, h4⟩)
  rw [hto] at d3
  rw [hto]
  have HTO := Lib.hid hto
  clear hc hc1 hF1 hb hr hr1
  go_enter Try.func18, Try.ntmps18
  go_wp2_with (go_at_call 20; refine (rall_any _ base p nx _ L HC1.out HR1.out hl).mono ?_; rintro e w2 ⟨v1, rfl, hA, hb2⟩; refine Hid.out ?_)
  refine Lib.hid ?_
  have HF2 := Lib.hid (HF1.out.below hb2)
  have HC2 := Lib.hid (HC1.out.below hb2 (Nat.le_refl _))
  have HR2 := Lib.hid (HR1.out.kept hb2)
  have hz2w : w.heap.size ≤ w2.heap.size := HF2.out.size
  obtain ⟨q1, cap1, rfl⟩ := OwnF.shape hA
  have hAl : (allA L).length ≤ 1048576 := by rw [allA_len]; exact hl
  obtain ⟨A, hAe⟩ : ∃ A, allA L = A := ⟨_, rfl⟩
  rw [hAe] at hA hAl FIN ⊢
  have HA := Lib.hid hA
  clear hA hb2 hAe HC1 HF1 HR1 k0 k1
  go_wp2_with fail
  go_loopg [7, 9] A.length (fun gh s7 s9 wx => ∃ i : Nat, i + gh = A.length ∧ s9 = .int .i64 (i : Int) ∧ RAls wx w2.heap.size s7 ((A.take i).filter (dueB nx)) ∧ Below w2.heap.size w2 wx)
  case atStart => exact ⟨0, by omega, rfl, OwnF.nil _ _, Below.refl _ _⟩
  case round =>
    obtain ⟨i, hig, rfl, hO, hB⟩ := hrel
    have hzr := hB.size
    by_cases hi : i < A.length
    · have hRr := HA.out.kept hB
      obtain ⟨g, rfl, -, -, hg⟩ := hRr.some (show 0 < A.length by omega)
      have r0 : ∀ n, (wr.drewN n).cell? ⟨g, i * 4, none⟩ = some (.int .i64 A[i].due) := fun n => hRr.at cellA_len hi (j := 0) (by omega)
      have r1 : ∀ n, (wr.drewN n).cell? ⟨g, i * 4 + 1, none⟩ = some (.int .i64 A[i].token) := fun n => hRr.at cellA_len hi (by omega)
      have r2 : ∀ n, (wr.drewN n).cell? ⟨g, i * 4 + 2, none⟩ = some (.string A[i].via) := fun n => hRr.at cellA_len hi (by omega)
      have r3 : ∀ n, (wr.drewN n).cell? ⟨g, i * 4 + 3, none⟩ = some (.int .i64 A[i].inst) := fun n => hRr.at cellA_len hi (by omega)
      have HT := Lib.hid (filter_step (f := dueB nx) hi)
      obtain ⟨x, hx⟩ : ∃ x, A[i] = x := ⟨_, rfl⟩
      rw [hx] at r0 r1 r2 r3 HT
      have HR0 := Lib.hid r0
      have HR1 := Lib.hid r1
      have HR2' := Lib.hid r2
      have HR3 := Lib.hid r3
      have s0 : wr.cell? ⟨g, i * 4, none⟩ = some (.int .i64 x.due) := r0 0
      obtain ⟨l0, l1⟩ := box2 (HC2.out.below hB (Nat.le_refl _))
      clear hx hRr r0 r1 r2 r3
      have hOl : ((A.take i).filter (dueB nx)).length ≤ 1048576 := Nat.le_trans (List.length_filter_le _ _) (by simp; omega)
      obtain ⟨O, hOe⟩ : ∃ O, (A.take i).filter (dueB nx) = O := ⟨_, rfl⟩
      rw [hOe] at HT hO hOl
      have HO := Lib.hid hO
      clear hOe hO
      cases hk : dueB nx x with
      | true =>
        have dd : decide (x.due ≤ nx) = true := hk
        rw [hk, if_pos rfl] at HT
        clear hk
        go_wp2_with fail
        go_quiet (fail)
        clear s0 l0 l1 dd
        have hD := below_drewN' (w := wr) nq
        have hO2 := HO.out.kept hD
        have r0 := HR0.out nq
        have r1 := HR1.out nq
        have r2 := HR2'.out nq
        have r3 := HR3.out nq
        have hzq : w2.heap.size ≤ (wr.drewN nq).heap.size := hzr
        have hB2 := Lib.hid (hB.trans (hD.mono hzr))
        obtain ⟨wq, hwq⟩ : ∃ wq, wr.drewN nq = wq := ⟨_, rfl⟩
        rw [hwq] at hO2 r0 r1 r2 r3 hzq hB2 ⊢
        clear hwq hD
        go_wp2_with (at_builtin; refine wpList_append_own _ rfl _ _ 22 rfl w2.heap.size 31 i1 _ 4 40 Try.underlying22 hti hz0 hz1 hz2 rfl (by decide) u7 O.length (cellsF cellA O) rfl (OwnF.kept hO2 ((Below.refl _ _).alloc (Nat.le_refl _) _)) _ 1 1 (cellA x) rfl rfl (cells_new wq _ _) (cellA_one _) (by unfold maxLen; omega) (by omega) (by simp; omega) ?_; intro v6 w6 hown6 hg6 _)
        have hO6 := rals_push hown6
        have hB6 : Below w2.heap.size w2 w6 := (hB2.out.trans (((Below.refl wq.heap.size wq).alloc (Nat.le_refl _) _).mono hzq)).grown hg6 (by simp; omega) (rals_ge hO2)
        rw [← HT.out] at hO6
        go_roundg (A.length - (i + 1))
        case measure => omega
        case rel => exact ⟨i + 1, by omega, by go_num, hO6, hB6⟩
      | false =>
        have dd : decide (x.due ≤ nx) = false := hk
        rw [hk, if_neg (by decide), List.append_nil] at HT
        clear hk
        go_wp2_with fail
        go_quiet (fail)
        have hD := below_drewN' (w := wr) nq
        have hO2 := HO.out.kept hD
        rw [← HT.out] at hO2
        go_wp2_with fail
        go_roundg (A.length - (i + 1))
        case measure => omega
        case rel => exact ⟨i + 1, by omega, by go_num, hO2, hB.trans (hD.mono hzr)⟩
    · have hk : ¬ ((i : Int) < (A.length : Int)) := by omega
      rw [List.take_of_length_le (by omega)] at hO
      obtain ⟨ao, co, rfl⟩ := OwnF.shape hO
      obtain ⟨w3, rfl⟩ : ∃ w3 : World, w3 = wr := ⟨_, rfl⟩
      have HF3 := Lib.hid (HF2.out.below hB)
      have HC3 := Lib.hid (HC2.out.below hB (Nat.le_refl _))
      have HR3 := Lib.hid (HR2.out.kept hB)
      obtain ⟨O, hOe⟩ : ∃ O, A.filter (dueB nx) = O := ⟨_, rfl⟩
      rw [hOe] at hO FIN ⊢
      have HO := Lib.hid (OwnF.lower hO hz2w)
      clear hO hOe hB HF2 HC2 HR2 HA
      have hz3w : w.heap.size ≤ w3.heap.size := HF3.out.size
      have hk2 : decide (i < A.length) = false := decide_eq_false hi
      go_wp2_with fail
      clear hig hk hi hk2
      go_loopg [8, 10] L.length (fun gh s8 s10 wx => ∃ i : Nat, i + gh = L.length ∧ s10 = .int .i64 (i : Int) ∧ RAls wx w3.heap.size s8 ((L.take i).filter (stayB nx)) ∧ Below w3.heap.size w3 wx)
      case atStart => exact ⟨0, by omega, rfl, OwnF.nil _ _, Below.refl _ _⟩
      case round =>
        obtain ⟨j, hjg, rfl, hP, hB⟩ := hrel
        have hzr := hB.size
        by_cases hj : j < L.length
        · have hRr := HR3.out.kept hB
          obtain ⟨g, rfl, -, -, hg⟩ := hRr.some (show 0 < L.length by omega)
          have r0 : ∀ n, (wr.drewN n).cell? ⟨g, j * 4, none⟩ = some (.int .i64 L[j].due) := fun n => hRr.at cellA_len hj (j := 0) (by omega)
          have r1 : ∀ n, (wr.drewN n).cell? ⟨g, j * 4 + 1, none⟩ = some (.int .i64 L[j].token) := fun n => hRr.at cellA_len hj (by omega)
          have r2 : ∀ n, (wr.drewN n).cell? ⟨g, j * 4 + 2, none⟩ = some (.string L[j].via) := fun n => hRr.at cellA_len hj (by omega)
          have r3 : ∀ n, (wr.drewN n).cell? ⟨g, j * 4 + 3, none⟩ = some (.int .i64 L[j].inst) := fun n => hRr.at cellA_len hj (by omega)
          have HT := Lib.hid (filter_step (f := stayB nx) hj)
          obtain ⟨x, hx⟩ : ∃ x, L[j] = x := ⟨_, rfl⟩
          rw [hx] at r0 r1 r2 r3 HT
          have HR0 := Lib.hid r0
          have HR1 := Lib.hid r1
          have HR2' := Lib.hid r2
          have HR3' := Lib.hid r3
          have s0 : wr.cell? ⟨g, j * 4, none⟩ = some (.int .i64 x.due) := r0 0
          have hCr := HC3.out.below hB (Nat.le_refl _)
          obtain ⟨l0, l1⟩ := box2 hCr
          have HCr := Lib.hid hCr
          clear hx hRr r0 r1 r2 r3 hCr
          have hPl : ((L.take j).filter (stayB nx)).length ≤ 1048576 := Nat.le_trans (List.length_filter_le _ _) (by simp; omega)
          obtain ⟨P, hPe⟩ : ∃ P, (L.take j).filter (stayB nx) = P := ⟨_, rfl⟩
          rw [hPe] at HT hP hPl
          have HP := Lib.hid hP
          clear hPe hP
          cases hk : stayB nx x with
          | true =>
            have dd : decide (x.due > nx) = true := hk
            rw [hk, if_pos rfl] at HT
            clear hk
            go_wp2_with fail
            go_quiet (fail)
            clear s0 l0 l1 dd
            have hD := below_drewN' (w := wr) nq
            have hP2 := HP.out.kept hD
            have r0 := HR0.out nq
            have r1 := HR1.out nq
            have r2 := HR2'.out nq
            have r3 := HR3'.out nq
            obtain ⟨l0, l1⟩ := box2 (HCr.out.below hD (Nat.le_refl _))
            have hzq : w3.heap.size ≤ (wr.drewN nq).heap.size := hzr
            have hB2 := Lib.hid (hB.trans (hD.mono hzr))
            obtain ⟨wq, hwq⟩ : ∃ wq, wr.drewN nq = wq := ⟨_, rfl⟩
            rw [hwq] at hP2 r0 r1 r2 r3 l0 l1 hzq hB2 ⊢
            clear hwq hD
            go_wp2_with (at_builtin; refine wpList_append_own _ rfl _ _ 22 rfl w3.heap.size 31 i1 _ 4 40 Try.underlying22 hti hz0 hz1 hz2 rfl (by decide) u8 P.length (cellsF cellA P) rfl (OwnF.kept hP2 ((Below.refl _ _).alloc (Nat.le_refl _) _)) _ 1 1 (cellA x) rfl rfl (cells_new wq _ _) (cellA_one _) (by unfold maxLen; omega) (by omega) (by simp; omega) ?_; intro v6 w6 hown6 hg6 _)
            have hP6 := rals_push hown6
            have hB6 : Below w3.heap.size w3 w6 := (hB2.out.trans (((Below.refl wq.heap.size wq).alloc (Nat.le_refl _) _).mono hzq)).grown hg6 (by simp; omega) (rals_ge hP2)
            rw [← HT.out] at hP6
            go_roundg (L.length - (j + 1))
            case measure => omega
            case rel => exact ⟨j + 1, by omega, by go_num, hP6, hB6⟩
          | false =>
            have dd : decide (x.due > nx) = false := hk
            rw [hk, if_neg (by decide), List.append_nil] at HT
            clear hk
            go_wp2_with fail
            go_quiet (fail)
            have hD := below_drewN' (w := wr) nq
            have hP2 := HP.out.kept hD
            rw [← HT.out] at hP2
            go_wp2_with fail
            go_roundg (L.length - (j + 1))
            case measure => omega
            case rel => exact ⟨j + 1, by omega, by go_num, hP2, hB.trans (hD.mono hzr)⟩
        · have hk : ¬ ((j : Int) < (L.length : Int)) := by omega
          rw [List.take_of_length_le (by omega)] at hP
          obtain ⟨a8, c8, rfl⟩ := OwnF.shape hP
          have hCr := HC3.out.below hB (Nat.le_refl _)
          obtain ⟨l0, l1⟩ := box2 hCr
          have f1 := free_of_block hCr 1
          have hFs : Frm [some p] wr (wr.setCell ⟨p, 1, none⟩ (.slice a8 (L.filter (stayB nx)).length c8)) := (Frm.refl _ _).grown (grownBy_setCell _ _ _ _) (by simp)
          have hO2 : RAls (wr.setCell ⟨p, 1, none⟩ (.slice a8 (L.filter (stayB nx)).length c8)) w.heap.size _ O := own_frm (HO.out.kept hB) hFs (fun r hr => by
            rw [List.mem_singleton.1 hr]
            exact Or.inr (Ne.symm (own_blk (HO.out.kept hB) hCr (by decide))))
          have hP2 : RAls (wr.setCell ⟨p, 1, none⟩ (.slice a8 (L.filter (stayB nx)).length c8)) w.heap.size (.slice a8 (L.filter (stayB nx)).length c8) (L.filter (stayB nx)) := own_frm (OwnF.lower hP hz3w) hFs (fun r hr => by
            rw [List.mem_singleton.1 hr]
            exact Or.inr (Ne.symm (own_blk hP hCr (by decide))))
          have HE := Lib.hid (FIN.out _ _ _ hO2 (heap_setCell_self _ hCr) hP2 ((HF3.out.below hB).trans hFs (fun r hr => Or.inl hr)))
          have hfl : (L.filter (stayB nx)).length ≤ L.length := List.length_filter_le _ _
          clear hP hCr hFs hO2 hP2
          go_wp2_with fail
          go_ret2
          exact HE.out

end Go.Proofs.Ytofpmhkjagdmmaa
