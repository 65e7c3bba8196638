/- The document's clock: Drop. -/
import Derived.Test.YtofpmhkjagdmmaaRClock
set_option maxRecDepth 100000
namespace Go.Proofs.Ytofpmhkjagdmmaa
open Go.RowKit

theorem rals_ge {w : World} {base : Nat} {v : Value} {A : List Al} (h : RAls w base v A) : ∀ k, v.ownBlock = some k → base ≤ k := by
  intro k hk
  rcases OwnF.val h with ⟨e, _⟩ | ⟨g, c, e, hb, _⟩
  · rw [e] at hk; cases hk
  · rw [e] at hk; simp only [Value.ownBlock, Option.some.injEq] at hk; omega
def keepA (t : Int) (a : Al) : Bool := a.token != t
theorem keep_take {L : List Al} {t : Int} {i : Nat} (hi : i < L.length) : (L.take (i + 1)).filter (keepA t) = (L.take i).filter (keepA t) ++ if keepA t L[i] then [L[i]] else [] := by
  rw [List.take_add_one, List.getElem?_eq_getElem hi]
  simp only [Option.toList_some, List.filter_append]
  congr 1
  cases h : keepA t L[i] <;> simp [h]

set_option maxHeartbeats 4000000 in
theorem rdrop_any (w : World) (base p : Nat) (now : Int) (v : Value) (L : List Al) (t : Int) (hc : RClk w p now v) (hr : RAls w base v L) (hl : L.length ≤ 1048576) :
    Calls Try.prog 17 #[.pointer (some ⟨p, 0, none⟩), .int .i64 t] w fun r w' => ∃ v', r = .returned (.int .i64 ((L.length : Int) - ((L.filter (keepA t)).length : Int))) ∧ RClk w' p now v' ∧ RAls w' w.heap.size v' (L.filter (keepA t)) ∧ Frm [some p] w w' := by
  obtain ⟨i1, hti, hz0, hz1, hz2⟩ := info_parts info_ral
  have hp := lt_of_block hc
  obtain ⟨q, cap, rfl⟩ := hr.shape
  have HC := Lib.hid hc
  have HR := Lib.hid hr
  clear hc hr
  go_enter Try.func17, Try.ntmps17
  go_wp2_with fail
  go_loopg [5, 6] L.length (fun gh s5 s6 wx => ∃ i : Nat, i + gh = L.length ∧ s6 = .int .i64 (i : Int) ∧ RAls wx w.heap.size s5 ((L.take i).filter (keepA t)) ∧ Below w.heap.size w wx)
  case atStart => exact ⟨0, by omega, rfl, OwnF.nil _ _, Below.refl _ _⟩
  case round =>
    obtain ⟨i, hig, rfl, hO, hB⟩ := hrel
    have hzr := hB.size
    have hCr := Lib.hid (HC.out.below hB (Nat.le_refl _))
    obtain ⟨l0, l1⟩ := box2 hCr.out
    by_cases hi : i < L.length
    · have hRr := HR.out.kept hB
      obtain ⟨g, rfl, -, -, hg⟩ := hRr.some (show 0 < L.length by omega)
      have r0 : wr.cell? ⟨g, i * 4, none⟩ = some (.int .i64 L[i].due) := hRr.at cellA_len hi (j := 0) (by omega)
      have r1 : wr.cell? ⟨g, i * 4 + 1, none⟩ = some (.int .i64 L[i].token) := hRr.at cellA_len hi (by omega)
      have r2 : wr.cell? ⟨g, i * 4 + 2, none⟩ = some (.string L[i].via) := hRr.at cellA_len hi (by omega)
      have r3 : wr.cell? ⟨g, i * 4 + 3, none⟩ = some (.int .i64 L[i].inst) := hRr.at cellA_len hi (by omega)
      have HT := Lib.hid (keep_take (t := t) hi)
      obtain ⟨x, hx⟩ : ∃ x, L[i] = x := ⟨_, rfl⟩
      rw [hx] at r0 r1 r2 r3 HT
      clear hx hRr
      have hOl : ((L.take i).filter (keepA t)).length ≤ 1048576 := Nat.le_trans (List.length_filter_le _ _) (by simp; omega)
      obtain ⟨O, hOe⟩ : ∃ O, (L.take i).filter (keepA t) = O := ⟨_, rfl⟩
      rw [hOe] at HT hO hOl
      clear hOe
      cases hk : keepA t x with
      | true =>
        have d1 : (x.token != t) = true := hk
        rw [hk, if_pos rfl] at HT
        clear hk
        go_wp2_with (at_builtin; refine wpList_append_own _ rfl _ _ 22 rfl w.heap.size 31 i1 _ 4 40 Try.underlying22 hti hz0 hz1 hz2 rfl (by decide) u5 O.length (cellsF cellA O) rfl (OwnF.kept hO ((Below.refl _ _).alloc (Nat.le_refl _) _)) _ 1 1 (cellA x) rfl rfl (cells_new wr _ _) (cellA_one _) (by unfold maxLen; omega) (by omega) (by simp; omega) ?_; intro v6 w6 hown6 hg6 _)
        have hO6 := rals_push hown6
        have hB6 : Below w.heap.size w w6 := (hB.trans (((Below.refl wr.heap.size wr).alloc (Nat.le_refl _) _).mono hzr)).grown hg6 (by simp; omega) (rals_ge hO)
        rw [← HT.out] at hO6
        go_roundg (L.length - (i + 1))
        case measure => omega
        case rel => exact ⟨i + 1, by omega, by go_num, hO6, hB6⟩
      | false =>
        have d1 : (x.token != t) = false := hk
        rw [hk, if_neg (by decide), List.append_nil] at HT
        clear hk
        rw [← HT.out] at hO
        go_wp2_with fail
        go_roundg (L.length - (i + 1))
        case measure => omega
        case rel => exact ⟨i + 1, by omega, by go_num, hO, hB⟩
    · have hk : ¬ ((i : Int) < (L.length : Int)) := by omega
      rw [List.take_of_length_le (by omega)] at hO
      obtain ⟨a5, c5, rfl⟩ := OwnF.shape hO
      have f1 := free_of_block hCr.out 1
      have hO2 : RAls (wr.setCell ⟨p, 1, none⟩ (.slice a5 (L.filter (keepA t)).length c5)) w.heap.size (.slice a5 (L.filter (keepA t)).length c5) (L.filter (keepA t)) := own_frm hO ((Frm.refl [some p] _).grown (grownBy_setCell _ _ _ _) (by simp)) (fun r hr => by
        obtain rfl : r = some p := (by simpa using hr)
        exact Or.inr (Ne.symm (own_blk hO hCr.out (by decide))))
      have HO2 := Lib.hid hO2
      have HF2 := Lib.hid (((Frm.ofBelow (S := [some p]) hB)).grown (grownBy_setCell wr p 1 (.slice a5 (L.filter (keepA t)).length c5)) (by simp))
      have hfl : (L.filter (keepA t)).length ≤ L.length := List.length_filter_le _ _
      clear hO hO2
      go_wp2_with fail
      go_ret
      exact ⟨rfl, _, heap_setCell_self _ hCr.out, HO2.out, HF2.out⟩

end Go.Proofs.Ytofpmhkjagdmmaa
