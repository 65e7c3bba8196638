/- value.numbers, answer. -/
import Derived.Test.YtbephgifbghilaaGreatDoorEvalVal2
set_option maxRecDepth 100000
namespace Go.Proofs.YtbephgifbghilaaGreatDoor
open Go.RowKit

def numsL (L : List Vl) : Int := if L.all numB then 0 else 90
theorem numsL_two (a b : Vl) : numsL [a, b] = if numsB a b then 0 else 90 := by
  unfold numsL numsB
  simp
theorem num_no {L : List Vl} {k : Nat} (hk : k < L.length) (h : numB L[k] = false) : numsL L = 90 := by
  unfold numsL
  rw [if_neg]
  intro h2
  rw [List.all_eq_true] at h2
  rw [h2 _ (List.getElem_mem hk)] at h
  cases h
set_option maxHeartbeats 4000000 in
theorem numbers_any (w : World) (a : Option Addr) (c : Nat) (L : List Vl) (hc : ColF cellV 4 w w.heap.size a L) (hw : ∀ x ∈ L, VlW x) (hl : L.length ≤ 100) (hT : Tabs8 w) :
    Calls Tryz.prog 163 #[.slice a L.length c] w fun e w' => e = .returned (.int .i64 (numsL L)) ∧ Below w.heap.size w w' := by
  have HC := Lib.hid hc
  have HW := Lib.hid hw
  have HT := Lib.hid hT
  clear hc hw hT
  go_enter Tryz.func163, Tryz.ntmps163
  go_wp2_with fail
  go_loopg [7] L.length (fun gh s7 wx => ∃ k : Nat, k + gh = L.length ∧ s7 = .int .i64 (k : Int) ∧ Hid (∀ j (h : j < L.length), j < k → numB L[j] = true) ∧ Below w.heap.size w wx)
  case atStart => exact ⟨0, by omega, rfl, Lib.hid (fun j h h2 => by omega), Below.refl _ _⟩
  case round =>
    obtain ⟨k, hkg, rfl, hN, hB⟩ := hrel
    by_cases hk : k < L.length
    · obtain ⟨b, o, rfl, hb, hcell⟩ := HC.out k hk
      have HC0 := HC.out
      obtain ⟨x, hx⟩ : ∃ x, L[k] = x := ⟨_, rfl⟩
      have hxw := HW.out x (by rw [← hx]; exact List.getElem_mem _)
      rw [hx] at hcell
      have c0 : wr.cell? ⟨b, o + k * 4, none⟩ = some (.int .u8 x.kind) := (Below.cellB hB hb).trans (hcell 0 (by omega))
      have c1 : wr.cell? ⟨b, o + k * 4 + 1, none⟩ = some (.int .i64 x.num) := (Below.cellB hB hb).trans (hcell 1 (by omega))
      have c2 : wr.cell? ⟨b, o + k * 4 + 2, none⟩ = some (.bool x.tr) := (Below.cellB hB hb).trans (hcell 2 (by omega))
      have c3 : wr.cell? ⟨b, o + k * 4 + 3, none⟩ = some (.string x.text) := (Below.cellB hB hb).trans (hcell 3 (by omega))
      obtain ⟨w1, p0, hp0, hw1, hlt, hn, hb1⟩ := box_new wr (.cells #[.int .u8 x.kind, .int .i64 x.num, .bool x.tr, .string x.text] 26)
      obtain ⟨n0, n1, n2, n3⟩ := v_cells hn
      have hB1 : Below w.heap.size w w1 := hB.trans (hb1.mono hB.size)
      have HB1 := Lib.hid hB1
      have hT1 := Utf8Tabs_below HT.out hB1
      have S1 := Lib.hid (vcheck_any w1 x hxw hT1)
      have k1 : (0 : Int) ≤ (k : Int) := by omega
      have k2 : (k : Int) < (L.length : Int) := by omega
      have dk : decide (k < L.length) = true := decide_eq_true hk
      have hnx : Hid (numB x = ((x.kind == 1) && checkB x)) := Lib.hid rfl
      have hno : Hid (numB x = false → numsL L = 90) := Lib.hid (fun h => num_no hk (by rw [hx]; exact h))
      have hyes : Hid (numB x = true → ∀ j (h : j < L.length), j < k + 1 → numB L[j] = true) := Lib.hid (fun h j hj hjk => by
        by_cases e : j = k
        · subst e; rw [hx]; exact h
        · exact hN.out j hj (by omega))
      clear hcell hn hb1 hB1 hT1 hxw hx hB HC0
      by_cases kk : x.kind = 1
      · have e1 : (x.kind != 1) = false := by rw [kk]; rfl
        have e2 : (x.kind == 1) = true := by rw [kk]; rfl
        unfold checkE at S1
        rw [e2, Bool.true_and] at hnx
        clear kk e2
        cases hcb : checkB x with
        | false =>
          rw [hcb] at S1 hnx
          have hfin := Lib.hid (hno.out hnx.out)
          clear hcb
          go_wp2_with (go_at_call 47; refine S1.out.mono ?_; rintro e w2 ⟨rfl, hb2⟩)
          go_ret
          exact ⟨by rw [hfin.out]; rfl, HB1.out.trans (hb2.mono HB1.out.size)⟩
        | true =>
          rw [hcb] at S1 hnx
          have hfin := Lib.hid (hyes.out hnx.out)
          clear hcb
          go_wp2_with (go_at_call 47; refine S1.out.mono ?_; rintro e w2 ⟨rfl, hb2⟩; have HB2 := Lib.hid (HB1.out.trans (hb2.mono HB1.out.size)); clear hb2)
          go_roundg (L.length - (k + 1))
          case measure => omega
          case rel => exact ⟨k + 1, by omega, by go_num, hfin, HB2.out⟩
      · have e1 : (x.kind != 1) = true := by simpa using kk
        have e2 : (x.kind == 1) = false := by simpa using kk
        rw [e2, Bool.false_and] at hnx
        have hfin := Lib.hid (hno.out hnx.out)
        clear kk e2
        go_wp2_with fail
        go_ret
        exact ⟨by rw [hfin.out]; rfl, HB1.out⟩
    · have dk : decide (k < L.length) = false := decide_eq_false hk
      have hE : Hid (numsL L = 0) := Lib.hid (by
        unfold numsL
        rw [if_pos]
        rw [List.all_eq_true]
        intro x hx
        obtain ⟨j, hj, rfl⟩ := List.getElem_of_mem hx
        exact hN.out j hj (by omega))
      clear hk
      go_wp2_with fail
      go_ret
      exact ⟨by rw [hE.out]; rfl, hB⟩

/-- A value's own block at w2, and what is stored into it: what stands. -/
abbrev chainV (w : World) (p : Nat) (v : Vl) : World := (((w.setCell ⟨p, 0, none⟩ (.int .u8 v.kind)).setCell ⟨p, 1, none⟩ (.int .i64 v.num)).setCell ⟨p, 2, none⟩ (.bool v.tr)).setCell ⟨p, 3, none⟩ (.string v.text)
theorem chain_below {B p : Nat} {w w2 : World} (h : Below B w w2) (hp : B ≤ p) (v : Vl) : Below B w (chainV w2 p v) :=
  (((h.setCell (p := ⟨p, 0, none⟩) hp _).setCell (p := ⟨p, 1, none⟩) hp _).setCell (p := ⟨p, 2, none⟩) hp _).setCell (p := ⟨p, 3, none⟩) hp _
theorem zero_blk {w : World} {p : Nat} {t : TypeId} (h : w.heap[p]? = some (.cells #[.int .u8 0, .int .i64 0, .bool false, .string ⟨#[]⟩] t)) :
    (w.cell? ⟨p, 0, none⟩ = some (.int .u8 0) ∧ w.cell? ⟨p, 1, none⟩ = some (.int .i64 0) ∧ w.cell? ⟨p, 2, none⟩ = some (.bool false) ∧ w.cell? ⟨p, 3, none⟩ = some (.string ⟨#[]⟩)) ∧
      w.frozen? ⟨p, 0, none⟩ = false ∧ w.frozen? ⟨p, 1, none⟩ = false ∧ w.frozen? ⟨p, 2, none⟩ = false ∧ w.frozen? ⟨p, 3, none⟩ = false :=
  ⟨v_cells (v := Vl.zero) h, free_of_block h 0, free_of_block h 1, free_of_block h 2, free_of_block h 3⟩
theorem answer_any (w : World) (n : Int) (ok : Bool) : Calls Tryz.prog 164 #[.int .i64 n, .bool ok] w fun e w' => e = .returned (.tuple #[valV (ansE n ok).1, .int .i64 (ansE n ok).2]) ∧ Below w.heap.size w w' := by
  cases ok with
  | false =>
    have HB := Lib.hid (show ∀ o, Below w.heap.size w (w.alloc o) from fun o => (Below.refl _ _).alloc (Nat.le_refl _) o)
    go_enter Tryz.func164, Tryz.ntmps164
    go_wp2_with fail
    exact bodyPost_ret (v := .tuple #[valV Vl.zero, .int .i64 91]) (by simp [results, Tryz.results164, go_sem, Vl.zero]) rfl ⟨rfl, HB.out _⟩
  | true =>
    obtain ⟨w1, p0, hp0, hw1, hlt, hn, hb⟩ := box_new w (.cells #[.int .u8 0, .int .i64 0, .bool false, .string ⟨#[]⟩] 26)
    have HB := Lib.hid hb
    have HN := Lib.hid hn
    have hpw : w.heap.size ≤ p0 := by omega
    clear hn hb
    go_enter Tryz.func164, Tryz.ntmps164
    go_wp2_with (go_at_call 25; refine (number_any _ n).mono ?_; rintro e w2 ⟨rfl, hb2⟩; refine Hid.out ?_)
    refine Lib.hid ?_
    obtain ⟨⟨n0, n1, n2, n3⟩, f0, f1, f2, f3⟩ := zero_blk ((hb2.block p0 hlt).trans HN.out)
    have HB2 := Lib.hid (chain_below (HB.out.trans (hb2.mono HB.out.size)) hpw (numV n))
    clear hb2
    go_wp2_with fail
    exact bodyPost_ret (v := .tuple #[valV (numV n), .int .i64 0]) (by simp [results, Tryz.results164, go_sem, numV, n0, n1, n2, n3]) rfl ⟨rfl, HB2.out⟩
end Go.Proofs.YtbephgifbghilaaGreatDoor
