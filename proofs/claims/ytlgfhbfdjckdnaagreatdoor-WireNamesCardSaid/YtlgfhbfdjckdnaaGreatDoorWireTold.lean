/- wire.Told (seat wire). -/
import Derived.Test.YtlgfhbfdjckdnaaGreatDoorWireAns3
set_option maxRecDepth 100000
namespace Go.Proofs.YtlgfhbfdjckdnaaGreatDoor
open Go.RowKit

theorem box2 {w : World} {b : Nat} {v0 v1 : Value} {t : TypeId} {fr : Nat × Nat} (h : w.heap[b]? = some (.cells #[v0, v1] t fr)) : w.cell? ⟨b, 0, none⟩ = some v0 ∧ w.cell? ⟨b, 1, none⟩ = some v1 := by
  refine ⟨?_, ?_⟩ <;> (rw [cell_of_block h]; rfl)
theorem set_self2 {w : World} {b i : Nat} {c : Array Value} {t : TypeId} {fr : Nat × Nat} (v : Value) (h : w.heap[b]? = some (.cells c t fr)) : (w.setCell ⟨b, i, none⟩ v).heap[b]? = some (.cells (c.setIfInBounds i v) t fr) := by
  simp [World.setCell, Array.getElem?_modify, h]
theorem two_sets {w : World} {b : Nat} {v0 v1 : Value} {t : TypeId} {fr : Nat × Nat} (h : w.heap[b]? = some (.cells #[v0, v1] t fr)) (x0 x1 : Value) :
    ((w.setCell ⟨b, 0, none⟩ x0).setCell ⟨b, 1, none⟩ x1).heap[b]? = some (.cells #[x0, x1] t fr) := set_self2 x1 (set_self2 x0 h)

/-- What Told hands back. -/
def ToldV (s : ByteArray) (yes no : Value) (r : Value) : Prop :=
  (∃ st n, ToldIs s.data.toList st n ∧ r = .tuple #[.agg #[.int .i64 st, .string (s.extract (aheadL st n).length ((aheadL st n).length + n.toNat))], .int .i64 (((aheadL st n).length + n.toNat : Nat) : Int), yes]) ∨
  ((∀ st n, ¬ ToldIs s.data.toList st n) ∧ r = .tuple #[.agg #[.int .i64 0, .string ⟨#[]⟩], .int .i64 0, no])

set_option maxHeartbeats 2000000 in
theorem told_far (w : World) (hg : Gnd w) (s : ByteArray) (hs : s.size ≤ 300000) (hi : Lib.index s.data.toList clenL < 13 ∨ 100 < Lib.index s.data.toList clenL) :
    Calls Tryz.prog 18 #[.string s] w fun e w' => ∃ r, e = .returned r ∧ ToldV s (.int .i64 0) (.int .i64 4) r ∧ Below w.heap.size w w' := by
  obtain ⟨m, hm⟩ := hg.maxl
  have HI : Hid (∀ W, Below w.heap.size w W → Calls Tryz.prog 29 #[.string s, .string ⟨#[13, 10, 99, 111, 110, 116, 101, 110, 116, 45, 108, 101, 110, 103, 116, 104, 58, 32]⟩] W fun e w' => e = .returned (.int .i64 (Lib.index s.data.toList clenL)) ∧ w' = W) := Lib.hid (fun W hW => Tryz.strings_Index s _ m W (by omega) (hm W hW))
  have hno : Hid (∀ st n, ¬ ToldIs s.data.toList st n) := Lib.hid (fun st n h => by
    have h2 := told_all h (by simpa using hs)
    omega)
  obtain ⟨i, hix⟩ : ∃ i, Lib.index s.data.toList clenL = i := ⟨_, rfl⟩
  rw [hix] at HI hi
  clear hix hg hm
  have cur : Below w.heap.size w (w.alloc (.cells #[.int .i64 0, .string ⟨#[]⟩] 46)) := (Below.refl _ _).alloc (Nat.le_refl _) _
  have HC := Lib.hid cur
  by_cases h1 : i < 13
  · clear hi
    go_enter Tryz.func18, Tryz.ntmps18
    go_wp2_with (go_at_call 29; refine (HI.out _ HC.out).mono ?_; rintro e w2 ⟨rfl, rfl⟩)
    exact bodyPost_ret (v := .tuple #[.agg #[.int .i64 0, .string ⟨#[]⟩], .int .i64 0, .int .i64 4]) (by simp [results, Tryz.results18, go_sem]) rfl ⟨_, rfl, .inr ⟨hno.out, rfl⟩, HC.out⟩
  · have h2 : 100 < i := by omega
    clear hi
    go_enter Tryz.func18, Tryz.ntmps18
    go_wp2_with (go_at_call 29; refine (HI.out _ HC.out).mono ?_; rintro e w2 ⟨rfl, rfl⟩)
    exact bodyPost_ret (v := .tuple #[.agg #[.int .i64 0, .string ⟨#[]⟩], .int .i64 0, .int .i64 4]) (by simp [results, Tryz.results18, go_sem]) rfl ⟨_, rfl, .inr ⟨hno.out, rfl⟩, HC.out⟩

theorem extract_list (s : ByteArray) (a b : Nat) : (s.extract a b).data.toList = (s.data.toList.drop a).take (b - a) := by
  rw [ByteArray.data_extract, Array.toList_extract, List.extract_eq_take_drop]
theorem cut_fst_le (s sep : List UInt8) : (Lib.cut s sep).1.length ≤ s.length := by
  unfold Lib.cut
  split
  · simp; omega
  · exact Nat.le_refl _
/-- One of two texts, with what its reading gives. -/
def PX (x y : ByteArray) (a b : Value) (z : ByteArray) (v : Value) : Prop := (z = x ∧ v = a) ∨ (z = y ∧ v = b)

set_option maxHeartbeats 4000000 in
theorem told_near (w : World) (hg : Gnd w) (s : ByteArray) (hs : s.size ≤ 300000) (k : Nat) (hk : Lib.index s.data.toList clenL = (k : Int)) (hk1 : 13 ≤ k) (hk2 : k ≤ 100) (hk3 : k + 18 ≤ s.size) :
    Calls Tryz.prog 18 #[.string s] w fun e w' => ∃ r, e = .returned r ∧ ToldV s (.int .i64 0) (.int .i64 4) r ∧ Below w.heap.size w w' := by
  obtain ⟨W1, hW1⟩ : ∃ W1, w.alloc (.cells #[.int .i64 0, .string ⟨#[]⟩] 46) = W1 := ⟨_, rfl⟩
  have BW : Hid (Below w.heap.size w W1) := by refine Lib.hid ?_; rw [← hW1]; exact (Below.refl _ _).alloc (Nat.le_refl _) _
  have HB : Hid (W1.heap[w.heap.size]? = some (.cells #[.int .i64 0, .string ⟨#[]⟩] 46)) := by refine Lib.hid ?_; rw [← hW1]; exact (MapKept.heap_alloc w _).1
  have hlt := lt_of_block HB.out
  have hg1 : Gnd W1 := hg.up BW.out
  obtain ⟨m, hm⟩ := hg1.maxl
  have HI : Hid (Calls Tryz.prog 29 #[.string s, .string ⟨#[13, 10, 99, 111, 110, 116, 101, 110, 116, 45, 108, 101, 110, 103, 116, 104, 58, 32]⟩] W1 fun e w' => e = .returned (.int .i64 (k : Int)) ∧ w' = W1) := Lib.hid (by
    rw [← hk]; exact Tryz.strings_Index s _ m W1 (by omega) (hm W1 (Below.refl _ _)))
  -- what is read of the text
  obtain ⟨x1, hx1⟩ : ∃ x, s.extract 9 12 = x := ⟨_, rfl⟩
  obtain ⟨x2, hx2⟩ : ∃ x, s.extract (k + 18) s.size = x := ⟨_, rfl⟩
  have l1 : x1.data.toList = (s.data.toList.drop 9).take 3 := by rw [← hx1, extract_list]
  have l2 : x2.data.toList = s.data.toList.drop (k + 18) := by
    rw [← hx2, extract_list, List.take_of_length_le]
    rw [List.length_drop, Array.length_toList]
    exact Nat.le_refl _
  have z1 : x1.size ≤ 300000 := by
    rw [← hx1, ByteArray.size_extract]; omega
  have z2 : x2.size ≤ 300000 := by
    rw [← hx2, ByteArray.size_extract]; omega
  obtain ⟨dg, hdg⟩ : ∃ x : ByteArray, ⟨(Lib.cut x2.data.toList [13, 10]).1.toArray⟩ = x := ⟨_, rfl⟩
  obtain ⟨dh, hdh⟩ : ∃ x : ByteArray, ⟨(Lib.cut x2.data.toList [13, 10]).2.1.toArray⟩ = x := ⟨_, rfl⟩
  obtain ⟨db, hdb⟩ : ∃ x : Bool, (Lib.cut x2.data.toList [13, 10]).2.2 = x := ⟨_, rfl⟩
  have l3 : dg.data.toList = (Lib.cut (s.data.toList.drop (k + 18)) [13, 10]).1 := by rw [← hdg, l2]
  have z3 : dg.size ≤ 300000 := by
    rw [← hdg]
    show (Lib.cut x2.data.toList [13, 10]).1.toArray.size ≤ _
    rw [List.size_toArray]
    exact Nat.le_trans (cut_fst_le _ _) (by rw [Array.length_toList]; exact z2)
  have HCut : Hid (∀ W, Below W1.heap.size W1 W → Calls Tryz.prog 31 #[.string x2, .string ⟨#[13, 10]⟩] W fun e w' => e = .returned (.tuple #[.string dg, .string dh, .bool db]) ∧ Below W.heap.size W w') := Lib.hid (fun W hW => by
    refine (Tryz.strings_Cut x2 ⟨#[13, 10]⟩ m W (by omega) (hm W hW)).mono ?_
    rintro e w' ⟨rfl, n, rfl⟩
    have e1 : (ByteArray.mk #[13, 10]).data.toList = [13, 10] := rfl
    rw [e1, hdg, hdh, hdb]
    exact ⟨rfl, below_drewN (Below.refl _ _) n⟩)
  obtain ⟨a1, ha1⟩ : ∃ x, (parseW x1.data.toList).getD 0 = x := ⟨_, rfl⟩
  obtain ⟨o1, ho1⟩ : ∃ x, (parseW x1.data.toList).isSome = x := ⟨_, rfl⟩
  obtain ⟨a2, ha2⟩ : ∃ x, (parseW dg.data.toList).getD 0 = x := ⟨_, rfl⟩
  obtain ⟨o2, ho2⟩ : ∃ x, (parseW dg.data.toList).isSome = x := ⟨_, rfl⟩
  have HP : Hid (∀ W z v, Below W1.heap.size W1 W → PX x1 dg (.tuple #[.int .i64 a1, .bool o1]) (.tuple #[.int .i64 a2, .bool o2]) z v → Calls Tryz.prog 30 #[.string z] W fun e w' => e = .returned v ∧ Below W.heap.size W w') := Lib.hid (fun W z v hW h => by
    rcases h with ⟨rfl, rfl⟩ | ⟨rfl, rfl⟩
    · rw [← ha1, ← ho1]; exact wparse_any W (hg1.up hW) z (by omega)
    · rw [← ha2, ← ho2]; exact wparse_any W (hg1.up hW) z (by omega))
  have px1 : PX x1 dg (.tuple #[.int .i64 a1, .bool o1]) (.tuple #[.int .i64 a2, .bool o2]) x1 (.tuple #[.int .i64 a1, .bool o1]) := .inl ⟨rfl, rfl⟩
  have px2 : PX x1 dg (.tuple #[.int .i64 a1, .bool o1]) (.tuple #[.int .i64 a2, .bool o2]) dg (.tuple #[.int .i64 a2, .bool o2]) := .inr ⟨rfl, rfl⟩
  -- a response is read so
  have hyes : Hid (∀ st n, ToldIs s.data.toList st n → o1 = true ∧ a1 = st ∧ o2 = true ∧ a2 = n ∧ 0 ≤ n ∧ n ≤ s.size) := Lib.hid (fun st n h => by
    obtain ⟨q1, q2, q3, q4, q5⟩ := told_all h (by simpa using hs)
    have hkk : k = 13 + (wordL st).length := by omega
    rw [show 31 + (wordL st).length = k + 18 by omega, ← l3] at q4
    rw [← l1] at q3
    rw [q3] at ha1 ho1
    rw [q4] at ha2 ho2
    exact ⟨ho1.symm, ha1.symm, ho2.symm, ha2.symm, h.2.1, by simpa using q5⟩)
  have hI1 : Hid (o1 = true → I64n a1) := Lib.hid (fun h => by
    cases hp : parseW x1.data.toList with
    | none => rw [hp] at ho1; rw [← ho1] at h; cases h
    | some v => rw [hp] at ha1; have := (parseW_iff.1 hp).1; rw [← ha1]; exact this)
  clear hg hm hk l1 l2 l3 z1 z2 z3 hdg hdh hdb ha1 ho1 ha2 ho2
  have cur : Below W1.heap.size W1 W1 := Below.refl _ _
  by_cases hgood : o1 = true ∧ o2 = true ∧ 0 ≤ a2 ∧ a2 ≤ s.size
  · obtain ⟨rfl, rfl, h0, h1⟩ := hgood
    obtain ⟨n, rfl⟩ : ∃ n : Nat, a2 = n := ⟨a2.toNat, by omega⟩
    have hnI : I64n (n : Int) := by unfold I64n; omega
    have ha1I := hI1.out rfl
    have hwf : (Lit.int .i64 a1).wf = true := WalkArith.wf_i64 ha1I
    have HW := Lib.hid (fun W : World => words_any W)
    have HA : Hid (∀ W, Below W1.heap.size W1 W → Calls Tryz.prog 28 #[.int .i64 a1, .string (wordB a1), .int .i64 (n : Int)] W fun e w' => e = .returned (.string (aheadB a1 n)) ∧ Below W.heap.size W w') := Lib.hid (fun W hW => ahead_any W (hg1.up hW) a1 n ha1I hnI)
    have hxb := aheadB_size a1 n ha1I hnI
    have hbl : (aheadB a1 n).data.toList = aheadL a1 n := by unfold aheadB; simp
    have hbs : (aheadL a1 n).length = (aheadB a1 n).size := by unfold aheadB; exact List.size_toArray.symm
    have hwz : (wordB a1).size = (wordL a1).length := wordB_size a1
    have HH : Hid (∀ W, Calls Tryz.prog 32 #[.string s, .string (aheadB a1 n)] W fun e w' => e = .returned (.bool (Lib.hasPrefix s.data.toList (aheadL a1 n))) ∧ w' = W) := Lib.hid (fun W => by rw [← hbl]; exact Tryz.strings_HasPrefix s _ W)
    have hchk : Hid (∀ st n', ToldIs s.data.toList st n' → (wordB a1).size ≠ 0 ∧ Lib.hasPrefix s.data.toList (aheadL a1 n) = true ∧ (aheadB a1 n).size + n ≤ s.size) := Lib.hid (fun st n' h => by
      obtain ⟨_, rfl, _, rfl, _, _⟩ := hyes.out st n' h
      refine ⟨?_, List.isPrefixOf_iff_prefix.2 h.2.2.1, ?_⟩
      · rw [hwz]; exact fun e => h.1 (List.eq_nil_of_length_eq_zero e)
      · have := h.2.2.2
        rw [hbs, Int.toNat_natCast, Array.length_toList] at this
        exact this)
    have hsucc : Hid ((wordB a1).size ≠ 0 → Lib.hasPrefix s.data.toList (aheadL a1 n) = true → (aheadB a1 n).size + n ≤ s.size → ToldV s (.int .i64 0) (.int .i64 4) (.tuple #[.agg #[.int .i64 a1, .string (s.extract (aheadB a1 n).size ((aheadB a1 n).size + n))], .int .i64 (((aheadB a1 n).size : Int) + (n : Int)), .int .i64 0])) := Lib.hid (fun q1 q2 q3 => by
      refine .inl ⟨a1, n, ⟨fun e => q1 (by rw [hwz, e]; rfl), by omega, List.isPrefixOf_iff_prefix.1 q2, ?_⟩, ?_⟩
      · rw [hbs, Int.toNat_natCast, Array.length_toList]; exact q3
      · rw [hbs, Int.toNat_natCast, Int.natCast_add])
    have HLK : Hid (∀ (W : World) (bm : Nat), WdM W bm 14 wordB → (Instr.lookup 67 (.map (some bm)) (.int .i64 a1) false).run Tryz.prog W = .ok (.string (wordB a1)) W) := Lib.hid (fun W bm hM => hM.look (zero_str _) a1 hwf)
    obtain ⟨hp, hhp⟩ : ∃ hp, Lib.hasPrefix s.data.toList (aheadL a1 n) = hp := ⟨_, rfl⟩
    obtain ⟨xb, hxbe⟩ : ∃ x, aheadB a1 n = x := ⟨_, rfl⟩
    obtain ⟨xw, hxwe⟩ : ∃ x, wordB a1 = x := ⟨_, rfl⟩
    rw [hhp] at HH hchk hsucc
    rw [hxbe] at HA hxb HH hchk hsucc
    rw [hxwe] at HA hchk hsucc HLK
    clear hhp hxbe hxwe hbl hbs hwz hyes hI1 hwf ha1I hnI hg1
    by_cases hgood : xw.size ≠ 0 ∧ hp = true ∧ xb.size + n ≤ s.size
    · obtain ⟨q1, rfl, q3⟩ := hgood
      have d1 := nonempty_size' xw q1
      have hfin := Lib.hid (hsucc.out q1 rfl q3)
      have d3 : decide ((s.size : Int) < (xb.size : Int) + (n : Int)) = false := decide_eq_false (by omega)
      clear hsucc hchk q1
      go_enter Tryz.func18, Tryz.ntmps18
      go_upto_region 13 with (first
          | (go_at_call 29; refine HI.out.mono ?_; rintro e w2 ⟨rfl, rfl⟩)
          | (go_at_call 30; refine (HP.out _ _ _ cur (by assumption)).mono ?_; rintro e w5 ⟨rfl, hb5⟩; have cur := cur.trans (hb5.mono cur.size))
          | (go_at_call 31; refine (HCut.out _ cur).mono ?_; rintro e w5 ⟨rfl, hb5⟩; have cur := cur.trans (hb5.mono cur.size))
          | (go_at_call 27; refine (HW.out _).mono ?_; rintro e w5 ⟨bm, rfl, hM, hb5⟩; have cur := cur.trans (hb5.mono cur.size); have hlk := HLK.out w5 bm hM)
          | (go_at_call 28; refine (HA.out _ cur).mono ?_; rintro e w5 ⟨rfl, hb5⟩; have cur := cur.trans (hb5.mono cur.size))
          | (go_at_call 32; refine (HH.out _).mono ?_; rintro e w5 ⟨rfl, rfl⟩))
      have y := (cur.block _ hlt).trans HB.out
      have f0 := free_of_block y
      obtain ⟨e0, e1⟩ := box2 y
      have Y := Lib.hid y
      clear y
      go_wp2_with fail
      obtain ⟨p0, p1⟩ := box2 (two_sets Y.out (.int .i64 a1) (.string (s.extract xb.size (xb.size + n))))
      exact bodyPost_ret (v := .tuple #[.agg #[.int .i64 a1, .string (s.extract xb.size (xb.size + n))], .int .i64 ((xb.size : Int) + (n : Int)), .int .i64 0]) (by simp [results, Tryz.results18, go_sem, p0, p1]) rfl ⟨_, rfl, hfin.out, ((BW.out.trans (cur.mono BW.out.size)).setCell (by simp) _).setCell (by simp) _⟩
    · have hno : Hid (∀ st n, ¬ ToldIs s.data.toList st n) := Lib.hid (fun st n' h => hgood (hchk.out st n' h))
      have hbad : xw.size = 0 ∨ (xw.size ≠ 0 ∧ hp = false) ∨ (xw.size ≠ 0 ∧ hp = true ∧ s.size < xb.size + n) := by
        by_cases q : xw.size = 0
        · exact .inl q
        · cases hp
          · exact .inr (.inl ⟨q, rfl⟩)
          · exact .inr (.inr ⟨q, rfl, by
              by_cases h2 : s.size < xb.size + n
              · exact h2
              · exact absurd ⟨q, rfl, by omega⟩ hgood⟩)
      clear hgood hchk hsucc
      rcases hbad with q | ⟨q, rfl⟩ | ⟨q, rfl, q3⟩
      · have d1 := nonempty_size xw q
        clear q
        go_enter Tryz.func18, Tryz.ntmps18
        go_upto_region 12 with (first
          | (go_at_call 29; refine HI.out.mono ?_; rintro e w2 ⟨rfl, rfl⟩)
          | (go_at_call 30; refine (HP.out _ _ _ cur (by assumption)).mono ?_; rintro e w5 ⟨rfl, hb5⟩; have cur := cur.trans (hb5.mono cur.size))
          | (go_at_call 31; refine (HCut.out _ cur).mono ?_; rintro e w5 ⟨rfl, hb5⟩; have cur := cur.trans (hb5.mono cur.size))
          | (go_at_call 27; refine (HW.out _).mono ?_; rintro e w5 ⟨bm, rfl, hM, hb5⟩; have cur := cur.trans (hb5.mono cur.size); have hlk := HLK.out w5 bm hM)
          | (go_at_call 28; refine (HA.out _ cur).mono ?_; rintro e w5 ⟨rfl, hb5⟩; have cur := cur.trans (hb5.mono cur.size))
          | (go_at_call 32; refine (HH.out _).mono ?_; rintro e w5 ⟨rfl, rfl⟩))
        have y := (cur.block _ hlt).trans HB.out
        have f0 := free_of_block y
        obtain ⟨e0, e1⟩ := box2 y
        have Y := Lib.hid y
        clear y
        go_wp2_with fail
        obtain ⟨p0, p1⟩ := box2 (two_sets Y.out (.int .i64 0) (.string ⟨#[]⟩))
        exact bodyPost_ret (v := .tuple #[.agg #[.int .i64 0, .string ⟨#[]⟩], .int .i64 0, .int .i64 4]) (by simp [results, Tryz.results18, go_sem, p0, p1]) rfl ⟨_, rfl, .inr ⟨hno.out, rfl⟩, ((BW.out.trans (cur.mono BW.out.size)).setCell (by simp) _).setCell (by simp) _⟩
      · have d1 := nonempty_size' xw q
        clear q
        go_enter Tryz.func18, Tryz.ntmps18
        go_upto_region 12 with (first
          | (go_at_call 29; refine HI.out.mono ?_; rintro e w2 ⟨rfl, rfl⟩)
          | (go_at_call 30; refine (HP.out _ _ _ cur (by assumption)).mono ?_; rintro e w5 ⟨rfl, hb5⟩; have cur := cur.trans (hb5.mono cur.size))
          | (go_at_call 31; refine (HCut.out _ cur).mono ?_; rintro e w5 ⟨rfl, hb5⟩; have cur := cur.trans (hb5.mono cur.size))
          | (go_at_call 27; refine (HW.out _).mono ?_; rintro e w5 ⟨bm, rfl, hM, hb5⟩; have cur := cur.trans (hb5.mono cur.size); have hlk := HLK.out w5 bm hM)
          | (go_at_call 28; refine (HA.out _ cur).mono ?_; rintro e w5 ⟨rfl, hb5⟩; have cur := cur.trans (hb5.mono cur.size))
          | (go_at_call 32; refine (HH.out _).mono ?_; rintro e w5 ⟨rfl, rfl⟩))
        have y := (cur.block _ hlt).trans HB.out
        have f0 := free_of_block y
        obtain ⟨e0, e1⟩ := box2 y
        have Y := Lib.hid y
        clear y
        go_wp2_with fail
        obtain ⟨p0, p1⟩ := box2 (two_sets Y.out (.int .i64 0) (.string ⟨#[]⟩))
        exact bodyPost_ret (v := .tuple #[.agg #[.int .i64 0, .string ⟨#[]⟩], .int .i64 0, .int .i64 4]) (by simp [results, Tryz.results18, go_sem, p0, p1]) rfl ⟨_, rfl, .inr ⟨hno.out, rfl⟩, ((BW.out.trans (cur.mono BW.out.size)).setCell (by simp) _).setCell (by simp) _⟩
      · have d1 := nonempty_size' xw q
        have d3 : decide ((s.size : Int) < (xb.size : Int) + (n : Int)) = true := decide_eq_true (by omega)
        clear q
        go_enter Tryz.func18, Tryz.ntmps18
        go_upto_region 12 with (first
          | (go_at_call 29; refine HI.out.mono ?_; rintro e w2 ⟨rfl, rfl⟩)
          | (go_at_call 30; refine (HP.out _ _ _ cur (by assumption)).mono ?_; rintro e w5 ⟨rfl, hb5⟩; have cur := cur.trans (hb5.mono cur.size))
          | (go_at_call 31; refine (HCut.out _ cur).mono ?_; rintro e w5 ⟨rfl, hb5⟩; have cur := cur.trans (hb5.mono cur.size))
          | (go_at_call 27; refine (HW.out _).mono ?_; rintro e w5 ⟨bm, rfl, hM, hb5⟩; have cur := cur.trans (hb5.mono cur.size); have hlk := HLK.out w5 bm hM)
          | (go_at_call 28; refine (HA.out _ cur).mono ?_; rintro e w5 ⟨rfl, hb5⟩; have cur := cur.trans (hb5.mono cur.size))
          | (go_at_call 32; refine (HH.out _).mono ?_; rintro e w5 ⟨rfl, rfl⟩))
        have y := (cur.block _ hlt).trans HB.out
        have f0 := free_of_block y
        obtain ⟨e0, e1⟩ := box2 y
        have Y := Lib.hid y
        clear y
        go_wp2_with fail
        obtain ⟨p0, p1⟩ := box2 (two_sets Y.out (.int .i64 0) (.string ⟨#[]⟩))
        exact bodyPost_ret (v := .tuple #[.agg #[.int .i64 0, .string ⟨#[]⟩], .int .i64 0, .int .i64 4]) (by simp [results, Tryz.results18, go_sem, p0, p1]) rfl ⟨_, rfl, .inr ⟨hno.out, rfl⟩, ((BW.out.trans (cur.mono BW.out.size)).setCell (by simp) _).setCell (by simp) _⟩
  · have hno : Hid (∀ st n, ¬ ToldIs s.data.toList st n) := Lib.hid (fun st n h => by
      obtain ⟨q1, _, q3, q4, q5, q6⟩ := hyes.out st n h
      exact hgood ⟨q1, q3, by omega, by omega⟩)
    have hbad : o1 = false ∨ (o1 = true ∧ o2 = false) ∨ (o1 = true ∧ o2 = true ∧ a2 < 0) ∨ (o1 = true ∧ o2 = true ∧ 0 ≤ a2 ∧ (s.size : Int) < a2) := by
      cases o1
      · exact .inl rfl
      · cases o2
        · exact .inr (.inl ⟨rfl, rfl⟩)
        · by_cases h : a2 < 0
          · exact .inr (.inr (.inl ⟨rfl, rfl, h⟩))
          · exact .inr (.inr (.inr ⟨rfl, rfl, by omega, by
              by_cases h2 : (s.size : Int) < a2
              · exact h2
              · exact absurd ⟨rfl, rfl, by omega, by omega⟩ hgood⟩))
    clear hgood
    rcases hbad with rfl | ⟨rfl, rfl⟩ | ⟨rfl, rfl, h0⟩ | ⟨rfl, rfl, h0, h1⟩
    all_goals
      go_enter Tryz.func18, Tryz.ntmps18
      go_upto_region 8 with (first
        | (go_at_call 29; refine HI.out.mono ?_; rintro e w2 ⟨rfl, rfl⟩)
        | (go_at_call 30; refine (HP.out _ _ _ cur (by assumption)).mono ?_; rintro e w5 ⟨rfl, hb5⟩; have cur := cur.trans (hb5.mono cur.size))
        | (go_at_call 31; refine (HCut.out _ cur).mono ?_; rintro e w5 ⟨rfl, hb5⟩; have cur := cur.trans (hb5.mono cur.size)))
      have y := (cur.block _ hlt).trans HB.out
      have f0 := free_of_block y
      obtain ⟨e0, e1⟩ := box2 y
      have Y := Lib.hid y
      clear y
      go_wp2_with fail
      obtain ⟨q0, q1⟩ := box2 (two_sets Y.out (.int .i64 0) (.string ⟨#[]⟩))
      exact bodyPost_ret (v := .tuple #[.agg #[.int .i64 0, .string ⟨#[]⟩], .int .i64 0, .int .i64 4]) (by simp [results, Tryz.results18, go_sem, q0, q1]) rfl ⟨_, rfl, .inr ⟨hno.out, rfl⟩, ((BW.out.trans (cur.mono BW.out.size)).setCell (by simp) _).setCell (by simp) _⟩

theorem told_any (w : World) (hg : Gnd w) (s : ByteArray) (hs : s.size ≤ 300000) :
    Calls Tryz.prog 18 #[.string s] w fun e w' => ∃ r, e = .returned r ∧ ToldV s (.int .i64 0) (.int .i64 4) r ∧ Below w.heap.size w w' := by
  by_cases h : Lib.index s.data.toList clenL < 13 ∨ 100 < Lib.index s.data.toList clenL
  · exact told_far w hg s hs h
  · obtain ⟨k, hk⟩ : ∃ k : Nat, Lib.index s.data.toList clenL = k := ⟨(Lib.index s.data.toList clenL).toNat, by omega⟩
    have hr := Lib.index_room s.data.toList clenL (by omega)
    have e1 : clenL.length = 18 := rfl
    rw [hk, e1, Array.length_toList] at hr
    have e2 : s.data.size = s.size := rfl
    exact told_near w hg s hs k hk (by omega) (by omega) (by omega)
end Go.Proofs.YtlgfhbfdjckdnaaGreatDoor
