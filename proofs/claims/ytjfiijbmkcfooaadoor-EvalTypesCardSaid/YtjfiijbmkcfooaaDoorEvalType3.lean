/- expr.typeOf is typeN at a node that may be; expr.Type; may. -/
import Derived.Test.YtjfiijbmkcfooaaDoorEvalType2
import Derived.Test.YtjfiijbmkcfooaaDoorEvalGood2
set_option maxRecDepth 100000
namespace Go.Proofs.YtjfiijbmkcfooaaDoor
open Go.RowKit

mutual
theorem type_N (l : List Bd) : ∀ n : Nd, checkN n = true → ∀ (W : World) (vk vv : Value), KidsR W W.heap.size vk n.kids → BdsR W W.heap.size vv l →
    Calls Tryd.prog 34 #[valN n vk, vv] W fun e w' => e = .returned (.tuple #[.int .u8 (typeN l n).1, .int .i64 (typeN l n).2]) ∧ Below W.heap.size W w'
  | .mk op v nm ks, hc, W, vk, vv, hk, hl => by
    have h' : (headB op v nm ks.length && checkL ks) = true := hc
    rw [Bool.and_eq_true] at h'
    obtain ⟨h1, h2⟩ := h'
    obtain ⟨k1, -⟩ := head_facts h1
    have hL := type_L l ks h2
    have et : typeN l (.mk op v nm ks) = if op = 1 then ((v.kind, 0) : Int × Int) else if op = 2 then varT l nm else typeK op (typeL l ks) := rfl
    rw [et]
    by_cases o1 : op = 1
    · subst o1; exact type_lit W v nm vk vv
    rw [if_neg o1]
    by_cases o2 : op = 2
    · subst o2; exact type_var W v nm vk vv l hl
    rw [if_neg o2]
    exact type_node W op v nm ks vk vv l (by simpa using o1) (by simpa using o2) hk (by unfold kidsN at k1; split at k1 <;> (try split at k1) <;> (try split at k1) <;> omega) (fun i hi vk' W' hb hk' _ => hL i hi W' vk' vv hk' (hl.to hb))
theorem type_L (l : List Bd) : ∀ ks : List Nd, checkL ks = true → ∀ i (hi : i < ks.length) (W : World) (vk vv : Value), KidsR W W.heap.size vk ks[i].kids → BdsR W W.heap.size vv l →
    Calls Tryd.prog 34 #[valN ks[i] vk, vv] W fun e w' => e = .returned (.tuple #[.int .u8 (typeN l ks[i]).1, .int .i64 (typeN l ks[i]).2]) ∧ Below W.heap.size W w'
  | [], _, i, hi, _, _, _, _, _ => absurd hi (by simp)
  | a :: r, h, 0, _, W, vk, vv, hk, hl => by
    have h' : (checkN a && checkL r) = true := h
    rw [Bool.and_eq_true] at h'
    exact type_N l a h'.1 W vk vv hk hl
  | a :: r, h, i + 1, hi, W, vk, vv, hk, hl => by
    have h' : (checkN a && checkL r) = true := h
    rw [Bool.and_eq_true] at h'
    exact type_L l r h'.2 i (by simp at hi; omega) W vk vv hk hl
end
/-- No error of typing is that of a node that may not be. -/
theorem typeC_ne (op : Int) (ks : List Int) : (typeC op ks).2 = 0 ∨ (typeC op ks).2 = 90 := by
  unfold typeC
  split
  · exact Or.inr rfl
  · split
    · exact Or.inr rfl
    · split
      · exact Or.inl rfl
      · split
        · exact Or.inl rfl
        · split
          · exact Or.inl rfl
          · split
            · exact Or.inl rfl
            · exact Or.inr rfl
mutual
theorem typeN_ne (l : List Bd) : ∀ n : Nd, (typeN l n).2 ≠ 1
  | .mk op v nm ks => by
    have et : typeN l (.mk op v nm ks) = if op = 1 then ((v.kind, 0) : Int × Int) else if op = 2 then varT l nm else typeK op (typeL l ks) := rfl
    rw [et]
    split
    · exact (by decide : (0 : Int) ≠ 1)
    · split
      · unfold varT
        split
        · exact (by decide : (100 : Int) ≠ 1)
        · exact (by decide : (0 : Int) ≠ 1)
      · unfold typeK
        split
        · rcases typeC_ne op (typeL l ks).1 with h | h <;> rw [h] <;> decide
        · exact typeL_ne l ks
theorem typeL_ne (l : List Bd) : ∀ ks : List Nd, (typeL l ks).2 ≠ 1
  | [] => (by decide : (0 : Int) ≠ 1)
  | k :: r => by
    have e : typeL l (k :: r) = if (typeN l k).2 = 0 then (if (typeL l r).2 = 0 then ((typeN l k).1 :: (typeL l r).1, 0) else ([], (typeL l r).2)) else ([], (typeN l k).2) := rfl
    rw [e]
    split
    · split
      · exact (by decide : (0 : Int) ≠ 1)
      · exact typeL_ne l r
    · exact typeN_ne l k
end

def tyE (l : List Bd) (n : Nd) : Int × Int := if checkN n then typeN l n else (0, 1)
set_option maxHeartbeats 1000000 in
theorem typ_any (w : World) (n : Nd) (vk vv : Value) (l : List Bd) (hn : NdR w w.heap.size vk n) (hl : BdsR w w.heap.size vv l) (hT : Tabs8 w) :
    Calls Tryd.prog 17 #[valN n vk, vv] w fun e w' => e = .returned (.tuple #[.int .u8 (tyE l n).1, .int .i64 (tyE l n).2]) ∧ Below w.heap.size w w' := by
  obtain ⟨w1, p0, hp0, hw1, l1, n1, b1⟩ := box_new w (objN n.op n.v n.name vk)
  obtain ⟨c0, c1, c2, c3, c4, c5, c6⟩ := n_cells n1
  have HP := Lib.hid (fun V (h : Below w1.heap.size w1 V) => n_cells ((h.block p0 l1).trans n1))
  have HB := Lib.hid b1
  have KC := Lib.hid (check_N n hn.1 w1 vk (Utf8Tabs_below hT b1) (hn.to b1).2)
  obtain ⟨z, hz⟩ : ∃ z, tyE l n = z := ⟨_, rfl⟩
  rw [hz]
  cases hc : checkN n with
  | false =>
    rw [hc] at KC
    have HZ := Lib.hid (show z = (0, 1) by rw [← hz]; unfold tyE; rw [hc]; rfl)
    clear hz hc n1 b1 hn hl hT
    go_enter Tryd.func17, Tryd.ntmps17
    go_wp2_with (go_at_call 9; refine KC.out.mono ?_; rintro e w3 ⟨rfl, hb3⟩; refine Hid.out ?_)
    refine Lib.hid ?_
    have HE := Lib.hid (HB.out.trans (hb3.mono HB.out.size))
    clear hb3
    go_wp2_with fail
    go_ret2
    exact ⟨ret_pair HZ.out, HE.out⟩
  | true =>
    rw [hc] at KC
    have HK := Lib.hid (fun W (h : Below w1.heap.size w1 W) => type_N l n hc W vk vv ((hn.to b1).to h).2 ((hl.to b1).to h))
    have hz2 : typeN l n = z := by rw [← hz]; unfold tyE; rw [hc]; rfl
    rw [hz2] at HK
    clear hz hc n1 b1 hn hl hT hz2
    go_enter Tryd.func17, Tryd.ntmps17
    go_wp2_with (go_at_call 9; refine KC.out.mono ?_; rintro e w3 ⟨rfl, hb3⟩; refine Hid.out ?_)
    refine Lib.hid ?_
    have HE := Lib.hid (HB.out.trans (hb3.mono HB.out.size))
    have HK3 := Lib.hid (HK.out w3 hb3)
    clear c0 c1 c2 c3 c4 c5 c6
    obtain ⟨c0, c1, c2, c3, c4, c5, c6⟩ := HP.out w3 hb3
    clear hb3
    go_wp2_with (go_at_call 34; refine HK3.out.mono ?_; rintro e w4 ⟨rfl, hb4⟩; refine Hid.out ?_)
    refine Lib.hid ?_
    have HF := Lib.hid (HE.out.trans (hb4.mono HE.out.size))
    clear hb4
    go_wp2_with fail
    go_ret2
    exact ⟨rfl, HF.out⟩

def mayB (l : List Bd) : Bool := l.all (fun b => checkB b.val)
set_option maxHeartbeats 1000000 in
theorem may_any (w : World) (vv : Value) (l : List Bd) (hl : BdsR w w.heap.size vv l) (hT : Tabs8 w) :
    Calls Tryd.prog 16 #[vv] w fun e w' => e = .returned (.bool (mayB l)) ∧ Below w.heap.size w w' := by
  have HR := Lib.hid hl
  have hll : l.length ≤ 2513169435000 := by obtain ⟨_, _, _, h, _⟩ := hl; omega
  obtain ⟨a, c, rfl⟩ := hl.val
  have HT := Lib.hid hT
  obtain ⟨z, hz⟩ : ∃ z, mayB l = z := ⟨_, rfl⟩
  rw [hz]
  have HZ := Lib.hid hz
  clear hl hT hz
  go_enter Tryd.func16, Tryd.ntmps16
  go_wp2_with fail
  go_loopg [3] l.length (fun g s3 wr => ∃ k : Nat, k + g = l.length ∧ s3 = .int .i64 (k : Int) ∧ Hid (∀ j (h : j < l.length), j < k → checkB l[j].val = true) ∧ Below w.heap.size w wr)
  case atStart => exact ⟨0, by omega, rfl, Lib.hid (fun j h h2 => by omega), Below.refl _ _⟩
  case round =>
    obtain ⟨k, hkg, rfl, hZ, hB⟩ := hrel
    by_cases hk : k < l.length
    · obtain ⟨b, o, rfl, hb, hv, -, -, c1, c2, c3, c4⟩ := (HR.out.mono hB (Nat.le_refl _)).at hk
      have HZ1 := Lib.hid (show checkB l[k].val = true → ∀ j (h : j < l.length), j < k + 1 → checkB l[j].val = true from fun h0 j hj hjk => by
        by_cases e : j = k
        · subst e; exact h0
        · exact hZ.out j hj (by omega))
      have HZ0 := Lib.hid (show checkB l[k].val = false → z = false from fun h0 => by
        rw [← HZ.out]
        unfold mayB
        rw [List.all_eq_false]
        exact ⟨_, List.getElem_mem hk, by rw [h0]; exact Bool.false_ne_true⟩)
      obtain ⟨x, hx⟩ : ∃ x, l[k].val = x := ⟨_, rfl⟩
      rw [hx] at c1 c2 c3 c4 hv HZ1 HZ0
      have HC := Lib.hid (vcheck_any wr x hv (Utf8Tabs_below HT.out hB))
      have HBr := Lib.hid hB
      have dk : decide (k < l.length) = true := decide_eq_true hk
      have k1 : (0 : Int) ≤ (k : Int) := by omega
      have k2 : (k : Int) < (l.length : Int) := by omega
      clear hx hB hZ hv
      cases hp : checkB x with
      | false =>
        have Hf := Lib.hid (HZ0.out hp)
        have he : checkE x = 1 := by unfold checkE; rw [hp]; rfl
        rw [he] at HC
        clear hp he HZ0 HZ1
        go_wp2_with (go_at_call 18; refine HC.out.mono ?_; rintro e w2 ⟨rfl, hb2⟩; refine Hid.out ?_)
        refine Lib.hid ?_
        have HB2 := Lib.hid (HBr.out.trans (hb2.mono HBr.out.size))
        clear hb2
        go_wp2_with fail
        go_ret
        exact ⟨ret_bool Hf.out.symm, HB2.out⟩
      | true =>
        have Hf := Lib.hid (HZ1.out hp)
        have he : checkE x = 0 := by unfold checkE; rw [hp]; rfl
        rw [he] at HC
        clear hp he HZ0 HZ1
        go_wp2_with (go_at_call 18; refine HC.out.mono ?_; rintro e w2 ⟨rfl, hb2⟩; refine Hid.out ?_)
        refine Lib.hid ?_
        have HB2 := Lib.hid (HBr.out.trans (hb2.mono HBr.out.size))
        clear hb2
        go_wp2_with fail
        go_roundg (gk - 1)
        case measure => omega
        case rel => exact ⟨k + 1, by omega, by go_num, Hf, HB2.out⟩
    · have Hf : Hid (z = true) := Lib.hid (by
        rw [← HZ.out]
        unfold mayB
        rw [List.all_eq_true]
        intro b hb
        obtain ⟨j, hj, rfl⟩ := List.getElem_of_mem hb
        exact hZ.out j hj (by omega))
      have dk : decide (k < l.length) = false := decide_eq_false hk
      have HBr := Lib.hid hB
      clear hB
      go_wp2_with fail
      go_ret
      exact ⟨ret_bool Hf.out.symm, HBr.out⟩
end Go.Proofs.YtjfiijbmkcfooaaDoor
