/- Texts fused by fuse.py: KExprNext. -/
import Derived.Test.YtjcaaahbfkjipaaGreatDoorKZ24
import Derived.Test.YtjcaaahbfkjipaaGreatDoorKZ25
import Derived.Test.YtjcaaahbfkjipaaGreatDoorKZ26
import Derived.Lib.TrimByte
/- Of ExprNext: what FRuleNames uses (shake.py). -/
set_option maxRecDepth 100000
/- (*lexer).next (seat expr). -/
namespace Go.Proofs.YtjcaaahbfkjipaaGreatDoor
open Go.RowKit
/-- The lexer at a token. -/
def LxT (w : World) (px : Nat) (s : ByteArray) (st : Tk × Nat) : Prop := match st.1 with
  | .fin a => LxN w px s (st.2 : Int) nilN ⟨#[]⟩ (a : Int) true 0 0
  | .nd n a => LxN w px s (st.2 : Int) n ⟨#[]⟩ (a : Int) false 0 0
  | .say u a => LxN w px s (st.2 : Int) nilN ⟨u.toArray⟩ (a : Int) false 0 0
def nextR (w : World) (px : Nat) (s : ByteArray) (r : Rs (Tk × Nat)) : Prop := match r with
  | .ok st => LxT w px s st
  | .error (e, a) => LxE w px s e (a : Int)
theorem trim_rest (s : ByteArray) (i : Nat) (hi : i ≤ s.size) : ∃ rest : ByteArray, (⟨(Lib.trimLeftB (s.extract i s.size).data.toList 32).toArray⟩ : ByteArray) = rest ∧ rest.data.toList = (s.data.toList.drop i).dropWhile (· == 32) ∧ rest.size + i ≤ s.size := by
  have e : (s.extract i s.size).data.toList = s.data.toList.drop i := by
    rw [ByteArray.data_extract, Array.toList_extract, List.extract_eq_take_drop]
    rw [List.take_of_length_le (by rw [List.length_drop, Array.length_toList]; exact Nat.le_refl _)]
  refine ⟨_, rfl, ?_, ?_⟩
  · rw [e]; rfl
  · rw [e]
    have h0 : (⟨(Lib.trimLeftB (s.data.toList.drop i) 32).toArray⟩ : ByteArray).size = ((s.data.toList.drop i).dropWhile (· == 32)).length := by
      show (Lib.trimLeftB (s.data.toList.drop i) 32).toArray.size = _
      rw [List.size_toArray]; rfl
    have := dropWhile_le (· == 32) (s.data.toList.drop i)
    rw [List.length_drop] at this
    have hz : s.data.toList.length = s.size := by rw [Array.length_toList]; rfl
    omega
/-- A whole token is laid. -/
theorem lx_tok {W : World} {px : Nat} {s : ByteArray} {at_ op kind num : Int} {tr : Bool} {text name : ByteArray} {vk : Value} {say : ByteArray} {ta : Int} {en : Bool} {e wh : Int} (h : LxB W px s at_ op kind num tr text name vk say ta en e wh) (a : Int) :
    LxB ((((((((((( W.setCell ⟨px, 1, none⟩ (.int .i64 a)).setCell ⟨px, 2, none⟩ (.int .u8 0)).setCell ⟨px, 3, none⟩ (.int .u8 0)).setCell ⟨px, 4, none⟩ (.int .i64 0)).setCell ⟨px, 5, none⟩ (.bool false)).setCell ⟨px, 6, none⟩ (.string ⟨#[]⟩)).setCell ⟨px, 7, none⟩ (.string ⟨#[]⟩)).setCell ⟨px, 8, none⟩ (.slice none 0 0)).setCell ⟨px, 9, none⟩ (.string ⟨#[]⟩)).setCell ⟨px, 10, none⟩ (.int .i64 a)).setCell ⟨px, 11, none⟩ (.bool true)) px s a 0 0 0 false ⟨#[]⟩ ⟨#[]⟩ (.slice none 0 0) ⟨#[]⟩ a true e wh :=
  lx_s11 (lx_s10 (lx_s9 (lx_s8 (lx_s7 (lx_s6 (lx_s5 (lx_s4 (lx_s3 (lx_s2 (lx_s1 h a) 0) 0) 0) false) ⟨#[]⟩) ⟨#[]⟩) (.slice none 0 0)) ⟨#[]⟩) a) true
theorem frm_tok {w W : World} {px : Nat} (h : Frm [some px] w W) (v1 v2 v3 v4 v5 v6 v7 v8 v9 v10 v11 : Value) :
    Frm [some px] w ((((((((((( W.setCell ⟨px, 1, none⟩ v1).setCell ⟨px, 2, none⟩ v2).setCell ⟨px, 3, none⟩ v3).setCell ⟨px, 4, none⟩ v4).setCell ⟨px, 5, none⟩ v5).setCell ⟨px, 6, none⟩ v6).setCell ⟨px, 7, none⟩ v7).setCell ⟨px, 8, none⟩ v8).setCell ⟨px, 9, none⟩ v9).setCell ⟨px, 10, none⟩ v10).setCell ⟨px, 11, none⟩ v11) :=
  (((((((((((h.setL _ (by simp)).setL _ (by simp)).setL _ (by simp)).setL _ (by simp)).setL _ (by simp)).setL _ (by simp)).setL _ (by simp)).setL _ (by simp)).setL _ (by simp)).setL _ (by simp)).setL _ (by simp))
set_option maxHeartbeats 4000000 in
/-- Behind an error the next token is none. -/
theorem nexterr_any (w : World) (px : Nat) (s : ByteArray) (hs : s.size ≤ 1000) (e wh : Int) (he : e ≠ 0) (hb : LxE w px s e wh) :
    Calls Tryz.prog 125 #[.pointer (some ⟨px, 0, none⟩)] w fun r w' => r = .returned (.tuple #[]) ∧ Frm [some px] w w' ∧ LxE w' px s e wh := by
  obtain ⟨i, say, hi, hsay, op, kind, num, tr, text, name, vk, ta, en, hb⟩ := hb
  obtain ⟨rest, hr1, hr2, hr3⟩ := trim_rest s i hi
  have HT : Hid (∀ W, Calls Tryz.prog 144 #[.string (s.extract i s.size), .string ⟨#[32]⟩] W fun e w' => e = .returned (.string rest) ∧ W = w') := Lib.hid (fun W => (Tryz.strings_TrimLeft_one (s.extract i s.size) 32 (by decide) W).mono (fun _ _ h => ⟨by rw [h.1, hr1], h.2.symm⟩))
  have hl := lt_of_block hb
  have c0 : w.cell? ⟨px, 0, none⟩ = some (.string s) := cell_of_block hb 0
  have c1 : w.cell? ⟨px, 1, none⟩ = some (.int .i64 (i : Int)) := cell_of_block hb 1
  have HB := Lib.hid hb
  have ee : (e != 0) = true := by rw [bne_iff_ne]; exact he
  clear hb hr1 hr2 he
  go_enter Tryz.func125, Tryz.ntmps125
  go_wp2_with fail
  go_cut [2] (fun s2 wx => ∃ w9, w9 = wx ∧ s2 = .string rest ∧ Below w.heap.size w w9)
  case first =>
    go_quiet ((go_at_call 144; exact quiet_left (HT.out _)))
    go_wp2_with fail
    go_meet
    exact ⟨_, rfl, rfl, below_drewN' _⟩
  case rest =>
    obtain ⟨w9, rfl, rfl, hb9⟩ := hcut
    have hbk := (hb9.block _ hl).trans HB.out
    have d0 : w9.cell? ⟨px, 0, none⟩ = some (.string s) := cell_of_block hbk 0
    have d1 : w9.cell? ⟨px, 1, none⟩ = some (.int .i64 (i : Int)) := cell_of_block hbk 1
    have d2 : w9.cell? ⟨px, 2, none⟩ = some (.int .u8 op) := cell_of_block hbk 2
    have d3 : w9.cell? ⟨px, 3, none⟩ = some (.int .u8 kind) := cell_of_block hbk 3
    have d4 : w9.cell? ⟨px, 4, none⟩ = some (.int .i64 num) := cell_of_block hbk 4
    have d5 : w9.cell? ⟨px, 5, none⟩ = some (.bool tr) := cell_of_block hbk 5
    have d6 : w9.cell? ⟨px, 6, none⟩ = some (.string text) := cell_of_block hbk 6
    have d7 : w9.cell? ⟨px, 7, none⟩ = some (.string name) := cell_of_block hbk 7
    have d8 : w9.cell? ⟨px, 8, none⟩ = some vk := cell_of_block hbk 8
    have d9 : w9.cell? ⟨px, 9, none⟩ = some (.string say) := cell_of_block hbk 9
    have d10 : w9.cell? ⟨px, 10, none⟩ = some (.int .i64 ta) := cell_of_block hbk 10
    have d11 : w9.cell? ⟨px, 11, none⟩ = some (.bool en) := cell_of_block hbk 11
    have d12 : w9.cell? ⟨px, 12, none⟩ = some (.int .i64 e) := cell_of_block hbk 12
    have f9 := free_of_block hbk
    have HB9 := Lib.hid hbk
    have HF9 : Hid (Frm [some px] w w9) := Lib.hid (Frm.ofBelow hb9)
    clear hbk hb9 c0 c1
    go_wp2_with fail
    all_goals
      refine bodyPost_ret (results_none rfl _ _ _) rfl ?_
      have hz := lx_tok HB9.out ((s.size : Int) - (rest.size : Int))
      refine ⟨rfl, frm_tok HF9.out _ _ _ _ _ _ _ _ _ _ _, s.size - rest.size, ⟨#[]⟩, by omega, by show 0 ≤ _; omega, ?_⟩
      rw [show ((s.size - rest.size : Nat) : Int) = (s.size : Int) - (rest.size : Int) by omega]
      exact ⟨_, _, _, _, _, _, _, _, _, hz⟩
/-- What the library's variables hold: tables, sentinels. -/
structure Gd (w : World) : Prop where
  t8 : Tabs8 w
  es : ∃ t p, w.cell? ⟨2, 0, none⟩ = some (.iface t p)
  er : ∃ t p, w.cell? ⟨3, 0, none⟩ = some (.iface t p)
/-- .. and whatever happens from B on. -/
def GA (B : Nat) (w : World) : Prop := ∀ W, Below B w W → Gd W
theorem GA.step {B : Nat} {w w' : World} (h : GA B w) (hb : Below B w w') : GA B w' := fun W hW => h W (hb.trans hW)
theorem GA.now {B : Nat} {w : World} (h : GA B w) : Gd w := h w (Below.refl _ _)
theorem GA.frm {B px : Nat} {w w' : World} (h : GA B w) (hp : B ≤ px) (hB : B ≤ w.heap.size) (hF : Frm [some px] w w') : GA B w' :=
  h.step (hF.toBelow hB (by intro r hr k hk; simp only [List.mem_singleton] at hr; rw [hr] at hk; injection hk with hk; omega))
theorem cell_lt {w : World} {b o : Nat} {v : Value} (h : w.cell? ⟨b, o, none⟩ = some v) : b < w.heap.size := by
  by_cases hb : b < w.heap.size
  · exact hb
  · have : w.heap[b]? = none := Array.getElem?_eq_none (by omega)
    simp [World.cell?, this] at h
theorem cell_kept {w W : World} {b o : Nat} {v : Value} (h : w.cell? ⟨b, o, none⟩ = some v) (hb : Below w.heap.size w W) : W.cell? ⟨b, o, none⟩ = some v := (Below.cellB hb (cell_lt h)).trans h
theorem lx_head {w W : World} {px : Nat} {s : ByteArray} {at_ op kind num : Int} {tr : Bool} {text name : ByteArray} {vk : Value} {say : ByteArray} {ta : Int} {en : Bool} {e wh : Int} (h : LxB W px s at_ op kind num tr text name vk say ta en e wh) (hF : Frm [some px] w W) (a : Int) :
    LxB (((((((((((( W.setCell ⟨px, 1, none⟩ (.int .i64 a)).setCell ⟨px, 2, none⟩ (.int .u8 0)).setCell ⟨px, 3, none⟩ (.int .u8 0)).setCell ⟨px, 4, none⟩ (.int .i64 0)).setCell ⟨px, 5, none⟩ (.bool false)).setCell ⟨px, 6, none⟩ (.string ⟨#[]⟩)).setCell ⟨px, 7, none⟩ (.string ⟨#[]⟩)).setCell ⟨px, 8, none⟩ (.slice none 0 0)).setCell ⟨px, 9, none⟩ (.string ⟨#[]⟩)).setCell ⟨px, 10, none⟩ (.int .i64 a)).setCell ⟨px, 11, none⟩ (.bool true)).setCell ⟨px, 11, none⟩ (.bool false)) px s a 0 0 0 false ⟨#[]⟩ ⟨#[]⟩ (.slice none 0 0) ⟨#[]⟩ a false e wh ∧
    Frm [some px] w (((((((((((( W.setCell ⟨px, 1, none⟩ (.int .i64 a)).setCell ⟨px, 2, none⟩ (.int .u8 0)).setCell ⟨px, 3, none⟩ (.int .u8 0)).setCell ⟨px, 4, none⟩ (.int .i64 0)).setCell ⟨px, 5, none⟩ (.bool false)).setCell ⟨px, 6, none⟩ (.string ⟨#[]⟩)).setCell ⟨px, 7, none⟩ (.string ⟨#[]⟩)).setCell ⟨px, 8, none⟩ (.slice none 0 0)).setCell ⟨px, 9, none⟩ (.string ⟨#[]⟩)).setCell ⟨px, 10, none⟩ (.int .i64 a)).setCell ⟨px, 11, none⟩ (.bool true)).setCell ⟨px, 11, none⟩ (.bool false)) :=
  ⟨lx_s11 (lx_tok h a) false, (frm_tok hF _ _ _ _ _ _ _ _ _ _ _).setL _ (by simp)⟩
theorem eg_digit : ∀ args (w : World), (callFunc 145 args).run Tryz.prog w = .ok (.enter 145 args) w := enters_of Tryz.func145 (by kernel_rfl) rfl
theorem eg_inName : ∀ args (w : World), (callFunc 149 args).run Tryz.prog w = .ok (.enter 149 args) w := enters_of Tryz.func149 (by kernel_rfl) rfl
theorem dig_hi (x : Nat) (h : 127 < x) : digE x = false := by unfold digE; rw [decide_eq_false (by omega : ¬ x ≤ 57), Bool.and_false]
theorem inNm_hi (x : Nat) (h : 127 < x) : inNm x = false := by
  unfold inNm letE
  rw [dig_hi x h, decide_eq_false (by omega : ¬ x ≤ 122), decide_eq_false (by omega : ¬ x ≤ 90), beq_eq_false_iff_ne.2 (by omega : x ≠ 45), beq_eq_false_iff_ne.2 (by omega : x ≠ 95), beq_eq_false_iff_ne.2 (by omega : x ≠ 46)]
  simp
theorem take_ext (s : ByteArray) (n : Nat) : (s.extract 0 n).data.toList = s.data.toList.take n := by
  rw [ByteArray.data_extract, Array.toList_extract, List.extract_eq_take_drop]
  simp
theorem lx_any {w : World} {px : Nat} {s : ByteArray} {at_ ta : Int} {d : ByteArray} (h : wordR w px s at_ ta d) : ∃ op kind num tr text name vk say ta en e wh, LxB w px s at_ op kind num tr text name vk say ta en e wh := by
  unfold wordR at h
  split at h
  · exact ⟨_, _, _, _, _, _, _, _, _, _, _, _, h⟩
  · split at h
    · exact ⟨_, _, _, _, _, _, _, _, _, _, _, _, h⟩
    · split at h
      · exact ⟨_, _, _, _, _, _, _, _, _, _, _, _, h⟩
      · split at h
        · exact ⟨_, _, _, _, _, _, _, _, _, _, _, _, h⟩
        · obtain ⟨_, _, _, _, _, _, _, _, _, h⟩ := h
          exact ⟨_, _, _, _, _, _, _, _, _, _, _, _, h⟩
theorem lx_anyN {w : World} {px : Nat} {s : ByteArray} {at_ ta : Int} {d : ByteArray} {h0 : 0 < d.size} (h : numR w px s at_ ta d h0) : ∃ op kind num tr text name vk say ta en e wh, LxB w px s at_ op kind num tr text name vk say ta en e wh := by
  unfold numR at h
  split at h
  · obtain ⟨_, _, _, _, _, _, _, _, _, h⟩ := h
    exact ⟨_, _, _, _, _, _, _, _, _, _, _, _, h⟩
  · split at h
    · obtain ⟨_, _, _, _, _, _, _, _, _, h⟩ := h
      exact ⟨_, _, _, _, _, _, _, _, _, _, _, _, h⟩
    · exact ⟨_, _, _, _, _, _, _, _, _, _, _, _, h⟩
theorem lxF_next {w : World} {px : Nat} {s : ByteArray} {at_ e wh a' : Int} {n : Nat} (h : LxF w px s at_ ⟨#[]⟩ e wh) (ha : a' = (n : Int)) (hn : n ≤ s.size) : LxE (w.setCell ⟨px, 1, none⟩ (.int .i64 a')) px s e wh := by
  obtain ⟨_, _, _, _, _, _, _, _, _, h⟩ := h
  refine ⟨n, ⟨#[]⟩, hn, by show 0 ≤ _; omega, ?_⟩
  rw [ha]
  exact ⟨_, _, _, _, _, _, _, _, _, lx_s1 h _⟩
theorem num_next {w : World} {px : Nat} {s rest : ByteArray} {b : UInt8} {r : List UInt8} (hr : rest.data.toList = b :: r) (hs : rest.size ≤ s.size) (hd : digE b.toNat = true) {d : ByteArray} (h0 : 0 < d.size) (hdl : d.data.toList = rest.data.toList.take (spanE digE rest.data.toList))
    {A : Int} (hA : A = ((s.size - rest.size : Nat) : Int)) (h : numR w px s A A d h0) : nextR (w.setCell ⟨px, 1, none⟩ (.int .i64 (A + (spanE digE rest.data.toList : Int)))) px s (tokE rest.data.toList (s.size - rest.size)) := by
  have hrl : rest.data.toList.length = rest.size := by rw [Array.length_toList]; rfl
  have hsp := spanE_le' digE rest.data.toList
  have htl := take_le_span digE rest.data.toList
  have hdz : d.size = spanE digE rest.data.toList := by rw [← htl, ← hdl, Array.length_toList]; rfl
  have hsp1 := spanE_pos digE b r hd
  rw [← hr] at hsp1
  have hd0 : d[0].toNat = 48 ↔ b = 48 := by
    have e : d[0] = b := by
      have e1 : d.data.toList[0]? = some b := by rw [hdl, hr, List.getElem?_take, if_pos (by rw [← hr]; omega)]; rfl
      have e2 : d.data.toList[0]? = some d[0] := by
        rw [List.getElem?_eq_getElem (by rw [Array.length_toList]; exact h0)]; rfl
      rw [e1] at e2
      exact (Option.some.inj e2).symm
    rw [e]
    exact ⟨fun h => UInt8.toNat_inj.1 h, fun h => by rw [h]; rfl⟩
  have ht : tokE rest.data.toList (s.size - rest.size) = if b = 48 ∧ 1 < (rest.data.toList.take (spanE digE rest.data.toList)).length then .error (4, s.size - rest.size) else
      match intE (rest.data.toList.take (spanE digE rest.data.toList)) with
      | none => .error (91, s.size - rest.size)
      | some n => .ok (.nd (litN (numV n)) (s.size - rest.size), s.size - rest.size + (rest.data.toList.take (spanE digE rest.data.toList)).length) := by
    rw [hr]; unfold tokE; simp only; rw [if_pos hd]; rfl
  rw [ht]
  unfold numR at h
  have hc : (d[0].toNat = 48 ∧ 1 < d.size) ↔ (b = 48 ∧ 1 < (rest.data.toList.take (spanE digE rest.data.toList)).length) := by rw [hd0, hdz, htl]
  have hat : A + (spanE digE rest.data.toList : Int) = ((s.size - rest.size + spanE digE rest.data.toList : Nat) : Int) := by omega
  by_cases hz : b = 48 ∧ 1 < (rest.data.toList.take (spanE digE rest.data.toList)).length
  · rw [if_pos (hc.2 hz)] at h
    rw [if_pos hz]
    rw [hA] at h
    exact lxF_next h hat (by omega)
  · rw [if_neg (fun e => hz (hc.1 e))] at h
    rw [if_neg hz]
    rw [hdl] at h
    cases hi : intE (rest.data.toList.take (spanE digE rest.data.toList)) with
    | none =>
      rw [hi] at h
      simp only at h
      rw [hA] at h
      exact lxF_next h hat (by omega)
    | some v =>
      rw [hi] at h
      simp only at h
      have hat2 : A + (spanE digE rest.data.toList : Int) = ((s.size - rest.size + (rest.data.toList.take (spanE digE rest.data.toList)).length : Nat) : Int) := by rw [htl]; omega
      rw [hat2]
      rw [hA] at h
      exact lx_s1 h _
theorem word_next {w : World} {px : Nat} {s rest : ByteArray} {b : UInt8} {r : List UInt8} (hr : rest.data.toList = b :: r) (hs : rest.size ≤ s.size) (hd : digE b.toNat = false) (hl : letE b.toNat = true) {d : ByteArray} (hdl : d.data.toList = rest.data.toList.take (spanE inNm rest.data.toList))
    {A : Int} (hA : A = ((s.size - rest.size : Nat) : Int)) (h : wordR w px s A A d) : nextR (w.setCell ⟨px, 1, none⟩ (.int .i64 (A + (spanE inNm rest.data.toList : Int)))) px s (tokE rest.data.toList (s.size - rest.size)) := by
  have hrl : rest.data.toList.length = rest.size := by rw [Array.length_toList]; rfl
  have hsp := spanE_le' inNm rest.data.toList
  have htl := take_le_span inNm rest.data.toList
  have hdm : (⟨(rest.data.toList.take (spanE inNm rest.data.toList)).toArray⟩ : ByteArray) = d := by rw [← hdl]
  have hat : A + (spanE inNm rest.data.toList : Int) = ((s.size - rest.size + (rest.data.toList.take (spanE inNm rest.data.toList)).length : Nat) : Int) := by omega
  have ht : tokE rest.data.toList (s.size - rest.size) =
      if d.data.toList = [116, 114, 117, 101] then .ok (.nd (litN (trV true)) (s.size - rest.size), s.size - rest.size + (rest.data.toList.take (spanE inNm rest.data.toList)).length)
      else if d.data.toList = [102, 97, 108, 115, 101] then .ok (.nd (litN (trV false)) (s.size - rest.size), s.size - rest.size + (rest.data.toList.take (spanE inNm rest.data.toList)).length)
      else if keyWord d then .ok (.say d.data.toList (s.size - rest.size), s.size - rest.size + (rest.data.toList.take (spanE inNm rest.data.toList)).length)
      else if nameB d then .ok (.nd (varN d) (s.size - rest.size), s.size - rest.size + (rest.data.toList.take (spanE inNm rest.data.toList)).length) else .error (4, s.size - rest.size) := by
    rw [← hdm]
    unfold keyWord
    simp only
    rw [hr]; unfold tokE; simp only; rw [if_neg (by rw [hd]; decide), if_pos hl]
  rw [ht, hat]
  unfold wordR at h
  rw [hA] at h
  split
  · next h1 => rw [if_pos h1] at h; exact lx_s1 h _
  · next h1 =>
    rw [if_neg h1] at h
    split
    · next h2 => rw [if_pos h2] at h; exact lx_s1 h _
    · next h2 =>
      rw [if_neg h2] at h
      split
      · next h3 => rw [if_pos h3] at h; exact lx_s1 h _
      · next h3 =>
        rw [if_neg h3] at h
        split
        · next h4 => rw [if_pos h4] at h; exact lx_s1 h _
        · next h4 => rw [if_neg h4] at h; exact lxF_next h rfl (by rw [htl]; omega)
theorem text_next {w : World} {px : Nat} {s rest : ByteArray} {r : List UInt8} (hr : rest.data.toList = 39 :: r) (hs : rest.size ≤ s.size)
    {A : Int} (hA : A = ((s.size - rest.size : Nat) : Int)) (h : textR w px s A A (rest.data.toList.drop 1)) : nextR w px s (tokE rest.data.toList (s.size - rest.size)) := by
  have hrl : rest.data.toList.length = rest.size := by rw [Array.length_toList]; rfl
  have ht : tokE rest.data.toList (s.size - rest.size) = match textE 1 [] r with
      | none => .error (4, s.size - rest.size)
      | some (t, n) => if Lib.validD t then .ok (.nd (litN (txV ⟨t.toArray⟩)) (s.size - rest.size), s.size - rest.size + n) else .error (4, s.size - rest.size) := by
    rw [hr]; unfold tokE; simp only; rw [if_neg (by decide), if_neg (by decide), if_pos trivial]; rfl
  rw [ht]
  unfold textR at h
  rw [hr, show (39 :: r).drop 1 = r from rfl, hA] at h
  have hF : ∀ {e wh : Int}, LxF w px s ((s.size - rest.size : Nat) : Int) ⟨#[]⟩ e wh → LxE w px s e wh := fun {e wh} hf => ⟨_, ⟨#[]⟩, by omega, by show 0 ≤ _; omega, hf⟩
  cases he : textE 1 [] r with
  | none => rw [he] at h; exact hF h
  | some p =>
    obtain ⟨t, n⟩ := p
    rw [he] at h
    simp only at h ⊢
    split
    · next hv => rw [if_pos hv] at h; exact h
    · next hv => rw [if_neg hv] at h; exact hF h
theorem lxF_next' {w : World} {px : Nat} {s say : ByteArray} {at_ e wh a' : Int} {n : Nat} (h : LxF w px s at_ say e wh) (hsay : say.size ≤ 1000) (ha : a' = (n : Int)) (hn : n ≤ s.size) : LxE (w.setCell ⟨px, 1, none⟩ (.int .i64 a')) px s e wh := by
  obtain ⟨_, _, _, _, _, _, _, _, _, h⟩ := h
  refine ⟨n, say, hn, hsay, ?_⟩
  rw [ha]
  exact ⟨_, _, _, _, _, _, _, _, _, lx_s1 h _⟩
def sgW (l : List UInt8) : List UInt8 := if 1 < l.length ∧ (signL (l.take 2)).isSome then l.take 2 else l.take 1
theorem sign_tok {rest : List UInt8} {a : Nat} {b : UInt8} {r : List UInt8} (hr : rest = b :: r) (hd : digE b.toNat = false) (hl : letE b.toNat = false) (h39 : b ≠ 39) :
    tokE rest a = if (signL (sgW rest)).isSome ∨ sgW rest = [40] ∨ sgW rest = [41] then .ok (.say (sgW rest) a, a + (sgW rest).length) else .error (4, a) := by
  subst hr
  unfold tokE
  simp only
  rw [if_neg (by rw [hd]; decide), if_neg (by rw [hl]; decide), if_neg h39]
  rfl
def sgOk (u : List UInt8) : Bool := (signL u).isSome || (u == [40] || u == [41])
theorem sign_ok {w : World} {px : Nat} {s rest u : ByteArray} {b : UInt8} {r : List UInt8} (hr : rest.data.toList = b :: r) (_hs : rest.size ≤ s.size) (hx : digE b.toNat = false ∧ letE b.toNat = false ∧ b ≠ 39) (hu : u.data.toList = sgW rest.data.toList)
    {A : Int} {n : Nat} (hA : A = ((s.size - rest.size : Nat) : Int)) (hn : (sgW rest.data.toList).length = n) (hq : sgOk u.data.toList = true) (h : LxN w px s A nilN u A false 0 0) : nextR (w.setCell ⟨px, 1, none⟩ (.int .i64 (A + (n : Int)))) px s (tokE rest.data.toList (s.size - rest.size)) := by
  rw [sign_tok hr hx.1 hx.2.1 hx.2.2, ← hu]
  unfold sgOk at hq
  rw [if_pos (by simpa using hq), hu, hn, ← hu]
  have e : A + (n : Int) = ((s.size - rest.size + n : Nat) : Int) := by omega
  rw [e]
  rw [hA] at h
  exact lx_s1 h _
theorem sign_no {w : World} {px : Nat} {s rest u : ByteArray} {b : UInt8} {r : List UInt8} (hr : rest.data.toList = b :: r) (hs : rest.size ≤ s.size) (hx : digE b.toNat = false ∧ letE b.toNat = false ∧ b ≠ 39) (hu : u.data.toList = sgW rest.data.toList)
    {A : Int} {n : Nat} (hA : A = ((s.size - rest.size : Nat) : Int)) (_hn : (sgW rest.data.toList).length = n) (hnr : n ≤ rest.size) (hus : u.size ≤ 1000) (hq : sgOk u.data.toList = false) (h : LxF w px s A u 4 A) : nextR (w.setCell ⟨px, 1, none⟩ (.int .i64 (A + (n : Int)))) px s (tokE rest.data.toList (s.size - rest.size)) := by
  rw [sign_tok hr hx.1 hx.2.1 hx.2.2, ← hu]
  unfold sgOk at hq
  rw [if_neg (by simpa using hq)]
  have e : A + (n : Int) = ((s.size - rest.size + n : Nat) : Int) := by omega
  rw [hA] at h
  rw [← hA] at h
  refine lxF_next' (at_ := A) ?_ hus e (by omega)
  rw [hA] at h
  rw [hA]
  exact h
theorem lxnum_gd (w : World) (hG : Gd w) (px : Nat) (s : ByteArray) (at_ : Int) (ta : Int) (hb : LxB w px s at_ 0 0 0 false ⟨#[]⟩ ⟨#[]⟩ (.slice none 0 0) ⟨#[]⟩ ta false 0 0) (d : ByteArray) (hd : d.size ≤ 300) (h0 : 0 < d.size) :
    Calls Tryz.prog 147 #[.pointer (some ⟨px, 0, none⟩), .string d] w fun r w' => r = .returned (.tuple #[]) ∧ Frm [some px] w w' ∧ numR w' px s at_ ta d h0 := by
  obtain ⟨t1, p1, h1⟩ := hG.es
  obtain ⟨t2, p2, h2⟩ := hG.er
  exact lxnum_any w t1 p1 t2 p2 (fun W hW => cell_kept h1 hW) (fun W hW => cell_kept h2 hW) px s at_ ta hb d hd h0
set_option maxHeartbeats 8000000 in
/-- The next token; or the first error. -/
theorem next_any (B : Nat) (w : World) (hG : GA B w) (px : Nat) (hp : B ≤ px) (hBw : B ≤ w.heap.size) (s : ByteArray) (hs : s.size ≤ 300) (i : Nat) (hi : i ≤ s.size) (op kind num : Int) (tr : Bool) (text name : ByteArray) (vk : Value) (say : ByteArray) (ta : Int) (en : Bool) (hb : LxB w px s i op kind num tr text name vk say ta en 0 0) :
    Calls Tryz.prog 125 #[.pointer (some ⟨px, 0, none⟩)] w fun r w' => r = .returned (.tuple #[]) ∧ Frm [some px] w w' ∧ nextR w' px s (nextE s.data.toList i) := by
  obtain ⟨rest, hr1, hr2, hr3⟩ := trim_rest s i hi
  have HT : Hid (∀ W, Calls Tryz.prog 144 #[.string (s.extract i s.size), .string ⟨#[32]⟩] W fun e w' => e = .returned (.string rest) ∧ W = w') := Lib.hid (fun W => (Tryz.strings_TrimLeft_one (s.extract i s.size) 32 (by decide) W).mono (fun _ _ h => ⟨by rw [h.1, hr1], h.2.symm⟩))
  have hl := lt_of_block hb
  have hrl : rest.data.toList.length = rest.size := by rw [Array.length_toList]; rfl
  have hsl : s.data.toList.length = s.size := by rw [Array.length_toList]; rfl
  have HN : Hid (nextE s.data.toList i = tokE rest.data.toList (s.size - rest.size)) := Lib.hid (by unfold nextE; rw [← hr2, hrl, hsl])
  have HRL := Lib.hid hrl
  have c0 : w.cell? ⟨px, 0, none⟩ = some (.string s) := cell_of_block hb 0
  have c1 : w.cell? ⟨px, 1, none⟩ = some (.int .i64 (i : Int)) := cell_of_block hb 1
  have HB := Lib.hid hb
  have HG := Lib.hid hG
  clear hb hr1 hr2 hG hrl hsl
  go_enter Tryz.func125, Tryz.ntmps125
  go_wp2_with fail
  go_cut [2] (fun s2 wx => ∃ w9, w9 = wx ∧ s2 = .string rest ∧ Below w.heap.size w w9)
  case first =>
    go_quiet ((go_at_call 144; exact quiet_left (HT.out _)))
    go_wp2_with fail
    go_meet
    exact ⟨_, rfl, rfl, below_drewN' _⟩
  case rest =>
    obtain ⟨w9, rfl, rfl, hb9⟩ := hcut
    have hbk := (hb9.block _ hl).trans HB.out
    have d0 : w9.cell? ⟨px, 0, none⟩ = some (.string s) := cell_of_block hbk 0
    have d1 : w9.cell? ⟨px, 1, none⟩ = some (.int .i64 (i : Int)) := cell_of_block hbk 1
    have d2 : w9.cell? ⟨px, 2, none⟩ = some (.int .u8 op) := cell_of_block hbk 2
    have d3 : w9.cell? ⟨px, 3, none⟩ = some (.int .u8 kind) := cell_of_block hbk 3
    have d4 : w9.cell? ⟨px, 4, none⟩ = some (.int .i64 num) := cell_of_block hbk 4
    have d5 : w9.cell? ⟨px, 5, none⟩ = some (.bool tr) := cell_of_block hbk 5
    have d6 : w9.cell? ⟨px, 6, none⟩ = some (.string text) := cell_of_block hbk 6
    have d7 : w9.cell? ⟨px, 7, none⟩ = some (.string name) := cell_of_block hbk 7
    have d8 : w9.cell? ⟨px, 8, none⟩ = some vk := cell_of_block hbk 8
    have d9 : w9.cell? ⟨px, 9, none⟩ = some (.string say) := cell_of_block hbk 9
    have d10 : w9.cell? ⟨px, 10, none⟩ = some (.int .i64 ta) := cell_of_block hbk 10
    have d11 : w9.cell? ⟨px, 11, none⟩ = some (.bool en) := cell_of_block hbk 11
    have d12 : w9.cell? ⟨px, 12, none⟩ = some (.int .i64 0) := cell_of_block hbk 12
    have f9 := free_of_block hbk
    have HB9 := Lib.hid hbk
    have HF9 : Hid (Frm [some px] w w9) := Lib.hid (Frm.ofBelow hb9)
    clear hbk hb9 c0 c1
    by_cases hre : rest.data.toList = []
    · have e1 : rest.toList.isEmpty = true := by rw [Lib.toList_data, hre]; rfl
      have HRE := Lib.hid hre
      clear hre
      go_wp2_with fail
      refine bodyPost_ret (results_none rfl _ _ _) rfl ?_
      have hz := lx_tok HB9.out ((s.size : Int) - (rest.size : Int))
      refine ⟨rfl, frm_tok HF9.out _ _ _ _ _ _ _ _ _ _ _, ?_⟩
      rw [HN.out, HRE.out]
      show LxN _ px s ((s.size - rest.size : Nat) : Int) nilN ⟨#[]⟩ ((s.size - rest.size : Nat) : Int) true 0 0
      rw [show ((s.size - rest.size : Nat) : Int) = (s.size : Int) - (rest.size : Int) by omega]
      exact hz
    · have e1 : rest.toList.isEmpty = false := by rw [Lib.toList_data, List.isEmpty_eq_false_iff]; exact hre
      have hr0 : 0 < rest.size := by
        rw [← HRL.out]; exact List.length_pos_iff.2 hre
      obtain ⟨b0, hb0⟩ : ∃ b, rest[0] = b := ⟨_, rfl⟩
      obtain ⟨r, hrr⟩ : ∃ r, rest.data.toList = b0 :: r := by
        refine ⟨rest.data.toList.drop 1, ?_⟩
        rw [← hb0]
        have := List.drop_eq_getElem_cons (l := rest.data.toList) (i := 0) (by rw [HRL.out]; exact hr0)
        rw [List.drop_zero] at this
        exact this
      have HRR := Lib.hid hrr
      have hx := b0.toNat_lt
      have hz := lx_head HB9.out HF9.out ((s.size : Int) - (rest.size : Int))
      clear hre hrr
      go_upto_region 15 with fail
      generalize World.setCell _ _ _ = Wc at hz ⊢
      generalize hAe : (s.size : Int) - (rest.size : Int) = A at hz ⊢
      have HA : Hid (A = ((s.size - rest.size : Nat) : Int)) := Lib.hid (by omega)
      have hA0 : 0 ≤ A := by omega
      have hA1 : A + (rest.size : Int) ≤ 300 := by omega
      have hA2 : A ≤ 300 := by omega
      have hr300 : rest.size ≤ 300 := by omega
      have hrs : rest.size ≤ s.size := by omega
      have hzb := hz.1
      have hlc := lt_of_block hzb
      have HZ := Lib.hid hz
      have hGc := HG.out.frm hp hBw hz.2
      have HGc := Lib.hid hGc
      clear hz hzb hGc hAe d0 d1 d2 d3 d4 d5 d6 d7 d8 d9 d10 d11 d12 f9
      have HDg := Lib.hid (edigit_any Wc b0.toNat hx)
      have HLt := Lib.hid (eletter_any Wc b0.toNat hx)
      cases hd : digE b0.toNat with
      | true =>
        have hs1 := spanE_pos digE b0 r hd
        have hs2 := spanE_le' digE rest.data.toList
        rw [HRL.out] at hs2
        rw [← HRR.out] at hs1
        have HSp := Lib.hid (fun W => span_any W rest (by omega) 145 digE dig_hi eg_digit (fun W x hx => edigit_any W x hx))
        have HNX := Lib.hid (fun (W : World) (d : ByteArray) (h0 : 0 < d.size) (hdl : d.data.toList = rest.data.toList.take (spanE digE rest.data.toList)) (h : numR W px s A A d h0) => num_next HRR.out hrs hd h0 hdl HA.out h)
        have HDT := Lib.hid (take_ext rest (spanE digE rest.data.toList))
        obtain ⟨n, hn⟩ : ∃ n, spanE digE rest.data.toList = n := ⟨_, rfl⟩
        rw [hn] at hs1 hs2 HSp HNX HDT
        rw [hd] at HDg
        obtain ⟨d, hdd⟩ : ∃ d, rest.extract 0 n = d := ⟨_, rfl⟩
        have hdz : d.size = n := by rw [← hdd, ByteArray.size_extract]; omega
        rw [hdd] at HDT
        have hd0 : 0 < d.size := by omega
        have hd3 : d.size ≤ 300 := by omega
        have hn3 : n ≤ 300 := by omega
        clear hd hn hdz
        go_wp2_with (first
          | (go_at_call 145; refine HDg.out.mono ?_; rintro e w2 ⟨rfl, rfl⟩)
          | (go_at_call 146; refine (HSp.out _).mono ?_; rintro e w3 ⟨rfl, hb3⟩; have hb5 := (hb3.block px hlc).trans HZ.out.1; have HB5 := Lib.hid hb5; have HF5 := Lib.hid (HZ.out.2.below hb3); have HG5 := Lib.hid (HGc.out _ (hb3.mono (Nat.le_trans hBw HZ.out.2.size))); clear hb3 hb5)
          | (go_at_call 147; refine (lxnum_gd _ HG5.out px s _ _ HB5.out d hd3 hd0).mono ?_; rintro e w4 ⟨rfl, hF4, hn4⟩; obtain ⟨_, _, _, _, _, _, _, _, _, _, _, _, h4⟩ := lx_anyN hn4; have k1 : w4.cell? ⟨px, 1, none⟩ = some (.int .i64 A) := cell_of_block h4 1; have f4 := free_of_block h4; have H4 := Lib.hid (And.intro hF4 hn4); clear hF4 hn4 h4))
        refine bodyPost_end (results_none rfl _ _ _) rfl ?_
        refine ⟨rfl, (HF5.out.trans H4.out.1 (by intro r hr; exact .inl hr)).setL _ (by simp), ?_⟩
        rw [HN.out]
        exact HNX.out _ d hd0 HDT.out H4.out.2
      | false =>
        rw [hd] at HDg
        cases hl : letE b0.toNat with
        | true =>
          have hin : inNm b0.toNat = true := by unfold inNm; rw [hl]; rfl
          have hs1 := spanE_pos inNm b0 r hin
          have hs2 := spanE_le' inNm rest.data.toList
          rw [HRL.out] at hs2
          rw [← HRR.out] at hs1
          have HSp := Lib.hid (fun W => span_any W rest (by omega) 149 inNm inNm_hi eg_inName (fun W x hx => einName_any W x hx))
          have HNX := Lib.hid (fun (W : World) (d : ByteArray) (hdl : d.data.toList = rest.data.toList.take (spanE inNm rest.data.toList)) (h : wordR W px s A A d) => word_next HRR.out hrs hd hl hdl HA.out h)
          have HDT := Lib.hid (take_ext rest (spanE inNm rest.data.toList))
          obtain ⟨n, hn⟩ : ∃ n, spanE inNm rest.data.toList = n := ⟨_, rfl⟩
          rw [hn] at hs1 hs2 HSp HNX HDT
          rw [hl] at HLt
          obtain ⟨d, hdd⟩ : ∃ d, rest.extract 0 n = d := ⟨_, rfl⟩
          have hdz : d.size = n := by rw [← hdd, ByteArray.size_extract]; omega
          rw [hdd] at HDT
          have hd3 : d.size ≤ 300 := by omega
          have hn3 : n ≤ 300 := by omega
          clear hd hl hn hdz hin
          go_wp2_with (first
            | (go_at_call 145; refine HDg.out.mono ?_; rintro e w2 ⟨rfl, rfl⟩)
            | (go_at_call 148; refine HLt.out.mono ?_; rintro e w2 ⟨rfl, rfl⟩)
            | (go_at_call 146; refine (HSp.out _).mono ?_; rintro e w3 ⟨rfl, hb3⟩; have hb5 := (hb3.block px hlc).trans HZ.out.1; have HB5 := Lib.hid hb5; have HF5 := Lib.hid (HZ.out.2.below hb3); clear hb3 hb5)
            | (go_at_call 150; refine (lxword_any _ px s _ _ HB5.out d hd3).mono ?_; rintro e w4 ⟨rfl, hF4, hn4⟩; obtain ⟨_, _, _, _, _, _, _, _, _, _, _, _, h4⟩ := lx_any hn4; have k1 : w4.cell? ⟨px, 1, none⟩ = some (.int .i64 A) := cell_of_block h4 1; have f4 := free_of_block h4; have H4 := Lib.hid (And.intro hF4 hn4); clear hF4 hn4 h4))
          refine bodyPost_end (results_none rfl _ _ _) rfl ?_
          refine ⟨rfl, (HF5.out.trans H4.out.1 (by intro r hr; exact .inl hr)).setL _ (by simp), ?_⟩
          rw [HN.out]
          exact HNX.out _ d HDT.out H4.out.2
        | false =>
          rw [hl] at HLt
          by_cases h39 : b0.toNat = 39
          · have e39 : ((b0.toNat : Int) == 39) = true := beq_iff_eq.2 (by omega)
            have e39' : (b0.toNat == 39) = true := beq_iff_eq.2 h39
            have hb39 := byte39.2 h39
            have HNX := Lib.hid (fun (W : World) (h : textR W px s A A (rest.data.toList.drop 1)) => text_next (r := r) (by rw [← hb39]; exact HRR.out) hrs HA.out h)
            clear hd hl h39 hb39
            go_wp2_with (first
              | (go_at_call 145; refine HDg.out.mono ?_; rintro e w2 ⟨rfl, rfl⟩)
              | (go_at_call 148; refine HLt.out.mono ?_; rintro e w2 ⟨rfl, rfl⟩)
              | (go_at_call 151; refine (lxtext_any Wc HGc.out.now.t8 px s A hA0 _ HZ.out.1 rest (by omega) hr0).mono ?_; rintro e w4 ⟨rfl, hF4, hn4⟩; have H4 := Lib.hid (And.intro hF4 hn4); clear hF4 hn4))
            refine bodyPost_end (results_none rfl _ _ _) rfl ?_
            refine ⟨rfl, HZ.out.2.trans H4.out.1 (by intro r hr; exact .inl hr), ?_⟩
            rw [HN.out]
            exact HNX.out _ H4.out.2
          · have e39 : ((b0.toNat : Int) == 39) = false := beq_eq_false_iff_ne.2 (by omega)
            have e39' : (b0.toNat == 39) = false := beq_eq_false_iff_ne.2 h39
            have hHx : Hid (digE b0.toNat = false ∧ letE b0.toNat = false ∧ b0 ≠ 39) := Lib.hid ⟨hd, hl, fun e => h39 (byte39.1 e)⟩
            obtain ⟨m, hm, hm1, hm2, hmt⟩ : ∃ m : Nat, min (2 : Int) (rest.size : Int) = (m : Int) ∧ m ≤ rest.size ∧ m ≤ 2 ∧ rest.data.toList.take m = rest.data.toList.take 2 := by
              by_cases h2 : 2 ≤ rest.size
              · exact ⟨2, by omega, h2, by omega, rfl⟩
              · exact ⟨rest.size, by omega, by omega, by omega, by rw [List.take_of_length_le (by rw [HRL.out]; exact Nat.le_refl _), List.take_of_length_le (by rw [HRL.out]; omega)]⟩
            obtain ⟨q, hq⟩ : ∃ q, rest.extract 0 m = q := ⟨_, rfl⟩
            have hqs : q.size ≤ 2 := by rw [← hq, ByteArray.size_extract]; omega
            have HQL : Hid (q.data.toList = rest.data.toList.take 2) := Lib.hid (by rw [← hq, take_ext, hmt])
            have hqm : q.size ≤ maxLen := by unfold maxLen; omega
            clear hd hl h39 hmt
            go_upto_region 7 with (first
              | (go_at_call 145; refine HDg.out.mono ?_; rintro e w2 ⟨rfl, rfl⟩)
              | (go_at_call 148; refine HLt.out.mono ?_; rintro e w2 ⟨rfl, rfl⟩))
            go_cut [8] (fun s8 wx => ∃ w7, w7 = wx ∧ s8 = .bool (signL (rest.data.toList.take 2)).isSome ∧ Below Wc.heap.size Wc w7)
            case first =>
              go_region_held3 (fun _ => True) (trivial) (first | (go_at_call 132; refine (signs_any _).mono ?_; rintro e w5 ⟨bm, rfl, hm5, hlo5, hb5⟩; have hL5 := hm5.look_ok q hqm; have hL6 := (hm5.kept ((Below.refl _ _).alloc (Nat.le_refl _) (.cells #[.int .u8 0, .int .i64 0] 130))).look_ok q hqm; clear hm5; have HB5 : Hid (Below Wc.heap.size Wc w5) := Lib.hid (by first | exact (Below.drew (Below.refl _ _)).trans hb5 | exact (((Below.refl _ _).alloc (Nat.le_refl _) _).drew).trans (hb5.mono (by simp)) | exact ((Below.drew (Below.refl _ _)).alloc (Nat.le_refl _) _).trans (hb5.mono (by simp))); try (have hz0 : w5.heap[Wc.heap.size]? = some (.cells #[.int .u8 0, .int .i64 0] 130 (0, 0)) := (hb5.block _ (by simp)).trans (heap_alloc_new _ _); have z0 : w5.cell? ⟨Wc.heap.size, 0, none⟩ = some (.int .u8 0) := cell_of_block hz0 0; have z1 : w5.cell? ⟨Wc.heap.size, 1, none⟩ = some (.int .i64 0) := cell_of_block hz0 1; have zf := free_of_block hz0; clear hz0)))
              all_goals
                go_wp2_with fail
                go_meet
              all_goals
                refine ⟨_, rfl, by rw [HQL.out], ?_⟩
                first
                  | exact HB5.out.alloc HB5.out.size _
                  | exact (HB5.out.alloc HB5.out.size _).drew
                  | exact (HB5.out.setCell (Nat.le_refl _) _).setCell (Nat.le_refl _) _
            case rest =>
              obtain ⟨w7, rfl, rfl, hb7⟩ := hcut
              have hb5 := (hb7.block px hlc).trans HZ.out.1
              have HB7 := Lib.hid hb5
              have HF7 := Lib.hid (HZ.out.2.below hb7)
              have k9 : w7.cell? ⟨px, 9, none⟩ = some (.string ⟨#[]⟩) := cell_of_block hb5 9
              have f7 := free_of_block hb5
              clear hb7 hb5 HDg HLt hq hm hqm hqs HQL
              obtain ⟨ss, hss⟩ : ∃ b, (signL (rest.data.toList.take 2)).isSome = b := ⟨_, rfl⟩
              obtain ⟨n, hn1, hn2, hn3, hnl, hnt, hnc⟩ : ∃ n : Nat, 1 ≤ n ∧ n ≤ 2 ∧ n ≤ rest.size ∧ (sgW rest.data.toList).length = n ∧ rest.data.toList.take n = sgW rest.data.toList ∧ ((n = 2 ∧ ss = true ∧ decide ((1 : Int) < (rest.size : Int)) = true ∧ decide (1 < rest.size) = true) ∨ (n = 1 ∧ ss = false) ∨ (n = 1 ∧ ss = true ∧ decide ((1 : Int) < (rest.size : Int)) = false ∧ decide (1 < rest.size) = false)) := by
                unfold sgW
                rw [HRL.out, hss]
                by_cases h1 : 1 < rest.size
                · cases ss with
                  | true => exact ⟨2, by omega, by omega, by omega, by rw [if_pos ⟨h1, rfl⟩, List.length_take, HRL.out]; omega, by rw [if_pos ⟨h1, rfl⟩], .inl ⟨rfl, rfl, decide_eq_true (by omega), decide_eq_true h1⟩⟩
                  | false => exact ⟨1, by omega, by omega, by omega, by rw [if_neg (by rintro ⟨_, h⟩; cases h), List.length_take, HRL.out]; omega, by rw [if_neg (by rintro ⟨_, h⟩; cases h)], .inr (.inl ⟨rfl, rfl⟩)⟩
                · refine ⟨1, by omega, by omega, by omega, by rw [if_neg (by rintro ⟨h, _⟩; omega), List.length_take, HRL.out]; omega, by rw [if_neg (by rintro ⟨h, _⟩; omega)], ?_⟩
                  cases ss with
                  | true => exact .inr (.inr ⟨rfl, rfl, decide_eq_false (by omega), decide_eq_false h1⟩)
                  | false => exact .inr (.inl ⟨rfl, rfl⟩)
              obtain ⟨u, hu⟩ : ∃ u, rest.extract 0 n = u := ⟨_, rfl⟩
              have HUL : Hid (u.data.toList = sgW rest.data.toList) := Lib.hid (by rw [← hu, take_ext, hnt])
              have hus : u.size ≤ 2 := by rw [← hu, ByteArray.size_extract]; omega
              have hum : u.size ≤ maxLen := by unfold maxLen; omega
              have HNL := Lib.hid hnl
              have HU := Lib.hid hu
              clear hnl hnt hu
              rw [hss]
              have HSS := Lib.hid hss
              clear hss
              go_upto_region 8 with fail
              go_cut [70] (fun s70 wx => ∃ bb : Bool, s70 = .bool bb ∧ Hid ((bb = true ∧ n = 2) ∨ (bb = false ∧ n = 1)) ∧ w7 = wx)
              case first =>
                rcases hnc with ⟨e2, rfl, e3, e4⟩ | ⟨e2, rfl⟩ | ⟨e2, rfl, e3, e4⟩
                · have E2 := Lib.hid e2
                  clear e2
                  go_wp2_with fail
                  go_meet
                  exact ⟨_, rfl, Lib.hid (.inl ⟨rfl, E2.out⟩), rfl⟩
                · have E2 := Lib.hid e2
                  clear e2
                  go_wp2_with fail
                  go_meet
                  exact ⟨_, rfl, Lib.hid (.inr ⟨rfl, E2.out⟩), rfl⟩
                · have E2 := Lib.hid e2
                  clear e2
                  go_wp2_with fail
                  go_meet
                  exact ⟨_, rfl, Lib.hid (.inr ⟨rfl, E2.out⟩), rfl⟩
              case rest =>
                obtain ⟨bb, rfl, hbb, rfl⟩ := hcut
                clear hnc
                go_upto_if 70 with fail
                go_cut [6] (fun s6 wx => ∃ m : Nat, s6 = .int .i64 (m : Int) ∧ Hid (m = n) ∧ w7 = wx)
                case first =>
                  rcases hbb.out with ⟨rfl, e2⟩ | ⟨rfl, e2⟩
                  · have E2 := Lib.hid e2
                    clear e2
                    go_wp2_with fail
                    go_meet
                    exact ⟨2, rfl, Lib.hid E2.out.symm, rfl⟩
                  · have E2 := Lib.hid e2
                    clear e2
                    go_wp2_with fail
                    go_meet
                    exact ⟨1, rfl, Lib.hid E2.out.symm, rfl⟩
                case rest =>
                  obtain ⟨m, rfl, hm, rfl⟩ := hcut
                  clear hbb
                  obtain rfl : m = n := hm.out
                  have hu := HU.out
                  go_upto_region 11 with fail
                  have hz8 : LxB (w7.setCell ⟨px, 9, none⟩ (.string u)) px s A 0 0 0 false ⟨#[]⟩ ⟨#[]⟩ (.slice none 0 0) u A false 0 0 ∧ Frm [some px] w (w7.setCell ⟨px, 9, none⟩ (.string u)) := ⟨lx_s9 HB7.out u, HF7.out.setL _ (by simp)⟩
                  generalize World.setCell _ _ _ = W8 at hz8 ⊢
                  have hl8 := lt_of_block hz8.1
                  have z9 : W8.cell? ⟨px, 9, none⟩ = some (.string u) := cell_of_block hz8.1 9
                  have HZ8 := Lib.hid hz8
                  clear hz8 k9 f7 hu
                  go_cut [10] (fun s10 wx => ∃ w10, w10 = wx ∧ s10 = .bool (signL u.data.toList).isSome ∧ Below W8.heap.size W8 w10)
                  case first =>
                    go_region_held3 (fun w' => w'.cell? ⟨px, 9, none⟩ = some (.string u)) (first | go_keep | assumption | exact q9b _ _) (first | (go_at_call 132; refine (signs_any _).mono ?_; rintro e w5 ⟨bm, rfl, hm5, hlo5, hb5⟩; have hL5 := hm5.look_ok u hum; have hL6 := (hm5.kept ((Below.refl _ _).alloc (Nat.le_refl _) (.cells #[.int .u8 0, .int .i64 0] 130))).look_ok u hum; clear hm5; have HB5 : Hid (Below W8.heap.size W8 w5) := Lib.hid (by first | exact (Below.drew (Below.refl _ _)).trans hb5 | exact (((Below.refl _ _).alloc (Nat.le_refl _) _).drew).trans (hb5.mono (by simp)) | exact ((Below.drew (Below.refl _ _)).alloc (Nat.le_refl _) _).trans (hb5.mono (by simp))); have q9 : w5.cell? ⟨px, 9, none⟩ = some (.string u) := (Below.cellB HB5.out hl8).trans z9; have q9b : ∀ v1 v2, ((w5.setCell ⟨W8.heap.size, 0, none⟩ v1).setCell ⟨W8.heap.size, 1, none⟩ v2).cell? ⟨px, 9, none⟩ = some (.string u) := (fun v1 v2 => (Below.cellB (((Below.refl W8.heap.size w5).setCell (p := ⟨W8.heap.size, 0, none⟩) (Nat.le_refl _) v1).setCell (p := ⟨W8.heap.size, 1, none⟩) (Nat.le_refl _) v2) hl8).trans q9); try (have hz0 : w5.heap[W8.heap.size]? = some (.cells #[.int .u8 0, .int .i64 0] 130 (0, 0)) := (hb5.block _ (by simp)).trans (heap_alloc_new _ _); have z0 : w5.cell? ⟨W8.heap.size, 0, none⟩ = some (.int .u8 0) := cell_of_block hz0 0; have z1 : w5.cell? ⟨W8.heap.size, 1, none⟩ = some (.int .i64 0) := cell_of_block hz0 1; have zf := free_of_block hz0; clear hz0)))
                    all_goals
                      go_wp2_with fail
                      go_meet
                    all_goals
                      refine ⟨_, rfl, rfl, ?_⟩
                      first
                        | exact HB5.out.alloc HB5.out.size _
                        | exact (HB5.out.alloc HB5.out.size _).drew
                        | exact (HB5.out.setCell (Nat.le_refl _) _).setCell (Nat.le_refl _) _
                  case rest =>
                    obtain ⟨w10, rfl, rfl, hb10⟩ := hcut
                    have hb5 := (hb10.block px hl8).trans HZ8.out.1
                    have k9 : w10.cell? ⟨px, 9, none⟩ = some (.string u) := cell_of_block hb5 9
                    have k1 : w10.cell? ⟨px, 1, none⟩ = some (.int .i64 A) := cell_of_block hb5 1
                    have f10 := free_of_block hb5
                    have HB10 := Lib.hid hb5
                    have HF10 := Lib.hid (HZ8.out.2.below hb10)
                    have HFl := Lib.hid (xfail_any w10 px s A 0 0 0 false ⟨#[]⟩ ⟨#[]⟩ (.slice none 0 0) u A false 0 0 hb5)
                    have hSO : Hid (sgOk u.data.toList = ((signL u.data.toList).isSome || (u.data.toList == [40] || u.data.toList == [41]))) := Lib.hid rfl
                    have t1 : (u.toList == [40]) = (u.data.toList == [40]) := by rw [Lib.toList_data]
                    have t2 : (u.toList == [41]) = (u.data.toList == [41]) := by rw [Lib.toList_data]
                    have t1n : (u.toList != [40]) = !(u.data.toList == [40]) := by rw [Lib.toList_data]; rfl
                    have t2n : (u.toList != [41]) = !(u.data.toList == [41]) := by rw [Lib.toList_data]; rfl
                    have HOK := Lib.hid (fun (W : World) (hq : sgOk u.data.toList = true) (h : LxN W px s A nilN u A false 0 0) => sign_ok HRR.out hrs hHx.out HUL.out HA.out HNL.out hq h)
                    have HNO := Lib.hid (fun (W : World) (hq : sgOk u.data.toList = false) (h : LxF W px s A u 4 A) => sign_no HRR.out hrs hHx.out HUL.out HA.out HNL.out hn3 (by omega) hq h)
                    obtain ⟨x0, hx0⟩ : ∃ x, (signL u.data.toList).isSome = x := ⟨_, rfl⟩
                    obtain ⟨x1, hx1⟩ : ∃ x, (u.data.toList == [40]) = x := ⟨_, rfl⟩
                    obtain ⟨x2, hx2⟩ : ∃ x, (u.data.toList == [41]) = x := ⟨_, rfl⟩
                    rw [hx0, hx1, hx2] at hSO
                    rw [hx1] at t1 t1n
                    rw [hx2] at t2 t2n
                    rw [hx0]
                    clear hb10 hb5 hx0 hx1 hx2
                    have hor : (x0 = true) ∨ (x0 = false ∧ x1 = true) ∨ (x0 = false ∧ x1 = false ∧ x2 = true) ∨ (x0 = false ∧ x1 = false ∧ x2 = false) := by cases x0 <;> cases x1 <;> cases x2 <;> simp
                    rcases hor with rfl | ⟨rfl, rfl⟩ | ⟨rfl, rfl, rfl⟩ | ⟨rfl, rfl, rfl⟩
                    case inr.inr.inr =>
                      simp only [Bool.not_false] at t1n t2n
                      go_wp2_with (go_at_call 128; refine (HFl.out _ _).mono ?_; rintro e w4 ⟨rfl, hF4, hb4⟩; have hb5 : LxB w4 px s A 0 0 0 false ⟨#[]⟩ ⟨#[]⟩ (.slice none 0 0) u A false 4 A := (by simpa using hb4); have k1' : w4.cell? ⟨px, 1, none⟩ = some (.int .i64 A) := cell_of_block hb5 1; have f4 := free_of_block hb5; have H4 := Lib.hid (And.intro hF4 hb5); clear hF4 hb4 hb5)
                      refine bodyPost_end (results_none rfl _ _ _) rfl ?_
                      refine ⟨rfl, (HF10.out.trans H4.out.1 (by intro r hr; exact .inl hr)).setL _ (by simp), ?_⟩
                      rw [HN.out]
                      exact HNO.out _ hSO.out ⟨_, _, _, _, _, _, _, _, _, H4.out.2⟩
                    all_goals
                      have hok : Hid (sgOk u.data.toList = true) := Lib.hid (by rw [hSO.out]; simp)
                      try simp only [Bool.not_false, Bool.not_true] at t1n t2n
                      go_wp2_with fail
                      refine bodyPost_end (results_none rfl _ _ _) rfl ?_
                      refine ⟨rfl, HF10.out.setL _ (by simp), ?_⟩
                      rw [HN.out]
                      exact HOK.out _ hok.out HB10.out
end Go.Proofs.YtjcaaahbfkjipaaGreatDoor
