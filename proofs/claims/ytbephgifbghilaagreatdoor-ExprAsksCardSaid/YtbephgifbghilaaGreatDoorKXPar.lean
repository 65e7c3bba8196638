/- Of XPar: what XFAs uses (shake.py). -/
import Derived.Test.YtbephgifbghilaaGreatDoorKXRk
import Derived.Test.YtbephgifbghilaaGreatDoorKExprSpan
import Derived.Test.YtbephgifbghilaaGreatDoorKExprSigns
import Derived.Test.YtbephgifbghilaaGreatDoorKExprTokP
import Derived.Lib.TrimByte
/- Texts fused by fuse.py: ExprNext, ExprMade, ExprPar1, ExprPar2, ExprPar3, ExprPar4, ExprPar5, ExprPar6. -/
/- (*lexer).next (seat expr). -/
set_option maxRecDepth 100000
namespace Go.Proofs.YtbephgifbghilaaGreatDoor
open Go.RowKit
/-- The lexer at a token. -/
def LxT (w : World) (px : Nat) (s : ByteArray) (st : Tk × Nat) : Prop := match st.1 with
  | .fin a => LxN w px s (st.2 : Int) nilN ⟨#[]⟩ (a : Int) true 0 0
  | .nd n a => LxN w px s (st.2 : Int) n ⟨#[]⟩ (a : Int) false 0 0
  | .say u a => LxN w px s (st.2 : Int) nilN ⟨u.toArray⟩ (a : Int) false 0 0
def nextR (w : World) (px : Nat) (s : ByteArray) (r : Rs (Tk × Nat)) : Prop := match r with
  | .ok st => LxT w px s st
  | .error (e, a) => LxE w px s e (a : Int)
theorem trim_rest (s : ByteArray) (i : Nat) (hi : i ≤ s.size) : ∃ rest : ByteArray, (⟨(Lib.trimLeftB (s.extract i s.size).data.toList 32).toArray⟩ : ByteArray) = rest ∧ rest.data.toList = (s.data.toList.drop i).dropWhile (· == 32) ∧ rest.size + i ≤ s.size := by
  have e : (s.extract i s.size).data.toList = s.data.toList.drop i := by
    rw [ByteArray.data_extract, Array.toList_extract, List.extract_eq_take_drop]
    rw [List.take_of_length_le (by rw [List.length_drop, Array.length_toList]; exact Nat.le_refl _)]
  refine ⟨_, rfl, ?_, ?_⟩
  · rw [e]; rfl
  · rw [e]
    have h0 : (⟨(Lib.trimLeftB (s.data.toList.drop i) 32).toArray⟩ : ByteArray).size = ((s.data.toList.drop i).dropWhile (· == 32)).length := by
      show (Lib.trimLeftB (s.data.toList.drop i) 32).toArray.size = _
      rw [List.size_toArray]; rfl
    have := dropWhile_le (· == 32) (s.data.toList.drop i)
    rw [List.length_drop] at this
    have hz : s.data.toList.length = s.size := by rw [Array.length_toList]; rfl
    omega
/-- A whole token is laid. -/
theorem lx_tok {W : World} {px : Nat} {s : ByteArray} {at_ op kind num : Int} {tr : Bool} {text name : ByteArray} {vk : Value} {say : ByteArray} {ta : Int} {en : Bool} {e wh : Int} (h : LxB W px s at_ op kind num tr text name vk say ta en e wh) (a : Int) :
    LxB ((((((((((( W.setCell ⟨px, 1, none⟩ (.int .i64 a)).setCell ⟨px, 2, none⟩ (.int .u8 0)).setCell ⟨px, 3, none⟩ (.int .u8 0)).setCell ⟨px, 4, none⟩ (.int .i64 0)).setCell ⟨px, 5, none⟩ (.bool false)).setCell ⟨px, 6, none⟩ (.string ⟨#[]⟩)).setCell ⟨px, 7, none⟩ (.string ⟨#[]⟩)).setCell ⟨px, 8, none⟩ (.slice none 0 0)).setCell ⟨px, 9, none⟩ (.string ⟨#[]⟩)).setCell ⟨px, 10, none⟩ (.int .i64 a)).setCell ⟨px, 11, none⟩ (.bool true)) px s a 0 0 0 false ⟨#[]⟩ ⟨#[]⟩ (.slice none 0 0) ⟨#[]⟩ a true e wh :=
  lx_s11 (lx_s10 (lx_s9 (lx_s8 (lx_s7 (lx_s6 (lx_s5 (lx_s4 (lx_s3 (lx_s2 (lx_s1 h a) 0) 0) 0) false) ⟨#[]⟩) ⟨#[]⟩) (.slice none 0 0)) ⟨#[]⟩) a) true
theorem frm_tok {w W : World} {px : Nat} (h : Frm [some px] w W) (v1 v2 v3 v4 v5 v6 v7 v8 v9 v10 v11 : Value) :
    Frm [some px] w ((((((((((( W.setCell ⟨px, 1, none⟩ v1).setCell ⟨px, 2, none⟩ v2).setCell ⟨px, 3, none⟩ v3).setCell ⟨px, 4, none⟩ v4).setCell ⟨px, 5, none⟩ v5).setCell ⟨px, 6, none⟩ v6).setCell ⟨px, 7, none⟩ v7).setCell ⟨px, 8, none⟩ v8).setCell ⟨px, 9, none⟩ v9).setCell ⟨px, 10, none⟩ v10).setCell ⟨px, 11, none⟩ v11) :=
  (((((((((((h.setL _ (by simp)).setL _ (by simp)).setL _ (by simp)).setL _ (by simp)).setL _ (by simp)).setL _ (by simp)).setL _ (by simp)).setL _ (by simp)).setL _ (by simp)).setL _ (by simp)).setL _ (by simp))
set_option maxHeartbeats 4000000 in
/-- Behind an error the next token is none. -/
theorem nexterr_any (w : World) (px : Nat) (s : ByteArray) (hs : s.size ≤ 1000) (e wh : Int) (he : e ≠ 0) (hb : LxE w px s e wh) :
    Calls Tryz.prog 36 #[.pointer (some ⟨px, 0, none⟩)] w fun r w' => r = .returned (.tuple #[]) ∧ Frm [some px] w w' ∧ LxE w' px s e wh := by
  obtain ⟨i, say, hi, hsay, op, kind, num, tr, text, name, vk, ta, en, hb⟩ := hb
  obtain ⟨rest, hr1, hr2, hr3⟩ := trim_rest s i hi
  have HT : Hid (∀ W, Calls Tryz.prog 70 #[.string (s.extract i s.size), .string ⟨#[32]⟩] W fun e w' => e = .returned (.string rest) ∧ W = w') := Lib.hid (fun W => (Tryz.strings_TrimLeft_one (s.extract i s.size) 32 (by decide) W).mono (fun _ _ h => ⟨by rw [h.1, hr1], h.2.symm⟩))
  have hl := lt_of_block hb
  have c0 : w.cell? ⟨px, 0, none⟩ = some (.string s) := cell_of_block hb 0
  have c1 : w.cell? ⟨px, 1, none⟩ = some (.int .i64 (i : Int)) := cell_of_block hb 1
  have HB := Lib.hid hb
  have ee : (e != 0) = true := by rw [bne_iff_ne]; exact he
  clear hb hr1 hr2 he
  go_enter Tryz.func36, Tryz.ntmps36
  go_wp2_with fail
  go_cut [2] (fun s2 wx => ∃ w9, w9 = wx ∧ s2 = .string rest ∧ Below w.heap.size w w9)
  case first =>
    go_quiet ((go_at_call 70; exact quiet_left (HT.out _)))
    go_wp2_with fail
    go_meet
    exact ⟨_, rfl, rfl, below_drewN' _⟩
  case rest =>
    obtain ⟨w9, rfl, rfl, hb9⟩ := hcut
    have hbk := (hb9.block _ hl).trans HB.out
    have d0 : w9.cell? ⟨px, 0, none⟩ = some (.string s) := cell_of_block hbk 0
    have d1 : w9.cell? ⟨px, 1, none⟩ = some (.int .i64 (i : Int)) := cell_of_block hbk 1
    have d2 : w9.cell? ⟨px, 2, none⟩ = some (.int .u8 op) := cell_of_block hbk 2
    have d3 : w9.cell? ⟨px, 3, none⟩ = some (.int .u8 kind) := cell_of_block hbk 3
    have d4 : w9.cell? ⟨px, 4, none⟩ = some (.int .i64 num) := cell_of_block hbk 4
    have d5 : w9.cell? ⟨px, 5, none⟩ = some (.bool tr) := cell_of_block hbk 5
    have d6 : w9.cell? ⟨px, 6, none⟩ = some (.string text) := cell_of_block hbk 6
    have d7 : w9.cell? ⟨px, 7, none⟩ = some (.string name) := cell_of_block hbk 7
    have d8 : w9.cell? ⟨px, 8, none⟩ = some vk := cell_of_block hbk 8
    have d9 : w9.cell? ⟨px, 9, none⟩ = some (.string say) := cell_of_block hbk 9
    have d10 : w9.cell? ⟨px, 10, none⟩ = some (.int .i64 ta) := cell_of_block hbk 10
    have d11 : w9.cell? ⟨px, 11, none⟩ = some (.bool en) := cell_of_block hbk 11
    have d12 : w9.cell? ⟨px, 12, none⟩ = some (.int .i64 e) := cell_of_block hbk 12
    have f9 := free_of_block hbk
    have HB9 := Lib.hid hbk
    have HF9 : Hid (Frm [some px] w w9) := Lib.hid (Frm.ofBelow hb9)
    clear hbk hb9 c0 c1
    go_wp2_with fail
    all_goals
      refine bodyPost_ret (results_none rfl _ _ _) rfl ?_
      have hz := lx_tok HB9.out ((s.size : Int) - (rest.size : Int))
      refine ⟨rfl, frm_tok HF9.out _ _ _ _ _ _ _ _ _ _ _, s.size - rest.size, ⟨#[]⟩, by omega, by show 0 ≤ _; omega, ?_⟩
      rw [show ((s.size - rest.size : Nat) : Int) = (s.size : Int) - (rest.size : Int) by omega]
      exact ⟨_, _, _, _, _, _, _, _, _, hz⟩
/-- What the library's variables hold: tables, sentinels. -/
structure Gd (w : World) : Prop where
  t8 : Tabs8 w
  es : ∃ t p, w.cell? ⟨3, 0, none⟩ = some (.iface t p)
  er : ∃ t p, w.cell? ⟨4, 0, none⟩ = some (.iface t p)
/-- .. and whatever happens from B on. -/
def GA (B : Nat) (w : World) : Prop := ∀ W, Below B w W → Gd W
theorem GA.step {B : Nat} {w w' : World} (h : GA B w) (hb : Below B w w') : GA B w' := fun W hW => h W (hb.trans hW)
theorem GA.now {B : Nat} {w : World} (h : GA B w) : Gd w := h w (Below.refl _ _)
theorem GA.frm {B px : Nat} {w w' : World} (h : GA B w) (hp : B ≤ px) (hB : B ≤ w.heap.size) (hF : Frm [some px] w w') : GA B w' :=
  h.step (hF.toBelow hB (by intro r hr k hk; simp only [List.mem_singleton] at hr; rw [hr] at hk; injection hk with hk; omega))
theorem cell_lt {w : World} {b o : Nat} {v : Value} (h : w.cell? ⟨b, o, none⟩ = some v) : b < w.heap.size := by
  by_cases hb : b < w.heap.size
  · exact hb
  · have : w.heap[b]? = none := Array.getElem?_eq_none (by omega)
    simp [World.cell?, this] at h
theorem cell_kept {w W : World} {b o : Nat} {v : Value} (h : w.cell? ⟨b, o, none⟩ = some v) (hb : Below w.heap.size w W) : W.cell? ⟨b, o, none⟩ = some v := (Below.cellB hb (cell_lt h)).trans h
theorem lx_head {w W : World} {px : Nat} {s : ByteArray} {at_ op kind num : Int} {tr : Bool} {text name : ByteArray} {vk : Value} {say : ByteArray} {ta : Int} {en : Bool} {e wh : Int} (h : LxB W px s at_ op kind num tr text name vk say ta en e wh) (hF : Frm [some px] w W) (a : Int) :
    LxB (((((((((((( W.setCell ⟨px, 1, none⟩ (.int .i64 a)).setCell ⟨px, 2, none⟩ (.int .u8 0)).setCell ⟨px, 3, none⟩ (.int .u8 0)).setCell ⟨px, 4, none⟩ (.int .i64 0)).setCell ⟨px, 5, none⟩ (.bool false)).setCell ⟨px, 6, none⟩ (.string ⟨#[]⟩)).setCell ⟨px, 7, none⟩ (.string ⟨#[]⟩)).setCell ⟨px, 8, none⟩ (.slice none 0 0)).setCell ⟨px, 9, none⟩ (.string ⟨#[]⟩)).setCell ⟨px, 10, none⟩ (.int .i64 a)).setCell ⟨px, 11, none⟩ (.bool true)).setCell ⟨px, 11, none⟩ (.bool false)) px s a 0 0 0 false ⟨#[]⟩ ⟨#[]⟩ (.slice none 0 0) ⟨#[]⟩ a false e wh ∧
    Frm [some px] w (((((((((((( W.setCell ⟨px, 1, none⟩ (.int .i64 a)).setCell ⟨px, 2, none⟩ (.int .u8 0)).setCell ⟨px, 3, none⟩ (.int .u8 0)).setCell ⟨px, 4, none⟩ (.int .i64 0)).setCell ⟨px, 5, none⟩ (.bool false)).setCell ⟨px, 6, none⟩ (.string ⟨#[]⟩)).setCell ⟨px, 7, none⟩ (.string ⟨#[]⟩)).setCell ⟨px, 8, none⟩ (.slice none 0 0)).setCell ⟨px, 9, none⟩ (.string ⟨#[]⟩)).setCell ⟨px, 10, none⟩ (.int .i64 a)).setCell ⟨px, 11, none⟩ (.bool true)).setCell ⟨px, 11, none⟩ (.bool false)) :=
  ⟨lx_s11 (lx_tok h a) false, (frm_tok hF _ _ _ _ _ _ _ _ _ _ _).setL _ (by simp)⟩
theorem eg_digit : ∀ args (w : World), (callFunc 71 args).run Tryz.prog w = .ok (.enter 71 args) w := enters_of Tryz.func71 (by kernel_rfl) rfl
theorem eg_inName : ∀ args (w : World), (callFunc 75 args).run Tryz.prog w = .ok (.enter 75 args) w := enters_of Tryz.func75 (by kernel_rfl) rfl
theorem dig_hi (x : Nat) (h : 127 < x) : digE x = false := by unfold digE; rw [decide_eq_false (by omega : ¬ x ≤ 57), Bool.and_false]
theorem inNm_hi (x : Nat) (h : 127 < x) : inNm x = false := by
  unfold inNm letE
  rw [dig_hi x h, decide_eq_false (by omega : ¬ x ≤ 122), decide_eq_false (by omega : ¬ x ≤ 90), beq_eq_false_iff_ne.2 (by omega : x ≠ 45), beq_eq_false_iff_ne.2 (by omega : x ≠ 95), beq_eq_false_iff_ne.2 (by omega : x ≠ 46)]
  simp
theorem take_ext (s : ByteArray) (n : Nat) : (s.extract 0 n).data.toList = s.data.toList.take n := by
  rw [ByteArray.data_extract, Array.toList_extract, List.extract_eq_take_drop]
  simp
theorem lx_any {w : World} {px : Nat} {s : ByteArray} {at_ ta : Int} {d : ByteArray} (h : wordR w px s at_ ta d) : ∃ op kind num tr text name vk say ta en e wh, LxB w px s at_ op kind num tr text name vk say ta en e wh := by
  unfold wordR at h
  split at h
  · exact ⟨_, _, _, _, _, _, _, _, _, _, _, _, h⟩
  · split at h
    · exact ⟨_, _, _, _, _, _, _, _, _, _, _, _, h⟩
    · split at h
      · exact ⟨_, _, _, _, _, _, _, _, _, _, _, _, h⟩
      · split at h
        · exact ⟨_, _, _, _, _, _, _, _, _, _, _, _, h⟩
        · obtain ⟨_, _, _, _, _, _, _, _, _, h⟩ := h
          exact ⟨_, _, _, _, _, _, _, _, _, _, _, _, h⟩
theorem lx_anyN {w : World} {px : Nat} {s : ByteArray} {at_ ta : Int} {d : ByteArray} {h0 : 0 < d.size} (h : numR w px s at_ ta d h0) : ∃ op kind num tr text name vk say ta en e wh, LxB w px s at_ op kind num tr text name vk say ta en e wh := by
  unfold numR at h
  split at h
  · obtain ⟨_, _, _, _, _, _, _, _, _, h⟩ := h
    exact ⟨_, _, _, _, _, _, _, _, _, _, _, _, h⟩
  · split at h
    · obtain ⟨_, _, _, _, _, _, _, _, _, h⟩ := h
      exact ⟨_, _, _, _, _, _, _, _, _, _, _, _, h⟩
    · exact ⟨_, _, _, _, _, _, _, _, _, _, _, _, h⟩
theorem lxF_next {w : World} {px : Nat} {s : ByteArray} {at_ e wh a' : Int} {n : Nat} (h : LxF w px s at_ ⟨#[]⟩ e wh) (ha : a' = (n : Int)) (hn : n ≤ s.size) : LxE (w.setCell ⟨px, 1, none⟩ (.int .i64 a')) px s e wh := by
  obtain ⟨_, _, _, _, _, _, _, _, _, h⟩ := h
  refine ⟨n, ⟨#[]⟩, hn, by show 0 ≤ _; omega, ?_⟩
  rw [ha]
  exact ⟨_, _, _, _, _, _, _, _, _, lx_s1 h _⟩
theorem num_next {w : World} {px : Nat} {s rest : ByteArray} {b : UInt8} {r : List UInt8} (hr : rest.data.toList = b :: r) (hs : rest.size ≤ s.size) (hd : digE b.toNat = true) {d : ByteArray} (h0 : 0 < d.size) (hdl : d.data.toList = rest.data.toList.take (spanE digE rest.data.toList))
    {A : Int} (hA : A = ((s.size - rest.size : Nat) : Int)) (h : numR w px s A A d h0) : nextR (w.setCell ⟨px, 1, none⟩ (.int .i64 (A + (spanE digE rest.data.toList : Int)))) px s (tokE rest.data.toList (s.size - rest.size)) := by
  have hrl : rest.data.toList.length = rest.size := by rw [Array.length_toList]; rfl
  have hsp := spanE_le' digE rest.data.toList
  have htl := take_le_span digE rest.data.toList
  have hdz : d.size = spanE digE rest.data.toList := by rw [← htl, ← hdl, Array.length_toList]; rfl
  have hsp1 := spanE_pos digE b r hd
  rw [← hr] at hsp1
  have hd0 : d[0].toNat = 48 ↔ b = 48 := by
    have e : d[0] = b := by
      have e1 : d.data.toList[0]? = some b := by rw [hdl, hr, List.getElem?_take, if_pos (by rw [← hr]; omega)]; rfl
      have e2 : d.data.toList[0]? = some d[0] := by
        rw [List.getElem?_eq_getElem (by rw [Array.length_toList]; exact h0)]; rfl
      rw [e1] at e2
      exact (Option.some.inj e2).symm
    rw [e]
    exact ⟨fun h => UInt8.toNat_inj.1 h, fun h => by rw [h]; rfl⟩
  have ht : tokE rest.data.toList (s.size - rest.size) = if b = 48 ∧ 1 < (rest.data.toList.take (spanE digE rest.data.toList)).length then .error (4, s.size - rest.size) else
      match intE (rest.data.toList.take (spanE digE rest.data.toList)) with
      | none => .error (91, s.size - rest.size)
      | some n => .ok (.nd (litN (numV n)) (s.size - rest.size), s.size - rest.size + (rest.data.toList.take (spanE digE rest.data.toList)).length) := by
    rw [hr]; unfold tokE; simp only; rw [if_pos hd]; rfl
  rw [ht]
  unfold numR at h
  have hc : (d[0].toNat = 48 ∧ 1 < d.size) ↔ (b = 48 ∧ 1 < (rest.data.toList.take (spanE digE rest.data.toList)).length) := by rw [hd0, hdz, htl]
  have hat : A + (spanE digE rest.data.toList : Int) = ((s.size - rest.size + spanE digE rest.data.toList : Nat) : Int) := by omega
  by_cases hz : b = 48 ∧ 1 < (rest.data.toList.take (spanE digE rest.data.toList)).length
  · rw [if_pos (hc.2 hz)] at h
    rw [if_pos hz]
    rw [hA] at h
    exact lxF_next h hat (by omega)
  · rw [if_neg (fun e => hz (hc.1 e))] at h
    rw [if_neg hz]
    rw [hdl] at h
    cases hi : intE (rest.data.toList.take (spanE digE rest.data.toList)) with
    | none =>
      rw [hi] at h
      simp only at h
      rw [hA] at h
      exact lxF_next h hat (by omega)
    | some v =>
      rw [hi] at h
      simp only at h
      have hat2 : A + (spanE digE rest.data.toList : Int) = ((s.size - rest.size + (rest.data.toList.take (spanE digE rest.data.toList)).length : Nat) : Int) := by rw [htl]; omega
      rw [hat2]
      rw [hA] at h
      exact lx_s1 h _
theorem word_next {w : World} {px : Nat} {s rest : ByteArray} {b : UInt8} {r : List UInt8} (hr : rest.data.toList = b :: r) (hs : rest.size ≤ s.size) (hd : digE b.toNat = false) (hl : letE b.toNat = true) {d : ByteArray} (hdl : d.data.toList = rest.data.toList.take (spanE inNm rest.data.toList))
    {A : Int} (hA : A = ((s.size - rest.size : Nat) : Int)) (h : wordR w px s A A d) : nextR (w.setCell ⟨px, 1, none⟩ (.int .i64 (A + (spanE inNm rest.data.toList : Int)))) px s (tokE rest.data.toList (s.size - rest.size)) := by
  have hrl : rest.data.toList.length = rest.size := by rw [Array.length_toList]; rfl
  have hsp := spanE_le' inNm rest.data.toList
  have htl := take_le_span inNm rest.data.toList
  have hdm : (⟨(rest.data.toList.take (spanE inNm rest.data.toList)).toArray⟩ : ByteArray) = d := by rw [← hdl]
  have hat : A + (spanE inNm rest.data.toList : Int) = ((s.size - rest.size + (rest.data.toList.take (spanE inNm rest.data.toList)).length : Nat) : Int) := by omega
  have ht : tokE rest.data.toList (s.size - rest.size) =
      if d.data.toList = [116, 114, 117, 101] then .ok (.nd (litN (trV true)) (s.size - rest.size), s.size - rest.size + (rest.data.toList.take (spanE inNm rest.data.toList)).length)
      else if d.data.toList = [102, 97, 108, 115, 101] then .ok (.nd (litN (trV false)) (s.size - rest.size), s.size - rest.size + (rest.data.toList.take (spanE inNm rest.data.toList)).length)
      else if keyWord d then .ok (.say d.data.toList (s.size - rest.size), s.size - rest.size + (rest.data.toList.take (spanE inNm rest.data.toList)).length)
      else if nameB d then .ok (.nd (varN d) (s.size - rest.size), s.size - rest.size + (rest.data.toList.take (spanE inNm rest.data.toList)).length) else .error (4, s.size - rest.size) := by
    rw [← hdm]
    unfold keyWord
    simp only
    rw [hr]; unfold tokE; simp only; rw [if_neg (by rw [hd]; decide), if_pos hl]
  rw [ht, hat]
  unfold wordR at h
  rw [hA] at h
  split
  · next h1 => rw [if_pos h1] at h; exact lx_s1 h _
  · next h1 =>
    rw [if_neg h1] at h
    split
    · next h2 => rw [if_pos h2] at h; exact lx_s1 h _
    · next h2 =>
      rw [if_neg h2] at h
      split
      · next h3 => rw [if_pos h3] at h; exact lx_s1 h _
      · next h3 =>
        rw [if_neg h3] at h
        split
        · next h4 => rw [if_pos h4] at h; exact lx_s1 h _
        · next h4 => rw [if_neg h4] at h; exact lxF_next h rfl (by rw [htl]; omega)
theorem text_next {w : World} {px : Nat} {s rest : ByteArray} {r : List UInt8} (hr : rest.data.toList = 39 :: r) (hs : rest.size ≤ s.size)
    {A : Int} (hA : A = ((s.size - rest.size : Nat) : Int)) (h : textR w px s A A (rest.data.toList.drop 1)) : nextR w px s (tokE rest.data.toList (s.size - rest.size)) := by
  have hrl : rest.data.toList.length = rest.size := by rw [Array.length_toList]; rfl
  have ht : tokE rest.data.toList (s.size - rest.size) = match textE 1 [] r with
      | none => .error (4, s.size - rest.size)
      | some (t, n) => if Lib.validD t then .ok (.nd (litN (txV ⟨t.toArray⟩)) (s.size - rest.size), s.size - rest.size + n) else .error (4, s.size - rest.size) := by
    rw [hr]; unfold tokE; simp only; rw [if_neg (by decide), if_neg (by decide), if_pos trivial]; rfl
  rw [ht]
  unfold textR at h
  rw [hr, show (39 :: r).drop 1 = r from rfl, hA] at h
  have hF : ∀ {e wh : Int}, LxF w px s ((s.size - rest.size : Nat) : Int) ⟨#[]⟩ e wh → LxE w px s e wh := fun {e wh} hf => ⟨_, ⟨#[]⟩, by omega, by show 0 ≤ _; omega, hf⟩
  cases he : textE 1 [] r with
  | none => rw [he] at h; exact hF h
  | some p =>
    obtain ⟨t, n⟩ := p
    rw [he] at h
    simp only at h ⊢
    split
    · next hv => rw [if_pos hv] at h; exact h
    · next hv => rw [if_neg hv] at h; exact hF h
theorem lxF_next' {w : World} {px : Nat} {s say : ByteArray} {at_ e wh a' : Int} {n : Nat} (h : LxF w px s at_ say e wh) (hsay : say.size ≤ 1000) (ha : a' = (n : Int)) (hn : n ≤ s.size) : LxE (w.setCell ⟨px, 1, none⟩ (.int .i64 a')) px s e wh := by
  obtain ⟨_, _, _, _, _, _, _, _, _, h⟩ := h
  refine ⟨n, say, hn, hsay, ?_⟩
  rw [ha]
  exact ⟨_, _, _, _, _, _, _, _, _, lx_s1 h _⟩
def sgW (l : List UInt8) : List UInt8 := if 1 < l.length ∧ (signL (l.take 2)).isSome then l.take 2 else l.take 1
theorem sign_tok {rest : List UInt8} {a : Nat} {b : UInt8} {r : List UInt8} (hr : rest = b :: r) (hd : digE b.toNat = false) (hl : letE b.toNat = false) (h39 : b ≠ 39) :
    tokE rest a = if (signL (sgW rest)).isSome ∨ sgW rest = [40] ∨ sgW rest = [41] then .ok (.say (sgW rest) a, a + (sgW rest).length) else .error (4, a) := by
  subst hr
  unfold tokE
  simp only
  rw [if_neg (by rw [hd]; decide), if_neg (by rw [hl]; decide), if_neg h39]
  rfl
def sgOk (u : List UInt8) : Bool := (signL u).isSome || (u == [40] || u == [41])
theorem sign_ok {w : World} {px : Nat} {s rest u : ByteArray} {b : UInt8} {r : List UInt8} (hr : rest.data.toList = b :: r) (_hs : rest.size ≤ s.size) (hx : digE b.toNat = false ∧ letE b.toNat = false ∧ b ≠ 39) (hu : u.data.toList = sgW rest.data.toList)
    {A : Int} {n : Nat} (hA : A = ((s.size - rest.size : Nat) : Int)) (hn : (sgW rest.data.toList).length = n) (hq : sgOk u.data.toList = true) (h : LxN w px s A nilN u A false 0 0) : nextR (w.setCell ⟨px, 1, none⟩ (.int .i64 (A + (n : Int)))) px s (tokE rest.data.toList (s.size - rest.size)) := by
  rw [sign_tok hr hx.1 hx.2.1 hx.2.2, ← hu]
  unfold sgOk at hq
  rw [if_pos (by simpa using hq), hu, hn, ← hu]
  have e : A + (n : Int) = ((s.size - rest.size + n : Nat) : Int) := by omega
  rw [e]
  rw [hA] at h
  exact lx_s1 h _
theorem sign_no {w : World} {px : Nat} {s rest u : ByteArray} {b : UInt8} {r : List UInt8} (hr : rest.data.toList = b :: r) (hs : rest.size ≤ s.size) (hx : digE b.toNat = false ∧ letE b.toNat = false ∧ b ≠ 39) (hu : u.data.toList = sgW rest.data.toList)
    {A : Int} {n : Nat} (hA : A = ((s.size - rest.size : Nat) : Int)) (_hn : (sgW rest.data.toList).length = n) (hnr : n ≤ rest.size) (hus : u.size ≤ 1000) (hq : sgOk u.data.toList = false) (h : LxF w px s A u 4 A) : nextR (w.setCell ⟨px, 1, none⟩ (.int .i64 (A + (n : Int)))) px s (tokE rest.data.toList (s.size - rest.size)) := by
  rw [sign_tok hr hx.1 hx.2.1 hx.2.2, ← hu]
  unfold sgOk at hq
  rw [if_neg (by simpa using hq)]
  have e : A + (n : Int) = ((s.size - rest.size + n : Nat) : Int) := by omega
  rw [hA] at h
  rw [← hA] at h
  refine lxF_next' (at_ := A) ?_ hus e (by omega)
  rw [hA] at h
  rw [hA]
  exact h
theorem lxnum_gd (w : World) (hG : Gd w) (px : Nat) (s : ByteArray) (at_ : Int) (ta : Int) (hb : LxB w px s at_ 0 0 0 false ⟨#[]⟩ ⟨#[]⟩ (.slice none 0 0) ⟨#[]⟩ ta false 0 0) (d : ByteArray) (hd : d.size ≤ 300) (h0 : 0 < d.size) :
    Calls Tryz.prog 73 #[.pointer (some ⟨px, 0, none⟩), .string d] w fun r w' => r = .returned (.tuple #[]) ∧ Frm [some px] w w' ∧ numR w' px s at_ ta d h0 := by
  obtain ⟨t1, p1, h1⟩ := hG.es
  obtain ⟨t2, p2, h2⟩ := hG.er
  exact lxnum_any w t1 p1 t2 p2 (fun W hW => cell_kept h1 hW) (fun W hW => cell_kept h2 hW) px s at_ ta hb d hd h0
set_option maxHeartbeats 8000000 in
/-- The next token; or the first error. -/
theorem next_any (B : Nat) (w : World) (hG : GA B w) (px : Nat) (hp : B ≤ px) (hBw : B ≤ w.heap.size) (s : ByteArray) (hs : s.size ≤ 300) (i : Nat) (hi : i ≤ s.size) (op kind num : Int) (tr : Bool) (text name : ByteArray) (vk : Value) (say : ByteArray) (ta : Int) (en : Bool) (hb : LxB w px s i op kind num tr text name vk say ta en 0 0) :
    Calls Tryz.prog 36 #[.pointer (some ⟨px, 0, none⟩)] w fun r w' => r = .returned (.tuple #[]) ∧ Frm [some px] w w' ∧ nextR w' px s (nextE s.data.toList i) := by
  obtain ⟨rest, hr1, hr2, hr3⟩ := trim_rest s i hi
  have HT : Hid (∀ W, Calls Tryz.prog 70 #[.string (s.extract i s.size), .string ⟨#[32]⟩] W fun e w' => e = .returned (.string rest) ∧ W = w') := Lib.hid (fun W => (Tryz.strings_TrimLeft_one (s.extract i s.size) 32 (by decide) W).mono (fun _ _ h => ⟨by rw [h.1, hr1], h.2.symm⟩))
  have hl := lt_of_block hb
  have hrl : rest.data.toList.length = rest.size := by rw [Array.length_toList]; rfl
  have hsl : s.data.toList.length = s.size := by rw [Array.length_toList]; rfl
  have HN : Hid (nextE s.data.toList i = tokE rest.data.toList (s.size - rest.size)) := Lib.hid (by unfold nextE; rw [← hr2, hrl, hsl])
  have HRL := Lib.hid hrl
  have c0 : w.cell? ⟨px, 0, none⟩ = some (.string s) := cell_of_block hb 0
  have c1 : w.cell? ⟨px, 1, none⟩ = some (.int .i64 (i : Int)) := cell_of_block hb 1
  have HB := Lib.hid hb
  have HG := Lib.hid hG
  clear hb hr1 hr2 hG hrl hsl
  go_enter Tryz.func36, Tryz.ntmps36
  go_wp2_with fail
  go_cut [2] (fun s2 wx => ∃ w9, w9 = wx ∧ s2 = .string rest ∧ Below w.heap.size w w9)
  case first =>
    go_quiet ((go_at_call 70; exact quiet_left (HT.out _)))
    go_wp2_with fail
    go_meet
    exact ⟨_, rfl, rfl, below_drewN' _⟩
  case rest =>
    obtain ⟨w9, rfl, rfl, hb9⟩ := hcut
    have hbk := (hb9.block _ hl).trans HB.out
    have d0 : w9.cell? ⟨px, 0, none⟩ = some (.string s) := cell_of_block hbk 0
    have d1 : w9.cell? ⟨px, 1, none⟩ = some (.int .i64 (i : Int)) := cell_of_block hbk 1
    have d2 : w9.cell? ⟨px, 2, none⟩ = some (.int .u8 op) := cell_of_block hbk 2
    have d3 : w9.cell? ⟨px, 3, none⟩ = some (.int .u8 kind) := cell_of_block hbk 3
    have d4 : w9.cell? ⟨px, 4, none⟩ = some (.int .i64 num) := cell_of_block hbk 4
    have d5 : w9.cell? ⟨px, 5, none⟩ = some (.bool tr) := cell_of_block hbk 5
    have d6 : w9.cell? ⟨px, 6, none⟩ = some (.string text) := cell_of_block hbk 6
    have d7 : w9.cell? ⟨px, 7, none⟩ = some (.string name) := cell_of_block hbk 7
    have d8 : w9.cell? ⟨px, 8, none⟩ = some vk := cell_of_block hbk 8
    have d9 : w9.cell? ⟨px, 9, none⟩ = some (.string say) := cell_of_block hbk 9
    have d10 : w9.cell? ⟨px, 10, none⟩ = some (.int .i64 ta) := cell_of_block hbk 10
    have d11 : w9.cell? ⟨px, 11, none⟩ = some (.bool en) := cell_of_block hbk 11
    have d12 : w9.cell? ⟨px, 12, none⟩ = some (.int .i64 0) := cell_of_block hbk 12
    have f9 := free_of_block hbk
    have HB9 := Lib.hid hbk
    have HF9 : Hid (Frm [some px] w w9) := Lib.hid (Frm.ofBelow hb9)
    clear hbk hb9 c0 c1
    by_cases hre : rest.data.toList = []
    · have e1 : rest.toList.isEmpty = true := by rw [Lib.toList_data, hre]; rfl
      have HRE := Lib.hid hre
      clear hre
      go_wp2_with fail
      refine bodyPost_ret (results_none rfl _ _ _) rfl ?_
      have hz := lx_tok HB9.out ((s.size : Int) - (rest.size : Int))
      refine ⟨rfl, frm_tok HF9.out _ _ _ _ _ _ _ _ _ _ _, ?_⟩
      rw [HN.out, HRE.out]
      show LxN _ px s ((s.size - rest.size : Nat) : Int) nilN ⟨#[]⟩ ((s.size - rest.size : Nat) : Int) true 0 0
      rw [show ((s.size - rest.size : Nat) : Int) = (s.size : Int) - (rest.size : Int) by omega]
      exact hz
    · have e1 : rest.toList.isEmpty = false := by rw [Lib.toList_data, List.isEmpty_eq_false_iff]; exact hre
      have hr0 : 0 < rest.size := by
        rw [← HRL.out]; exact List.length_pos_iff.2 hre
      obtain ⟨b0, hb0⟩ : ∃ b, rest[0] = b := ⟨_, rfl⟩
      obtain ⟨r, hrr⟩ : ∃ r, rest.data.toList = b0 :: r := by
        refine ⟨rest.data.toList.drop 1, ?_⟩
        rw [← hb0]
        have := List.drop_eq_getElem_cons (l := rest.data.toList) (i := 0) (by rw [HRL.out]; exact hr0)
        rw [List.drop_zero] at this
        exact this
      have HRR := Lib.hid hrr
      have hx := b0.toNat_lt
      have hz := lx_head HB9.out HF9.out ((s.size : Int) - (rest.size : Int))
      clear hre hrr
      go_upto_region 15 with fail
      generalize World.setCell _ _ _ = Wc at hz ⊢
      generalize hAe : (s.size : Int) - (rest.size : Int) = A at hz ⊢
      have HA : Hid (A = ((s.size - rest.size : Nat) : Int)) := Lib.hid (by omega)
      have hA0 : 0 ≤ A := by omega
      have hA1 : A + (rest.size : Int) ≤ 300 := by omega
      have hA2 : A ≤ 300 := by omega
      have hr300 : rest.size ≤ 300 := by omega
      have hrs : rest.size ≤ s.size := by omega
      have hzb := hz.1
      have hlc := lt_of_block hzb
      have HZ := Lib.hid hz
      have hGc := HG.out.frm hp hBw hz.2
      have HGc := Lib.hid hGc
      clear hz hzb hGc hAe d0 d1 d2 d3 d4 d5 d6 d7 d8 d9 d10 d11 d12 f9
      have HDg := Lib.hid (edigit_any Wc b0.toNat hx)
      have HLt := Lib.hid (eletter_any Wc b0.toNat hx)
      cases hd : digE b0.toNat with
      | true =>
        have hs1 := spanE_pos digE b0 r hd
        have hs2 := spanE_le' digE rest.data.toList
        rw [HRL.out] at hs2
        rw [← HRR.out] at hs1
        have HSp := Lib.hid (fun W => span_any W rest (by omega) 71 digE dig_hi eg_digit (fun W x hx => edigit_any W x hx))
        have HNX := Lib.hid (fun (W : World) (d : ByteArray) (h0 : 0 < d.size) (hdl : d.data.toList = rest.data.toList.take (spanE digE rest.data.toList)) (h : numR W px s A A d h0) => num_next HRR.out hrs hd h0 hdl HA.out h)
        have HDT := Lib.hid (take_ext rest (spanE digE rest.data.toList))
        obtain ⟨n, hn⟩ : ∃ n, spanE digE rest.data.toList = n := ⟨_, rfl⟩
        rw [hn] at hs1 hs2 HSp HNX HDT
        rw [hd] at HDg
        obtain ⟨d, hdd⟩ : ∃ d, rest.extract 0 n = d := ⟨_, rfl⟩
        have hdz : d.size = n := by rw [← hdd, ByteArray.size_extract]; omega
        rw [hdd] at HDT
        have hd0 : 0 < d.size := by omega
        have hd3 : d.size ≤ 300 := by omega
        have hn3 : n ≤ 300 := by omega
        clear hd hn hdz
        go_wp2_with (first
          | (go_at_call 71; refine HDg.out.mono ?_; rintro e w2 ⟨rfl, rfl⟩)
          | (go_at_call 72; refine (HSp.out _).mono ?_; rintro e w3 ⟨rfl, hb3⟩; have hb5 := (hb3.block px hlc).trans HZ.out.1; have HB5 := Lib.hid hb5; have HF5 := Lib.hid (HZ.out.2.below hb3); have HG5 := Lib.hid (HGc.out _ (hb3.mono (Nat.le_trans hBw HZ.out.2.size))); clear hb3 hb5)
          | (go_at_call 73; refine (lxnum_gd _ HG5.out px s _ _ HB5.out d hd3 hd0).mono ?_; rintro e w4 ⟨rfl, hF4, hn4⟩; obtain ⟨_, _, _, _, _, _, _, _, _, _, _, _, h4⟩ := lx_anyN hn4; have k1 : w4.cell? ⟨px, 1, none⟩ = some (.int .i64 A) := cell_of_block h4 1; have f4 := free_of_block h4; have H4 := Lib.hid (And.intro hF4 hn4); clear hF4 hn4 h4))
        refine bodyPost_end (results_none rfl _ _ _) rfl ?_
        refine ⟨rfl, (HF5.out.trans H4.out.1 (by intro r hr; exact .inl hr)).setL _ (by simp), ?_⟩
        rw [HN.out]
        exact HNX.out _ d hd0 HDT.out H4.out.2
      | false =>
        rw [hd] at HDg
        cases hl : letE b0.toNat with
        | true =>
          have hin : inNm b0.toNat = true := by unfold inNm; rw [hl]; rfl
          have hs1 := spanE_pos inNm b0 r hin
          have hs2 := spanE_le' inNm rest.data.toList
          rw [HRL.out] at hs2
          rw [← HRR.out] at hs1
          have HSp := Lib.hid (fun W => span_any W rest (by omega) 75 inNm inNm_hi eg_inName (fun W x hx => einName_any W x hx))
          have HNX := Lib.hid (fun (W : World) (d : ByteArray) (hdl : d.data.toList = rest.data.toList.take (spanE inNm rest.data.toList)) (h : wordR W px s A A d) => word_next HRR.out hrs hd hl hdl HA.out h)
          have HDT := Lib.hid (take_ext rest (spanE inNm rest.data.toList))
          obtain ⟨n, hn⟩ : ∃ n, spanE inNm rest.data.toList = n := ⟨_, rfl⟩
          rw [hn] at hs1 hs2 HSp HNX HDT
          rw [hl] at HLt
          obtain ⟨d, hdd⟩ : ∃ d, rest.extract 0 n = d := ⟨_, rfl⟩
          have hdz : d.size = n := by rw [← hdd, ByteArray.size_extract]; omega
          rw [hdd] at HDT
          have hd3 : d.size ≤ 300 := by omega
          have hn3 : n ≤ 300 := by omega
          clear hd hl hn hdz hin
          go_wp2_with (first
            | (go_at_call 71; refine HDg.out.mono ?_; rintro e w2 ⟨rfl, rfl⟩)
            | (go_at_call 74; refine HLt.out.mono ?_; rintro e w2 ⟨rfl, rfl⟩)
            | (go_at_call 72; refine (HSp.out _).mono ?_; rintro e w3 ⟨rfl, hb3⟩; have hb5 := (hb3.block px hlc).trans HZ.out.1; have HB5 := Lib.hid hb5; have HF5 := Lib.hid (HZ.out.2.below hb3); clear hb3 hb5)
            | (go_at_call 76; refine (lxword_any _ px s _ _ HB5.out d hd3).mono ?_; rintro e w4 ⟨rfl, hF4, hn4⟩; obtain ⟨_, _, _, _, _, _, _, _, _, _, _, _, h4⟩ := lx_any hn4; have k1 : w4.cell? ⟨px, 1, none⟩ = some (.int .i64 A) := cell_of_block h4 1; have f4 := free_of_block h4; have H4 := Lib.hid (And.intro hF4 hn4); clear hF4 hn4 h4))
          refine bodyPost_end (results_none rfl _ _ _) rfl ?_
          refine ⟨rfl, (HF5.out.trans H4.out.1 (by intro r hr; exact .inl hr)).setL _ (by simp), ?_⟩
          rw [HN.out]
          exact HNX.out _ d HDT.out H4.out.2
        | false =>
          rw [hl] at HLt
          by_cases h39 : b0.toNat = 39
          · have e39 : ((b0.toNat : Int) == 39) = true := beq_iff_eq.2 (by omega)
            have e39' : (b0.toNat == 39) = true := beq_iff_eq.2 h39
            have hb39 := byte39.2 h39
            have HNX := Lib.hid (fun (W : World) (h : textR W px s A A (rest.data.toList.drop 1)) => text_next (r := r) (by rw [← hb39]; exact HRR.out) hrs HA.out h)
            clear hd hl h39 hb39
            go_wp2_with (first
              | (go_at_call 71; refine HDg.out.mono ?_; rintro e w2 ⟨rfl, rfl⟩)
              | (go_at_call 74; refine HLt.out.mono ?_; rintro e w2 ⟨rfl, rfl⟩)
              | (go_at_call 77; refine (lxtext_any Wc HGc.out.now.t8 px s A hA0 _ HZ.out.1 rest (by omega) hr0).mono ?_; rintro e w4 ⟨rfl, hF4, hn4⟩; have H4 := Lib.hid (And.intro hF4 hn4); clear hF4 hn4))
            refine bodyPost_end (results_none rfl _ _ _) rfl ?_
            refine ⟨rfl, HZ.out.2.trans H4.out.1 (by intro r hr; exact .inl hr), ?_⟩
            rw [HN.out]
            exact HNX.out _ H4.out.2
          · have e39 : ((b0.toNat : Int) == 39) = false := beq_eq_false_iff_ne.2 (by omega)
            have e39' : (b0.toNat == 39) = false := beq_eq_false_iff_ne.2 h39
            have hHx : Hid (digE b0.toNat = false ∧ letE b0.toNat = false ∧ b0 ≠ 39) := Lib.hid ⟨hd, hl, fun e => h39 (byte39.1 e)⟩
            obtain ⟨m, hm, hm1, hm2, hmt⟩ : ∃ m : Nat, min (2 : Int) (rest.size : Int) = (m : Int) ∧ m ≤ rest.size ∧ m ≤ 2 ∧ rest.data.toList.take m = rest.data.toList.take 2 := by
              by_cases h2 : 2 ≤ rest.size
              · exact ⟨2, by omega, h2, by omega, rfl⟩
              · exact ⟨rest.size, by omega, by omega, by omega, by rw [List.take_of_length_le (by rw [HRL.out]; exact Nat.le_refl _), List.take_of_length_le (by rw [HRL.out]; omega)]⟩
            obtain ⟨q, hq⟩ : ∃ q, rest.extract 0 m = q := ⟨_, rfl⟩
            have hqs : q.size ≤ 2 := by rw [← hq, ByteArray.size_extract]; omega
            have HQL : Hid (q.data.toList = rest.data.toList.take 2) := Lib.hid (by rw [← hq, take_ext, hmt])
            have hqm : q.size ≤ maxLen := by unfold maxLen; omega
            clear hd hl h39 hmt
            go_upto_region 7 with (first
              | (go_at_call 71; refine HDg.out.mono ?_; rintro e w2 ⟨rfl, rfl⟩)
              | (go_at_call 74; refine HLt.out.mono ?_; rintro e w2 ⟨rfl, rfl⟩))
            go_cut [8] (fun s8 wx => ∃ w7, w7 = wx ∧ s8 = .bool (signL (rest.data.toList.take 2)).isSome ∧ Below Wc.heap.size Wc w7)
            case first =>
              go_region_held3 (fun _ => True) (trivial) (first | (go_at_call 43; refine (signs_any _).mono ?_; rintro e w5 ⟨bm, rfl, hm5, hlo5, hb5⟩; have hL5 := hm5.look_ok q hqm; have hL6 := (hm5.kept ((Below.refl _ _).alloc (Nat.le_refl _) (.cells #[.int .u8 0, .int .i64 0] 85))).look_ok q hqm; clear hm5; have HB5 : Hid (Below Wc.heap.size Wc w5) := Lib.hid (by first | exact (Below.drew (Below.refl _ _)).trans hb5 | exact (((Below.refl _ _).alloc (Nat.le_refl _) _).drew).trans (hb5.mono (by simp)) | exact ((Below.drew (Below.refl _ _)).alloc (Nat.le_refl _) _).trans (hb5.mono (by simp))); try (have hz0 : w5.heap[Wc.heap.size]? = some (.cells #[.int .u8 0, .int .i64 0] 85 (0, 0)) := (hb5.block _ (by simp)).trans (heap_alloc_new _ _); have z0 : w5.cell? ⟨Wc.heap.size, 0, none⟩ = some (.int .u8 0) := cell_of_block hz0 0; have z1 : w5.cell? ⟨Wc.heap.size, 1, none⟩ = some (.int .i64 0) := cell_of_block hz0 1; have zf := free_of_block hz0; clear hz0)))
              all_goals
                go_wp2_with fail
                go_meet
              all_goals
                refine ⟨_, rfl, by rw [HQL.out], ?_⟩
                first
                  | exact HB5.out.alloc HB5.out.size _
                  | exact (HB5.out.alloc HB5.out.size _).drew
                  | exact (HB5.out.setCell (Nat.le_refl _) _).setCell (Nat.le_refl _) _
            case rest =>
              obtain ⟨w7, rfl, rfl, hb7⟩ := hcut
              have hb5 := (hb7.block px hlc).trans HZ.out.1
              have HB7 := Lib.hid hb5
              have HF7 := Lib.hid (HZ.out.2.below hb7)
              have k9 : w7.cell? ⟨px, 9, none⟩ = some (.string ⟨#[]⟩) := cell_of_block hb5 9
              have f7 := free_of_block hb5
              clear hb7 hb5 HDg HLt hq hm hqm hqs HQL
              obtain ⟨ss, hss⟩ : ∃ b, (signL (rest.data.toList.take 2)).isSome = b := ⟨_, rfl⟩
              obtain ⟨n, hn1, hn2, hn3, hnl, hnt, hnc⟩ : ∃ n : Nat, 1 ≤ n ∧ n ≤ 2 ∧ n ≤ rest.size ∧ (sgW rest.data.toList).length = n ∧ rest.data.toList.take n = sgW rest.data.toList ∧ ((n = 2 ∧ ss = true ∧ decide ((1 : Int) < (rest.size : Int)) = true ∧ decide (1 < rest.size) = true) ∨ (n = 1 ∧ ss = false) ∨ (n = 1 ∧ ss = true ∧ decide ((1 : Int) < (rest.size : Int)) = false ∧ decide (1 < rest.size) = false)) := by
                unfold sgW
                rw [HRL.out, hss]
                by_cases h1 : 1 < rest.size
                · cases ss with
                  | true => exact ⟨2, by omega, by omega, by omega, by rw [if_pos ⟨h1, rfl⟩, List.length_take, HRL.out]; omega, by rw [if_pos ⟨h1, rfl⟩], .inl ⟨rfl, rfl, decide_eq_true (by omega), decide_eq_true h1⟩⟩
                  | false => exact ⟨1, by omega, by omega, by omega, by rw [if_neg (by rintro ⟨_, h⟩; cases h), List.length_take, HRL.out]; omega, by rw [if_neg (by rintro ⟨_, h⟩; cases h)], .inr (.inl ⟨rfl, rfl⟩)⟩
                · refine ⟨1, by omega, by omega, by omega, by rw [if_neg (by rintro ⟨h, _⟩; omega), List.length_take, HRL.out]; omega, by rw [if_neg (by rintro ⟨h, _⟩; omega)], ?_⟩
                  cases ss with
                  | true => exact .inr (.inr ⟨rfl, rfl, decide_eq_false (by omega), decide_eq_false h1⟩)
                  | false => exact .inr (.inl ⟨rfl, rfl⟩)
              obtain ⟨u, hu⟩ : ∃ u, rest.extract 0 n = u := ⟨_, rfl⟩
              have HUL : Hid (u.data.toList = sgW rest.data.toList) := Lib.hid (by rw [← hu, take_ext, hnt])
              have hus : u.size ≤ 2 := by rw [← hu, ByteArray.size_extract]; omega
              have hum : u.size ≤ maxLen := by unfold maxLen; omega
              have HNL := Lib.hid hnl
              have HU := Lib.hid hu
              clear hnl hnt hu
              rw [hss]
              have HSS := Lib.hid hss
              clear hss
              go_upto_region 8 with fail
              go_cut [70] (fun s70 wx => ∃ bb : Bool, s70 = .bool bb ∧ Hid ((bb = true ∧ n = 2) ∨ (bb = false ∧ n = 1)) ∧ w7 = wx)
              case first =>
                rcases hnc with ⟨e2, rfl, e3, e4⟩ | ⟨e2, rfl⟩ | ⟨e2, rfl, e3, e4⟩
                · have E2 := Lib.hid e2
                  clear e2
                  go_wp2_with fail
                  go_meet
                  exact ⟨_, rfl, Lib.hid (.inl ⟨rfl, E2.out⟩), rfl⟩
                · have E2 := Lib.hid e2
                  clear e2
                  go_wp2_with fail
                  go_meet
                  exact ⟨_, rfl, Lib.hid (.inr ⟨rfl, E2.out⟩), rfl⟩
                · have E2 := Lib.hid e2
                  clear e2
                  go_wp2_with fail
                  go_meet
                  exact ⟨_, rfl, Lib.hid (.inr ⟨rfl, E2.out⟩), rfl⟩
              case rest =>
                obtain ⟨bb, rfl, hbb, rfl⟩ := hcut
                clear hnc
                go_upto_if 70 with fail
                go_cut [6] (fun s6 wx => ∃ m : Nat, s6 = .int .i64 (m : Int) ∧ Hid (m = n) ∧ w7 = wx)
                case first =>
                  rcases hbb.out with ⟨rfl, e2⟩ | ⟨rfl, e2⟩
                  · have E2 := Lib.hid e2
                    clear e2
                    go_wp2_with fail
                    go_meet
                    exact ⟨2, rfl, Lib.hid E2.out.symm, rfl⟩
                  · have E2 := Lib.hid e2
                    clear e2
                    go_wp2_with fail
                    go_meet
                    exact ⟨1, rfl, Lib.hid E2.out.symm, rfl⟩
                case rest =>
                  obtain ⟨m, rfl, hm, rfl⟩ := hcut
                  clear hbb
                  obtain rfl : m = n := hm.out
                  have hu := HU.out
                  go_upto_region 11 with fail
                  have hz8 : LxB (w7.setCell ⟨px, 9, none⟩ (.string u)) px s A 0 0 0 false ⟨#[]⟩ ⟨#[]⟩ (.slice none 0 0) u A false 0 0 ∧ Frm [some px] w (w7.setCell ⟨px, 9, none⟩ (.string u)) := ⟨lx_s9 HB7.out u, HF7.out.setL _ (by simp)⟩
                  generalize World.setCell _ _ _ = W8 at hz8 ⊢
                  have hl8 := lt_of_block hz8.1
                  have z9 : W8.cell? ⟨px, 9, none⟩ = some (.string u) := cell_of_block hz8.1 9
                  have HZ8 := Lib.hid hz8
                  clear hz8 k9 f7 hu
                  go_cut [10] (fun s10 wx => ∃ w10, w10 = wx ∧ s10 = .bool (signL u.data.toList).isSome ∧ Below W8.heap.size W8 w10)
                  case first =>
                    go_region_held3 (fun w' => w'.cell? ⟨px, 9, none⟩ = some (.string u)) (first | go_keep | assumption | exact q9b _ _) (first | (go_at_call 43; refine (signs_any _).mono ?_; rintro e w5 ⟨bm, rfl, hm5, hlo5, hb5⟩; have hL5 := hm5.look_ok u hum; have hL6 := (hm5.kept ((Below.refl _ _).alloc (Nat.le_refl _) (.cells #[.int .u8 0, .int .i64 0] 85))).look_ok u hum; clear hm5; have HB5 : Hid (Below W8.heap.size W8 w5) := Lib.hid (by first | exact (Below.drew (Below.refl _ _)).trans hb5 | exact (((Below.refl _ _).alloc (Nat.le_refl _) _).drew).trans (hb5.mono (by simp)) | exact ((Below.drew (Below.refl _ _)).alloc (Nat.le_refl _) _).trans (hb5.mono (by simp))); have q9 : w5.cell? ⟨px, 9, none⟩ = some (.string u) := (Below.cellB HB5.out hl8).trans z9; have q9b : ∀ v1 v2, ((w5.setCell ⟨W8.heap.size, 0, none⟩ v1).setCell ⟨W8.heap.size, 1, none⟩ v2).cell? ⟨px, 9, none⟩ = some (.string u) := (fun v1 v2 => (Below.cellB (((Below.refl W8.heap.size w5).setCell (p := ⟨W8.heap.size, 0, none⟩) (Nat.le_refl _) v1).setCell (p := ⟨W8.heap.size, 1, none⟩) (Nat.le_refl _) v2) hl8).trans q9); try (have hz0 : w5.heap[W8.heap.size]? = some (.cells #[.int .u8 0, .int .i64 0] 85 (0, 0)) := (hb5.block _ (by simp)).trans (heap_alloc_new _ _); have z0 : w5.cell? ⟨W8.heap.size, 0, none⟩ = some (.int .u8 0) := cell_of_block hz0 0; have z1 : w5.cell? ⟨W8.heap.size, 1, none⟩ = some (.int .i64 0) := cell_of_block hz0 1; have zf := free_of_block hz0; clear hz0)))
                    all_goals
                      go_wp2_with fail
                      go_meet
                    all_goals
                      refine ⟨_, rfl, rfl, ?_⟩
                      first
                        | exact HB5.out.alloc HB5.out.size _
                        | exact (HB5.out.alloc HB5.out.size _).drew
                        | exact (HB5.out.setCell (Nat.le_refl _) _).setCell (Nat.le_refl _) _
                  case rest =>
                    obtain ⟨w10, rfl, rfl, hb10⟩ := hcut
                    have hb5 := (hb10.block px hl8).trans HZ8.out.1
                    have k9 : w10.cell? ⟨px, 9, none⟩ = some (.string u) := cell_of_block hb5 9
                    have k1 : w10.cell? ⟨px, 1, none⟩ = some (.int .i64 A) := cell_of_block hb5 1
                    have f10 := free_of_block hb5
                    have HB10 := Lib.hid hb5
                    have HF10 := Lib.hid (HZ8.out.2.below hb10)
                    have HFl := Lib.hid (xfail_any w10 px s A 0 0 0 false ⟨#[]⟩ ⟨#[]⟩ (.slice none 0 0) u A false 0 0 hb5)
                    have hSO : Hid (sgOk u.data.toList = ((signL u.data.toList).isSome || (u.data.toList == [40] || u.data.toList == [41]))) := Lib.hid rfl
                    have t1 : (u.toList == [40]) = (u.data.toList == [40]) := by rw [Lib.toList_data]
                    have t2 : (u.toList == [41]) = (u.data.toList == [41]) := by rw [Lib.toList_data]
                    have t1n : (u.toList != [40]) = !(u.data.toList == [40]) := by rw [Lib.toList_data]; rfl
                    have t2n : (u.toList != [41]) = !(u.data.toList == [41]) := by rw [Lib.toList_data]; rfl
                    have HOK := Lib.hid (fun (W : World) (hq : sgOk u.data.toList = true) (h : LxN W px s A nilN u A false 0 0) => sign_ok HRR.out hrs hHx.out HUL.out HA.out HNL.out hq h)
                    have HNO := Lib.hid (fun (W : World) (hq : sgOk u.data.toList = false) (h : LxF W px s A u 4 A) => sign_no HRR.out hrs hHx.out HUL.out HA.out HNL.out hn3 (by omega) hq h)
                    obtain ⟨x0, hx0⟩ : ∃ x, (signL u.data.toList).isSome = x := ⟨_, rfl⟩
                    obtain ⟨x1, hx1⟩ : ∃ x, (u.data.toList == [40]) = x := ⟨_, rfl⟩
                    obtain ⟨x2, hx2⟩ : ∃ x, (u.data.toList == [41]) = x := ⟨_, rfl⟩
                    rw [hx0, hx1, hx2] at hSO
                    rw [hx1] at t1 t1n
                    rw [hx2] at t2 t2n
                    rw [hx0]
                    clear hb10 hb5 hx0 hx1 hx2
                    have hor : (x0 = true) ∨ (x0 = false ∧ x1 = true) ∨ (x0 = false ∧ x1 = false ∧ x2 = true) ∨ (x0 = false ∧ x1 = false ∧ x2 = false) := by cases x0 <;> cases x1 <;> cases x2 <;> simp
                    rcases hor with rfl | ⟨rfl, rfl⟩ | ⟨rfl, rfl, rfl⟩ | ⟨rfl, rfl, rfl⟩
                    case inr.inr.inr =>
                      simp only [Bool.not_false] at t1n t2n
                      go_wp2_with (go_at_call 39; refine (HFl.out _ _).mono ?_; rintro e w4 ⟨rfl, hF4, hb4⟩; have hb5 : LxB w4 px s A 0 0 0 false ⟨#[]⟩ ⟨#[]⟩ (.slice none 0 0) u A false 4 A := (by simpa using hb4); have k1' : w4.cell? ⟨px, 1, none⟩ = some (.int .i64 A) := cell_of_block hb5 1; have f4 := free_of_block hb5; have H4 := Lib.hid (And.intro hF4 hb5); clear hF4 hb4 hb5)
                      refine bodyPost_end (results_none rfl _ _ _) rfl ?_
                      refine ⟨rfl, (HF10.out.trans H4.out.1 (by intro r hr; exact .inl hr)).setL _ (by simp), ?_⟩
                      rw [HN.out]
                      exact HNO.out _ hSO.out ⟨_, _, _, _, _, _, _, _, _, H4.out.2⟩
                    all_goals
                      have hok : Hid (sgOk u.data.toList = true) := Lib.hid (by rw [hSO.out]; simp)
                      try simp only [Bool.not_false, Bool.not_true] at t1n t2n
                      go_wp2_with fail
                      refine bodyPost_end (results_none rfl _ _ _) rfl ?_
                      refine ⟨rfl, HF10.out.setL _ (by simp), ?_⟩
                      rw [HN.out]
                      exact HOK.out _ hok.out HB10.out
end Go.Proofs.YtbephgifbghilaaGreatDoor
/- Nodes that a call makes: their reading in own blocks; what a part of a condition leaves (seat expr). -/
set_option maxRecDepth 100000
namespace Go.Proofs.YtbephgifbghilaaGreatDoor
open Go.RowKit
/-- Kids in blocks that meet 'ok'. -/
inductive MadeR (w : World) (ok : Nat → Prop) : Value → List Nd → Prop
  | nil : MadeR w ok (.slice none 0 0) []
  | mk (b : Nat) (c : Array Value) (l : List Nd) (vk : Nat → Value) (hn : 0 < l.length) (hl : l.length ≤ 2) (hok : ok b) (hblk : w.heap[b]? = some (.cells c 29 (0, 0))) (hw : ∀ i (h : i < l.length), HeadW l[i])
      (hc : ∀ i (h : i < l.length), ∀ j, j < 7 → c[i * 7 + j]? = (cellN l[i] (vk i))[j]?)
      (hk : ∀ i (h : i < l.length), MadeR w ok (vk i) l[i].kids) : MadeR w ok (.slice (some ⟨b, 0, none⟩) l.length l.length) l
theorem MadeR.kept {w w' : World} {ok : Nat → Prop} {v : Value} {l : List Nd} {S : List (Option Nat)} (h : MadeR w ok v l) (hF : Frm S w w') (hS : ∀ b, ok b → ∀ r ∈ S, r ≠ some b) : MadeR w' ok v l := by
  induction h with
  | nil => exact .nil
  | mk b c l vk hn hl hok hblk hw hc hk ih => exact .mk b c l vk hn hl hok ((hF.keep b (lt_of_block hblk) (hS b hok)).trans hblk) hw hc ih
theorem MadeR.keptB {w w' : World} {ok : Nat → Prop} {v : Value} {l : List Nd} (h : MadeR w ok v l) (hb : Below w.heap.size w w') : MadeR w' ok v l :=
  h.kept (Frm.ofBelow (S := []) hb) (fun b _ r hr => by cases hr)
theorem MadeR.weak {w : World} {ok ok' : Nat → Prop} {v : Value} {l : List Nd} (h : MadeR w ok v l) (ho : ∀ b, b < w.heap.size → ok b → ok' b) : MadeR w ok' v l := by
  induction h with
  | nil => exact .nil
  | mk b c l vk hn hl hok hblk hw hc hk ih => exact .mk b c l vk hn hl (ho b (lt_of_block hblk) hok) hblk hw hc ih
theorem MadeR.kids {w : World} {ok : Nat → Prop} {v : Value} {l : List Nd} (h : MadeR w ok v l) : KidsR w w.heap.size v l := by
  induction h with
  | nil => exact KidsR.nil _ _
  | mk b c l vk hn hl hok hblk hw hc hk ih =>
    refine .mk _ _ l vk (by omega) (Nat.le_refl _) hw (fun i hi => ⟨b, 0, rfl, lt_of_block hblk, fun j hj => ?_⟩) ih
    rw [Nat.zero_add, cell_of_block hblk]
    exact hc i hi j hj
theorem MadeR.shape {w : World} {ok : Nat → Prop} {v : Value} {l : List Nd} (h : MadeR w ok v l) : ∃ a c d, v = .slice a c d := by
  cases h with
  | nil => exact ⟨_, _, _, rfl⟩
  | mk => exact ⟨_, _, _, rfl⟩
/-- One kid, two kids, in a block of their own. -/
theorem MadeR.one {w : World} {ok : Nat → Prop} {n : Nd} {vk : Value} {b : Nat} (hblk : w.heap[b]? = some (.cells #[.int .u8 n.op, .int .u8 n.v.kind, .int .i64 n.v.num, .bool n.v.tr, .string n.v.text, .string n.name, vk] 29 (0, 0))) (hok : ok b) (hw : HeadW n) (hk : MadeR w ok vk n.kids) :
    MadeR w ok (.slice (some ⟨b, 0, none⟩) 1 1) [n] :=
  .mk b _ [n] (fun _ => vk) (by simp) (by simp) hok hblk (fun i h => by have : i = 0 := by simpa using h
                                                                        subst this; exact hw)
    (fun i h j hj => by
      have : i = 0 := by simpa using h
      subst this
      have : j = 0 ∨ j = 1 ∨ j = 2 ∨ j = 3 ∨ j = 4 ∨ j = 5 ∨ j = 6 := by omega
      rcases this with rfl | rfl | rfl | rfl | rfl | rfl | rfl <;> rfl)
    (fun i h => by have : i = 0 := by simpa using h
                   subst this; exact hk)
theorem MadeR.two {w : World} {ok : Nat → Prop} {n m : Nd} {vk vm : Value} {b : Nat} (hblk : w.heap[b]? = some (.cells #[.int .u8 n.op, .int .u8 n.v.kind, .int .i64 n.v.num, .bool n.v.tr, .string n.v.text, .string n.name, vk, .int .u8 m.op, .int .u8 m.v.kind, .int .i64 m.v.num, .bool m.v.tr, .string m.v.text, .string m.name, vm] 29 (0, 0)))
    (hok : ok b) (hw : HeadW n) (hw2 : HeadW m) (hk : MadeR w ok vk n.kids) (hk2 : MadeR w ok vm m.kids) : MadeR w ok (.slice (some ⟨b, 0, none⟩) 2 2) [n, m] :=
  .mk b _ [n, m] (fun i => if i = 0 then vk else vm) (by simp) (by simp) hok hblk
    (fun i h => by
      have : i = 0 ∨ i = 1 := by simp at h; omega
      rcases this with rfl | rfl
      · exact hw
      · exact hw2)
    (fun i h j hj => by
      have : i = 0 ∨ i = 1 := by simp at h; omega
      have hj : j = 0 ∨ j = 1 ∨ j = 2 ∨ j = 3 ∨ j = 4 ∨ j = 5 ∨ j = 6 := by omega
      rcases this with rfl | rfl <;> rcases hj with rfl | rfl | rfl | rfl | rfl | rfl | rfl <;> rfl)
    (fun i h => by
      have : i = 0 ∨ i = 1 := by simp at h; omega
      rcases this with rfl | rfl
      · exact hk
      · exact hk2)
theorem HeadW_one {op : Int} (h0 : 0 ≤ op) (h1 : op ≤ 255) (n : Nd) : HeadW (oneN op n) := ⟨h0, h1, VlW.zero, by show 0 ≤ _; omega⟩
theorem HeadW_two {op : Int} (h0 : 0 ≤ op) (h1 : op ≤ 255) (n m : Nd) : HeadW (twoN op n m) := ⟨h0, h1, VlW.zero, by show 0 ≤ _; omega⟩
theorem Frm.new {px p : Nat} {w w' : World} (h : Frm [some px, some p] w w') (hp : w.heap.size ≤ p) : Frm [some px] w w' :=
  ⟨h.os, h.tape, h.output, h.size, fun k hk hs => h.keep k hk (fun r hr e => by
    simp only [List.mem_cons, List.not_mem_nil, or_false] at hr
    rcases hr with rfl | rfl
    · exact hs _ (by simp) e
    · injection e with e; omega)⟩
/-- The lexer's block stands. -/
theorem LxT.kept {w w' : World} {px : Nat} {s : ByteArray} {st : Tk × Nat} (h : LxT w px s st) (e : w'.heap[px]? = w.heap[px]?) : LxT w' px s st := by
  unfold LxT at h ⊢
  split
  · next a he => rw [he] at h; exact e.trans h
  · next n a he => rw [he] at h; exact e.trans h
  · next u a he => rw [he] at h; exact e.trans h
theorem LxE.kept {w w' : World} {px : Nat} {s : ByteArray} {x a : Int} (h : LxE w px s x a) (e : w'.heap[px]? = w.heap[px]?) : LxE w' px s x a := by
  obtain ⟨i, say, h1, h2, op, kind, num, tr, text, name, vk, ta, en, h3⟩ := h
  exact ⟨i, say, h1, h2, op, kind, num, tr, text, name, vk, ta, en, e.trans h3⟩
/-- .. in whatever state. -/
theorem LxT.block {w : World} {px : Nat} {s : ByteArray} {st : Tk × Nat} (h : LxT w px s st) : ∃ op kind num tr text name vk say ta en, LxB w px s (st.2 : Int) op kind num tr text name vk say ta en 0 0 := by
  unfold LxT at h
  split at h
  · exact ⟨_, _, _, _, _, _, _, _, _, _, h⟩
  · exact ⟨_, _, _, _, _, _, _, _, _, _, h⟩
  · exact ⟨_, _, _, _, _, _, _, _, _, _, h⟩
def partR (w : World) (px : Nat) (s : ByteArray) (lo : Nat) (n : Nd) (vk : Value) (r : Rs (Nd × (Tk × Nat))) : Prop := match r with
  | .ok (m, st) => n = m ∧ MadeR w (fun b => lo ≤ b) vk m.kids ∧ HeadW m ∧ LxT w px s st ∧ StW s.data.toList.length st
  | .error (e, a) => LxE w px s e (a : Int) ∧ e ≠ 0
/-- What a call leaves that reads a part. -/
def PartC (w : World) (px : Nat) (s : ByteArray) (r : Rs (Nd × (Tk × Nat))) (e : Ending) (w' : World) : Prop :=
  ∃ n a c d, e = .returned (valN n (.slice a c d)) ∧ Frm [some px] w w' ∧ partR w' px s w.heap.size n (.slice a c d) r
/-- The closures of expr.Parse. -/
structure PW (w : World) (B px cx cf c7 c8 c9 c10 : Nat) : Prop where
  hp : B ≤ px
  hB : B ≤ w.heap.size
  hx : w.heap[cx]? = some (.cells #[.pointer (some ⟨px, 0, none⟩)] 75 (0, 0))
  hf : w.heap[cf]? = some (.cells #[.func (.func 42) #[] #[.pointer (some ⟨cx, 0, none⟩), .pointer (some ⟨c10, 0, none⟩), .pointer (some ⟨cf, 0, none⟩)]] 80 (0, 0))
  h7 : w.heap[c7]? = some (.cells #[.func (.func 37) #[] #[.pointer (some ⟨cx, 0, none⟩), .pointer (some ⟨cf, 0, none⟩)]] 81 (0, 0))
  h8 : w.heap[c8]? = some (.cells #[.func (.func 38) #[] #[.pointer (some ⟨cx, 0, none⟩)]] 83 (0, 0))
  h9 : w.heap[c9]? = some (.cells #[.func (.func 40) #[] #[.pointer (some ⟨cx, 0, none⟩), .pointer (some ⟨cf, 0, none⟩)]] 83 (0, 0))
  h10 : w.heap[c10]? = some (.cells #[.func (.func 41) #[] #[.pointer (some ⟨cx, 0, none⟩), .pointer (some ⟨c7, 0, none⟩), .pointer (some ⟨c9, 0, none⟩), .pointer (some ⟨c8, 0, none⟩)]] 80 (0, 0))
  hl : ∃ c, w.heap[px]? = some (.cells c 79 (0, 0))
theorem PW.kept {w w' : World} {B px cx cf c7 c8 c9 c10 : Nat} (h : PW w B px cx cf c7 c8 c9 c10) (hF : Frm [some px] w w') (hl : ∃ c, w'.heap[px]? = some (.cells c 79 (0, 0))) : PW w' B px cx cf c7 c8 c9 c10 := by
  obtain ⟨c, hc⟩ := h.hl
  have key : ∀ {b : Nat} {d : Array Value} {t : TypeId}, w.heap[b]? = some (.cells d t (0, 0)) → t ≠ 79 → w'.heap[b]? = some (.cells d t (0, 0)) := fun {b d t} hb ht => hF.block hb (by
    intro r hr e
    simp only [List.mem_singleton] at hr
    rw [hr] at e
    injection e with e
    exact type_ne hb hc ht e.symm)
  exact ⟨h.hp, Nat.le_trans h.hB hF.size, key h.hx (by decide), key h.hf (by decide), key h.h7 (by decide), key h.h8 (by decide), key h.h9 (by decide), key h.h10 (by decide), hl⟩
theorem PW.below {w w' : World} {B px cx cf c7 c8 c9 c10 : Nat} (h : PW w B px cx cf c7 c8 c9 c10) (hb : Below w.heap.size w w') : PW w' B px cx cf c7 c8 c9 c10 := by
  obtain ⟨c, hc⟩ := h.hl
  exact h.kept (Frm.ofBelow hb) ⟨c, (hb.block _ (lt_of_block hc)).trans hc⟩
theorem LxT.lex {w : World} {px : Nat} {s : ByteArray} {st : Tk × Nat} (h : LxT w px s st) : ∃ c, w.heap[px]? = some (.cells c 79 (0, 0)) := by
  obtain ⟨_, _, _, _, _, _, _, _, _, _, h⟩ := h.block
  exact ⟨_, h⟩
theorem LxE.lex {w : World} {px : Nat} {s : ByteArray} {e a : Int} (h : LxE w px s e a) : ∃ c, w.heap[px]? = some (.cells c 79 (0, 0)) := by
  obtain ⟨_, _, _, _, _, _, _, _, _, _, _, _, _, h⟩ := h
  exact ⟨_, h⟩
theorem partR.lex {w : World} {px : Nat} {s : ByteArray} {lo : Nat} {n : Nd} {vk : Value} {r : Rs (Nd × (Tk × Nat))} (h : partR w px s lo n vk r) : ∃ c, w.heap[px]? = some (.cells c 79 (0, 0)) := by
  unfold partR at h
  split at h
  · exact h.2.2.2.1.lex
  · exact h.1.lex
end Go.Proofs.YtbephgifbghilaaGreatDoor
/- The closures of expr.Parse: contracts; from behind an error (seat expr). -/
set_option maxRecDepth 100000
namespace Go.Proofs.YtbephgifbghilaaGreatDoor
open Go.RowKit
structure PX (w : World) (B px cx cf c7 c8 c9 c10 : Nat) : Prop where
  pw : PW w B px cx cf c7 c8 c9 c10
  ga : GA B w
theorem PX.kept {w w' : World} {B px cx cf c7 c8 c9 c10 : Nat} (h : PX w B px cx cf c7 c8 c9 c10) (hF : Frm [some px] w w') (hl : ∃ c, w'.heap[px]? = some (.cells c 79 (0, 0))) : PX w' B px cx cf c7 c8 c9 c10 :=
  ⟨h.pw.kept hF hl, h.ga.frm h.pw.hp h.pw.hB hF⟩
theorem PX.below {w w' : World} {B px cx cf c7 c8 c9 c10 : Nat} (h : PX w B px cx cf c7 c8 c9 c10) (hb : Below w.heap.size w w') : PX w' B px cx cf c7 c8 c9 c10 :=
  ⟨h.pw.below hb, h.ga.step (hb.mono h.pw.hB)⟩
theorem nextT {w : World} {B px cx cf c7 c8 c9 c10 : Nat} (h : PX w B px cx cf c7 c8 c9 c10) {s : ByteArray} (hs : s.size ≤ 256) {st : Tk × Nat} (hlx : LxT w px s st) (hi : StW s.data.toList.length st) :
    Calls Tryz.prog 36 #[.pointer (some ⟨px, 0, none⟩)] w fun r w' => r = .returned (.tuple #[]) ∧ Frm [some px] w w' ∧ nextR w' px s (nextE s.data.toList st.2) := by
  obtain ⟨op, kind, num, tr, text, name, vk, say, ta, en, hb⟩ := hlx.block
  have hsl : s.data.toList.length = s.size := by rw [Array.length_toList]; rfl
  exact next_any B w h.ga px h.pw.hp h.pw.hB s (by omega) st.2 (by have := hi.1; omega) _ _ _ _ _ _ _ _ _ _ hb
theorem nextX {w : World} {px : Nat} {s : ByteArray} (hs : s.size ≤ 256) {x a : Int} (hx : x ≠ 0) (hlx : LxE w px s x a) :
    Calls Tryz.prog 36 #[.pointer (some ⟨px, 0, none⟩)] w fun r w' => r = .returned (.tuple #[]) ∧ Frm [some px] w w' ∧ LxE w' px s x a := nexterr_any w px s (by omega) x a hx hlx
abbrev nilObj : Obj := .cells #[.int .u8 0, .int .u8 0, .int .i64 0, .bool false, .string ⟨#[]⟩, .string ⟨#[]⟩, .slice none 0 0] 29
theorem n7_cells {w : World} {p : Nat} {v0 v1 v2 v3 v4 v5 v6 : Value} (h : w.heap[p]? = some (.cells #[v0, v1, v2, v3, v4, v5, v6] 29 (0, 0))) :
    w.cell? ⟨p, 0, none⟩ = some v0 ∧ w.cell? ⟨p, 1, none⟩ = some v1 ∧ w.cell? ⟨p, 2, none⟩ = some v2 ∧ w.cell? ⟨p, 3, none⟩ = some v3 ∧ w.cell? ⟨p, 4, none⟩ = some v4 ∧ w.cell? ⟨p, 5, none⟩ = some v5 ∧ w.cell? ⟨p, 6, none⟩ = some v6 ∧ (∀ j, w.frozen? ⟨p, j, none⟩ = false) :=
  ⟨cell_of_block h 0, cell_of_block h 1, cell_of_block h 2, cell_of_block h 3, cell_of_block h 4, cell_of_block h 5, cell_of_block h 6, free_of_block h⟩
/-- A whole node is laid into a block. -/
abbrev set7 (W : World) (p : Nat) (v0 v1 v2 v3 v4 v5 v6 : Value) : World := ((((((W.setCell ⟨p, 0, none⟩ v0).setCell ⟨p, 1, none⟩ v1).setCell ⟨p, 2, none⟩ v2).setCell ⟨p, 3, none⟩ v3).setCell ⟨p, 4, none⟩ v4).setCell ⟨p, 5, none⟩ v5).setCell ⟨p, 6, none⟩ v6
theorem set7_frm (W : World) (p : Nat) (v0 v1 v2 v3 v4 v5 v6 : Value) : Frm [some p] W (set7 W p v0 v1 v2 v3 v4 v5 v6) :=
  (((((((Frm.refl [some p] W).setL v0 (by simp)).setL v1 (by simp)).setL v2 (by simp)).setL v3 (by simp)).setL v4 (by simp)).setL v5 (by simp)).setL v6 (by simp)
section
variable {W : World} {p : Nat} {a0 a1 a2 a3 a4 a5 a6 : Value}
theorem st_0 (h : W.heap[p]? = some (.cells #[a0, a1, a2, a3, a4, a5, a6] 29 (0, 0))) (v : Value) : (W.setCell ⟨p, 0, none⟩ v).heap[p]? = some (.cells #[v, a1, a2, a3, a4, a5, a6] 29 (0, 0)) := set_selfL v h
theorem st_1 (h : W.heap[p]? = some (.cells #[a0, a1, a2, a3, a4, a5, a6] 29 (0, 0))) (v : Value) : (W.setCell ⟨p, 1, none⟩ v).heap[p]? = some (.cells #[a0, v, a2, a3, a4, a5, a6] 29 (0, 0)) := set_selfL v h
theorem st_2 (h : W.heap[p]? = some (.cells #[a0, a1, a2, a3, a4, a5, a6] 29 (0, 0))) (v : Value) : (W.setCell ⟨p, 2, none⟩ v).heap[p]? = some (.cells #[a0, a1, v, a3, a4, a5, a6] 29 (0, 0)) := set_selfL v h
theorem st_3 (h : W.heap[p]? = some (.cells #[a0, a1, a2, a3, a4, a5, a6] 29 (0, 0))) (v : Value) : (W.setCell ⟨p, 3, none⟩ v).heap[p]? = some (.cells #[a0, a1, a2, v, a4, a5, a6] 29 (0, 0)) := set_selfL v h
theorem st_4 (h : W.heap[p]? = some (.cells #[a0, a1, a2, a3, a4, a5, a6] 29 (0, 0))) (v : Value) : (W.setCell ⟨p, 4, none⟩ v).heap[p]? = some (.cells #[a0, a1, a2, a3, v, a5, a6] 29 (0, 0)) := set_selfL v h
theorem st_5 (h : W.heap[p]? = some (.cells #[a0, a1, a2, a3, a4, a5, a6] 29 (0, 0))) (v : Value) : (W.setCell ⟨p, 5, none⟩ v).heap[p]? = some (.cells #[a0, a1, a2, a3, a4, v, a6] 29 (0, 0)) := set_selfL v h
theorem st_6 (h : W.heap[p]? = some (.cells #[a0, a1, a2, a3, a4, a5, a6] 29 (0, 0))) (v : Value) : (W.setCell ⟨p, 6, none⟩ v).heap[p]? = some (.cells #[a0, a1, a2, a3, a4, a5, v] 29 (0, 0)) := set_selfL v h
theorem set7_is (h : W.heap[p]? = some (.cells #[a0, a1, a2, a3, a4, a5, a6] 29 (0, 0))) (v0 v1 v2 v3 v4 v5 v6 : Value) : (set7 W p v0 v1 v2 v3 v4 v5 v6).heap[p]? = some (.cells #[v0, v1, v2, v3, v4, v5, v6] 29 (0, 0)) := st_6 (st_5 (st_4 (st_3 (st_2 (st_1 (st_0 h v0) v1) v2) v3) v4) v5) v6
end
/-- What from does with fuel f. -/
def FromC (s : ByteArray) (B px cx cf c7 c8 c9 c10 f : Nat) : Prop := ∀ (w : World) (line : Nat) (st : Tk × Nat), PX w B px cx cf c7 c8 c9 c10 → LxT w px s st → StW s.data.toList.length st → line ≤ 9 → mu s.data.toList.length st < f →
  Calls Tryz.prog 42 #[.int .i64 (line : Int), .pointer (some ⟨cx, 0, none⟩), .pointer (some ⟨c10, 0, none⟩), .pointer (some ⟨cf, 0, none⟩)] w (PartC w px s (prsE s.data.toList f none line st))
theorem LxE.c12 {w : World} {px : Nat} {s : ByteArray} {x a : Int} (h : LxE w px s x a) : w.cell? ⟨px, 12, none⟩ = some (.int .i64 x) := by
  obtain ⟨i, say, h1, h2, op, kind, num, tr, text, name, vk, ta, en, h3⟩ := h
  exact cell_of_block h3 12
set_option maxHeartbeats 2000000 in
/-- from behind an error. -/
theorem fromerr_any {w : World} {B px cx cf c7 c8 c9 c10 : Nat} (h : PX w B px cx cf c7 c8 c9 c10) {s : ByteArray} {x a : Int} (hx : x ≠ 0) (hlx : LxE w px s x a) (line : Int) :
    Calls Tryz.prog 42 #[.int .i64 line, .pointer (some ⟨cx, 0, none⟩), .pointer (some ⟨c10, 0, none⟩), .pointer (some ⟨cf, 0, none⟩)] w fun e w' => e = .returned (valN nilN (.slice none 0 0)) ∧ Below w.heap.size w w' := by
  obtain ⟨w1, p0, hp0, hw1, l0, n0, b0⟩ := box_new w nilObj
  have h1 := h.below b0
  obtain ⟨c, hc⟩ := hlx.lex
  have hlx1 := hlx.kept (b0.block _ (lt_of_block hc))
  have k0 : w1.cell? ⟨cx, 0, none⟩ = some (.pointer (some ⟨px, 0, none⟩)) := cell_of_block h1.pw.hx 0
  have k12 := hlx1.c12
  obtain ⟨d0, d1, d2, d3, d4, d5, d6, df⟩ := n7_cells n0
  have ex : (x != 0) = true := by rw [bne_iff_ne]; exact hx
  have HB := Lib.hid b0
  have HP := Lib.hid hp0
  clear h h1 hlx hlx1 hc b0 n0 hx
  go_enter Tryz.func42, Tryz.ntmps42
  go_wp2_with fail
  refine bodyPost_ret (v := valN nilN (.slice none 0 0)) (by simp [results, Tryz.results42, go_sem, nilN, Nd.op, Nd.v, Nd.name, Vl.zero, d0, d1, d2, d3, d4, d5, d6]) rfl ⟨rfl, ?_⟩
  exact HB.out.trans ((set7_frm w1 p0 _ _ _ _ _ _ _).toBelow HB.out.size (by intro r hr k hk; simp only [List.mem_singleton] at hr; rw [hr] at hk; injection hk with hk; have := HP.out; omega))
end Go.Proofs.YtbephgifbghilaaGreatDoor
/- The closures of expr.Parse: ahead, atom, brackets (seat expr). -/
set_option maxRecDepth 100000
namespace Go.Proofs.YtbephgifbghilaaGreatDoor
open Go.RowKit
def aheadE (s : List UInt8) (f : Nat) (op : Int) (line : Nat) (st : Tk × Nat) : Rs (Nd × (Tk × Nat)) := do
  let st1 ← nextE s st.2
  let (n, st2) ← prsE s f none line st1
  .ok (oneN op n, st2)
def atomE (s : List UInt8) (st : Tk × Nat) : Rs (Nd × (Tk × Nat)) := match st.1 with
  | .nd n _ => do
    let st1 ← nextE s st.2
    .ok (n, st1)
  | t => .error (4, t.at_)
def brackE (s : List UInt8) (f : Nat) (st : Tk × Nat) : Rs (Nd × (Tk × Nat)) := do
  let st1 ← nextE s st.2
  let (n, st2) ← prsE s f none 1 st1
  match st2.1 with
  | .say [41] _ => do
    let st3 ← nextE s st2.2
    .ok (n, st3)
  | t => .error (4, t.at_)
theorem sl_len (s : ByteArray) : s.data.toList.length = s.size := by rw [Array.length_toList]; rfl
/-- What a block of the call's own holds is laid anew; all else stands. -/
theorem set7_keep (W : World) (p : Nat) (v0 v1 v2 v3 v4 v5 v6 : Value) {k : Nat} (hk : k ≠ p) : (set7 W p v0 v1 v2 v3 v4 v5 v6).heap[k]? = W.heap[k]? := by
  unfold set7
  rw [heap_setCell_other _ ⟨p, 6, none⟩ k v6 hk, heap_setCell_other _ ⟨p, 5, none⟩ k v5 hk, heap_setCell_other _ ⟨p, 4, none⟩ k v4 hk, heap_setCell_other _ ⟨p, 3, none⟩ k v3 hk, heap_setCell_other _ ⟨p, 2, none⟩ k v2 hk, heap_setCell_other _ ⟨p, 1, none⟩ k v1 hk, heap_setCell_other _ ⟨p, 0, none⟩ k v0 hk]
theorem set7_size (W : World) (p : Nat) (v0 v1 v2 v3 v4 v5 v6 : Value) : (set7 W p v0 v1 v2 v3 v4 v5 v6).heap.size = W.heap.size := by
  unfold set7
  simp
/-- The world in which a node of one kid is made. -/
abbrev oneW (w3 : World) (p0 : Nat) (op : Int) (n : Nd) (vk : Value) : World :=
  (set7 w3 p0 (.int .u8 op) (.int .u8 0) (.int .i64 0) (.bool false) (.string ⟨#[]⟩) (.string ⟨#[]⟩) (.slice (some ⟨w3.heap.size, 0, none⟩) 1 1)).alloc (.cells #[.int .u8 n.op, .int .u8 n.v.kind, .int .i64 n.v.num, .bool n.v.tr, .string n.v.text, .string n.name, vk] 29)
theorem one_done {w w3 : World} {px p0 lo : Nat} {s : ByteArray} {f : Nat} {line : Nat} {op : Int} (h0 : 0 ≤ op) (h1 : op ≤ 255) {st st1 : Tk × Nat} (hn : nextE s.data.toList st.2 = .ok st1) {n : Nd} {vk : Value} (hp : w.heap.size = p0) (hpx : px < w.heap.size) (hlo : p0 + 1 ≤ lo) (hF : Frm [some px] w w3) (hw3 : p0 < w3.heap.size)
    (hr : partR w3 px s lo n vk (prsE s.data.toList f none line st1)) :
    Frm [some px] w (oneW w3 p0 op n vk) ∧ partR (oneW w3 p0 op n vk) px s w.heap.size (.mk op Vl.zero ⟨#[]⟩ [n]) (.slice (some ⟨w3.heap.size, 0, none⟩) 1 1) (aheadE s.data.toList f op line st) := by
  obtain ⟨W7, hW7⟩ : ∃ W7, set7 w3 p0 (.int .u8 op) (.int .u8 0) (.int .i64 0) (.bool false) (.string ⟨#[]⟩) (.string ⟨#[]⟩) (.slice (some ⟨w3.heap.size, 0, none⟩) 1 1) = W7 := ⟨_, rfl⟩
  have hz7 : W7.heap.size = w3.heap.size := by rw [← hW7]; exact set7_size _ _ _ _ _ _ _ _ _
  have hf7 : Frm [some p0] w3 W7 := by rw [← hW7]; exact set7_frm _ _ _ _ _ _ _ _ _
  obtain ⟨o, ho⟩ : ∃ o, (Obj.cells #[.int .u8 n.op, .int .u8 n.v.kind, .int .i64 n.v.num, .bool n.v.tr, .string n.v.text, .string n.name, vk] 29) = o := ⟨_, rfl⟩
  have hb := (Below.refl W7.heap.size W7).alloc (Nat.le_refl _) o
  have hnew := heap_alloc_new W7 o
  have hFW : Frm [some p0] w3 (W7.alloc o) := hf7.below hb
  have hpxs : (W7.alloc o).heap[px]? = w3.heap[px]? := hFW.keep px (by have := hF.size; omega) (by intro r hr e; simp only [List.mem_singleton] at hr; rw [hr] at e; injection e with e; omega)
  show Frm [some px] w ((set7 w3 p0 _ _ _ _ _ _ _).alloc _) ∧ partR ((set7 w3 p0 _ _ _ _ _ _ _).alloc _) px s _ _ _ _
  rw [hW7, ho]
  refine ⟨hF.trans hFW (by intro r hr; simp only [List.mem_singleton] at hr; subst hr; exact .inr ⟨p0, rfl, by omega⟩), ?_⟩
  unfold aheadE
  rw [bind_is hn]
  cases hq : prsE s.data.toList f none line st1 with
  | error x =>
    rw [hq] at hr
    rw [bind_no rfl]
    obtain ⟨x, y⟩ := x
    exact ⟨hr.1.kept hpxs, hr.2⟩
  | ok r =>
    obtain ⟨m, st2⟩ := r
    rw [hq] at hr
    rw [bind_is rfl]
    obtain ⟨rfl, h2, h3, h4, h5⟩ := hr
    refine ⟨rfl, ?_, HeadW_one h0 h1 _, h4.kept hpxs, h5⟩
    rw [hz7, ← ho] at hnew
    rw [← ho] at hFW ⊢
    exact MadeR.one hnew (by omega) h3 ((h2.kept hFW (fun b hb r hr => by simp only [List.mem_singleton] at hr; subst hr; intro e; injection e with e; omega)).weak (fun b _ h => by omega))
set_option maxHeartbeats 4000000 in
theorem ahead_any {s : ByteArray} (hs : s.size ≤ 256) {B px cx cf c7 c8 c9 c10 f : Nat} (HF : FromC s B px cx cf c7 c8 c9 c10 f) {w : World} (hX : PX w B px cx cf c7 c8 c9 c10) {st : Tk × Nat} (hlx : LxT w px s st) (hst : StW s.data.toList.length st) (hfin : isFin st.1 = false) (op : Int) (h0 : 0 ≤ op) (h1 : op ≤ 255) (line : Nat) (hline : line ≤ 9) (hmu : mu s.data.toList.length st ≤ f) :
    Calls Tryz.prog 37 #[.int .u8 op, .int .i64 (line : Int), .pointer (some ⟨cx, 0, none⟩), .pointer (some ⟨cf, 0, none⟩)] w (PartC w px s (aheadE s.data.toList f op line st)) := by
  obtain ⟨w1, p0, hp0, hw1, l0, n0, b0⟩ := box_new w nilObj
  have hX1 := hX.below b0
  obtain ⟨c, hc⟩ := hlx.lex
  have hpx := lt_of_block hc
  have hlx1 := hlx.kept (b0.block _ hpx)
  have k0 : w1.cell? ⟨cx, 0, none⟩ = some (.pointer (some ⟨px, 0, none⟩)) := cell_of_block hX1.pw.hx 0
  have HB := Lib.hid b0
  have HX1 := Lib.hid hX1
  have HN0 := Lib.hid n0
  have HLX := Lib.hid hlx1
  have HP0 := Lib.hid hp0
  clear hX hX1 hlx hlx1 hc b0 n0
  cases hne : nextE s.data.toList st.2 with
  | error x =>
    obtain ⟨x, y⟩ := x
    have hx0 : x ≠ 0 := by have := (nextE_err hne).1; omega
    have HNX : Hid (∀ w' n a c d, LxE w' px s x (y : Int) → partR w' px s w.heap.size n (.slice a c d) (aheadE s.data.toList f op line st)) := Lib.hid (fun w' n a c d h => by unfold aheadE; rw [bind_no hne]; exact ⟨h, hx0⟩)
    have HX0 := Lib.hid hx0
    have HNE := Lib.hid hne
    clear hne hx0
    go_enter Tryz.func37, Tryz.ntmps37
    go_wp2_with (first
      | (go_at_call 36; refine (nextT HX1.out hs HLX.out hst).mono ?_; rintro e w2 ⟨rfl, hF2, hn2⟩; rw [HNE.out] at hn2; have hX2 := HX1.out.kept hF2 hn2.lex; have k2 : w2.cell? ⟨cf, 0, none⟩ = _ := cell_of_block hX2.pw.hf 0; have HX2 := Lib.hid hX2; have HF2 := Lib.hid hF2; have HN2 := Lib.hid hn2; clear hF2 hn2 hX2)
      | (go_at_call 42; refine (fromerr_any HX2.out HX0.out HN2.out _).mono ?_; rintro e w3 ⟨rfl, hb3⟩; have hF3 := HF2.out.below hb3; have hn3 := hF3.block HN0.out (by intro r hr e; simp only [List.mem_singleton] at hr; rw [hr] at e; injection e with e; omega); obtain ⟨d0, d1, d2, d3, d4, d5, d6, df⟩ := n7_cells hn3; have l3 := lt_of_block hn3; obtain ⟨cc, hcc⟩ := HN2.out.lex; have hl3 := HN2.out.kept (hb3.block _ (lt_of_block hcc)); have HL3 := Lib.hid hl3; have HF3 := Lib.hid hF3; clear hcc hl3 hF3 hn3 hb3))
    refine bodyPost_ret (v := valN (.mk op Vl.zero ⟨#[]⟩ [nilN]) (.slice (some ⟨w3.heap.size, 0, none⟩) 1 1)) (by simp [results, Tryz.results37, go_sem, l3, d0, d1, d2, d3, d4, d5, d6, Nd.op, Nd.v, Nd.name, Vl.zero]) rfl ?_
    have hfr := set7_frm w3 p0 (.int .u8 op) (.int .u8 0) (.int .i64 0) (.bool false) (.string ⟨#[]⟩) (.string ⟨#[]⟩) (.slice (some ⟨w3.heap.size, 0, none⟩) 1 1)
    have hF4 : Frm [some px] w (oneW w3 p0 op nilN (.slice none 0 0)) := (((Frm.ofBelow HB.out).trans HF3.out (by intro r hr; exact .inl hr)).trans hfr (by intro r hr; simp only [List.mem_singleton] at hr; subst hr; exact .inr ⟨p0, rfl, by have := HP0.out; omega⟩)).below ((Below.refl _ _).alloc (Nat.le_refl _) _)
    refine ⟨_, _, _, _, rfl, hF4, HNX.out _ _ _ _ _ (HL3.out.kept ?_)⟩
    have hz := set7_size w3 p0 (.int .u8 op) (.int .u8 0) (.int .i64 0) (.bool false) (.string ⟨#[]⟩) (.string ⟨#[]⟩) (.slice (some ⟨w3.heap.size, 0, none⟩) 1 1)
    exact (((Below.refl _ _).alloc (Nat.le_refl _) _).block px (by rw [hz]; have := HP0.out; omega)).trans (set7_keep _ _ _ _ _ _ _ _ _ (by have := HP0.out; omega))
  | ok st1 =>
    have hst1 := next_stw (by have := sl_len s; omega) hst.1 hne
    have hm1 := next_mu (by have := sl_len s; omega) hst.1 hfin hne
    have hlt : mu s.data.toList.length st1 < f := by omega
    have HNE := Lib.hid hne
    have HST := Lib.hid hst1
    clear hne hst1 hm1
    go_enter Tryz.func37, Tryz.ntmps37
    go_wp2_with (first
      | (go_at_call 36; refine (nextT HX1.out hs HLX.out hst).mono ?_; rintro e w2 ⟨rfl, hF2, hn2⟩; rw [HNE.out] at hn2; have hX2 := HX1.out.kept hF2 (LxT.lex hn2); have k2 : w2.cell? ⟨cf, 0, none⟩ = _ := cell_of_block hX2.pw.hf 0; have HX2 := Lib.hid hX2; have HF2 := Lib.hid hF2; have HN2 := Lib.hid hn2; clear hF2 hn2 hX2)
      | (go_at_call 42; refine (HF _ line st1 HX2.out HN2.out HST.out hline hlt).mono ?_; rintro e w3 ⟨n, a, c3, d, rfl, hF23, hr3⟩; have hF3 := HF2.out.trans hF23 (by intro r hr; exact .inl hr); have hn3 := hF3.block HN0.out (by intro r hr e; simp only [List.mem_singleton] at hr; rw [hr] at e; injection e with e; omega); obtain ⟨d0, d1, d2, d3, d4, d5, d6, df⟩ := n7_cells hn3; have l3 := lt_of_block hn3; have HR3 := Lib.hid hr3; have HF3 := Lib.hid hF3; clear hF23 hF3 hr3 hn3))
    refine bodyPost_ret (v := valN (.mk op Vl.zero ⟨#[]⟩ [n]) (.slice (some ⟨w3.heap.size, 0, none⟩) 1 1)) (by simp [results, Tryz.results37, go_sem, l3, d0, d1, d2, d3, d4, d5, d6, Nd.op, Nd.v, Nd.name, Vl.zero]) rfl ?_
    have hd := one_done (lo := w2.heap.size) h0 h1 HNE.out HP0.out hpx (by have := HF2.out.size; omega) ((Frm.ofBelow HB.out).trans HF3.out (by intro r hr; exact .inl hr)) l3 HR3.out
    exact ⟨_, _, _, _, rfl, hd.1, hd.2⟩
end Go.Proofs.YtbephgifbghilaaGreatDoor
/- The closures of expr.Parse: atom, brackets (seat expr). -/
set_option maxRecDepth 100000
namespace Go.Proofs.YtbephgifbghilaaGreatDoor
open Go.RowKit
def sayOf : Tk → ByteArray | .say u _ => ⟨u.toArray⟩ | _ => ⟨#[]⟩
def opOf : Tk → Int | .nd n _ => n.op | _ => 0
theorem LxT.c9 {w : World} {px : Nat} {s : ByteArray} {st : Tk × Nat} (h : LxT w px s st) : w.cell? ⟨px, 9, none⟩ = some (.string (sayOf st.1)) := by
  unfold LxT at h
  split at h
  · next a he => rw [he]; exact cell_of_block h 9
  · next n a he => rw [he]; exact cell_of_block h 9
  · next u a he => rw [he]; exact cell_of_block h 9
theorem LxT.c10 {w : World} {px : Nat} {s : ByteArray} {st : Tk × Nat} (h : LxT w px s st) : w.cell? ⟨px, 10, none⟩ = some (.int .i64 (st.1.at_ : Int)) := by
  unfold LxT at h
  split at h
  · next a he => rw [he]; exact cell_of_block h 10
  · next n a he => rw [he]; exact cell_of_block h 10
  · next u a he => rw [he]; exact cell_of_block h 10
theorem LxT.c11 {w : World} {px : Nat} {s : ByteArray} {st : Tk × Nat} (h : LxT w px s st) : w.cell? ⟨px, 11, none⟩ = some (.bool (isFin st.1)) := by
  unfold LxT at h
  split at h
  · next a he => rw [he]; exact cell_of_block h 11
  · next n a he => rw [he]; exact cell_of_block h 11
  · next u a he => rw [he]; exact cell_of_block h 11
theorem LxT.c12 {w : World} {px : Nat} {s : ByteArray} {st : Tk × Nat} (h : LxT w px s st) : w.cell? ⟨px, 12, none⟩ = some (.int .i64 0) := by
  obtain ⟨_, _, _, _, _, _, _, _, _, _, h⟩ := h.block
  exact cell_of_block h 12
theorem sayOf_size {L : Nat} {st : Tk × Nat} (h : StW L st) : (sayOf st.1).size ≤ 1000 := by
  obtain ⟨tk, i⟩ := st
  cases tk with
  | say u a => have := h.2.2.2; show u.toArray.size ≤ _; rw [List.size_toArray]; exact this
  | nd n a => show 0 ≤ _; omega
  | fin a => show 0 ≤ _; omega
theorem failT {w : World} {px : Nat} {s : ByteArray} {st : Tk × Nat} (hlx : LxT w px s st) (hst : StW s.data.toList.length st) (x a : Int) :
    Calls Tryz.prog 39 #[.pointer (some ⟨px, 0, none⟩), .int .i64 x, .int .i64 a] w fun r w' => r = .returned (.tuple #[]) ∧ Frm [some px] w w' ∧ LxE w' px s x a ∧ w'.cell? ⟨px, 10, none⟩ = w.cell? ⟨px, 10, none⟩ := by
  obtain ⟨op, kind, num, tr, text, name, vk, say, ta, en, hb⟩ := hlx.block
  have hs : say = sayOf st.1 := by
    have h1 := hlx.c9
    have h2 : w.cell? ⟨px, 9, none⟩ = some (.string say) := cell_of_block hb 9
    rw [h1] at h2
    injection h2 with h2
    injection h2 with h2
    exact h2.symm
  refine (xfail_any w px s _ _ _ _ _ _ _ _ _ _ _ _ _ hb x a).mono ?_
  rintro e w' ⟨rfl, hF, h⟩
  have h' : LxB w' px s (st.2 : Int) op kind num tr text name vk say ta en x a := by simpa using h
  exact ⟨rfl, hF, ⟨st.2, say, by have := hst.1; rw [sl_len] at this; exact this, by rw [hs]; exact sayOf_size hst, _, _, _, _, _, _, _, _, _, h'⟩, (cell_of_block h' 10).trans (cell_of_block hb 10).symm⟩
theorem failX {w : World} {px : Nat} {s : ByteArray} {x' a' : Int} (hx : x' ≠ 0) (hlx : LxE w px s x' a') (x a : Int) :
    Calls Tryz.prog 39 #[.pointer (some ⟨px, 0, none⟩), .int .i64 x, .int .i64 a] w fun r w' => r = .returned (.tuple #[]) ∧ Frm [some px] w w' ∧ LxE w' px s x' a' ∧ w'.cell? ⟨px, 10, none⟩ = w.cell? ⟨px, 10, none⟩ := by
  obtain ⟨i, say, h1, h2, op, kind, num, tr, text, name, vk, ta, en, hb⟩ := hlx
  refine (xfail_any w px s _ _ _ _ _ _ _ _ _ _ _ _ _ hb x a).mono ?_
  rintro e w' ⟨rfl, hF, h⟩
  rw [if_neg hx, if_neg hx] at h
  exact ⟨rfl, hF, ⟨i, say, h1, h2, _, _, _, _, _, _, _, _, _, h⟩, (cell_of_block h 10).trans (cell_of_block hb 10).symm⟩
theorem LxE.c9 {w : World} {px : Nat} {s : ByteArray} {x a : Int} (h : LxE w px s x a) : ∃ (say : ByteArray) (ta : Int), say.size ≤ 1000 ∧ w.cell? ⟨px, 9, none⟩ = some (.string say) ∧ w.cell? ⟨px, 10, none⟩ = some (.int .i64 ta) := by
  obtain ⟨i, say, h1, h2, op, kind, num, tr, text, name, vk, ta, en, hb⟩ := h
  exact ⟨say, ta, h2, cell_of_block hb 9, cell_of_block hb 10⟩
/-- A node that is laid into the result's block. -/
theorem put_done {w w3 : World} {px p0 lo : Nat} {s : ByteArray} {n : Nd} {vk : Value} {r : Rs (Nd × (Tk × Nat))} (hp : w.heap.size = p0) (hpx : px < w.heap.size) (hlo : p0 + 1 ≤ lo) (hF : Frm [some px] w w3) (hr : partR w3 px s lo n vk r) :
    Frm [some px] w (set7 w3 p0 (.int .u8 n.op) (.int .u8 n.v.kind) (.int .i64 n.v.num) (.bool n.v.tr) (.string n.v.text) (.string n.name) vk) ∧ partR (set7 w3 p0 (.int .u8 n.op) (.int .u8 n.v.kind) (.int .i64 n.v.num) (.bool n.v.tr) (.string n.v.text) (.string n.name) vk) px s w.heap.size n vk r := by
  have hf7 := set7_frm w3 p0 (.int .u8 n.op) (.int .u8 n.v.kind) (.int .i64 n.v.num) (.bool n.v.tr) (.string n.v.text) (.string n.name) vk
  have hpxs : (set7 w3 p0 (.int .u8 n.op) (.int .u8 n.v.kind) (.int .i64 n.v.num) (.bool n.v.tr) (.string n.v.text) (.string n.name) vk).heap[px]? = w3.heap[px]? := set7_keep _ _ _ _ _ _ _ _ _ (by omega)
  refine ⟨hF.trans hf7 (by intro r hr; simp only [List.mem_singleton] at hr; subst hr; exact .inr ⟨p0, rfl, by omega⟩), ?_⟩
  cases r with
  | error x => exact ⟨hr.1.kept hpxs, hr.2⟩
  | ok q =>
    obtain ⟨m, st2⟩ := q
    obtain ⟨rfl, h2, h3, h4, h5⟩ := hr
    exact ⟨rfl, (h2.kept hf7 (fun b hb r hr => by simp only [List.mem_singleton] at hr; subst hr; intro e; injection e with e; omega)).weak (fun b _ h => by omega), h3, h4.kept hpxs, h5⟩
theorem LxT.node {w : World} {px : Nat} {s : ByteArray} {n : Nd} {a i : Nat} (h : LxT w px s (.nd n a, i)) : w.cell? ⟨px, 2, none⟩ = some (.int .u8 n.op) ∧ w.cell? ⟨px, 3, none⟩ = some (.int .u8 n.v.kind) ∧ w.cell? ⟨px, 4, none⟩ = some (.int .i64 n.v.num) ∧ w.cell? ⟨px, 5, none⟩ = some (.bool n.v.tr) ∧ w.cell? ⟨px, 6, none⟩ = some (.string n.v.text) ∧ w.cell? ⟨px, 7, none⟩ = some (.string n.name) ∧ w.cell? ⟨px, 8, none⟩ = some (.slice none 0 0) :=
  ⟨cell_of_block h 2, cell_of_block h 3, cell_of_block h 4, cell_of_block h 5, cell_of_block h 6, cell_of_block h 7, cell_of_block h 8⟩
theorem LxT.none_ {w : World} {px : Nat} {s : ByteArray} {st : Tk × Nat} (h : LxT w px s st) (hn : opOf st.1 = 0 ∧ ∀ n a, st.1 ≠ .nd n a) : w.cell? ⟨px, 2, none⟩ = some (.int .u8 0) ∧ w.cell? ⟨px, 3, none⟩ = some (.int .u8 0) ∧ w.cell? ⟨px, 4, none⟩ = some (.int .i64 0) ∧ w.cell? ⟨px, 5, none⟩ = some (.bool false) ∧ w.cell? ⟨px, 6, none⟩ = some (.string ⟨#[]⟩) ∧ w.cell? ⟨px, 7, none⟩ = some (.string ⟨#[]⟩) ∧ w.cell? ⟨px, 8, none⟩ = some (.slice none 0 0) := by
  obtain ⟨tk, i⟩ := st
  cases tk with
  | nd n a => exact absurd rfl (hn.2 n a)
  | fin a => exact ⟨cell_of_block h 2, cell_of_block h 3, cell_of_block h 4, cell_of_block h 5, cell_of_block h 6, cell_of_block h 7, cell_of_block h 8⟩
  | say u a => exact ⟨cell_of_block h 2, cell_of_block h 3, cell_of_block h 4, cell_of_block h 5, cell_of_block h 6, cell_of_block h 7, cell_of_block h 8⟩
theorem setCell_id {w : World} {b i : Nat} {c : Array Value} {t : TypeId} {fr : Nat × Nat} {v : Value} (h : w.heap[b]? = some (.cells c t fr)) (hv : c[i]? = some v) : w.setCell ⟨b, i, none⟩ v = w := by
  have hc : c.setIfInBounds i v = c := by
    apply Array.ext_getElem?
    intro k
    rw [Array.getElem?_setIfInBounds]
    split
    · next e =>
      subst e
      split
      · exact hv.symm
      · next hlt => rw [Array.getElem?_eq_none (by omega)] at hv; cases hv
    · rfl
  have hh : (w.setCell ⟨b, i, none⟩ v).heap = w.heap := by
    apply Array.ext_getElem?
    intro k
    by_cases e : k = b
    · subst e
      rw [set_selfL v h, hc, h]
    · exact heap_setCell_other w ⟨b, i, none⟩ k v e
  have h2 : w.setCell ⟨b, i, none⟩ v = { w with heap := (w.setCell ⟨b, i, none⟩ v).heap } := rfl
  rw [h2, hh]
theorem n7_ids {w : World} {p : Nat} {v0 v1 v2 v3 v4 v5 v6 : Value} (h : w.heap[p]? = some (.cells #[v0, v1, v2, v3, v4, v5, v6] 29 (0, 0))) :
    w.setCell ⟨p, 0, none⟩ v0 = w ∧ w.setCell ⟨p, 1, none⟩ v1 = w ∧ w.setCell ⟨p, 2, none⟩ v2 = w ∧ w.setCell ⟨p, 3, none⟩ v3 = w ∧ w.setCell ⟨p, 4, none⟩ v4 = w ∧ w.setCell ⟨p, 5, none⟩ v5 = w ∧ w.setCell ⟨p, 6, none⟩ v6 = w :=
  ⟨setCell_id h rfl, setCell_id h rfl, setCell_id h rfl, setCell_id h rfl, setCell_id h rfl, setCell_id h rfl, setCell_id h rfl⟩
set_option maxHeartbeats 4000000 in
theorem atom_any {s : ByteArray} (hs : s.size ≤ 256) {B px cx cf c7 c8 c9 c10 : Nat} {w : World} (hX : PX w B px cx cf c7 c8 c9 c10) {st : Tk × Nat} (hlx : LxT w px s st) (hst : StW s.data.toList.length st) :
    Calls Tryz.prog 38 #[.pointer (some ⟨cx, 0, none⟩)] w (PartC w px s (atomE s.data.toList st)) := by
  obtain ⟨w1, p0, hp0, hw1, l0, n0, b0⟩ := box_new w nilObj
  have hX1 := hX.below b0
  obtain ⟨c, hc⟩ := hlx.lex
  have hpx := lt_of_block hc
  have hlx1 := hlx.kept (b0.block _ hpx)
  have k0 : w1.cell? ⟨cx, 0, none⟩ = some (.pointer (some ⟨px, 0, none⟩)) := cell_of_block hX1.pw.hx 0
  have HB := Lib.hid b0
  have HX1 := Lib.hid hX1
  have HN0 := Lib.hid n0
  have HLX := Lib.hid hlx1
  have HP0 := Lib.hid hp0
  clear hX hX1 hlx hlx1 hc b0 n0
  by_cases hnd : ∃ n a, st.1 = .nd n a
  · obtain ⟨n, ta, htk⟩ := hnd
    obtain ⟨tk, i⟩ := st
    simp only at htk
    subst htk
    obtain ⟨x0, x1, x2, x3, x4, x5, x6⟩ := HLX.out.node
    obtain ⟨w2, p1, hp1, hw2, l1, n1, b1⟩ := box_new w1 (.cells #[.int .u8 n.op, .int .u8 n.v.kind, .int .i64 n.v.num, .bool n.v.tr, .string n.v.text, .string n.name, .slice none 0 0] 29)
    have hX2 := HX1.out.below b1
    have hlx2 := HLX.out.kept (b1.block _ (by have := HB.out.size; omega))
    have k0' : w2.cell? ⟨cx, 0, none⟩ = some (.pointer (some ⟨px, 0, none⟩)) := cell_of_block hX2.pw.hx 0
    have hop : (n.op == 0) = false := by rw [beq_eq_false_iff_ne]; rcases hst.2.2.2.2 with h | h <;> rw [h] <;> decide
    have q0 : w2.cell? ⟨p1, 0, none⟩ = some (.int .u8 n.op) := cell_of_block n1 0
    obtain ⟨i0, i1, i2, i3, i4, i5, i6⟩ := n7_ids n1
    obtain ⟨y0, y1, y2, y3, y4, y5, y6, yf⟩ := n7_cells n1
    have HB1 := Lib.hid b1
    have HX2 := Lib.hid hX2
    have HN1 := Lib.hid n1
    have HLX2 := Lib.hid hlx2
    clear hX2 hlx2 b1 n1
    go_enter Tryz.func38, Tryz.ntmps38
    go_wp2_with (go_at_call 36; refine (nextT HX2.out hs HLX2.out hst).mono ?_; rintro e w3 ⟨rfl, hF3, hn3⟩; have m0 := hF3.block (HB1.out.block p0 l0 |>.trans HN0.out) (by intro r hr e; simp only [List.mem_singleton] at hr; rw [hr] at e; injection e with e; omega); have m1 := hF3.block HN1.out (by intro r hr e; simp only [List.mem_singleton] at hr; rw [hr] at e; injection e with e; have := HB1.out.size; have := HB.out.size; omega); obtain ⟨d0, d1, d2, d3, d4, d5, d6, df⟩ := n7_cells m0; obtain ⟨g0, g1, g2, g3, g4, g5, g6, gf⟩ := n7_cells m1; have H3 := Lib.hid (And.intro hF3 hn3); clear hF3 hn3 m0 m1)
    refine bodyPost_ret (v := valN n (.slice none 0 0)) (by simp [results, Tryz.results38, go_sem, d0, d1, d2, d3, d4, d5, d6]) rfl ?_
    have hd := put_done (w := w) (w3 := w3) (p0 := p0) (lo := p0 + 1) (n := n) (vk := .slice none 0 0) (s := s) (r := atomE s.data.toList (.nd n ta, i)) HP0.out hpx (Nat.le_refl _) ((Frm.ofBelow (HB.out.trans (HB1.out.mono HB.out.size))).trans H3.out.1 (by intro r hr; exact .inl hr)) (by
      unfold atomE
      simp only
      cases hne : nextE s.data.toList i with
      | error x =>
        obtain ⟨x, y⟩ := x
        rw [bind_no rfl]
        have := H3.out.2
        rw [hne] at this
        exact ⟨this, by have := (nextE_err hne).1; omega⟩
      | ok st1 =>
        rw [bind_is rfl]
        have := H3.out.2
        rw [hne] at this
        refine ⟨rfl, ?_, hst.2.2.1, this, next_stw (by have := sl_len s; omega) hst.1 hne⟩
        rw [hst.2.2.2.1]
        exact .nil)
    exact ⟨_, _, _, _, rfl, hd.1, hd.2⟩
  · have hno : opOf st.1 = 0 ∧ ∀ n a, st.1 ≠ .nd n a := by
      refine ⟨?_, fun n a e => hnd ⟨n, a, e⟩⟩
      cases he : st.1 with
      | nd n a => exact absurd ⟨n, a, he⟩ hnd
      | fin a => rfl
      | say u a => rfl
    have hE : Hid (atomE s.data.toList st = .error (4, st.1.at_)) := Lib.hid (by
      unfold atomE
      cases he : st.1 with
      | nd n a => exact absurd ⟨n, a, he⟩ hnd
      | fin a => rfl
      | say u a => rfl)
    obtain ⟨x0, x1, x2, x3, x4, x5, x6⟩ := HLX.out.none_ hno
    obtain ⟨w2, p1, hp1, hw2, l1, n1, b1⟩ := box_new w1 nilObj
    have hX2 := HX1.out.below b1
    have hlx2 := HLX.out.kept (b1.block _ (by have := HB.out.size; omega))
    have k0' : w2.cell? ⟨cx, 0, none⟩ = some (.pointer (some ⟨px, 0, none⟩)) := cell_of_block hX2.pw.hx 0
    have k10 := hlx2.c10
    have q0 : w2.cell? ⟨p1, 0, none⟩ = some (.int .u8 0) := cell_of_block n1 0
    obtain ⟨ta, hta⟩ : ∃ ta : Nat, st.1.at_ = ta := ⟨_, rfl⟩
    rw [hta] at k10 hE
    obtain ⟨i0, i1, i2, i3, i4, i5, i6⟩ := n7_ids n1
    obtain ⟨y0, y1, y2, y3, y4, y5, y6, yf⟩ := n7_cells n1
    have HB1 := Lib.hid b1
    have HX2 := Lib.hid hX2
    have HN1 := Lib.hid n1
    have HLX2 := Lib.hid hlx2
    clear hX2 hlx2 b1 n1 hno hnd hta
    have HFL := Lib.hid (fun (W : World) (h : Below w2.heap.size w2 W) => failT (w := W) (HLX2.out.kept (h.block _ (by have := HB1.out.size; have := HB.out.size; omega))) hst 4 (ta : Int))
    go_enter Tryz.func38, Tryz.ntmps38
    go_upto_region 3 with fail
    go_cut [] (fun wx => ∃ w4, w4 = wx ∧ Frm [some px] w2 w4 ∧ LxE w4 px s 4 (ta : Int))
    case first =>
      go_region_held3 (fun w' => w'.cell? ⟨cx, 0, none⟩ = some (.pointer (some ⟨px, 0, none⟩)) ∧ w'.cell? ⟨px, 10, none⟩ = some (.int .i64 (ta : Int))) (first | go_keep | exact ⟨qcx, q10⟩) (first | (go_at_call 39; refine (HFL.out _ (Below.drew (Below.refl _ _))).mono ?_; rintro e w4 ⟨rfl, hF4, hb4, he4⟩; have q10 : w4.cell? ⟨px, 10, none⟩ = some (.int .i64 (ta : Int)) := he4.trans k10; have qcx : w4.cell? ⟨cx, 0, none⟩ = some (.pointer (some ⟨px, 0, none⟩)) := cell_of_block ((HX2.out.below (Below.drew (Below.refl _ _))).kept hF4 hb4.lex).pw.hx 0; have H4 := Lib.hid (And.intro hF4 hb4); clear hF4 hb4 he4))
      all_goals
        go_wp2_with fail
        go_meet
        exact ⟨_, rfl, (Frm.ofBelow (Below.drew (Below.refl _ _))).trans H4.out.1 (by intro r hr; exact .inl hr), H4.out.2⟩
    case rest =>
      obtain ⟨w4, rfl, hF4, hl4⟩ := hcut
      have hX4 := HX2.out.kept hF4 hl4.lex
      have k4 : w4.cell? ⟨cx, 0, none⟩ = some (.pointer (some ⟨px, 0, none⟩)) := cell_of_block hX4.pw.hx 0
      have HX4 := Lib.hid hX4
      have H4 := Lib.hid (And.intro hF4 hl4)
      clear hF4 hl4 hX4 HFL
      go_wp2_with (go_at_call 36; refine (nextX hs (by decide) H4.out.2).mono ?_; rintro e w3 ⟨rfl, hF5, hn3⟩; have hF3 := H4.out.1.trans hF5 (by intro r hr; exact .inl hr); have m0 := hF3.block (HB1.out.block p0 l0 |>.trans HN0.out) (by intro r hr e; simp only [List.mem_singleton] at hr; rw [hr] at e; injection e with e; omega); have m1 := hF3.block HN1.out (by intro r hr e; simp only [List.mem_singleton] at hr; rw [hr] at e; injection e with e; have := HB1.out.size; have := HB.out.size; omega); obtain ⟨d0, d1, d2, d3, d4, d5, d6, df⟩ := n7_cells m0; obtain ⟨g0, g1, g2, g3, g4, g5, g6, gf⟩ := n7_cells m1; have H3 := Lib.hid (And.intro hF3 hn3); clear hF3 hF5 hn3 m0 m1)
      refine bodyPost_ret (v := valN nilN (.slice none 0 0)) (by simp [results, Tryz.results38, go_sem, d0, d1, d2, d3, d4, d5, d6, Nd.op, Nd.v, Nd.name, Vl.zero]) rfl ?_
      have hd := put_done (w := w) (w3 := w3) (p0 := p0) (lo := p0 + 1) (n := nilN) (vk := .slice none 0 0) (s := s) (r := .error (4, ta)) HP0.out hpx (Nat.le_refl _) ((Frm.ofBelow (HB.out.trans (HB1.out.mono HB.out.size))).trans H3.out.1 (by intro r hr; exact .inl hr)) ⟨H3.out.2, by decide⟩
      rw [hE.out]
      exact ⟨_, _, _, _, rfl, hd.1, hd.2⟩
end Go.Proofs.YtbephgifbghilaaGreatDoor
/- The closures of expr.Parse: brackets (seat expr). -/
set_option maxRecDepth 100000
namespace Go.Proofs.YtbephgifbghilaaGreatDoor
open Go.RowKit
def tailE (s : List UInt8) (n : Nd) (st2 : Tk × Nat) : Rs (Nd × (Tk × Nat)) :=
  match st2.1 with
  | .say [41] _ => do
    let st3 ← nextE s st2.2
    .ok (n, st3)
  | t => .error (4, t.at_)
theorem brackE_is (s : List UInt8) (f : Nat) (st : Tk × Nat) : brackE s f st = (nextE s st.2 >>= fun st1 => prsE s f none 1 st1 >>= fun r => tailE s r.1 r.2) := by
  unfold brackE tailE
  rfl
theorem tailE_yes {s : List UInt8} {n : Nd} {st2 : Tk × Nat} (h : (sayOf st2.1).data.toList = [41]) : tailE s n st2 = (nextE s st2.2 >>= fun st3 => .ok (n, st3)) := by
  obtain ⟨tk, i⟩ := st2
  cases tk with
  | say u a =>
    have h' : u = [41] := h
    subst h'
    rfl
  | nd m a => cases h
  | fin a => cases h
theorem tailE_no {s : List UInt8} {n : Nd} {st2 : Tk × Nat} (h : ¬ (sayOf st2.1).data.toList = [41]) : tailE s n st2 = .error (4, st2.1.at_) := by
  obtain ⟨tk, i⟩ := st2
  unfold tailE
  simp only
  split
  · exact absurd rfl h
  · rfl
/-- What stands behind the part within the brackets. -/
def TailR (w : World) (px : Nat) (s : ByteArray) (p0 : Nat) (n : Nd) (vk : Value) (r : Rs (Nd × (Tk × Nat))) : Prop :=
  (∃ (x : Int) (y : Nat), x ≠ 0 ∧ LxE w px s x (y : Int) ∧ r = .error (x, y)) ∨ (∃ st2, LxT w px s st2 ∧ StW s.data.toList.length st2 ∧ MadeR w (fun b => p0 + 1 ≤ b) vk n.kids ∧ HeadW n ∧ r = tailE s.data.toList n st2)
set_option maxHeartbeats 8000000 in
theorem brack_any {s : ByteArray} (hs : s.size ≤ 256) {B px cx cf c7 c8 c9 c10 f : Nat} (HF : FromC s B px cx cf c7 c8 c9 c10 f) {w : World} (hX : PX w B px cx cf c7 c8 c9 c10) {st : Tk × Nat} (hlx : LxT w px s st) (hst : StW s.data.toList.length st) (hfin : isFin st.1 = false) (hmu : mu s.data.toList.length st ≤ f) :
    Calls Tryz.prog 40 #[.pointer (some ⟨cx, 0, none⟩), .pointer (some ⟨cf, 0, none⟩)] w (PartC w px s (brackE s.data.toList f st)) := by
  obtain ⟨w1, p0, hp0, hw1, l0, n0, b0⟩ := box_new w nilObj
  have hX1 := hX.below b0
  obtain ⟨c, hc⟩ := hlx.lex
  have hpx := lt_of_block hc
  have hlx1 := hlx.kept (b0.block _ hpx)
  have k0 : w1.cell? ⟨cx, 0, none⟩ = some (.pointer (some ⟨px, 0, none⟩)) := cell_of_block hX1.pw.hx 0
  have HB := Lib.hid b0
  have HX1 := Lib.hid hX1
  have HN0 := Lib.hid n0
  have HLX := Lib.hid hlx1
  have HP0 := Lib.hid hp0
  have HBR := Lib.hid (brackE_is s.data.toList f st)
  have hpx0 : px < p0 := by omega
  clear hX hX1 hlx hlx1 hc b0 n0
  go_enter Tryz.func40, Tryz.ntmps40
  go_upto_region 1 with fail
  go_cut [] (fun wx => ∃ w2, w2 = wx ∧ Frm [some px] w1 w2 ∧ nextR w2 px s (nextE s.data.toList st.2))
  case first =>
    go_wp2_with (go_at_call 36; refine (nextT HX1.out hs HLX.out hst).mono ?_; rintro e w2 ⟨rfl, hF2, hn2⟩)
    go_meet
    exact ⟨_, rfl, hF2, hn2⟩
  case rest =>
    obtain ⟨w2, rfl, hF2, hn2⟩ := hcut
    have hlex2 : ∃ c, w2.heap[px]? = some (.cells c 79 (0, 0)) := by
      cases hne : nextE s.data.toList st.2 with
      | error x => rw [hne] at hn2; exact LxE.lex hn2
      | ok st1 => rw [hne] at hn2; exact LxT.lex hn2
    have hX2 := HX1.out.kept hF2 hlex2
    have k2 : w2.cell? ⟨cf, 0, none⟩ = some (.func (.func 42) #[] #[.pointer (some ⟨cx, 0, none⟩), .pointer (some ⟨c10, 0, none⟩), .pointer (some ⟨cf, 0, none⟩)]) := cell_of_block hX2.pw.hf 0
    have HX2 := Lib.hid hX2
    have HF2 := Lib.hid hF2
    have HN2 := Lib.hid hn2
    clear hF2 hn2 hX2 hlex2
    go_upto_region 2 with fail
    go_cut [3] (fun s3 wx => ∃ w4 p1 n a c d, w4 = wx ∧ s3 = .pointer (some ⟨p1, 0, none⟩) ∧ Hid (w4.heap[p1]? = some (.cells #[.int .u8 n.op, .int .u8 n.v.kind, .int .i64 n.v.num, .bool n.v.tr, .string n.v.text, .string n.name, .slice a c d] 29 (0, 0))) ∧ p0 < p1 ∧ Hid (Frm [some px] w1 w4) ∧ Hid (TailR w4 px s p0 n (.slice a c d) (brackE s.data.toList f st)))
    case first =>
      cases hne : nextE s.data.toList st.2 with
      | error x =>
        obtain ⟨x, y⟩ := x
        have hx0 : x ≠ 0 := by have := (nextE_err hne).1; omega
        have hbr : Hid (brackE s.data.toList f st = .error (x, y)) := Lib.hid (by rw [HBR.out, bind_no hne])
        have hl2 : Hid (LxE w2 px s x (y : Int)) := Lib.hid (by have := HN2.out; rw [hne] at this; exact this)
        have HX0 := Lib.hid hx0
        clear hne hx0
        go_wp2_with (go_at_call 42; refine (fromerr_any HX2.out HX0.out hl2.out _).mono ?_; rintro e w3 ⟨rfl, hb3⟩; have HB3 := Lib.hid hb3; clear hb3)
        go_meet
        obtain ⟨cc, hcc⟩ := hl2.out.lex
        have hl3 := hl2.out.kept (HB3.out.block _ (lt_of_block hcc))
        have hz3 := HB3.out.size
        have hz2 := HF2.out.size
        refine ⟨_, w3.heap.size, nilN, none, 0, 0, rfl, rfl, Lib.hid (heap_alloc_new w3 _), by omega, Lib.hid ((HF2.out.below HB3.out).below ((Below.refl _ _).alloc (Nat.le_refl _) _)), Lib.hid (.inl ⟨x, y, HX0.out, hl3.kept (((Below.refl _ _).alloc (Nat.le_refl _) _).block _ (by omega)), hbr.out⟩)⟩
      | ok st1 =>
        have hst1 := next_stw (by have := sl_len s; omega) hst.1 hne
        have hm1 := next_mu (by have := sl_len s; omega) hst.1 hfin hne
        have hlt : mu s.data.toList.length st1 < f := by omega
        have hl2 : Hid (LxT w2 px s st1) := Lib.hid (by have := HN2.out; rw [hne] at this; exact this)
        have hbr : Hid (brackE s.data.toList f st = (prsE s.data.toList f none 1 st1 >>= fun r => tailE s.data.toList r.1 r.2)) := Lib.hid (by rw [HBR.out, bind_is hne])
        have HST := Lib.hid hst1
        clear hne hst1 hm1
        go_wp2_with (go_at_call 42; refine (HF _ 1 st1 HX2.out hl2.out HST.out (by omega) hlt).mono ?_; rintro e w3 ⟨n, a, c3, d, rfl, hF23, hr3⟩; have H3 := Lib.hid (And.intro hF23 hr3); clear hF23 hr3)
        go_meet
        have hz2 := HF2.out.size
        have hz3 := H3.out.1.size
        have hal := (Below.refl w3.heap.size w3).alloc (Nat.le_refl _) (.cells #[.int .u8 n.op, .int .u8 n.v.kind, .int .i64 n.v.num, .bool n.v.tr, .string n.v.text, .string n.name, .slice a c3 d] 29)
        have hpk := hal.block px (by omega)
        refine ⟨_, w3.heap.size, n, a, c3, d, rfl, rfl, Lib.hid (heap_alloc_new w3 _), by omega, Lib.hid ((HF2.out.trans H3.out.1 (by intro r hr; exact .inl hr)).below hal), Lib.hid ?_⟩
        have hr3 := H3.out.2
        rw [hbr.out]
        cases hq : prsE s.data.toList f none 1 st1 with
        | error x =>
          rw [hq] at hr3
          obtain ⟨x, y⟩ := x
          rw [bind_no rfl]
          exact .inl ⟨x, y, hr3.2, hr3.1.kept hpk, rfl⟩
        | ok r =>
          obtain ⟨m, st2⟩ := r
          rw [hq] at hr3
          obtain ⟨rfl, h2, h3, h4, h5⟩ := hr3
          rw [bind_is rfl]
          exact .inr ⟨st2, h4.kept hpk, h5, (h2.keptB hal).weak (fun b _ hb => by omega), h3, rfl⟩
    case rest =>
      obtain ⟨w4, p1, n, a, c4, d, rfl, rfl, hN4, hp1, hF4, hT⟩ := hcut
      have hz4 := hF4.out.size
      have hl1 := lt_of_block hN4.out
      have hm4 : Hid (w4.heap[p0]? = some nilObj) := Lib.hid (hF4.out.block HN0.out (by intro r hr e; simp only [List.mem_singleton] at hr; rw [hr] at e; injection e with e; omega))
      have hX4 : PX w4 B px cx cf c7 c8 c9 c10 := by
        refine HX1.out.kept hF4.out ?_
        rcases hT.out with ⟨x, y, hx, hlE, hbr⟩ | ⟨st2, hlT, hst2, hmk, hhw, hbr⟩
        · exact hlE.lex
        · exact hlT.lex
      have kx4 : w4.cell? ⟨cx, 0, none⟩ = some (.pointer (some ⟨px, 0, none⟩)) := cell_of_block hX4.pw.hx 0
      have HX4 := Lib.hid hX4
      have hpl4 : px < w4.heap.size := by omega
      obtain ⟨sy, ta, k9, k10, hcase⟩ : ∃ (sy : ByteArray) (ta : Int), w4.cell? ⟨px, 9, none⟩ = some (.string sy) ∧ w4.cell? ⟨px, 10, none⟩ = some (.int .i64 ta) ∧
          ((sy.data.toList ≠ [41] ∧ ∃ (X : Int) (Y : Nat), X ≠ 0 ∧ brackE s.data.toList f st = .error (X, Y) ∧ ∀ W, Below w4.heap.size w4 W → Calls Tryz.prog 39 #[.pointer (some ⟨px, 0, none⟩), .int .i64 4, .int .i64 ta] W fun r w' => r = .returned (.tuple #[]) ∧ Frm [some px] W w' ∧ LxE w' px s X (Y : Int) ∧ w'.cell? ⟨px, 10, none⟩ = W.cell? ⟨px, 10, none⟩) ∨
           (sy.data.toList = [41] ∧ ∃ (X : Int) (Y : Nat), X ≠ 0 ∧ brackE s.data.toList f st = .error (X, Y) ∧ LxE w4 px s X (Y : Int)) ∨
           (sy.data.toList = [41] ∧ ∃ st2, LxT w4 px s st2 ∧ StW s.data.toList.length st2 ∧ MadeR w4 (fun b => p0 + 1 ≤ b) (.slice a c4 d) n.kids ∧ HeadW n ∧ brackE s.data.toList f st = (nextE s.data.toList st2.2 >>= fun st3 => .ok (n, st3)))) := by
        rcases hT.out with ⟨x, y, hx, hlE, hbr⟩ | ⟨st2, hlT, hst2, hmk, hhw, hbr⟩
        · obtain ⟨say, ta, _, q9, q10⟩ := hlE.c9
          refine ⟨say, ta, q9, q10, ?_⟩
          by_cases h41 : say.data.toList = [41]
          · exact .inr (.inl ⟨h41, x, y, hx, hbr, hlE⟩)
          · exact .inl ⟨h41, x, y, hx, hbr, fun W hW => failX hx (hlE.kept (hW.block _ hpl4)) _ _⟩
        · refine ⟨_, _, hlT.c9, hlT.c10, ?_⟩
          by_cases h41 : (sayOf st2.1).data.toList = [41]
          · exact .inr (.inr ⟨h41, st2, hlT, hst2, hmk, hhw, hbr.trans (tailE_yes h41)⟩)
          · exact .inl ⟨h41, 4, st2.1.at_, by decide, hbr.trans (tailE_no h41), fun W hW => failT (hlT.kept (hW.block _ hpl4)) hst2 _ _⟩
      have s41 : (sy.toList == [41]) = decide (sy.data.toList = [41]) := by rw [Lib.toList_data]; exact beq_dec _ _
      have s41n : (sy.toList != [41]) = !decide (sy.data.toList = [41]) := by rw [← s41]; rfl
      clear hT hX4
      rcases hcase with ⟨h41, X, Y, hX0, hbr, hfl⟩ | ⟨h41, X, Y, hX0, hbr, hlE⟩ | ⟨h41, st2, hlT, hst2, hmk, hhw, hbr⟩
      · rw [decide_eq_false h41] at s41 s41n
        have HFL := Lib.hid hfl
        have HBR2 := Lib.hid hbr
        have HX0 := Lib.hid hX0
        clear h41 hX0 hbr hfl
        go_upto_region 4 with fail
        go_cut [] (fun wx => ∃ w5, w5 = wx ∧ Hid (Frm [some px] w4 w5) ∧ Hid (LxE w5 px s X (Y : Int)))
        case first =>
          go_region_held3 (fun w' => w'.cell? ⟨cx, 0, none⟩ = some (.pointer (some ⟨px, 0, none⟩)) ∧ w'.cell? ⟨px, 10, none⟩ = some (.int .i64 ta)) (first | go_keep | exact ⟨qcx, q10⟩) (first | (go_at_call 39; refine (HFL.out _ (Below.drew (Below.refl _ _))).mono ?_; rintro e w5 ⟨rfl, hF5, hb5, he5⟩; have q10 : w5.cell? ⟨px, 10, none⟩ = some (.int .i64 ta) := he5.trans k10; have qcx : w5.cell? ⟨cx, 0, none⟩ = some (.pointer (some ⟨px, 0, none⟩)) := cell_of_block ((HX4.out.below (Below.drew (Below.refl _ _))).kept hF5 hb5.lex).pw.hx 0; have H5 := Lib.hid (And.intro hF5 hb5); clear hF5 hb5 he5))
          all_goals
            go_wp2_with fail
            go_meet
            exact ⟨_, rfl, Lib.hid ((Frm.ofBelow (Below.drew (Below.refl _ _))).trans H5.out.1 (by intro r hr; exact .inl hr)), Lib.hid H5.out.2⟩
        case rest =>
          obtain ⟨w5, rfl, hF5, hl5⟩ := hcut
          have hz5 := hF5.out.size
          have kx5 : w5.cell? ⟨cx, 0, none⟩ = some (.pointer (some ⟨px, 0, none⟩)) := cell_of_block (HX4.out.kept hF5.out hl5.out.lex).pw.hx 0
          clear HFL
          go_wp2_with (go_at_call 36; refine (nextX hs HX0.out hl5.out).mono ?_; rintro e w6 ⟨rfl, hF6, hn6⟩; have hF46 := hF5.out.trans hF6 (by intro r hr; exact .inl hr); have m0 := hF46.block hm4.out (by intro r hr e; simp only [List.mem_singleton] at hr; rw [hr] at e; injection e with e; omega); have m1 := hF46.block hN4.out (by intro r hr e; simp only [List.mem_singleton] at hr; rw [hr] at e; injection e with e; omega); obtain ⟨d0, d1, d2, d3, d4, d5, d6, df⟩ := n7_cells m0; obtain ⟨g0, g1, g2, g3, g4, g5, g6, gf⟩ := n7_cells m1; have HF46 := Lib.hid hF46; have H6 := Lib.hid (And.intro (hF4.out.trans hF46 (by intro r hr; exact .inl hr)) hn6); clear hF46 hF6 hn6 m0 m1)
          refine bodyPost_ret (v := valN n (.slice a c4 d)) (by simp [results, Tryz.results40, go_sem, d0, d1, d2, d3, d4, d5, d6]) rfl ?_
          have hd := put_done (w := w) (w3 := w6) (p0 := p0) (lo := p0 + 1) (n := n) (vk := .slice a c4 d) (s := s) (r := .error (X, Y)) HP0.out hpx (Nat.le_refl _) ((Frm.ofBelow HB.out).trans H6.out.1 (by intro r hr; exact .inl hr)) ⟨H6.out.2, HX0.out⟩
          rw [HBR2.out]
          exact ⟨_, _, _, _, rfl, hd.1, hd.2⟩
      · rw [decide_eq_true h41] at s41 s41n
        have HLE := Lib.hid hlE
        have HBR2 := Lib.hid hbr
        have HX0 := Lib.hid hX0
        clear h41 hX0 hbr hlE
        go_wp2_with (go_at_call 36; refine (nextX hs HX0.out HLE.out).mono ?_; rintro e w6 ⟨rfl, hF6, hn6⟩; have hF46 := hF6; have m0 := hF46.block hm4.out (by intro r hr e; simp only [List.mem_singleton] at hr; rw [hr] at e; injection e with e; omega); have m1 := hF46.block hN4.out (by intro r hr e; simp only [List.mem_singleton] at hr; rw [hr] at e; injection e with e; omega); obtain ⟨d0, d1, d2, d3, d4, d5, d6, df⟩ := n7_cells m0; obtain ⟨g0, g1, g2, g3, g4, g5, g6, gf⟩ := n7_cells m1; have HF46 := Lib.hid hF46; have H6 := Lib.hid (And.intro (hF4.out.trans hF46 (by intro r hr; exact .inl hr)) hn6); clear hF46 hF6 hn6 m0 m1)
        refine bodyPost_ret (v := valN n (.slice a c4 d)) (by simp [results, Tryz.results40, go_sem, d0, d1, d2, d3, d4, d5, d6]) rfl ?_
        have hd := put_done (w := w) (w3 := w6) (p0 := p0) (lo := p0 + 1) (n := n) (vk := .slice a c4 d) (s := s) (r := .error (X, Y)) HP0.out hpx (Nat.le_refl _) ((Frm.ofBelow HB.out).trans H6.out.1 (by intro r hr; exact .inl hr)) ⟨H6.out.2, HX0.out⟩
        rw [HBR2.out]
        exact ⟨_, _, _, _, rfl, hd.1, hd.2⟩
      · rw [decide_eq_true h41] at s41 s41n
        have HLT := Lib.hid hlT
        have HBR2 := Lib.hid hbr
        have HM := Lib.hid (And.intro hmk hhw)
        clear h41 hbr hlT hmk hhw
        go_wp2_with (go_at_call 36; refine (nextT HX4.out hs HLT.out hst2).mono ?_; rintro e w6 ⟨rfl, hF6, hn6⟩; have hF46 := hF6; have m0 := hF46.block hm4.out (by intro r hr e; simp only [List.mem_singleton] at hr; rw [hr] at e; injection e with e; omega); have m1 := hF46.block hN4.out (by intro r hr e; simp only [List.mem_singleton] at hr; rw [hr] at e; injection e with e; omega); obtain ⟨d0, d1, d2, d3, d4, d5, d6, df⟩ := n7_cells m0; obtain ⟨g0, g1, g2, g3, g4, g5, g6, gf⟩ := n7_cells m1; have HF46 := Lib.hid hF46; have H6 := Lib.hid (And.intro (hF4.out.trans hF46 (by intro r hr; exact .inl hr)) hn6); clear hF46 hF6 hn6 m0 m1)
        refine bodyPost_ret (v := valN n (.slice a c4 d)) (by simp [results, Tryz.results40, go_sem, d0, d1, d2, d3, d4, d5, d6]) rfl ?_
        have hd := put_done (w := w) (w3 := w6) (p0 := p0) (lo := p0 + 1) (n := n) (vk := .slice a c4 d) (s := s) (r := brackE s.data.toList f st) HP0.out hpx (Nat.le_refl _) ((Frm.ofBelow HB.out).trans H6.out.1 (by intro r hr; exact .inl hr)) (by
          rw [HBR2.out]
          have hn6 := H6.out.2
          cases hne : nextE s.data.toList st2.2 with
          | error x =>
            obtain ⟨x, y⟩ := x
            rw [hne] at hn6
            rw [bind_no rfl]
            exact ⟨hn6, by have := (nextE_err hne).1; omega⟩
          | ok st3 =>
            rw [hne] at hn6
            rw [bind_is rfl]
            exact ⟨rfl, HM.out.1.kept HF46.out (fun b hb r hr => by simp only [List.mem_singleton] at hr; subst hr; intro e; injection e with e; omega), HM.out.2, hn6, next_stw (by have := sl_len s; omega) hst2.1 hne⟩)
        exact ⟨_, _, _, _, rfl, hd.1, hd.2⟩
end Go.Proofs.YtbephgifbghilaaGreatDoor
/- The closures of expr.Parse: first (seat expr). -/
set_option maxRecDepth 100000
namespace Go.Proofs.YtbephgifbghilaaGreatDoor
open Go.RowKit
def firstE (s : List UInt8) (f : Nat) (line : Nat) (st : Tk × Nat) : Rs (Nd × (Tk × Nat)) :=
  if (sayOf st.1).data.toList = [110, 111, 116] ∧ line ≤ 3 then aheadE s f 3 3 st
  else if (sayOf st.1).data.toList = [45] then aheadE s f 4 7 st
  else if (sayOf st.1).data.toList = [40] then brackE s f st
  else atomE s st
theorem bind_assoc' {α β γ : Type} (x : Rs α) (k : α → Rs β) (h : β → Rs γ) : ((x >>= k) >>= h) = (x >>= fun a => k a >>= h) := by
  cases x <;> rfl
theorem prs_first (s : List UInt8) (f line : Nat) (st : Tk × Nat) : prsE s (f + 1) none line st = (firstE s f line st >>= fun r => prsE s f (some r.1) line r.2) := by
  obtain ⟨tk, i⟩ := st
  rw [prsE]
  cases tk with
  | fin a => rfl
  | nd n a =>
    unfold firstE
    have e : (sayOf (Tk.nd n a)).data.toList = [] := rfl
    simp only [e]
    rw [if_neg (by rintro ⟨h, _⟩; cases h), if_neg (by intro h; cases h), if_neg (by intro h; cases h)]
    unfold atomE
    simp only
    rw [bind_assoc']
    rfl
  | say u a =>
    have e : (sayOf (Tk.say u a)).data.toList = u := rfl
    unfold firstE
    simp only [e]
    split
    · unfold aheadE
      simp only [bind_assoc']
      rfl
    · split
      · unfold aheadE
        simp only [bind_assoc']
        rfl
      · split
        · unfold brackE
          simp only [bind_assoc']
          congr 1
          funext st1
          congr 1
          funext r
          obtain ⟨n, st2⟩ := r
          obtain ⟨t2, j⟩ := st2
          simp only
          split
          · cases nextE s j <;> rfl
          · next hx =>
            split
            · next c => exact absurd rfl (hx c)
            · rfl
        · rfl
theorem fin_say {st : Tk × Nat} (h : (sayOf st.1).data.toList ≠ []) : isFin st.1 = false := by
  obtain ⟨tk, i⟩ := st
  cases tk with
  | fin a => exact absurd rfl h
  | nd n a => rfl
  | say u a => rfl
set_option maxHeartbeats 8000000 in
theorem first_any {s : ByteArray} (hs : s.size ≤ 256) {B px cx cf c7 c8 c9 c10 f : Nat} (HF : FromC s B px cx cf c7 c8 c9 c10 f) {w : World} (hX : PX w B px cx cf c7 c8 c9 c10) {st : Tk × Nat} (hlx : LxT w px s st) (hst : StW s.data.toList.length st) (line : Nat) (hmu : mu s.data.toList.length st ≤ f) :
    Calls Tryz.prog 41 #[.int .i64 (line : Int), .pointer (some ⟨cx, 0, none⟩), .pointer (some ⟨c7, 0, none⟩), .pointer (some ⟨c9, 0, none⟩), .pointer (some ⟨c8, 0, none⟩)] w (PartC w px s (firstE s.data.toList f line st)) := by
  obtain ⟨w1, p0, hp0, hw1, l0, n0, b0⟩ := box_new w nilObj
  have hX1 := hX.below b0
  obtain ⟨c, hc⟩ := hlx.lex
  have hpx := lt_of_block hc
  have hlx1 := hlx.kept (b0.block _ hpx)
  have k0 : w1.cell? ⟨cx, 0, none⟩ = some (.pointer (some ⟨px, 0, none⟩)) := cell_of_block hX1.pw.hx 0
  have k7 : w1.cell? ⟨c7, 0, none⟩ = some (.func (.func 37) #[] #[.pointer (some ⟨cx, 0, none⟩), .pointer (some ⟨cf, 0, none⟩)]) := cell_of_block hX1.pw.h7 0
  have k8 : w1.cell? ⟨c8, 0, none⟩ = some (.func (.func 38) #[] #[.pointer (some ⟨cx, 0, none⟩)]) := cell_of_block hX1.pw.h8 0
  have k9' : w1.cell? ⟨c9, 0, none⟩ = some (.func (.func 40) #[] #[.pointer (some ⟨cx, 0, none⟩), .pointer (some ⟨cf, 0, none⟩)]) := cell_of_block hX1.pw.h9 0
  have k9 := hlx1.c9
  obtain ⟨sy, hsy⟩ : ∃ sy, sayOf st.1 = sy := ⟨_, rfl⟩
  rw [hsy] at k9
  have HB := Lib.hid b0
  have HX1 := Lib.hid hX1
  have HN0 := Lib.hid n0
  have HLX := Lib.hid hlx1
  have HP0 := Lib.hid hp0
  have HSY := Lib.hid hsy
  have hfs : Hid (sy.data.toList ≠ [] → isFin st.1 = false) := Lib.hid (fun h => fin_say (by rw [hsy]; exact h))
  have hFE : Hid (firstE s.data.toList f line st = if sy.data.toList = [110, 111, 116] ∧ line ≤ 3 then aheadE s.data.toList f 3 3 st
      else if sy.data.toList = [45] then aheadE s.data.toList f 4 7 st
      else if sy.data.toList = [40] then brackE s.data.toList f st
      else atomE s.data.toList st) := Lib.hid (by unfold firstE; rw [hsy])
  clear hX hX1 hlx hlx1 hc b0 n0 hsy
  have s1 : (sy.toList == [110, 111, 116]) = decide (sy.data.toList = [110, 111, 116]) := by rw [Lib.toList_data]; exact beq_dec _ _
  have s2 : (sy.toList == [45]) = decide (sy.data.toList = [45]) := by rw [Lib.toList_data]; exact beq_dec _ _
  have s3 : (sy.toList == [40]) = decide (sy.data.toList = [40]) := by rw [Lib.toList_data]; exact beq_dec _ _
  -- which callee
  have key : ∃ (b1 b2 b3 : Bool) (r : Rs (Nd × (Tk × Nat))), decide (sy.data.toList = [110, 111, 116]) = b1 ∧ decide (sy.data.toList = [45]) = b2 ∧ decide (sy.data.toList = [40]) = b3 ∧ firstE s.data.toList f line st = r ∧
      ((b1 = true ∧ decide (line ≤ 3) = true ∧ decide ((line : Int) ≤ 3) = true ∧ Calls Tryz.prog 37 #[.int .u8 3, .int .i64 3, .pointer (some ⟨cx, 0, none⟩), .pointer (some ⟨cf, 0, none⟩)] w1 (PartC w1 px s r)) ∨
       ((b1 = false ∨ (b1 = true ∧ decide (line ≤ 3) = false ∧ decide ((line : Int) ≤ 3) = false)) ∧ b2 = true ∧ Calls Tryz.prog 37 #[.int .u8 4, .int .i64 7, .pointer (some ⟨cx, 0, none⟩), .pointer (some ⟨cf, 0, none⟩)] w1 (PartC w1 px s r)) ∨
       ((b1 = false ∨ (b1 = true ∧ decide (line ≤ 3) = false ∧ decide ((line : Int) ≤ 3) = false)) ∧ b2 = false ∧ b3 = true ∧ Calls Tryz.prog 40 #[.pointer (some ⟨cx, 0, none⟩), .pointer (some ⟨cf, 0, none⟩)] w1 (PartC w1 px s r)) ∨
       ((b1 = false ∨ (b1 = true ∧ decide (line ≤ 3) = false ∧ decide ((line : Int) ≤ 3) = false)) ∧ b2 = false ∧ b3 = false ∧ Calls Tryz.prog 38 #[.pointer (some ⟨cx, 0, none⟩)] w1 (PartC w1 px s r))) := by
    refine ⟨_, _, _, _, rfl, rfl, rfl, rfl, ?_⟩
    rw [hFE.out]
    by_cases h1 : sy.data.toList = [110, 111, 116] ∧ line ≤ 3
    · rw [if_pos h1]
      exact .inl ⟨decide_eq_true h1.1, decide_eq_true h1.2, decide_eq_true (by omega), ahead_any hs HF HX1.out HLX.out hst (hfs.out (by rw [h1.1]; decide)) 3 (by omega) (by omega) 3 (by omega) hmu⟩
    · rw [if_neg h1]
      have hn1 : decide (sy.data.toList = [110, 111, 116]) = false ∨ (decide (sy.data.toList = [110, 111, 116]) = true ∧ decide (line ≤ 3) = false ∧ decide ((line : Int) ≤ 3) = false) := by
        by_cases h : sy.data.toList = [110, 111, 116]
        · exact .inr ⟨decide_eq_true h, decide_eq_false (fun hl => h1 ⟨h, hl⟩), decide_eq_false (fun hl => h1 ⟨h, by omega⟩)⟩
        · exact .inl (decide_eq_false h)
      refine .inr ?_
      by_cases h2 : sy.data.toList = [45]
      · rw [if_pos h2]
        exact .inl ⟨hn1, decide_eq_true h2, ahead_any hs HF HX1.out HLX.out hst (hfs.out (by rw [h2]; decide)) 4 (by omega) (by omega) 7 (by omega) hmu⟩
      · rw [if_neg h2]
        refine .inr ?_
        by_cases h3 : sy.data.toList = [40]
        · rw [if_pos h3]
          exact .inl ⟨hn1, decide_eq_false h2, decide_eq_true h3, brack_any hs HF HX1.out HLX.out hst (hfs.out (by rw [h3]; decide)) hmu⟩
        · rw [if_neg h3]
          exact .inr ⟨hn1, decide_eq_false h2, decide_eq_false h3, atom_any hs HX1.out HLX.out hst⟩
  obtain ⟨b1, b2, b3, r, e1, e2, e3, e4, key⟩ := key
  rw [e1] at s1
  rw [e2] at s2
  rw [e3] at s3
  have E4 := Lib.hid e4
  clear e1 e2 e3 e4 hFE
  have fin : Hid (∀ (w3 : World) (n : Nd) (a : Option Addr) (c3 d : Nat), Frm [some px] w1 w3 → partR w3 px s w1.heap.size n (.slice a c3 d) r → PartC w px s (firstE s.data.toList f line st) (.returned (valN n (.slice a c3 d))) (set7 w3 p0 (.int .u8 n.op) (.int .u8 n.v.kind) (.int .i64 n.v.num) (.bool n.v.tr) (.string n.v.text) (.string n.name) (.slice a c3 d))) := Lib.hid (fun w3 n a c3 d hF hr => by
    have hd := put_done (w := w) (w3 := w3) (p0 := p0) (lo := w1.heap.size) (n := n) (vk := .slice a c3 d) (s := s) (r := r) HP0.out hpx l0 ((Frm.ofBelow HB.out).trans hF (by intro r hr; exact .inl hr)) hr
    rw [E4.out]
    exact ⟨_, _, _, _, rfl, hd.1, hd.2⟩)
  rcases key with ⟨rfl, e5, e6, hC⟩ | ⟨hb1, rfl, hC⟩ | ⟨hb1, rfl, rfl, hC⟩ | ⟨hb1, rfl, rfl, hC⟩
  · have HC := Lib.hid hC
    clear hC
    go_enter Tryz.func41, Tryz.ntmps41
    go_wp2_with (go_at_call 37; refine HC.out.mono ?_; rintro e w3 ⟨n, a, c3, d, rfl, hF3, hr3⟩; have hn3 := hF3.block HN0.out (by intro r hr e; simp only [List.mem_singleton] at hr; rw [hr] at e; injection e with e; omega); obtain ⟨d0, d1, d2, d3, d4, d5, d6, df⟩ := n7_cells hn3; have H3 := Lib.hid (And.intro hF3 hr3); clear hF3 hr3 hn3)
    refine bodyPost_ret (v := valN n (.slice a c3 d)) (by simp [results, Tryz.results41, go_sem, d0, d1, d2, d3, d4, d5, d6]) rfl ?_
    exact fin.out _ _ _ _ _ H3.out.1 H3.out.2
  · have HC := Lib.hid hC
    clear hC
    rcases hb1 with rfl | ⟨rfl, e5, e6⟩
    all_goals
      go_enter Tryz.func41, Tryz.ntmps41
      go_wp2_with (go_at_call 37; refine HC.out.mono ?_; rintro e w3 ⟨n, a, c3, d, rfl, hF3, hr3⟩; have hn3 := hF3.block HN0.out (by intro r hr e; simp only [List.mem_singleton] at hr; rw [hr] at e; injection e with e; omega); obtain ⟨d0, d1, d2, d3, d4, d5, d6, df⟩ := n7_cells hn3; have H3 := Lib.hid (And.intro hF3 hr3); clear hF3 hr3 hn3)
      refine bodyPost_ret (v := valN n (.slice a c3 d)) (by simp [results, Tryz.results41, go_sem, d0, d1, d2, d3, d4, d5, d6]) rfl ?_
      exact fin.out _ _ _ _ _ H3.out.1 H3.out.2
  · have HC := Lib.hid hC
    clear hC
    rcases hb1 with rfl | ⟨rfl, e5, e6⟩
    all_goals
      go_enter Tryz.func41, Tryz.ntmps41
      go_wp2_with (go_at_call 40; refine HC.out.mono ?_; rintro e w3 ⟨n, a, c3, d, rfl, hF3, hr3⟩; have hn3 := hF3.block HN0.out (by intro r hr e; simp only [List.mem_singleton] at hr; rw [hr] at e; injection e with e; omega); obtain ⟨d0, d1, d2, d3, d4, d5, d6, df⟩ := n7_cells hn3; have H3 := Lib.hid (And.intro hF3 hr3); clear hF3 hr3 hn3)
      refine bodyPost_ret (v := valN n (.slice a c3 d)) (by simp [results, Tryz.results41, go_sem, d0, d1, d2, d3, d4, d5, d6]) rfl ?_
      exact fin.out _ _ _ _ _ H3.out.1 H3.out.2
  · have HC := Lib.hid hC
    clear hC
    rcases hb1 with rfl | ⟨rfl, e5, e6⟩
    all_goals
      go_enter Tryz.func41, Tryz.ntmps41
      go_wp2_with (go_at_call 38; refine HC.out.mono ?_; rintro e w3 ⟨n, a, c3, d, rfl, hF3, hr3⟩; have hn3 := hF3.block HN0.out (by intro r hr e; simp only [List.mem_singleton] at hr; rw [hr] at e; injection e with e; omega); obtain ⟨d0, d1, d2, d3, d4, d5, d6, df⟩ := n7_cells hn3; have H3 := Lib.hid (And.intro hF3 hr3); clear hF3 hr3 hn3)
      refine bodyPost_ret (v := valN n (.slice a c3 d)) (by simp [results, Tryz.results41, go_sem, d0, d1, d2, d3, d4, d5, d6]) rfl ?_
      exact fin.out _ _ _ _ _ H3.out.1 H3.out.2
end Go.Proofs.YtbephgifbghilaaGreatDoor
/- The closures of expr.Parse: from (seat expr). -/
set_option maxRecDepth 100000
namespace Go.Proofs.YtbephgifbghilaaGreatDoor
open Go.RowKit
theorem ahead_mu {s : List UInt8} (hs : s.length ≤ 1000) {f : Nat} {op : Int} {line : Nat} {st : Tk × Nat} {n : Nd} {st' : Tk × Nat} (hi : StW s.length st) (hf : isFin st.1 = false) (h : aheadE s f op line st = .ok (n, st')) : StW s.length st' ∧ mu s.length st' < mu s.length st := by
  unfold aheadE at h
  obtain ⟨st1, h1, h⟩ := bind_ok h
  obtain ⟨⟨m, st2⟩, h2, h⟩ := bind_ok h
  injection h with h
  injection h with _ h
  subst h
  obtain ⟨a1, a2, a3, a4, a5⟩ := next_mu hs hi.1 hf h1
  obtain ⟨b1, b2, b3⟩ := prs_mu hs f none line st1 m st2 ⟨a2, a4, a5⟩ h2
  exact ⟨b1, by omega⟩
theorem first_mu {s : List UInt8} (hs : s.length ≤ 1000) {f line : Nat} {st : Tk × Nat} {n : Nd} {st' : Tk × Nat} (hi : StW s.length st) (h : firstE s f line st = .ok (n, st')) : StW s.length st' ∧ mu s.length st' < mu s.length st := by
  unfold firstE at h
  split at h
  · next h1 => exact ahead_mu hs hi (fin_say (by rw [h1.1]; decide)) h
  · split at h
    · next h1 => exact ahead_mu hs hi (fin_say (by rw [h1]; decide)) h
    · split at h
      · next h1 =>
        have hf := fin_say (st := st) (by rw [h1]; decide)
        rw [brackE_is] at h
        obtain ⟨st1, h2, h⟩ := bind_ok h
        obtain ⟨⟨m, st2⟩, h3, h⟩ := bind_ok h
        obtain ⟨a1, a2, a3, a4, a5⟩ := next_mu hs hi.1 hf h2
        obtain ⟨b1, b2, b3⟩ := prs_mu hs f none 1 st1 m st2 ⟨a2, a4, a5⟩ h3
        simp only at h
        by_cases h41 : (sayOf st2.1).data.toList = [41]
        · rw [tailE_yes h41] at h
          obtain ⟨st3, h4, h⟩ := bind_ok h
          injection h with h
          injection h with _ h
          subst h
          obtain ⟨c1, c2, c3, c4, c5⟩ := next_mu hs b1.1 (fin_say (by rw [h41]; decide)) h4
          exact ⟨⟨c2, c4, c5⟩, by omega⟩
        · rw [tailE_no h41] at h
          cases h
      · unfold atomE at h
        split at h
        · next m a he =>
          obtain ⟨st1, h2, h⟩ := bind_ok h
          injection h with h
          injection h with _ h
          subst h
          obtain ⟨a1, a2, a3, a4, a5⟩ := next_mu hs hi.1 (by rw [he]; rfl) h2
          exact ⟨⟨a2, a4, a5⟩, a1⟩
        · cases h
theorem signT_say (tk : Tk) : signT tk = signL (sayOf tk).data.toList := by cases tk <;> rfl
/-- What goes on behind a part: the next sign, and the part behind it. -/
def stepE (s : List UInt8) (g : Nat) (n : Nd) (op : Int) (ln : Nat) (st : Tk × Nat) : Rs (Nd × (Tk × Nat)) := do
  let st1 ← nextE s st.2
  let (m, st2) ← prsE s g none (ln + 1) st1
  .ok (twoN op n m, st2)
def chainB (ln : Nat) (tk : Tk) : Bool := decide (ln = 4) && decide (sgB (signT tk) = 4)
theorem ite_some {α : Type} {c : Prop} [Decidable c] {a b : α} {o : Option α} (h : (if c then some a else o) = some b) : a = b ∨ o = some b := by
  split at h
  · exact .inl (Option.some.inj h)
  · exact .inr h
theorem sign_line {u : List UInt8} {op : Int} {ln : Nat} (h : signL u = some (op, ln)) : 0 ≤ op ∧ op ≤ 255 ∧ 1 ≤ ln ∧ ln ≤ 6 := by
  unfold signL at h
  repeat (rcases ite_some h with h | h; · (injection h with h1 h2; subst h1 h2; omega))
  cases h
theorem prs_some {s : List UInt8} {g line : Nat} {n : Nd} {st : Tk × Nat} : prsE s (g + 1) (some n) line st = match signT st.1 with
    | none => .ok (n, st)
    | some (op, ln) => if ln < line then .ok (n, st) else (stepE s g n op ln st >>= fun r => if chainB ln r.2.1 then .error (4, r.2.1.at_) else prsE s g (some r.1) line r.2) := by
  obtain ⟨tk, i⟩ := st
  rw [prsE]
  simp only
  cases hsg : signT tk with
  | none => rfl
  | some p =>
    obtain ⟨op, ln⟩ := p
    simp only
    split
    · rfl
    · unfold stepE
      simp only [bind_assoc']
      congr 1
      funext st1
      congr 1
      funext r
      obtain ⟨m, st2⟩ := r
      have e : (ln = 4 ∧ ((signT st2.1).any fun p => p.2 == 4) = true) ↔ chainB ln st2.1 = true := by
        unfold chainB
        rw [Bool.and_eq_true, decide_eq_true_eq, decide_eq_true_eq]
        cases signT st2.1 with
        | none => simp [sgB]
        | some q => simp [sgB]; intro _; omega
      simp only
      by_cases hc : chainB ln st2.1 = true
      · rw [if_pos (e.2 hc)]
        show _ = (if chainB ln st2.1 = true then _ else _)
        rw [if_pos hc]
      · rw [if_neg (fun h => hc (e.1 h))]
        show _ = (if chainB ln st2.1 = true then _ else _)
        rw [if_neg hc]
end Go.Proofs.YtbephgifbghilaaGreatDoor
