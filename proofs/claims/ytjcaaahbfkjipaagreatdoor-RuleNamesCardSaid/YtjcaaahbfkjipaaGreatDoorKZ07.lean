/- Texts fused by fuse.py: KEvalCheck4, KEvalTop2, KEvalTypeP, KEvalType, KEvalMake. -/
import Derived.Test.YtjcaaahbfkjipaaGreatDoorKZ06
import Derived.Test.YtjcaaahbfkjipaaGreatDoorKZ01
/- Of EvalCheck4: what FRuleNames uses (shake.py). -/
set_option maxRecDepth 100000
/- expr.Check is checkN. -/
namespace Go.Proofs.YtjcaaahbfkjipaaGreatDoor
open Go.RowKit
theorem check1_any (w : World) (op : Int) (u : Vl) (nm : ByteArray) (vk : Value) (r : Bool)
    (hk : ∀ W, Below w.heap.size w W → Calls Tryz.prog 133 #[valO op u nm vk] W fun e w' => e = .returned (.bool r) ∧ Below W.heap.size W w') :
    Calls Tryz.prog 155 #[valO op u nm vk] w fun e w' => e = .returned (.bool (!r)) ∧ Below w.heap.size w w' := by
  obtain ⟨w1, p0, hp0, hw1, l1, n1, b1⟩ := box_new w (objN op u nm vk)
  have c0 := (show w1.cell? ⟨p0, 0, none⟩ = some (.int .u8 op) from (cell_of_block n1 0).trans rfl)
  have c1 := (show w1.cell? ⟨p0, 1, none⟩ = some (.int .u8 u.kind) from (cell_of_block n1 1).trans rfl)
  have c2 := (show w1.cell? ⟨p0, 2, none⟩ = some (.int .i64 u.num) from (cell_of_block n1 2).trans rfl)
  have c3 := (show w1.cell? ⟨p0, 3, none⟩ = some (.bool u.tr) from (cell_of_block n1 3).trans rfl)
  have c4 := (show w1.cell? ⟨p0, 4, none⟩ = some (.string u.text) from (cell_of_block n1 4).trans rfl)
  have c5 := (show w1.cell? ⟨p0, 5, none⟩ = some (.string nm) from (cell_of_block n1 5).trans rfl)
  have c6 := (show w1.cell? ⟨p0, 6, none⟩ = some vk from (cell_of_block n1 6).trans rfl)
  have HB := Lib.hid b1
  have HC := Lib.hid (hk w1 b1)
  clear n1 b1 hk
  go_enter Tryz.func155, Tryz.ntmps155
  go_wp2_with (go_at_call 133; refine HC.out.mono ?_; rintro e w5 ⟨rfl, hb5⟩; refine Hid.out ?_)
  refine Lib.hid ?_
  have HF := Lib.hid (HB.out.trans (hb5.mono HB.out.size))
  clear hb5
  go_wp2_with fail
  go_ret
  exact ⟨rfl, by first | exact HF.out | (rw [hp0]; exact HF.out)⟩
theorem any_check : ∀ l : List Nd, l.any (fun n => !checkN n) = !checkL l
  | [] => rfl
  | a :: r => by
    show (!checkN a || r.any (fun n => !checkN n)) = !(checkN a && checkL r)
    rw [any_check r, Bool.not_and]
/-- What Check answers of a node whose kids are known. -/
theorem chk_head (W : World) (op : Int) (v : Vl) (nm : ByteArray) (ks : List Nd) (hw : HeadW (.mk op v nm ks)) (hT : Tabs8 W) (vk : Value) (hk : KidsR W W.heap.size vk ks)
    (hC : ∀ V, Below W.heap.size W V → Calls Tryz.prog 154 #[vk, .func (.func 155) #[] #[]] V fun e w' => e = .returned (.bool (!checkL ks)) ∧ Below V.heap.size V w') :
    Calls Tryz.prog 133 #[valO op v nm vk] W fun e w' => e = .returned (.bool (headB op v nm ks.length && checkL ks)) ∧ Below W.heap.size W w' := by
  obtain ⟨a, c, rfl⟩ := hk.val
  have hu := hw.v
  have no : ∀ b, headB op v nm ks.length = b → (b && checkL ks) = (headB op v nm ks.length && checkL ks) := fun b h => by rw [h]
  have yes : headB op v nm ks.length = true → (headB op v nm ks.length && checkL ks) = !(!checkL ks) := fun h => by rw [h, Bool.true_and, Bool.not_not]
  by_cases hA : (ks.length : Int) = kidsN op
  · have hA' : ((ks.length : Int) == kidsN op) = true := by simpa using hA
    by_cases h1 : op = 1
    · have q1 : (op == 1) = true := by simpa using h1
      have q2 : (op == 2) = false := by rw [h1]; rfl
      cases hn : nm.toList.isEmpty with
      | false =>
        rw [← no false (by unfold headB; rw [q1, q2, hn]; simp), Bool.false_and]
        exact chk_nm1 W op v nm a ks.length c hA h1 hn
      | true =>
        cases hc : checkB v with
        | false =>
          rw [← no false (by unfold headB; rw [q1, q2, hn, hc]; simp), Bool.false_and]
          exact chk_lit0 W op v nm a ks.length c hA h1 hn hu hT hc
        | true =>
          by_cases hneg : v.num < 0
          · rw [← no false (by unfold headB; rw [q1, q2, hn, hc, decide_eq_false (show ¬ (0 ≤ v.num) by omega)]; simp), Bool.false_and]
            exact chk_lit1 W op v nm a ks.length c hA h1 hn hu hT hc hneg
          · rw [yes (by unfold headB; rw [hA', q1, q2, hn, hc, decide_eq_true (show 0 ≤ v.num by omega)]; simp)]
            exact chk_lit W op v nm a ks.length c _ hA h1 hn hu hT hc (by omega) hC
    · have q1 : (op == 1) = false := by simpa using h1
      cases hv : vlEq v Vl.zero with
      | false =>
        rw [← no false (by unfold headB; rw [q1, hv]; simp), Bool.false_and]
        exact chk_val W op v nm a ks.length c hA h1 hv
      | true =>
        by_cases h2 : op = 2
        · have q2 : (op == 2) = true := by simpa using h2
          cases hc : nameB nm with
          | false =>
            rw [← no false (by unfold headB; rw [q1, q2, hv, hc]; simp), Bool.false_and]
            exact chk_var0 W op v nm a ks.length c hA h2 hv hc
          | true =>
            cases hw' : keyWord nm with
            | true =>
              rw [← no false (by unfold headB; rw [q1, q2, hv, hc, hw']; simp), Bool.false_and]
              exact chk_var1 W op v nm a ks.length c hA h2 hv hc hw'
            | false =>
              rw [yes (by unfold headB; rw [hA', q1, q2, hv, hc, hw']; simp)]
              exact chk_var W op v nm a ks.length c _ hA h2 hv hc hw' hC
        · have q2 : (op == 2) = false := by simpa using h2
          cases hn : nm.toList.isEmpty with
          | false =>
            rw [← no false (by unfold headB; rw [q1, q2, hv, hn]; simp), Bool.false_and]
            exact chk_nm0 W op v nm a ks.length c hA h1 hv h2 hn
          | true =>
            rw [yes (by unfold headB; rw [hA', q1, q2, hv, hn]; simp)]
            exact chk_op W op v nm a ks.length c _ hA h1 h2 hv hn hC
  · have hA' : ((ks.length : Int) == kidsN op) = false := by simpa using hA
    rw [← no false (by unfold headB; rw [hA']; simp), Bool.false_and]
    exact chk_len W op v nm a ks.length c hA
mutual
theorem check_N : ∀ n : Nd, HeadW n → ∀ (W : World) (vk : Value), Tabs8 W → KidsR W W.heap.size vk n.kids → Calls Tryz.prog 133 #[valN n vk] W fun e w' => e = .returned (.bool (checkN n)) ∧ Below W.heap.size W w'
  | .mk op v nm ks, hw, W, vk, hT, hk => by
    have hL := check_L ks
    refine chk_head W op v nm ks hw hT vk hk (fun V hV => ?_)
    rw [← any_check]
    refine nodesHas_any V vk ks (hk.mono hV hV.size) 155 #[] (fun n => !checkN n) (fun args W => by kernel_rfl) (fun i hi vk' W' hb hk' hw' => ?_)
    exact check1_any W' ks[i].op ks[i].v ks[i].name vk' (checkN ks[i]) (fun W2 h2 => hL i hi hw' W2 vk' (Utf8Tabs_below (Utf8Tabs_below hT hV) (hb.trans (h2.mono hb.size))) (hk'.mono (h2.mono hb.size) (Nat.le_trans hb.size h2.size)))
theorem check_L : ∀ ks : List Nd, ∀ i (hi : i < ks.length), HeadW ks[i] → ∀ (W : World) (vk : Value), Tabs8 W → KidsR W W.heap.size vk ks[i].kids → Calls Tryz.prog 133 #[valO ks[i].op ks[i].v ks[i].name vk] W fun e w' => e = .returned (.bool (checkN ks[i])) ∧ Below W.heap.size W w'
  | [], i, hi, _, _, _, _, _ => absurd hi (by simp)
  | a :: r, 0, _, hw, W, vk, hT, hk => check_N a hw W vk hT hk
  | a :: r, i + 1, hi, hw, W, vk, hT, hk => check_L r i (by simp at hi; omega) hw W vk hT hk
end
end Go.Proofs.YtjcaaahbfkjipaaGreatDoor

/- Of EvalTop2: what FRuleNames uses (shake.py). -/
set_option maxRecDepth 100000
/- eval.Eval, eval.Bool; the law's helpers that make nodes. -/
namespace Go.Proofs.YtjcaaahbfkjipaaGreatDoor
open Go.RowKit
/-- A node that may be read: its own cells are at hand. -/
def NdR (w : World) (B : Nat) (vk : Value) (n : Nd) : Prop := HeadW n ∧ KidsR w B vk n.kids
theorem NdR.mono {w w' : World} {B B' : Nat} {vk : Value} {n : Nd} (h : NdR w B vk n) (hb : Below B w w') (hB : B ≤ B') : NdR w' B' vk n := ⟨h.1, h.2.mono hb hB⟩
theorem NdR.to {w w' : World} {vk : Value} {n : Nd} (h : NdR w w.heap.size vk n) (hb : Below w.heap.size w w') : NdR w' w'.heap.size vk n := h.mono hb hb.size
theorem BdsR.to {w w' : World} {v : Value} {l : List Bd} (h : BdsR w w.heap.size v l) (hb : Below w.heap.size w w') : BdsR w' w'.heap.size v l := h.mono hb hb.size
end Go.Proofs.YtjcaaahbfkjipaaGreatDoor

/- Of EvalTypeP: what FRuleNames uses (shake.py). -/
set_option maxRecDepth 100000
/- The statement EvalTypes on plain data. -/
namespace Go.Proofs.YtjcaaahbfkjipaaGreatDoor
def typeC (op : Int) (ks : List Int) : Int × Int := match ks with
  | [] => (0, 90)
  | a :: r => if r.any (fun k => !(k == a)) then (0, 90)
    else if op = 7 ∨ op = 8 then (2, 0)
    else if (op = 3 ∨ op = 5 ∨ op = 6) ∧ a = 2 then (a, 0)
    else if 9 ≤ op ∧ op ≤ 12 ∧ ¬ a = 2 then (2, 0)
    else if ((op = 4 ∨ 13 ≤ op) ∧ a = 1) ∨ (op = 13 ∧ a = 3) then (a, 0)
    else (0, 90)
mutual
def typeN (l : List Bd) : Nd → Int × Int
  | .mk op v nm ks => if op = 1 then (v.kind, 0) else if op = 2 then (match findB l nm with | none => (0, 100) | some v => (v.kind, 0)) else (if (typeL l ks).2 = 0 then typeC op (typeL l ks).1 else (0, (typeL l ks).2))
def typeL (l : List Bd) : List Nd → List Int × Int
  | [] => ([], 0)
  | k :: r => if (typeN l k).2 = 0 then (if (typeL l r).2 = 0 then ((typeN l k).1 :: (typeL l r).1, 0) else ([], (typeL l r).2)) else ([], (typeN l k).2)
end
end Go.Proofs.YtjcaaahbfkjipaaGreatDoor

/- Of EvalType: what FRuleNames uses (shake.py). -/
set_option maxRecDepth 100000
/- expr.typeOf: the parts. -/
namespace Go.Proofs.YtjcaaahbfkjipaaGreatDoor
open Go.RowKit
abbrev U8s (w : World) (B : Nat) (v : Value) (l : List Int) : Prop := ColV (Value.int .u8) 140737488355328 w B v l
set_option maxHeartbeats 1000000 in
theorem u8Idx_any (w : World) (v : Value) (l : List Int) (h : U8s w w.heap.size v l) (fid : Nat) (caps : Array Value) (p : Int → Bool)
    (hrun : ∀ (args : Array Value) (W : World), (callFunc fid args).run Tryz.prog W = .ok (.enter fid args) W)
    (hf : ∀ (x : Int) (W : World), Below w.heap.size w W → Calls Tryz.prog fid (#[.int .u8 x] ++ caps) W fun e w' => e = .returned (.bool (p x)) ∧ Below W.heap.size W w') :
    Calls Tryz.prog 171 #[v, .func (.func fid) #[] caps] w fun e w' => e = .returned (.int .i64 (idxL p l 0)) ∧ Below w.heap.size w w' := by
  have HR := Lib.hid h
  have hll := h.len
  obtain ⟨a, c, rfl⟩ := h.val
  have HF := Lib.hid hf
  clear hf h
  go_enter Tryz.func171, Tryz.ntmps171
  go_wp2_with fail
  go_loopg [8] l.length (fun g s8 wr => ∃ k : Nat, k + g = l.length ∧ s8 = .int .i64 (k : Int) ∧ Hid (idxL p (l.drop k) (k : Int) = idxL p l 0) ∧ Below w.heap.size w wr)
  case atStart => exact ⟨0, by omega, rfl, rfl, Below.refl _ _⟩
  case round =>
    obtain ⟨k, hkg, rfl, hI, hB⟩ := hrel
    by_cases hk : k < l.length
    · obtain ⟨b, o, rfl, hb, c0⟩ := (HR.out.mono hB (Nat.le_refl _)).col k hk
      obtain ⟨x, hx⟩ : ∃ x, l[k] = x := ⟨_, rfl⟩
      rw [hx] at c0
      have hd : Hid (idxL p (l.drop k) (k : Int) = if p x then (k : Int) else idxL p (l.drop (k + 1)) ((k + 1 : Nat) : Int)) := Lib.hid (by rw [idxL_drop hk, hx])
      have hcall := HF.out x wr hB
      have HB := Lib.hid hB
      have dk : decide (k < l.length) = true := decide_eq_true hk
      have k1 : (0 : Int) ≤ (k : Int) := by omega
      have k2 : (k : Int) < (l.length : Int) := by omega
      clear hx hB
      cases hp : p x with
      | true =>
        rw [hp] at hcall
        have Hf : Hid ((k : Int) = idxL p l 0) := by rw [← hI.out, hd.out, hp]; exact rfl
        have HC := Lib.hid hcall
        clear hcall hp
        go_wp2_with fail
        refine HC.out.mono ?_
        rintro e w2 ⟨rfl, hb2⟩
        have HB2 := Lib.hid (HB.out.trans (hb2.mono HB.out.size))
        clear hb2
        go_wp2_with fail
        go_ret
        exact ⟨ret_int Hf.out, HB2.out⟩
      | false =>
        rw [hp] at hcall
        have Hf : Hid (idxL p (l.drop (k + 1)) ((k + 1 : Nat) : Int) = idxL p l 0) := by rw [← hI.out, hd.out, hp]; exact rfl
        have HC := Lib.hid hcall
        clear hcall hp
        go_wp2_with fail
        refine HC.out.mono ?_
        rintro e w2 ⟨rfl, hb2⟩
        have HB2 := Lib.hid (HB.out.trans (hb2.mono HB.out.size))
        clear hb2
        go_wp2_with fail
        go_roundg (gk - 1)
        case measure => omega
        case rel => exact ⟨k + 1, by omega, by go_num, Hf, HB2.out⟩
    · have Hf : Hid (-1 = idxL p l 0) := by rw [← hI.out, List.drop_eq_nil_of_le (by omega)]; exact rfl
      have dk : decide (k < l.length) = false := decide_eq_false hk
      go_wp2_with fail
      go_ret
      exact ⟨ret_int Hf.out, hB⟩
theorem u8Has_any (w : World) (v : Value) (l : List Int) (h : U8s w w.heap.size v l) (fid : Nat) (caps : Array Value) (p : Int → Bool)
    (hrun : ∀ (args : Array Value) (W : World), (callFunc fid args).run Tryz.prog W = .ok (.enter fid args) W)
    (hf : ∀ (x : Int) (W : World), Below w.heap.size w W → Calls Tryz.prog fid (#[.int .u8 x] ++ caps) W fun e w' => e = .returned (.bool (p x)) ∧ Below W.heap.size W w') :
    Calls Tryz.prog 157 #[v, .func (.func fid) #[] caps] w fun e w' => e = .returned (.bool (l.any p)) ∧ Below w.heap.size w w' := by
  have S1 := Lib.hid (u8Idx_any w v l h fid caps p hrun hf)
  have HI := Lib.hid (idxL_any p l 0 (by omega))
  obtain ⟨r, hr⟩ : ∃ r, l.any p = r := ⟨_, rfl⟩
  obtain ⟨j, hj⟩ : ∃ j, idxL p l 0 = j := ⟨_, rfl⟩
  rw [hr, hj] at HI
  rw [hj] at S1
  rw [hr]
  have dj := HI.out
  obtain ⟨a, c, rfl⟩ := h.val
  clear hr hj hf h
  go_enter Tryz.func157, Tryz.ntmps157
  go_wp2_with (go_at_call 171; refine S1.out.mono ?_; rintro e w2 ⟨rfl, hb2⟩; refine Hid.out ?_)
  refine Lib.hid ?_
  have HB := Lib.hid hb2
  clear hb2
  go_wp2_with fail
  go_ret
  exact ⟨rfl, HB.out⟩
theorem type2_any (w : World) (k a : Int) (pb : Nat) (hb : w.cell? ⟨pb, 0, none⟩ = some (.int .u8 a)) :
    Calls Tryz.prog 158 #[.int .u8 k, .pointer (some ⟨pb, 0, none⟩)] w fun e w' => e = .returned (.bool (!(k == a))) ∧ Below w.heap.size w w' := by
  obtain ⟨r, hr⟩ : ∃ r, (k != a) = r := ⟨_, rfl⟩
  rw [show (!(k == a)) = r from hr]
  have HB := Lib.hid (Below.refl w.heap.size w)
  go_enter Tryz.func158, Tryz.ntmps158
  go_wp2_with fail
  go_ret
  exact ⟨rfl, HB.out⟩
theorem type1_any (w : World) (x : Bd) (pb : Nat) (s : ByteArray) (hb : w.cell? ⟨pb, 5, none⟩ = some (.string s)) (hl : pb < w.heap.size) :
    Calls Tryz.prog 156 #[valBd x, .pointer (some ⟨pb, 0, none⟩)] w fun e w' => e = .returned (.bool (x.name.toList == s.toList)) ∧ Below w.heap.size w w' := by
  obtain ⟨w1, p0, hp0, hw1, l1, n1, b1⟩ := box_new w (.cells #[.string x.name, .int .u8 x.val.kind, .int .i64 x.val.num, .bool x.val.tr, .string x.val.text] 60)
  have c0 : w1.cell? ⟨p0, 0, none⟩ = some (.string x.name) := (cell_of_block n1 0).trans rfl
  have c1 : w1.cell? ⟨pb, 5, none⟩ = some (.string s) := (Below.cellB b1 hl).trans hb
  have HB := Lib.hid b1
  obtain ⟨r, hr⟩ : ∃ r, (x.name.toList == s.toList) = r := ⟨_, rfl⟩
  rw [hr]
  clear n1 b1 hb
  go_enter Tryz.func156, Tryz.ntmps156
  go_wp2_with fail
  go_ret
  exact ⟨rfl, by first | exact HB.out | (rw [hp0]; exact HB.out)⟩
theorem nd_box (w : World) (op : Int) (u : Vl) (nm : ByteArray) (vk : Value) : ∃ (w1 : World) (p0 : Nat), w.heap.size = p0 ∧ w.alloc (objN op u nm vk) = w1 ∧ p0 < w1.heap.size ∧ Below w.heap.size w w1 ∧ ∀ V, Below w1.heap.size w1 V → (V.cell? ⟨p0, 0, none⟩ = some (.int .u8 op) ∧ V.cell? ⟨p0, 1, none⟩ = some (.int .u8 u.kind) ∧ V.cell? ⟨p0, 2, none⟩ = some (.int .i64 u.num) ∧ V.cell? ⟨p0, 3, none⟩ = some (.bool u.tr) ∧ V.cell? ⟨p0, 4, none⟩ = some (.string u.text) ∧ V.cell? ⟨p0, 5, none⟩ = some (.string nm) ∧ V.cell? ⟨p0, 6, none⟩ = some vk) := by
  obtain ⟨w1, p0, hp0, hw1, l1, n1, b1⟩ := box_new w (objN op u nm vk)
  refine ⟨w1, p0, hp0, hw1, l1, b1, fun V h => ?_⟩
  have k := (h.block p0 l1).trans n1
  exact ⟨(cell_of_block k 0).trans rfl, (cell_of_block k 1).trans rfl, (cell_of_block k 2).trans rfl, (cell_of_block k 3).trans rfl, (cell_of_block k 4).trans rfl, (cell_of_block k 5).trans rfl, (cell_of_block k 6).trans rfl⟩
theorem type_lit (w : World) (u : Vl) (nm : ByteArray) (vk vv : Value) :
    Calls Tryz.prog 134 #[valO 1 u nm vk, vv] w fun e w' => e = .returned (.tuple #[.int .u8 u.kind, .int .i64 0]) ∧ Below w.heap.size w w' := by
  obtain ⟨w1, p0, hp0, hw1, l1, b1, hc⟩ := nd_box w 1 u nm vk
  obtain ⟨c0, c1, c2, c3, c4, c5, c6⟩ := hc w1 (Below.refl _ _)
  have HB := Lib.hid b1
  clear b1 hc
  go_enter Tryz.func134, Tryz.ntmps134
  go_wp2_with fail
  go_ret2
  exact ⟨rfl, by first | exact HB.out | (rw [hp0]; exact HB.out)⟩
def varT (l : List Bd) (nm : ByteArray) : Int × Int := match findB l nm with | none => (0, 100) | some v => (v.kind, 0)
set_option maxHeartbeats 1000000 in
theorem type_var (w : World) (u : Vl) (nm : ByteArray) (vk vv : Value) (l : List Bd) (hl : BdsR w w.heap.size vv l) :
    Calls Tryz.prog 134 #[valO 2 u nm vk, vv] w fun e w' => e = .returned (.tuple #[.int .u8 (varT l nm).1, .int .i64 (varT l nm).2]) ∧ Below w.heap.size w w' := by
  obtain ⟨w1, p0, hp0, hw1, l1, b1, hc⟩ := nd_box w 2 u nm vk
  obtain ⟨c0, c1, c2, c3, c4, c5, c6⟩ := hc w1 (Below.refl _ _)
  have hR := hl.to b1
  have S1 := Lib.hid (bindsIdx_any w1 vv l hR 156 #[.pointer (some ⟨p0, 0, none⟩)] (fun b => b.name.toList == nm.toList) (enters_of Tryz.func156 (by kernel_rfl) rfl) (fun x W h => type1_any W x p0 nm (hc W h).2.2.2.2.2.1 (Nat.lt_of_lt_of_le l1 h.size)))
  have HR := Lib.hid hR
  have HB := Lib.hid b1
  obtain ⟨i1, i2⟩ := idxL_find nm l 0
  obtain ⟨a, c, rfl⟩ := hl.val
  clear b1 hc hR hl
  unfold varT
  cases hf : findB l nm with
  | none =>
    rw [i1 hf] at S1
    clear hf i1 i2
    go_enter Tryz.func134, Tryz.ntmps134
    go_wp2_with (go_at_call 104; refine S1.out.mono ?_; rintro e w3 ⟨rfl, hb3⟩; refine Hid.out ?_)
    refine Lib.hid ?_
    have HE := Lib.hid (HB.out.trans (hb3.mono HB.out.size))
    clear hb3
    go_wp2_with fail
    go_ret2
    exact ⟨rfl, HE.out⟩
  | some v =>
    obtain ⟨j, hj, e1, e2⟩ := i2 v hf
    rw [e1, Int.zero_add] at S1
    have E2 := Lib.hid e2
    clear hf i1 i2 e1 e2
    go_enter Tryz.func134, Tryz.ntmps134
    go_wp2_with (go_at_call 104; refine S1.out.mono ?_; rintro e w3 ⟨rfl, hb3⟩; refine Hid.out ?_)
    refine Lib.hid ?_
    have HE := Lib.hid (HB.out.trans (hb3.mono HB.out.size))
    obtain ⟨b, o, rfl, hb, -, -, -, c1', c2', c3', c4'⟩ := (HR.out.mono hb3 (Nat.le_refl _)).at hj
    rw [E2.out] at c1'
    have k1 : (0 : Int) ≤ (j : Int) := by omega
    have k2 : (j : Int) < (l.length : Int) := by omega
    have dj : decide ((j : Int) < 0) = false := decide_eq_false (by omega)
    clear hb3
    go_wp2_with fail
    go_ret2
    exact ⟨rfl, HE.out⟩
end Go.Proofs.YtjcaaahbfkjipaaGreatDoor

/- Of EvalMake: what FRuleNames uses (shake.py). -/
set_option maxRecDepth 100000
/- The law's helpers that make nodes: lit, name, one, two, vars. -/
namespace Go.Proofs.YtjcaaahbfkjipaaGreatDoor
open Go.RowKit
theorem n_cells {w : World} {p : Nat} {n : Nd} {vk : Value} {t : TypeId} {fr : Nat × Nat} (h : w.heap[p]? = some (.cells #[.int .u8 n.op, .int .u8 n.v.kind, .int .i64 n.v.num, .bool n.v.tr, .string n.v.text, .string n.name, vk] t fr)) :
    w.cell? ⟨p, 0, none⟩ = some (.int .u8 n.op) ∧ w.cell? ⟨p, 1, none⟩ = some (.int .u8 n.v.kind) ∧ w.cell? ⟨p, 2, none⟩ = some (.int .i64 n.v.num) ∧ w.cell? ⟨p, 3, none⟩ = some (.bool n.v.tr) ∧ w.cell? ⟨p, 4, none⟩ = some (.string n.v.text) ∧ w.cell? ⟨p, 5, none⟩ = some (.string n.name) ∧ w.cell? ⟨p, 6, none⟩ = some vk :=
  ⟨(cell_of_block h 0).trans rfl, (cell_of_block h 1).trans rfl, (cell_of_block h 2).trans rfl, (cell_of_block h 3).trans rfl, (cell_of_block h 4).trans rfl, (cell_of_block h 5).trans rfl, (cell_of_block h 6).trans rfl⟩
end Go.Proofs.YtjcaaahbfkjipaaGreatDoor
