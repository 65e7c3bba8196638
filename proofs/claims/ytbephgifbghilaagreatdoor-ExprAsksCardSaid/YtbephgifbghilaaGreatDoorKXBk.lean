/- Of XBk: what XFAs uses (shake.py). -/
import Derived.Test.YtbephgifbghilaaGreatDoorKXPar
import Derived.Test.YtbephgifbghilaaGreatDoorKXPrint
import Derived.Test.YtbephgifbghilaaGreatDoorKXTyp
import Derived.Test.YtbephgifbghilaaGreatDoorKEvalReck2
import Derived.Test.YtbephgifbghilaaGreatDoorKStepOwn
import Derived.Test.YtbephgifbghilaaGreatDoorKXPars
import Derived.Test.YtbephgifbghilaaGreatDoorKEvalVal
import Derived.Test.YtbephgifbghilaaGreatDoorKXOpn
import Derived.Lib.AtoiAllCases
import Derived.Lib.ItoaNum
import Derived.Lib.CountLaws
import Derived.Laws.NewBlocks
import Derived.Deep.CutBlock
/- Texts fused by fuse.py: WireNumP, ExprSatP, ExprLexP, ExprBackP, ExprFew, ExprFewP, ExprKidsO, ExprGiven, ExprSame, LExprBack. -/
/- Numbers and their texts (word.Number, Parse; tollgateref01's): plain, no program in sight. -/
set_option maxRecDepth 100000
namespace Go.Proofs.YtbephgifbghilaaGreatDoor
open Go.Lib
theorem nDigits_le : ∀ (k u : Nat), u < 10 ^ (k + 1) → nDigits u ≤ k + 1
  | 0, u, h => by rw [nDigits_small (by simpa using h)]; exact Nat.le_refl _
  | k + 1, u, h => by
    by_cases h1 : u < 10
    · rw [nDigits_small h1]; omega
    · rw [nDigits_big h1]
      have := nDigits_le k (u / 10) (by rw [Nat.pow_succ] at h; omega)
      omega
end Go.Proofs.YtbephgifbghilaaGreatDoor
/- Reading with fuel enough: the fuel is gone (plain; seat expr). -/
set_option maxRecDepth 100000
namespace Go.Proofs.YtbephgifbghilaaGreatDoor
end Go.Proofs.YtbephgifbghilaaGreatDoor
/- Tokens of a text that is written (plain; seat expr). -/
set_option maxRecDepth 100000
namespace Go.Proofs.YtbephgifbghilaaGreatDoor
open Go.Lib
/-- What may stand behind a written part: nothing, a space or a bracket. -/
def FV (v : List UInt8) : Prop := ∀ c, v.head? = some c → c = 32 ∨ c = 41
theorem FV.nm {v : List UInt8} (h : FV v) : ∀ c, v.head? = some c → inNm c.toNat = false := fun c hc => by rcases h c hc with rfl | rfl <;> rfl
theorem FV.nil : FV [] := fun c h => by cases h
theorem FV.sp (u : List UInt8) : FV (32 :: u) := fun c h => .inl (by injection h with h; exact h.symm)
/-! ### A text in quotes -/
def quoL : List UInt8 → List UInt8
  | [] => []
  | c :: r => if c = 39 then 39 :: 39 :: quoL r else c :: quoL r
theorem index_q (r : List UInt8) : index (39 :: r) [39] = 0 := by unfold index; rw [if_pos (by simp)]
theorem index_o {c : UInt8} (h : c ≠ 39) (r : List UInt8) : index (c :: r) [39] = if index r [39] == -1 then -1 else index r [39] + 1 := by
  conv => lhs; unfold index
  rw [if_neg (by simpa using Ne.symm h)]
theorem repl_miss {s : List UInt8} (h : index s [39] = -1) : ∀ k, replaceK [39] [39, 39] k s = s
  | 0 => rfl
  | k + 1 => by
    unfold replaceK
    rw [if_pos (by rw [h]; rfl)]
theorem repl_o {c : UInt8} (h : c ≠ 39) (r : List UInt8) : ∀ k, replaceK [39] [39, 39] k (c :: r) = c :: replaceK [39] [39, 39] k r
  | 0 => rfl
  | k + 1 => by
    have hi := index_o h r
    by_cases hx : index r [39] = -1
    · rw [hx] at hi
      rw [repl_miss hx, repl_miss (s := c :: r) (by rw [hi]; rfl)]
    · have hge := index_ge r [39]
      obtain ⟨n, hn⟩ : ∃ n : Nat, index r [39] = n := ⟨(index r [39]).toNat, by omega⟩
      rw [if_neg (by simpa using hx), hn] at hi
      rw [replaceK_hit _ _ _ _ n hn, replaceK_hit _ _ _ (c :: r) (n + 1) (by rw [hi]; omega)]
      rfl
theorem count_o {c : UInt8} (h : c ≠ 39) (r : List UInt8) : count (c :: r) [39] = count r [39] := by
  have hi := index_o h r
  have hge := index_ge r [39]
  by_cases hx : index r [39] = -1
  · rw [count_miss hx, count_miss]; rw [hi, hx]; rfl
  · obtain ⟨n, hn⟩ : ∃ n : Nat, index r [39] = n := ⟨(index r [39]).toNat, by omega⟩
    rw [if_neg (by simpa using hx), hn] at hi
    rw [count_hit (by simp) hn, count_hit (i := n + 1) (by simp) (by rw [hi]; omega)]
    rfl
theorem quo_is : ∀ t : List UInt8, replaceK [39] [39, 39] (count t [39]) t = quoL t
  | [] => rfl
  | c :: r => by
    by_cases h : c = 39
    · subst h
      rw [count_hit (i := 0) (by simp) (index_q r)]
      rw [Nat.add_comm, replaceK_hit _ _ _ _ 0 (index_q r)]
      show [] ++ [39, 39] ++ replaceK [39] [39, 39] (count r [39]) r = _
      rw [quo_is r]
      rfl
    · rw [count_o h, repl_o h, quo_is r]
      show _ = (if c = 39 then _ else _)
      rw [if_neg h]
theorem quo_all (t : List UInt8) : replaceAll t [39] [39, 39] = quoL t := by
  rw [← quo_is]
  unfold replaceAll replace replaceNum
  rw [if_neg (by decide), if_pos (.inl (by decide))]
end Go.Proofs.YtbephgifbghilaaGreatDoor
/- What is written is read as the node; what is read may be (plain; seat expr). -/
set_option maxRecDepth 100000
namespace Go.Proofs.YtbephgifbghilaaGreatDoor
open Go.Lib
/-! ### What may be -/
theorem empty_of {s : ByteArray} (h : s.toList.isEmpty = true) : s = ⟨#[]⟩ := by
  refine bytes_eq ?_
  rw [List.isEmpty_iff.1 h]
  kernel_rfl
theorem may_head10 {op : Int} {v : Vl} {nm : ByteArray} {ks : List Nd} (h : checkN (.mk op v nm ks) = true) :
    (ks.length : Int) = kidsN op ∧ checkL ks = true ∧ (op ≠ 1 → v = Vl.zero) ∧ (op ≠ 2 → nm = ⟨#[]⟩) ∧ (op = 1 → checkB v = true ∧ 0 ≤ v.num) ∧ (op = 2 → nameB nm = true ∧ keyWord nm = false) := by
  have h' : (headB op v nm ks.length && checkL ks) = true := h
  unfold headB at h'
  simp only [Bool.and_eq_true, Bool.or_eq_true, beq_iff_eq, Bool.not_eq_true', beq_eq_false_iff_ne, decide_eq_true_eq] at h'
  obtain ⟨⟨h1, h2, h3, h4, h5⟩, h6⟩ := h'
  refine ⟨h1, h6, fun e => ?_, fun e => ?_, fun e => ?_, fun e => ?_⟩
  · rcases h2 with h2 | h2
    · exact absurd h2 e
    · exact vlEq_iff.1 h2
  · rcases h3 with h3 | h3
    · exact absurd h3 e
    · exact empty_of h3
  · rcases h4 with h4 | h4
    · exact absurd e h4
    · exact h4
  · rcases h5 with h5 | h5
    · exact absurd e h5
    · exact h5
theorem may_cases10 {n : Nd} (h : checkN n = true) : (∃ v, n = litN v ∧ checkB v = true ∧ 0 ≤ v.num) ∨ (∃ s, n = varN s ∧ nameB s = true ∧ keyWord s = false) ∨ (∃ op a, (op = 3 ∨ op = 4) ∧ n = oneN op a ∧ checkN a = true) ∨ (∃ op a b, 5 ≤ op ∧ op ≤ 17 ∧ n = twoN op a b ∧ checkN a = true ∧ checkN b = true) := by
  obtain ⟨op, v, nm, ks⟩ := n
  obtain ⟨h1, h2, h3, h4, h5, h6⟩ := may_head10 h
  have hr : 1 ≤ op ∧ op ≤ 17 := by
    unfold kidsN at h1
    split at h1 <;> omega
  by_cases e1 : op = 1
  · subst e1
    obtain rfl := h4 (by decide)
    have hk : kidsN 1 = 0 := rfl
    rw [hk] at h1
    obtain rfl := List.length_eq_zero_iff.1 (by omega : ks.length = 0)
    exact .inl ⟨v, rfl, h5 rfl⟩
  obtain rfl := h3 e1
  by_cases e2 : op = 2
  · subst e2
    have hk : kidsN 2 = 0 := rfl
    rw [hk] at h1
    obtain rfl := List.length_eq_zero_iff.1 (by omega : ks.length = 0)
    exact .inr (.inl ⟨nm, rfl, h6 rfl⟩)
  obtain rfl := h4 e2
  by_cases e3 : op ≤ 4
  · have hk : kidsN op = 1 := by unfold kidsN; rw [if_neg (by omega), if_neg (by omega), if_pos e3]
    rw [hk] at h1
    obtain ⟨a, rfl⟩ := List.length_eq_one_iff.1 (by omega : ks.length = 1)
    have h2' : (checkN a && true) = true := h2
    rw [Bool.and_true] at h2'
    exact .inr (.inr (.inl ⟨op, a, by omega, rfl, h2'⟩))
  · have hk : kidsN op = 2 := by unfold kidsN; rw [if_neg (by omega), if_neg (by omega), if_neg e3]
    rw [hk] at h1
    match ks, h1, h2 with
    | [a, b], _, h2 =>
      have h2' : (checkN a && (checkN b && true)) = true := h2
      rw [Bool.and_true, Bool.and_eq_true] at h2'
      exact .inr (.inr (.inr ⟨op, a, b, by omega, by omega, rfl, h2'⟩))
    | [], h1, _ => simp at h1
    | [a], h1, _ => simp at h1
    | a :: b :: c :: r, h1, _ => simp only [List.length_cons] at h1; omega
theorem sign_all {op : Int} (h1 : 5 ≤ op) (h2 : op ≤ 17) : ∃ x ln, signX op = some (x, ln) := by
  obtain rfl | rfl | rfl | rfl | rfl | rfl | rfl | rfl | rfl | rfl | rfl | rfl | rfl : op = 5 ∨ op = 6 ∨ op = 7 ∨ op = 8 ∨ op = 9 ∨ op = 10 ∨ op = 11 ∨ op = 12 ∨ op = 13 ∨ op = 14 ∨ op = 15 ∨ op = 16 ∨ op = 17 := by omega
  all_goals exact ⟨_, _, rfl⟩
theorem shown_two {op : Int} (h : 5 ≤ op) {x : List UInt8} {ln : Nat} (hx : signX op = some (x, ln)) : shownE op = (32 :: x ++ [32], ln) := by
  unfold shownE
  rw [if_neg (by omega), if_neg (by omega), if_neg (by omega), hx]
/-! ### What is written is read -/
def QT (p : Nat) (tk : Tk) : Prop := ∀ op q, signT tk = some (op, q) → q ≤ p ∧ (q = 4 → 5 ≤ p)
theorem QT.mono {p p' : Nat} {tk : Tk} (h : QT p tk) (hp : p ≤ p') : QT p' tk := fun op q e => by
  obtain ⟨h1, h2⟩ := h op q e
  exact ⟨by omega, fun e => by have := h2 e; omega⟩
/-- All numbers of a node are of 64 bits. -/
def numsN : Nat → Nd → Prop
  | 0, _ => True
  | m + 1, n => n.v.num ≤ 9223372036854775807 ∧ ∀ k ∈ n.kids, numsN m k
/-! ### What is read may be -/
def TkC (tk : Tk) : Prop := ∀ n a, tk = .nd n a → checkN n = true ∧ ∀ m, numsN m n
theorem TkC.fin (a : Nat) : TkC (.fin a) := fun n b h => by cases h
theorem TkC.say (u : List UInt8) (a : Nat) : TkC (.say u a) := fun n b h => by cases h
theorem TkC.nd {n : Nd} (h : checkN n = true) (h2 : ∀ m, numsN m n) (a : Nat) : TkC (.nd n a) := fun m b e => by injection e with e; subst e; exact ⟨h, h2⟩
end Go.Proofs.YtbephgifbghilaaGreatDoor
/- The law's few and small: has a node at most 500 nodes, 200 deep? (seat expr) -/
set_option maxRecDepth 100000
namespace Go.Proofs.YtbephgifbghilaaGreatDoor
open Go.RowKit
def smallF : Nat → List Nd → Int → Int
  | 0, _, _ => -1
  | k + 1, l, left => l.foldl (fun x a => if 0 ≤ x then smallF k a.kids (x - 1) else x) left
def fewB (n : Nd) : Bool := decide (0 ≤ smallF 201 [n] 500)
theorem small_le : ∀ (k : Nat) (l : List Nd) (x : Int), -1 ≤ x → -1 ≤ smallF k l x ∧ smallF k l x ≤ x
  | 0, l, x, h => ⟨by show (-1 : Int) ≤ -1; omega, h⟩
  | k + 1, [], x, h => ⟨h, Int.le_refl _⟩
  | k + 1, a :: r, x, h => by
    show -1 ≤ smallF (k + 1) r (if 0 ≤ x then smallF k a.kids (x - 1) else x) ∧ smallF (k + 1) r (if 0 ≤ x then smallF k a.kids (x - 1) else x) ≤ x
    by_cases h0 : 0 ≤ x
    · rw [if_pos h0]
      obtain ⟨h1, h2⟩ := small_le k a.kids (x - 1) (by omega)
      obtain ⟨h3, h4⟩ := small_le (k + 1) r _ h1
      exact ⟨h3, by omega⟩
    · rw [if_neg h0]
      exact small_le (k + 1) r x h
theorem small_neg (k : Nat) : ∀ (l : List Nd) (x : Int), x < 0 → smallF (k + 1) l x = x
  | [], x, h => rfl
  | a :: r, x, h => by
    show smallF (k + 1) r (if 0 ≤ x then smallF k a.kids (x - 1) else x) = x
    rw [if_neg (by omega)]
    exact small_neg k r x h
theorem small_step (k : Nat) {l : List Nd} {i : Nat} (h : i < l.length) {x : Int} (h0 : 0 ≤ x) : smallF (k + 1) (l.drop i) x = smallF (k + 1) (l.drop (i + 1)) (smallF k l[i].kids (x - 1)) := by
  rw [List.drop_eq_getElem_cons h]
  show smallF (k + 1) _ (if 0 ≤ x then _ else _) = _
  rw [if_pos h0]
theorem small_end (k : Nat) {l : List Nd} {i : Nat} (h : l.length ≤ i) (x : Int) : smallF (k + 1) (l.drop i) x = x := by
  rw [List.drop_eq_nil_of_le h]
  rfl
set_option maxHeartbeats 2000000 in
theorem small_any : ∀ (k : Nat) (w : World) (l : List Nd) (v : Value) (left deep : Int), (k : Int) + deep = 201 → k ≤ 201 → -1 ≤ left → left ≤ 500 → KidsR w w.heap.size v l →
    Calls Tryz.prog 44 #[v, .int .i64 left, .int .i64 deep] w fun e w' => e = .returned (.int .i64 (smallF k l left)) ∧ Below w.heap.size w w' := by
  intro k
  induction k with
  | zero =>
    intro w l v left deep hd hk h0 h1 hl
    obtain ⟨a, cap, rfl⟩ := hl.val
    obtain rfl : deep = 201 := by omega
    go_enter Tryz.func44, Tryz.ntmps44
    go_wp2_with fail
    go_ret
    exact ⟨rfl, Below.refl _ _⟩
  | succ k ih =>
    intro w l v left deep hd hk h0 h1 hl
    obtain ⟨a, cap, rfl⟩ := hl.val
    have hll := hl.len
    have d0 : decide ((200 : Int) < deep) = false := decide_eq_false (by omega)
    have hd1 : deep ≤ 200 := by omega
    have hd2 : 0 ≤ deep := by omega
    have IH := Lib.hid (fun (w : World) (l : List Nd) (v : Value) (left : Int) (h0 : -1 ≤ left) (h1 : left ≤ 500) (hl : KidsR w w.heap.size v l) => ih w l v left (deep + 1) (by omega) (by omega) h0 h1 hl)
    have HL := Lib.hid hl
    obtain ⟨t, ht⟩ : ∃ t, smallF (k + 1) l left = t := ⟨_, rfl⟩
    have HT : Hid (smallF (k + 1) (l.drop 0) left = t) := Lib.hid ht
    rw [ht]
    clear ih hd hk hl ht
    go_enter Tryz.func44, Tryz.ntmps44
    go_wp2_with fail
    go_loopg [1, 7] l.length (fun g s1 s7 wr => ∃ (i : Nat) (x : Int), i + g = l.length ∧ s1 = .int .i64 x ∧ s7 = .int .i64 (i : Int) ∧ -1 ≤ x ∧ x ≤ 500 ∧ Hid (smallF (k + 1) (l.drop i) x = t) ∧ Below w.heap.size w wr)
    case atStart => exact ⟨0, left, by omega, rfl, rfl, h0, h1, HT, Below.refl _ _⟩
    case round =>
      obtain ⟨i, x, hig, rfl, rfl, hx0, hx1, hT, hB⟩ := hrel
      by_cases hi : i < l.length
      · have u1 : decide ((i : Int) < (l.length : Int)) = true := decide_eq_true (by omega)
        have u1' : decide (i < l.length) = true := decide_eq_true hi
        by_cases hx : 0 ≤ x
        · have u2 : decide ((0 : Int) ≤ x) = true := decide_eq_true hx
          obtain ⟨b, o, vk, rfl, hb, hw, hkk, c0, c1, c2, c3, c4, c5, c6⟩ := HL.out.at hi
          have c6' : wr.cell? ⟨b, o + i * 7 + 6, none⟩ = some vk := (Below.cellB hB hb).trans c6
          have hs := small_step k hi hx
          obtain ⟨q1, q2⟩ := small_le k l[i].kids (x - 1) (by omega)
          have HS := Lib.hid (hs.symm.trans hT.out)
          have HC := Lib.hid (IH.out wr l[i].kids vk (x - 1) (by omega) (by omega) (hkk.mono hB hB.size))
          obtain ⟨y, hy⟩ : ∃ y, smallF k l[i].kids (x - 1) = y := ⟨_, rfl⟩
          rw [hy] at HS HC q1 q2
          have HBr := Lib.hid hB
          clear hy hs hT c0 c1 c2 c3 c4 c5 c6 hw hkk hB
          go_wp2_with (go_at_call 44; refine HC.out.mono ?_; rintro e w2 ⟨rfl, hb2⟩; have HB2 := Lib.hid (HBr.out.trans (hb2.mono HBr.out.size)); clear hb2)
          go_roundg (gk - 1)
          case measure => omega
          case rel => exact ⟨i + 1, y, by omega, rfl, by go_num, q1, by omega, HS, HB2.out⟩
        · have u2 : decide ((0 : Int) ≤ x) = false := decide_eq_false hx
          have HS : Hid (x = t) := Lib.hid ((small_neg k _ x (by omega)).symm.trans hT.out)
          go_wp2_with fail
          go_ret
          exact ⟨ret_int HS.out, hB⟩
      · have u1 : decide ((i : Int) < (l.length : Int)) = false := decide_eq_false (by omega)
        have u1' : decide (i < l.length) = false := decide_eq_false hi
        have HS : Hid (x = t) := Lib.hid ((small_end k (by omega) x).symm.trans hT.out)
        go_wp2_with fail
        go_ret
        exact ⟨ret_int HS.out, hB⟩
set_option maxHeartbeats 1000000 in
theorem few_any (w : World) (n : Nd) (vk : Value) (hn : NdR w w.heap.size vk n) : Calls Tryz.prog 11 #[valN n vk] w fun e w' => e = .returned (.bool (fewB n)) ∧ Below w.heap.size w w' := by
  obtain ⟨w1, p1, hp1, hw1, l1, n1, b1⟩ := box_new w (.cells #[.int .u8 n.op, .int .u8 n.v.kind, .int .i64 n.v.num, .bool n.v.tr, .string n.v.text, .string n.name, vk] 36)
  obtain ⟨c0, c1, c2, c3, c4, c5, c6⟩ := n_cells n1
  obtain ⟨w2, p2, hp2, hw2, l2, n2, b2⟩ := box_new w1 (.cells #[.int .u8 n.op, .int .u8 n.v.kind, .int .i64 n.v.num, .bool n.v.tr, .string n.v.text, .string n.name, vk] 36)
  have HB := Lib.hid (b1.trans (b2.mono b1.size))
  have hk : KidsR w2 w2.heap.size (.slice (some ⟨p2, 0, none⟩) 1 1) [n] := kids_one n2 (hn.to HB.out) 1 (Nat.le_refl _)
  have HC := Lib.hid (small_any 201 w2 [n] _ 500 0 (by omega) (by omega) (by omega) (by omega) hk)
  have Hf : Hid (fewB n = decide (0 ≤ smallF 201 [n] 500)) := Lib.hid rfl
  obtain ⟨y, hy⟩ : ∃ y, smallF 201 [n] 500 = y := ⟨_, rfl⟩
  rw [hy] at Hf HC
  clear hy hk hn n1 n2 b1 b2
  go_enter Tryz.func11, Tryz.ntmps11
  go_wp2_with (go_at_call 44; refine HC.out.mono ?_; rintro e w3 ⟨rfl, hb3⟩; have HB3 := Lib.hid (HB.out.trans (hb3.mono HB.out.size)); clear hb3)
  go_ret
  exact ⟨ret_bool Hf.out.symm, HB3.out⟩
/-! ### What few says: how many nodes there are -/
mutual
def cntN : Nd → Nat
  | .mk _ _ _ ks => 1 + cntL ks
def cntL : List Nd → Nat
  | [] => 0
  | a :: r => cntN a + cntL r
end
theorem cntN_is (n : Nd) : cntN n = 1 + cntL n.kids := by cases n; rfl
theorem cnt_pos (n : Nd) : 1 ≤ cntN n := by rw [cntN_is]; omega
theorem cnt_len : ∀ l : List Nd, l.length ≤ cntL l
  | [] => Nat.le_refl _
  | a :: r => by
    have := cnt_len r
    have := cnt_pos a
    show r.length + 1 ≤ cntN a + cntL r
    omega
theorem cnt_mem : ∀ {l : List Nd} {a : Nd}, a ∈ l → cntN a ≤ cntL l
  | b :: r, a, h => by
    show _ ≤ cntN b + cntL r
    rcases List.mem_cons.1 h with rfl | h
    · omega
    · have := cnt_mem h; omega
theorem small_cnt : ∀ (k : Nat) (l : List Nd) (x : Int), 0 ≤ smallF k l x → (cntL l : Int) + smallF k l x = x
  | 0, l, x, h => by exact absurd h (by show ¬ (0 : Int) ≤ -1; omega)
  | k + 1, [], x, h => by show ((0 : Nat) : Int) + x = x; omega
  | k + 1, a :: r, x, h => by
    have e : smallF (k + 1) (a :: r) x = smallF (k + 1) r (if 0 ≤ x then smallF k a.kids (x - 1) else x) := rfl
    rw [e] at h ⊢
    by_cases h0 : 0 ≤ x
    · rw [if_pos h0] at h ⊢
      by_cases hy : 0 ≤ smallF k a.kids (x - 1)
      · have h1 := small_cnt k a.kids (x - 1) hy
        have h2 := small_cnt (k + 1) r _ h
        have h3 := cntN_is a
        show ((cntN a + cntL r : Nat) : Int) + _ = x
        omega
      · rw [small_neg k r _ (by omega)] at h
        omega
    · rw [if_neg h0, small_neg k r x (by omega)] at h
      omega
theorem few_cnt {n : Nd} (h : fewB n = true) : cntN n ≤ 500 := by
  have h0 : 0 ≤ smallF 201 [n] 500 := by simpa [fewB] using h
  have := small_cnt 201 [n] 500 h0
  have e : cntL [n] = cntN n := by show cntN n + 0 = _; omega
  omega
end Go.Proofs.YtbephgifbghilaaGreatDoor
/- What few says: how many nodes there are, how long the text may be (plain; seat expr). -/
set_option maxRecDepth 100000
namespace Go.Proofs.YtbephgifbghilaaGreatDoor
open Go.Lib
theorem quo_len : ∀ t : List UInt8, (quoL t).length ≤ 2 * t.length
  | [] => Nat.le_refl _
  | c :: r => by
    have := quo_len r
    unfold quoL
    split <;> simp only [List.length_cons] <;> omega
theorem itoa_len10 {n : Int} (h0 : 0 ≤ n) (h1 : n ≤ 9223372036854775807) : (itoa n).length ≤ 20 := by
  unfold itoa
  rw [if_neg (by omega), decDigits_length]
  exact nDigits_le 19 _ (by omega)
theorem wrap_len (own line : Nat) (t : List UInt8) : (wrapT own line t).length ≤ t.length + 2 := by
  unfold wrapT
  split <;> simp
theorem sign_len10 {op : Int} {x : List UInt8} {ln : Nat} (h : signX op = some (x, ln)) : x.length ≤ 3 := by
  unfold signX at h
  repeat (rcases ite_some h with h | h; · (injection h with h1 h2; subst h1 h2; simp))
  cases h
theorem show_len10 : ∀ (m : Nat) (n : Nd), SizeOf.sizeOf n ≤ m → checkN n = true → numsN m n → (showN n).length + 2 ≤ 3000 * cntN n := by
  intro m
  induction m with
  | zero => intro n h; cases n; simp at h
  | succ m IH =>
    intro n hz hc hn
    rcases may_cases10 hc with ⟨v, rfl, hv, h0⟩ | ⟨nm, rfl, h1, h2⟩ | ⟨op, a, ho, rfl, ha⟩ | ⟨op, a, b, h5, h17, rfl, ha, hb⟩
    · have e : showN (litN v) = litT v := rfl
      have hcn : cntN (litN v) = 1 := rfl
      have hnum : v.num ≤ 9223372036854775807 := hn.1
      rw [e, hcn]
      rcases checkB_kind hv with hk | hk | hk
      · have := itoa_len10 h0 hnum
        rw [hk]
        show (itoa v.num).length + 2 ≤ _
        omega
      · rw [hk]
        show (formatBool v.tr).length + 2 ≤ _
        have : (formatBool v.tr).length ≤ 5 := by cases v.tr <;> decide +kernel
        omega
      · have hv2 : checkB (txV v.text) = true := hk ▸ hv
        rw [hk]
        show (39 :: replaceAll v.text.data.toList [39] [39, 39] ++ [39]).length + 2 ≤ _
        rw [quo_all]
        unfold checkB at hv2
        rw [if_neg (by show ¬ (3 : Int) = 1; decide), if_neg (by show ¬ (3 : Int) = 2; decide), if_pos (by show (3 : Int) = 3; rfl)] at hv2
        simp only [Bool.and_eq_true, decide_eq_true_eq] at hv2
        have h1024 : v.text.size ≤ 1024 := hv2.2.1
        have hl : v.text.data.toList.length = v.text.size := rfl
        have := quo_len v.text.data.toList
        simp only [List.length_append, List.length_cons, List.length_nil]
        omega
    · have e : showN (varN nm) = nm.data.toList := rfl
      have hcn : cntN (varN nm) = 1 := rfl
      rw [e, hcn]
      unfold nameB nameL at h1
      simp only [Bool.and_eq_true, decide_eq_true_eq] at h1
      have := h1.1.1.2
      omega
    · have hza : SizeOf.sizeOf a ≤ m := by simp [oneN] at hz; omega
      have sa := IH a hza ha (hn.2 a (by simp [oneN, Nd.kids]))
      have hcn : cntN (oneN op a) = 1 + (cntN a + 0) := rfl
      have e : showN (oneN op a) = (shownE op).1 ++ spellE a (shownE op).2 := spell_one op (by omega) _ _ a
      have hw := wrap_len (shownE a.op).2 (shownE op).2 (showN a)
      have hs : (shownE op).1.length ≤ 4 := by rcases ho with rfl | rfl <;> decide
      rw [e, hcn, List.length_append]
      unfold spellE
      omega
    · have hza : SizeOf.sizeOf a ≤ m ∧ SizeOf.sizeOf b ≤ m := by simp [twoN] at hz; omega
      have sa := IH a hza.1 ha (hn.2 a (by simp [twoN, Nd.kids]))
      have sb := IH b hza.2 hb (hn.2 b (by simp [twoN, Nd.kids]))
      obtain ⟨x, ln, hx⟩ := sign_all h5 h17
      have hsh := shown_two h5 hx
      have hsl := sign_len10 hx
      have hcn : cntN (twoN op a b) = 1 + (cntN a + (cntN b + 0)) := rfl
      have e : showN (twoN op a b) = _ := spell_two op (by omega) Vl.zero ⟨#[]⟩ a b
      have hwa := fun p => wrap_len (shownE a.op).2 p (showN a)
      have hwb := fun p => wrap_len (shownE b.op).2 p (showN b)
      rw [e, hcn, hsh]
      unfold spellE
      split
      · have := hwa 5
        have := hwb 5
        simp only [List.length_append, List.length_cons, List.length_nil]
        omega
      · have := hwa ln
        have := hwb (ln + 1)
        simp only [List.length_append, List.length_cons, List.length_nil]
        omega
theorem spell_len10 {n : Nd} (hc : checkN n = true) (hn : ∀ m, numsN m n) (p : Nat) : (spellE n p).length ≤ 3000 * cntN n := by
  have h1 := show_len10 (SizeOf.sizeOf n) n (Nat.le_refl _) hc (hn _)
  have h2 := wrap_len (shownE n.op).2 p (showN n)
  unfold spellE
  omega
theorem nums_of {w : World} {B : Nat} : ∀ (m : Nat) (n : Nd) (vk : Value), HeadW n → KidsR w B vk n.kids → numsN m n
  | 0, n, vk, _, _ => trivial
  | m + 1, n, vk, hw, hk => ⟨hw.v.n1, fun k hkm => by
    obtain ⟨i, hi, rfl⟩ := List.getElem_of_mem hkm
    obtain ⟨a, cap, e⟩ := hk.val
    rw [e] at hk
    obtain ⟨b, o, vk', _, _, hw', hk', _⟩ := hk.at hi
    exact nums_of m _ vk' hw' hk'⟩
end Go.Proofs.YtbephgifbghilaaGreatDoor
/- Nodes in blocks that meet a condition: what a call has made (seat expr). -/
set_option maxRecDepth 100000
namespace Go.Proofs.YtbephgifbghilaaGreatDoor
open Go.RowKit
theorem cell_of_heap {w w' : World} {b o : Nat} (h : w'.heap[b]? = w.heap[b]?) : w'.cell? ⟨b, o, none⟩ = w.cell? ⟨b, o, none⟩ := by
  simp [World.cell?, h]
/-- Kids that may be read, all in blocks that meet 'ok'. -/
inductive KidsO (w : World) (ok : Nat → Prop) : Value → List Nd → Prop
  | mk (a : Option Addr) (cap : Nat) (l : List Nd) (vk : Nat → Value) (hl : l.length ≤ 1599289640355) (hcap : l.length ≤ cap) (hw : ∀ i (h : i < l.length), HeadW l[i])
      (hc : ∀ i (h : i < l.length), ∃ b o, a = some ⟨b, o, none⟩ ∧ b < w.heap.size ∧ ok b ∧ ∀ j, j < 7 → w.cell? ⟨b, o + i * 7 + j, none⟩ = (cellN l[i] (vk i))[j]?)
      (hk : ∀ i (h : i < l.length), KidsO w ok (vk i) l[i].kids) : KidsO w ok (.slice a l.length cap) l
theorem KidsO.kept {w w' : World} {ok ok' : Nat → Prop} {v : Value} {l : List Nd} (h : KidsO w ok v l) (hz : w.heap.size ≤ w'.heap.size) (hh : ∀ b, b < w.heap.size → ok b → w'.heap[b]? = w.heap[b]? ∧ ok' b) : KidsO w' ok' v l := by
  induction h with
  | mk a cap l vk hl hcap hw hc hk ih =>
    refine .mk a cap l vk hl hcap hw (fun i hi => ?_) ih
    obtain ⟨b, o, e, hlt, hok, h⟩ := hc i hi
    exact ⟨b, o, e, by omega, (hh b hlt hok).2, fun j hj => by rw [cell_of_heap (hh b hlt hok).1]; exact h j hj⟩
theorem KidsO.keptB {w w' : World} {ok : Nat → Prop} {v : Value} {l : List Nd} (h : KidsO w ok v l) (hb : Below w.heap.size w w') : KidsO w' ok v l := h.kept hb.size (fun b hlt hok => ⟨hb.block b hlt, hok⟩)
theorem KidsO.kids {w : World} {ok : Nat → Prop} {v : Value} {l : List Nd} (h : KidsO w ok v l) : KidsR w w.heap.size v l := by
  induction h with
  | mk a cap l vk hl hcap hw hc hk ih =>
    refine .mk a cap l vk hl hcap hw (fun i hi => ?_) ih
    obtain ⟨b, o, e, hlt, hok, h⟩ := hc i hi
    exact ⟨b, o, e, hlt, h⟩
theorem KidsO.nil (w : World) (ok : Nat → Prop) : KidsO w ok (.slice none 0 0) [] := .mk none 0 [] (fun _ => .slice none 0 0) (by simp) (by simp) (fun i h => by simp at h) (fun i h => by simp at h) (fun i h => by simp at h)
theorem KidsO.val {w : World} {ok : Nat → Prop} {v : Value} {l : List Nd} (h : KidsO w ok v l) : ∃ a cap, v = .slice a l.length cap := by
  cases h with
  | mk a cap l vk hl hcap hw hc hk => exact ⟨a, cap, rfl⟩
/-- Kids in a row of the call's own. -/
abbrev cP (p : Nd × Value) : List Value := cellN p.1 p.2
theorem cP_len : ∀ p : Nd × Value, (cP p).length = 7 := fun _ => rfl
abbrev OwnK (w : World) (base : Nat) (v : Value) (L : List (Nd × Value)) : Prop := OwnF cP 29 7 w base v L
theorem own_kids {w : World} {base : Nat} {v : Value} {L : List (Nd × Value)} {ok : Nat → Prop} (h : OwnK w base v L) (hl : L.length ≤ 1000000) (hok : ∀ g, v.ownBlock = some g → ok g) (hH : ∀ p ∈ L, HeadW p.1 ∧ KidsO w ok p.2 p.1.kids) : KidsO w ok v (L.map Prod.fst) := by
  have hlen : (L.map Prod.fst).length = L.length := by simp
  rcases h.2 with ⟨rfl, h0⟩ | ⟨g, cap, cur, rfl, hb, hg, hn, hm, hs, hx⟩
  · obtain rfl : L = [] := List.eq_nil_of_length_eq_zero h0
    exact KidsO.nil w ok
  · have e : Value.slice (some ⟨g, 0, none⟩) L.length cap = .slice (some ⟨g, 0, none⟩) (L.map Prod.fst).length cap := by rw [hlen]
    rw [e]
    have hget : ∀ i (hi : i < (L.map Prod.fst).length), (L.map Prod.fst)[i] = (L[i]'(by rw [hlen] at hi; exact hi)).1 := fun i hi => by simp
    have hd : ∀ i (hi : i < L.length), L.getD i default = L[i] := fun i hi => by simp [List.getD_eq_getElem?_getD, hi]
    refine .mk _ cap _ (fun i => (L.getD i default).2) (by rw [hlen]; omega) (by rw [hlen]; exact hn) (fun i hi => ?_) (fun i hi => ⟨g, 0, rfl, lt_of_block hg, hok g rfl, fun j hj => ?_⟩) (fun i hi => ?_)
    · rw [hget i hi]
      exact (hH _ (List.getElem_mem _)).1
    · have hi' : i < L.length := by rw [hlen] at hi; exact hi
      rw [hget i hi, hd i hi', Nat.zero_add, cell_of_block hg]
      have h1 := cellsF_at cP_len L i j hi' hj
      rw [← h1]
      have h2 := congrArg (fun l => l[i * 7 + j]?) hx
      simp only [List.getElem?_take] at h2
      rw [if_pos (by omega), Array.getElem?_toList] at h2
      exact h2
    · have hi' : i < L.length := by rw [hlen] at hi; exact hi
      rw [hget i hi, hd i hi']
      exact (hH _ (List.getElem_mem _)).2
theorem OwnK.lo {w : World} {base : Nat} {v : Value} {L : List (Nd × Value)} (h : OwnK w base v L) {g : Nat} (hg : v.ownBlock = some g) : base ≤ g ∧ g < w.heap.size := World.ownsRow.lt h g hg
theorem objN_one (n : Nd) (vk : Value) (h : vk.oneCell' = true) : ∀ u ∈ cellN n vk, u.oneCell' = true := by
  intro u hu
  simp only [cellN, List.mem_cons, List.not_mem_nil, or_false] at hu
  rcases hu with rfl | rfl | rfl | rfl | rfl | rfl | rfl <;> first | rfl | exact h
end Go.Proofs.YtbephgifbghilaaGreatDoor
/- The law's given: a node as the program has it (seat expr). -/
set_option maxRecDepth 100000
namespace Go.Proofs.YtbephgifbghilaaGreatDoor
open Go.RowKit
theorem info_node : (Tryz.prog.info? 29).map (fun i => (i.zero, i.size, i.bytes)) = some (some (.agg #[.int .u8 0, .int .u8 0, .int .i64 0, .bool false, .string ⟨#[]⟩, .string ⟨#[]⟩, .slice none 0 0]), 7, 88) := by kernel_rfl
abbrev arrN (n : Nd) (vk : Value) : Array Value := #[.int .u8 n.op, .int .u8 n.v.kind, .int .i64 n.v.num, .bool n.v.tr, .string n.v.text, .string n.name, vk]
/-- Where the loop of given stands. -/
structure GivS (wr : World) (lo p1 p2 p3 base : Nat) (n : Nd) (vk v : Value) (L : List (Nd × Value)) : Prop where
  h1 : wr.heap[p1]? = some (.cells (arrN n vk) 36 (0, 0))
  h2 : wr.heap[p2]? = some (.cells #[.int .u8 0, .int .u8 0, .int .i64 0, .bool false, .string ⟨#[]⟩, .string ⟨#[]⟩, .slice none 0 0] 29 (0, 0))
  h3 : wr.heap[p3]? = some (.cells (arrN n v) 29 (0, 0))
  own : OwnK wr base v L
  kid : ∀ p ∈ L, HeadW p.1 ∧ KidsO wr (fun b => lo ≤ b ∧ b ≠ p3 ∧ b ≠ p2 ∧ some b ≠ v.ownBlock) p.2 p.1.kids
  b1 : p1 < base
  b2 : p2 < base
  b3 : p3 < base
  p13 : p1 ≠ p3
  p23 : p2 ≠ p3
  hb : base ≤ wr.heap.size
  hlo : lo ≤ p1 ∧ lo ≤ p2 ∧ lo ≤ p3
theorem GivS.below {wr w' : World} {lo p1 p2 p3 base : Nat} {n : Nd} {vk v : Value} {L : List (Nd × Value)} (h : GivS wr lo p1 p2 p3 base n vk v L) (hb : Below wr.heap.size wr w') : GivS w' lo p1 p2 p3 base n vk v L :=
  ⟨(hb.block _ (lt_of_block h.h1)).trans h.h1, (hb.block _ (lt_of_block h.h2)).trans h.h2, (hb.block _ (lt_of_block h.h3)).trans h.h3, OwnF.kept h.own hb, fun p hp => ⟨(h.kid p hp).1, (h.kid p hp).2.keptB hb⟩, h.b1, h.b2, h.b3, h.p13, h.p23, Nat.le_trans h.hb hb.size, h.hlo⟩
theorem GivS.step {wr w7 w9 : World} {lo p1 p2 p3 base : Nat} {n x : Nd} {vk v v' vx : Value} {L : List (Nd × Value)} (h : GivS wr lo p1 p2 p3 base n vk v L) (hb7 : Below wr.heap.size wr w7) (hH : HeadW x) (hx : KidsO w7 (fun b => wr.heap.size ≤ b) vx x.kids)
    (hown : w9.ownsRow base 29 7 v' (L.length + 1) (cellsF cP L ++ cellN x vx)) (hg : (w7.alloc (.cells (cellN x vx).toArray 29)).grownBy w9 v.ownBlock) (hob : v'.ownBlock = v.ownBlock ∨ v'.ownBlock = some (w7.alloc (.cells (cellN x vx).toArray 29)).heap.size) :
    GivS (w9.setCell ⟨p3, 6, none⟩ v') lo p1 p2 p3 base n vk v' (L ++ [(x, vx)]) ∧ Frm [some p3, v.ownBlock] wr (w9.setCell ⟨p3, 6, none⟩ v') := by
  have b8 : Below wr.heap.size wr (w7.alloc (.cells (cellN x vx).toArray 29)) := hb7.alloc hb7.size _
  have b78 : Below w7.heap.size w7 (w7.alloc (.cells (cellN x vx).toArray 29)) := (Below.refl _ _).alloc (Nat.le_refl _) _
  have hz8 : (w7.alloc (.cells (cellN x vx).toArray 29)).heap.size = w7.heap.size + 1 := by simp
  obtain ⟨w8, hw8⟩ : ∃ w8, w7.alloc (.cells (cellN x vx).toArray 29) = w8 := ⟨_, rfl⟩
  rw [hw8] at b8 b78 hz8 hg hob
  have hz7 := hb7.size
  have hz9 := hg.size
  have hzb := h.hb
  have hgl : ∀ g, v.ownBlock = some g → base ≤ g ∧ g < wr.heap.size := fun g e => h.own.lo e
  have hbl : ∀ k, k < w8.heap.size → k ≠ p3 → v.ownBlock ≠ some k → (w9.setCell ⟨p3, 6, none⟩ v').heap[k]? = w8.heap[k]? := fun k hk h3 ho =>
    (heap_setCell_other w9 ⟨p3, 6, none⟩ k v' h3).trans (hg.block k hk (Ne.symm ho))
  have hg5 : w9.grownBy (w9.setCell ⟨p3, 6, none⟩ v') (some p3) := grownBy_setCell _ _ _ _
  have hz10 := hg5.size
  have hob' : ∀ k, k < wr.heap.size → some k ≠ v.ownBlock → some k ≠ v'.ownBlock := fun k hk hne e => by
    rcases hob with e2 | e2
    · exact hne (e.trans e2)
    · rw [e2] at e; injection e with e; omega
  have lb3 := h.b3
  have lb1 := h.b1
  have lb2 := h.b2
  have n1 : v.ownBlock ≠ some p1 := fun e => by have := (hgl _ e).1; omega
  have n2 : v.ownBlock ≠ some p2 := fun e => by have := (hgl _ e).1; omega
  have n3 : v.ownBlock ≠ some p3 := fun e => by have := (hgl _ e).1; omega
  refine ⟨⟨?_, ?_, ?_, ?_, ?_, h.b1, h.b2, h.b3, h.p13, h.p23, by omega, h.hlo⟩, ?_⟩
  · exact (hbl p1 (by omega) h.p13 n1).trans ((b8.block p1 (by omega)).trans h.h1)
  · exact (hbl p2 (by omega) h.p23 n2).trans ((b8.block p2 (by omega)).trans h.h2)
  · have e9 : w9.heap[p3]? = some (.cells (arrN n v) 29 (0, 0)) := (hg.block p3 (by omega) (Ne.symm n3)).trans ((b8.block p3 (by omega)).trans h.h3)
    have := heap_setCell_self (i := 6) v' e9
    simpa using this
  · have e : (L ++ [(x, vx)]).length = L.length + 1 := by simp
    unfold OwnK OwnF
    rw [e, cellsF_app]
    refine World.ownsRow.kept hown hg5 (Or.inr ?_)
    intro e
    exact hob' p3 (by omega) (Ne.symm n3) e.symm
  · intro p hp
    rw [List.mem_append, List.mem_singleton] at hp
    rcases hp with hp | rfl
    · refine ⟨(h.kid p hp).1, (h.kid p hp).2.kept (by omega) (fun b hlt hok => ⟨?_, hok.1, hok.2.1, hok.2.2.1, hob' b hlt hok.2.2.2⟩)⟩
      exact (hbl b (by omega) hok.2.1 (Ne.symm hok.2.2.2)).trans (b8.block b hlt)
    · refine ⟨hH, hx.kept (by omega) (fun b hlt hok => ⟨?_, by have := h.hlo.1; omega, by omega, by omega, ?_⟩)⟩
      · refine (hbl b (by omega) (by omega) (fun e => by have := (hgl _ e).2; omega)).trans (b78.block b hlt)
      · intro e
        rcases hob with e2 | e2
        · rw [e2] at e; have := (hgl _ e.symm).2; omega
        · rw [e2] at e; injection e with e; omega
  · exact Frm.grown (Frm.grown (Frm.ofBelow b8) hg (by simp)) hg5 (by simp)
abbrev CellsG (p1 p3 b o k : Nat) (ks : List Nd) (cap : Nat) (x : Nd) (vx v : Value) (W : World) : Prop :=
  W.cell? ⟨p3, 6, none⟩ = some v ∧ W.cell? ⟨p1, 6, none⟩ = some (.slice (some ⟨b, o, none⟩) ks.length cap) ∧ W.cell? ⟨b, o + k * 7, none⟩ = some (.int .u8 x.op) ∧ W.cell? ⟨b, o + k * 7 + 1, none⟩ = some (.int .u8 x.v.kind) ∧ W.cell? ⟨b, o + k * 7 + 2, none⟩ = some (.int .i64 x.v.num) ∧
  W.cell? ⟨b, o + k * 7 + 3, none⟩ = some (.bool x.v.tr) ∧ W.cell? ⟨b, o + k * 7 + 4, none⟩ = some (.string x.v.text) ∧ W.cell? ⟨b, o + k * 7 + 5, none⟩ = some (.string x.name) ∧ W.cell? ⟨b, o + k * 7 + 6, none⟩ = some vx
/-- What a call of given leaves. -/
def GivC (w : World) (n : Nd) (e : Ending) (w' : World) : Prop := ∃ v, e = .returned (valN n v) ∧ KidsO w' (fun b => w.heap.size ≤ b) v n.kids ∧ Below w.heap.size w w'
set_option maxHeartbeats 8000000 in
theorem given_any : ∀ (m : Nat) (n : Nd), SizeOf.sizeOf n ≤ m → cntN n ≤ 1000 → ∀ (w : World) (vk : Value), NdR w w.heap.size vk n → Calls Tryz.prog 12 #[valN n vk] w (GivC w n) := by
  intro m
  induction m with
  | zero => intro n h; cases n; simp at h
  | succ m ih =>
    intro n hz hcnt w vk hn
    obtain ⟨w1, p1, hp1, hw1, l1, n1, b1⟩ := box_new w (.cells (arrN n vk) 36)
    obtain ⟨w2, p2, hp2, hw2, l2, n2, b2⟩ := box_new w1 (.cells #[.int .u8 0, .int .u8 0, .int .i64 0, .bool false, .string ⟨#[]⟩, .string ⟨#[]⟩, .slice none 0 0] 29)
    obtain ⟨a, cap, rfl⟩ := hn.2.val
    obtain ⟨c0, c1, c2, c3, c4, c5, c6⟩ := n_cells ((b2.block p1 (by omega)).trans n1)
    obtain ⟨w3, p3, hp3, hw3, l3, n3, b3⟩ := box_new w2 (.cells (arrN n (.slice none 0 0)) 29)
    have b12 := b2.trans (b3.mono b2.size)
    have hsz1 := b1.size
    have hsz2 := b2.size
    have hsz3 := b3.size
    have hB3 := b1.trans (b12.mono b1.size)
    have HS : Hid (GivS w3 w.heap.size p1 p2 p3 (p3 + 1) n (.slice a n.kids.length cap) (.slice none 0 0) []) := Lib.hid ⟨(b12.block p1 (by omega)).trans n1, (b3.block p2 (by omega)).trans n2, n3, OwnF.nil _ _, fun p hp => by simp at hp, by omega, by omega, by omega, by omega, by omega, by omega, by omega, by omega, by omega⟩
    have HB := Lib.hid hB3
    rw [← hw3] at HS HB
    have HK := Lib.hid hn.2
    have hkl : n.kids.length ≤ 1000 := by have := cnt_len n.kids; have := cntN_is n; omega
    have IH : Hid (∀ x ∈ n.kids, ∀ (w : World) (vk : Value), NdR w w.heap.size vk x → Calls Tryz.prog 12 #[valN x vk] w (GivC w x)) := Lib.hid (fun x hx => ih x (by have := List.sizeOf_lt_of_mem hx; cases n; simp [Nd.kids] at hz this; omega) (by have := cnt_mem hx; have := cntN_is n; omega))
    obtain ⟨ks, hks⟩ : ∃ ks, n.kids = ks := ⟨_, rfl⟩
    have HKS := Lib.hid hks
    rw [hks] at HK hkl IH HS c6 hw1
    rw [hks]
    obtain ⟨i0, hti, hz0, hz1, hz2⟩ := info_parts info_node
    have hp12 : w.heap.size ≤ p1 ∧ w.heap.size ≤ p2 ∧ w.heap.size ≤ p3 := by omega
    clear hks ih hz hn n1 n2 n3 b1 b2 b3 b12 hB3 hcnt hsz1 hsz2 hsz3 l3 hw3
    go_enter Tryz.func12, Tryz.ntmps12
    go_wp2_with fail
    go_loopg [4] ks.length (fun g s4 wr => ∃ (k : Nat) (v : Value) (L : List (Nd × Value)), k + g = ks.length ∧ s4 = .int .i64 (k : Int) ∧ L.map Prod.fst = ks.take k ∧ Hid (GivS wr w.heap.size p1 p2 p3 (p3 + 1) n (.slice a ks.length cap) v L) ∧ Hid (Below w.heap.size w wr))
    case atStart => exact ⟨0, _, [], by omega, rfl, rfl, HS, HB⟩
    case round =>
      obtain ⟨k, v, L, hkg, rfl, hLk, hG, hBw⟩ := hrel
      by_cases hi : k < ks.length
      · have u1 : decide ((k : Int) < (ks.length : Int)) = true := decide_eq_true (by omega)
        have u1' : decide (k < ks.length) = true := decide_eq_true hi
        obtain ⟨b, o, vx, rfl, hb, hw, hkk, e0, e1, e2, e3, e4, e5, e6⟩ := HK.out.at hi
        have IHx := Lib.hid (IH.out ks[k] (List.getElem_mem hi))
        have hLx := Lib.hid (show ks.take (k + 1) = ks.take k ++ [ks[k]] from by rw [List.take_add_one, List.getElem?_eq_getElem hi]; rfl)
        obtain ⟨x, hx⟩ : ∃ x, ks[k] = x := ⟨_, rfl⟩
        rw [hx] at hw hkk e0 e1 e2 e3 e4 e5 IHx hLx
        have hLl : L.length = k := by have := congrArg List.length hLk; simpa [Nat.min_eq_left (Nat.le_of_lt hi)] using this
        have HF : Hid (∀ W : World, Frm [v.ownBlock] wr W → CellsG p1 p3 b o k ks cap x vx v W) := Lib.hid (fun W hF => by
          have hlo := fun g e => hG.out.own.lo (g := g) e
          have hb3 := hG.out.b3
          have hb1 := hG.out.b1
          have hbb := hG.out.hb
          have k3 : W.heap[p3]? = _ := (hF.keep p3 (by omega) (fun r hr e => by simp only [List.mem_singleton] at hr; rw [hr] at e; have := (hlo _ e).1; omega)).trans hG.out.h3
          have k1 : W.heap[p1]? = _ := (hF.keep p1 (by omega) (fun r hr e => by simp only [List.mem_singleton] at hr; rw [hr] at e; have := (hlo _ e).1; omega)).trans hG.out.h1
          have kb : W.heap[b]? = w.heap[b]? := (hF.keep b (by omega) (fun r hr e => by simp only [List.mem_singleton] at hr; rw [hr] at e; have := (hlo _ e).1; omega)).trans (hBw.out.block b hb)
          exact ⟨cell_of_block k3 6, cell_of_block k1 6, (cell_of_heap kb).trans e0, (cell_of_heap kb).trans e1, (cell_of_heap kb).trans e2, (cell_of_heap kb).trans e3, (cell_of_heap kb).trans e4, (cell_of_heap kb).trans e5, (cell_of_heap kb).trans e6⟩)
        obtain ⟨av, cv, rfl⟩ : ∃ a c, v = .slice a L.length c := OwnF.shape hG.out.own
        have k1 : (0 : Int) ≤ (k : Int) := by omega
        have k2 : (k : Int) < (ks.length : Int) := by omega
        have HH := Lib.hid hw
        have HKK : Hid (∀ W, Below wr.heap.size wr W → NdR W W.heap.size vx x) := Lib.hid (fun W hW => by
          have hB := hBw.out.trans (hW.mono hBw.out.size)
          exact ⟨hw, hkk.mono hB hB.size⟩)
        have hLL := Lib.hid hLk
        have hLen := Lib.hid hLl
        have hLb : L.length ≤ 1000 := by omega
        obtain ⟨m1, m2, m3, m4, m5, m6, m7, m8, m9⟩ := HF.out wr (Frm.refl _ _)
        clear hx hw hkk e0 e1 e2 e3 e4 e5 e6 hLk hLl
        go_wp2_with fail
        refine wp_region_bar 11 (CellsG p1 p3 b o k ks cap x vx (.slice av L.length cv)) (by kernel_rfl) ?_
        have hHeld := HF.out wr.drew (Frm.ofBelow (Below.drew (Below.refl _ _)))
        refine wpAnyB_take [1, 9, 11] (i := 0) (v := ?vG0) rfl (by kernel_rfl) (by kernel_rfl) (by kernel_rfl) (by kernel_rfl) (by kernel_rfl) (by kernel_rfl) (fun _ _ _ h => h) (Or.inl ⟨by rfl, ?hyG0⟩) hHeld ?restG0
        case hyG0 => (intro w hSw; obtain ⟨s0, s1, s2, s3, s4, s5, s6, s7, s8⟩ := hSw; go_simp; try with_reducible rfl)
        try simp only [Act.put, List.setIfInBounds_toArray, List.set_cons_zero, List.set_cons_succ, List.getElem_toArray, List.getElem_cons_zero]
        refine wpAnyB_take [3, 5, 6, 7, 8, 9, 11] (i := 2) (v := ?vG2) rfl (by kernel_rfl) (by kernel_rfl) (by kernel_rfl) (by kernel_rfl) (by kernel_rfl) (by kernel_rfl) (fun _ _ _ h => h) (Or.inl ⟨by rfl, ?hyG2⟩) hHeld ?restG2
        case hyG2 => (intro w hSw; obtain ⟨s0, s1, s2, s3, s4, s5, s6, s7, s8⟩ := hSw; go_simp; try with_reducible rfl)
        try simp only [Act.put, List.setIfInBounds_toArray, List.set_cons_zero, List.set_cons_succ, List.getElem_toArray, List.getElem_cons_succ, List.getElem_cons_zero]
        refine wpAnyB_take [5, 6, 7, 8, 9, 11] (i := 4) (v := ?vG4) rfl (by kernel_rfl) (by kernel_rfl) (by kernel_rfl) (by kernel_rfl) (by kernel_rfl) (by kernel_rfl) (fun _ _ _ h => h) (Or.inl ⟨by rfl, ?hyG4⟩) hHeld ?restG4
        case hyG4 => (intro w hSw; obtain ⟨s0, s1, s2, s3, s4, s5, s6, s7, s8⟩ := hSw; go_simp; try with_reducible rfl)
        try simp only [Act.put, List.setIfInBounds_toArray, List.set_cons_zero, List.set_cons_succ, List.getElem_toArray, List.getElem_cons_succ, List.getElem_cons_zero]
        refine wpAnyB_take [5, 6, 7, 8, 9, 11] (i := 3) (v := ?vG3) rfl (by kernel_rfl) (by kernel_rfl) (by kernel_rfl) (by kernel_rfl) (by kernel_rfl) (by kernel_rfl) (fun _ _ _ h => h) (Or.inl ⟨by rfl, ?hyG3⟩) hHeld ?restG3
        case hyG3 => (intro w hSw; obtain ⟨s0, s1, s2, s3, s4, s5, s6, s7, s8⟩ := hSw; go_simp; try with_reducible rfl)
        try simp only [Act.put, List.setIfInBounds_toArray, List.set_cons_zero, List.set_cons_succ, List.getElem_toArray, List.getElem_cons_succ, List.getElem_cons_zero]
        refine wpAnyB_take [6, 7, 8, 9, 11] (i := 5) (v := ?vG5) rfl (by kernel_rfl) (by kernel_rfl) (by kernel_rfl) (by kernel_rfl) (by kernel_rfl) (by kernel_rfl) (fun _ _ _ h => h) (Or.inl ⟨by rfl, ?hyG5⟩) hHeld ?restG5
        case hyG5 => (intro w hSw; obtain ⟨s0, s1, s2, s3, s4, s5, s6, s7, s8⟩ := hSw; go_simp; try with_reducible rfl)
        try simp only [Act.put, List.setIfInBounds_toArray, List.set_cons_zero, List.set_cons_succ, List.getElem_toArray, List.getElem_cons_succ, List.getElem_cons_zero]
        refine wpAnyB_take [7, 8, 9, 11] (i := 6) (v := ?vG6) rfl (by kernel_rfl) (by kernel_rfl) (by kernel_rfl) (by kernel_rfl) (by kernel_rfl) (by kernel_rfl) (fun _ _ _ h => h) (Or.inl ⟨by rfl, ?hyG6⟩) hHeld ?restG6
        case hyG6 => (intro w hSw; obtain ⟨s0, s1, s2, s3, s4, s5, s6, s7, s8⟩ := hSw; go_simp; try with_reducible rfl)
        try simp only [Act.put, List.setIfInBounds_toArray, List.set_cons_zero, List.set_cons_succ, List.getElem_toArray, List.getElem_cons_succ, List.getElem_cons_zero]
        refine wpAnyB_take [9, 11] (i := 1) (v := ?vG1) rfl (by kernel_rfl) (by kernel_rfl) (by kernel_rfl) (by kernel_rfl) (by kernel_rfl) (by kernel_rfl) (fun _ _ _ h => h) (Or.inl ⟨by rfl, ?hyG1⟩) hHeld ?restG1
        case hyG1 => (intro w hSw; obtain ⟨s0, s1, s2, s3, s4, s5, s6, s7, s8⟩ := hSw; go_simp; try with_reducible rfl)
        try simp only [Act.put, List.setIfInBounds_toArray, List.set_cons_zero, List.set_cons_succ, List.getElem_toArray, List.getElem_cons_succ, List.getElem_cons_zero]
        refine wpAnyB_ready (i := 7) (by kernel_rfl) rfl (fun K hK => ?_)
        try simp only [List.getElem_toArray, List.getElem_cons_succ, List.getElem_cons_zero]
        go_simp
        go_at_call 12; refine (IHx.out _ _ (HKK.out _ (Below.drew (Below.refl _ _)))).mono ?_; rintro e w7 ⟨vy, rfl, hk7, hb7⟩
        have hb7' : Below wr.heap.size wr w7 := (Below.drew (Below.refl _ _)).trans hb7
        have hHeld := HF.out w7 (Frm.ofBelow hb7')
        obtain ⟨ay, cy, rfl⟩ := hk7.val
        refine hK.out _ _ (fun _ => hHeld) ?hRG7
        case' hRG7 => clear hK K
        try simp only [Act.put, List.setIfInBounds_toArray, List.set_cons_zero, List.set_cons_succ, List.getElem_toArray, List.getElem_cons_succ, List.getElem_cons_zero]
        refine wpAnyB_ready (i := 8) (by kernel_rfl) rfl (fun K hK => ?_)
        try simp only [List.getElem_toArray, List.getElem_cons_succ, List.getElem_cons_zero]
        go_simp
        have hb8 : Below wr.heap.size wr (w7.alloc (.cells (cellN x (.slice ay x.kids.length cy)).toArray 29)) := hb7'.alloc hb7'.size _
        have hHeld := HF.out _ (Frm.ofBelow hb8)
        refine hK.out _ _ (fun _ => hHeld) ?hRG8
        case' hRG8 => clear hK K
        try simp only [Act.put, List.setIfInBounds_toArray, List.set_cons_zero, List.set_cons_succ, List.getElem_toArray, List.getElem_cons_succ, List.getElem_cons_zero]
        refine wpAnyB_ready (i := 9) (by kernel_rfl) rfl (fun K hK => ?_)
        have hown8 := OwnF.kept hG.out.own hb8
        have hbase8 : p3 + 1 ≤ (w7.alloc (.cells (cellN x (.slice ay x.kids.length cy)).toArray 29)).heap.size := by have := hG.out.hb; have := hb8.size; omega
        refine step_append_own _ (by rfl) (.tmp 20) (.tmp 27) 27 (by rfl) (p3 + 1) 29 i0 _ 7 88 Tryz.underlying27 hti hz0 hz1 hz2 rfl (by decide) (.slice av L.length cv) L.length (cellsF cP L) (by rfl) hown8 _ 1 1 (cellN x (.slice ay x.kids.length cy)) (by rfl) rfl (cells_new _ _ _) (objN_one x (.slice ay x.kids.length cy) rfl) (by unfold maxLen; omega) (by omega) hbase8 ?_
        intro v9 w9 hown9 hg9 hob9
        have hHeld := HF.out w9 (Frm.grown (Frm.ofBelow hb8) hg9 (by simp))
        obtain ⟨a9, c9, rfl⟩ : ∃ a c, v9 = .slice a (L.length + 1) c := by
          rcases hown9.2 with ⟨rfl, h0⟩ | ⟨g, cap, cur, rfl, _⟩
          · omega
          · exact ⟨_, _, rfl⟩
        have hst := hG.out.step hb7' HH.out hk7 hown9 hg9 hob9
        have fr9 : w9.frozen? ⟨p3, 6, none⟩ = false := free_of_block ((hg9.block p3 (Nat.lt_of_lt_of_le (by have := hG.out.b3; have := hG.out.hb; omega : p3 < wr.heap.size) hb8.size) (fun e => by have := (hG.out.own.lo e.symm).1; omega)).trans ((hb8.block p3 (by have := hG.out.b3; have := hG.out.hb; omega)).trans hG.out.h3)) 6
        have HST := Lib.hid hst
        clear hst hown9 hg9 hob9
        refine hK.out _ _ (fun _ => hHeld) ?hRG9
        case' hRG9 => clear hK K
        try simp only [Act.put, List.setIfInBounds_toArray, List.set_cons_zero, List.set_cons_succ, List.getElem_toArray, List.getElem_cons_succ, List.getElem_cons_zero]
        refine wpAnyB_take [11] (i := 10) (v := ?vG10) rfl (by kernel_rfl) (by kernel_rfl) (by kernel_rfl) (by kernel_rfl) (by kernel_rfl) (by kernel_rfl) (fun _ _ _ h => h) (Or.inl ⟨by rfl, ?hyG10⟩) hHeld ?restG10
        case hyG10 => (intro w hSw; obtain ⟨s0, s1, s2, s3, s4, s5, s6, s7, s8⟩ := hSw; go_simp; try with_reducible rfl)
        try simp only [Act.put, List.setIfInBounds_toArray, List.set_cons_zero, List.set_cons_succ, List.getElem_toArray, List.getElem_cons_succ, List.getElem_cons_zero]
        refine wpAnyB_ready (i := 11) (by kernel_rfl) rfl (fun K hK => ?_)
        try simp only [List.getElem_toArray, List.getElem_cons_succ, List.getElem_cons_zero]
        go_simp
        obtain ⟨s0, s1, s2, s3, s4, s5, s6, s7, s8⟩ := hHeld
        try go_simp
        refine hK.out _ _ (fun hbar => by cases hbar) ?hRG11
        case' hRG11 => clear hK K
        try simp only [Act.put, List.setIfInBounds_toArray, List.set_cons_zero, List.set_cons_succ, List.getElem_toArray, List.getElem_cons_succ, List.getElem_cons_zero]
        refine wpAnyB_done (by kernel_rfl) ?_ _
        go_wp2_with fail
        go_roundg (gk - 1)
        case measure => omega
        case rel =>
          refine ⟨k + 1, _, L ++ [(x, .slice ay x.kids.length cy)], by omega, by go_num, by rw [List.map_append, hLL.out, hLx.out]; rfl, Lib.hid HST.out.1, Lib.hid ?_⟩
          exact hBw.out.trans (HST.out.2.toBelow hBw.out.size (fun r hr j e => by
            simp only [List.mem_cons, List.not_mem_nil, or_false] at hr
            rcases hr with rfl | rfl
            · injection e with e; omega
            · have := (hG.out.own.lo e).1; omega))
      · have u1 : decide ((k : Int) < (ks.length : Int)) = false := decide_eq_false (by omega)
        have u1' : decide (k < ks.length) = false := decide_eq_false hi
        have hLL : L.map Prod.fst = ks := by rw [hLk, List.take_of_length_le (by omega)]
        have hLl : L.length ≤ 1000 := by have := congrArg List.length hLL; simp at this; omega
        obtain ⟨av, cv, rfl⟩ : ∃ a c, v = .slice a L.length c := OwnF.shape hG.out.own
        obtain ⟨d0, d1, d2, d3, d4, d5, d6⟩ := n_cells hG.out.h3
        have f2 : ∀ j, wr.frozen? ⟨p2, j, none⟩ = false := free_of_block hG.out.h2
        obtain ⟨z0, z1, z2, z3, z4, z5, z6⟩ : wr.cell? ⟨p2, 0, none⟩ = some (.int .u8 0) ∧ wr.cell? ⟨p2, 1, none⟩ = some (.int .u8 0) ∧ wr.cell? ⟨p2, 2, none⟩ = some (.int .i64 0) ∧ wr.cell? ⟨p2, 3, none⟩ = some (.bool false) ∧ wr.cell? ⟨p2, 4, none⟩ = some (.string ⟨#[]⟩) ∧ wr.cell? ⟨p2, 5, none⟩ = some (.string ⟨#[]⟩) ∧ wr.cell? ⟨p2, 6, none⟩ = some (.slice none 0 0) :=
          ⟨cell_of_block hG.out.h2 0, cell_of_block hG.out.h2 1, cell_of_block hG.out.h2 2, cell_of_block hG.out.h2 3, cell_of_block hG.out.h2 4, cell_of_block hG.out.h2 5, cell_of_block hG.out.h2 6⟩
        have e16 : wr.cell? ⟨p1, 6, none⟩ = some (.slice a ks.length cap) := cell_of_block hG.out.h1 6
        have HLL := Lib.hid hLL
        clear hLL hLk
        go_wp2_with fail
        have hb9 := set7_is hG.out.h2 (.int .u8 n.op) (.int .u8 n.v.kind) (.int .i64 n.v.num) (.bool n.v.tr) (.string n.v.text) (.string n.name) (.slice av L.length cv)
        have hF9 := set7_frm wr p2 (.int .u8 n.op) (.int .u8 n.v.kind) (.int .i64 n.v.num) (.bool n.v.tr) (.string n.v.text) (.string n.name) (.slice av L.length cv)
        obtain ⟨W9, hW9⟩ : ∃ W9, ((((((wr.setCell ⟨p2, 0, none⟩ (.int .u8 n.op)).setCell ⟨p2, 1, none⟩ (.int .u8 n.v.kind)).setCell ⟨p2, 2, none⟩ (.int .i64 n.v.num)).setCell ⟨p2, 3, none⟩ (.bool n.v.tr)).setCell ⟨p2, 4, none⟩ (.string n.v.text)).setCell ⟨p2, 5, none⟩ (.string n.name)).setCell ⟨p2, 6, none⟩ (.slice av L.length cv) = W9 := ⟨_, rfl⟩
        have hb9' : W9.heap[p2]? = some (.cells (arrN n (.slice av L.length cv)) 29 (0, 0)) := by rw [← hW9]; exact hb9
        have hF9' : Frm [some p2] wr W9 := by rw [← hW9]; exact hF9
        rw [hW9]
        obtain ⟨y0, y1, y2, y3, y4, y5, y6⟩ := n_cells hb9'
        refine bodyPost_ret (v := valN n (.slice av L.length cv)) (by simp [results, Tryz.results12, go_sem, y0, y1, y2, y3, y4, y5, y6]) rfl ?_
        have hKo := own_kids hG.out.own (by omega) (ok := fun b => w.heap.size ≤ b ∧ b ≠ p3 ∧ b ≠ p2) (fun g e => by have := (hG.out.own.lo e).1; have := hG.out.b2; have := hG.out.b3; exact ⟨by omega, by omega, by omega⟩) (fun p hp => ⟨(hG.out.kid p hp).1, (hG.out.kid p hp).2.kept (Nat.le_refl _) (fun b hlt hok => ⟨rfl, hok.1, hok.2.1, hok.2.2.1⟩)⟩)
        rw [HLL.out] at hKo
        refine ⟨_, rfl, ?_, ?_⟩
        · rw [HKS.out]
          exact hKo.kept hF9'.size (fun b hlt hok => ⟨hF9'.keep b hlt (fun r hr e => by simp only [List.mem_singleton] at hr; rw [hr] at e; injection e with e; exact hok.2.2 e.symm), hok.1⟩)
        · exact hBw.out.trans (hF9'.toBelow hBw.out.size (fun r hr j e => by simp only [List.mem_singleton] at hr; rw [hr] at e; injection e with e; omega))
end Go.Proofs.YtbephgifbghilaaGreatDoor
/- expr.Same: two nodes are the same (seat expr). -/
set_option maxRecDepth 100000
namespace Go.Proofs.YtbephgifbghilaaGreatDoor
open Go.RowKit
mutual
def sameN : Nd → Nd → Bool
  | .mk o v n ks, .mk o' v' n' ks' => (o == o') && (vlEq v v' && ((n.toList == n'.toList) && sameL ks ks'))
def sameL : List Nd → List Nd → Bool
  | [], [] => true
  | a :: r, b :: s => sameN a b && sameL r s
  | _, _ => false
end
theorem sameN_is (a b : Nd) : sameN a b = ((a.op == b.op) && (vlEq a.v b.v && ((a.name.toList == b.name.toList) && sameL a.kids b.kids))) := by
  cases a; cases b; rfl
mutual
theorem sameN_refl : ∀ a : Nd, sameN a a = true
  | .mk o v n ks => by
    show ((o == o) && (vlEq v v && ((n.toList == n.toList) && sameL ks ks))) = true
    rw [vlEq_refl, sameL_refl ks]
    simp
theorem sameL_refl : ∀ l : List Nd, sameL l l = true
  | [] => rfl
  | a :: r => by
    show (sameN a a && sameL r r) = true
    rw [sameN_refl a, sameL_refl r]
    rfl
end
theorem sameL_len : ∀ (a b : List Nd), a.length ≠ b.length → sameL a b = false
  | [], [], h => absurd rfl h
  | [], _ :: _, _ => rfl
  | _ :: _, [], _ => rfl
  | x :: a, y :: b, h => by show (sameN x y && sameL a b) = false; rw [sameL_len a b (by simpa using h), Bool.and_false]
theorem sameL_drop {a b : List Nd} {k : Nat} (ha : k < a.length) (hb : k < b.length) : sameL (a.drop k) (b.drop k) = (sameN a[k] b[k] && sameL (a.drop (k + 1)) (b.drop (k + 1))) := by
  rw [List.drop_eq_getElem_cons ha, List.drop_eq_getElem_cons hb]; rfl
theorem sameL_end {a b : List Nd} {k : Nat} (ha : a.length ≤ k) (hb : b.length ≤ k) : sameL (a.drop k) (b.drop k) = true := by
  rw [List.drop_eq_nil_of_le ha, List.drop_eq_nil_of_le hb]; rfl
def SameC (m : Nat) : Prop := ∀ (a : Nd), SizeOf.sizeOf a ≤ m → ∀ (b : Nd) (w : World) (va vb : Value), NdR w w.heap.size va a → NdR w w.heap.size vb b →
  Calls Tryz.prog 15 #[valN a va, valN b vb] w fun e w' => e = .returned (.bool (sameN a b)) ∧ Below w.heap.size w w'
set_option maxHeartbeats 2000000 in
theorem equalN_any {m : Nat} (IH : SameC m) (w : World) (va vb : Value) (a b : List Nd) (hm : ∀ x ∈ a, SizeOf.sizeOf x ≤ m) (ha : KidsR w w.heap.size va a) (hb : KidsR w w.heap.size vb b) :
    Calls Tryz.prog 52 #[va, vb, .func (.func 15) #[] #[]] w fun e w' => e = .returned (.bool (sameL a b)) ∧ Below w.heap.size w w' := by
  have hla := ha.len
  have hlb := hb.len
  obtain ⟨aa, ca, rfl⟩ := ha.val
  obtain ⟨ab, cb, rfl⟩ := hb.val
  have HA := Lib.hid ha
  have HB := Lib.hid hb
  have HM := Lib.hid hm
  have HI := Lib.hid IH
  clear ha hb hm IH
  by_cases hne : a.length = b.length
  · have H := Lib.hid hne
    have hz : ((a.length : Int) != (b.length : Int)) = false := by simp [hne]
    clear hne
    go_enter Tryz.func52, Tryz.ntmps52
    go_wp2_with fail
    go_loopg [17] a.length (fun g s17 wr => ∃ (k : Nat), k + g = a.length ∧ s17 = .int .i64 k ∧ Hid (sameL (a.drop k) (b.drop k) = sameL a b) ∧ Below w.heap.size w wr)
    case atStart => exact ⟨0, by omega, rfl, rfl, Below.refl _ _⟩
    case round =>
      obtain ⟨k, hkg, rfl, hcov, hbr⟩ := hrel
      have hbrs := hbr.size
      by_cases hk : k < a.length
      · have hkb : k < b.length := by have := H.out; omega
        obtain ⟨ba, oa, vx, rfl, hba, hwx, hkx, x0, x1, x2, x3, x4, x5, x6⟩ := HA.out.at hk
        obtain ⟨bb, ob, vy, rfl, hbb, hwy, hky, y0, y1, y2, y3, y4, y5, y6⟩ := HB.out.at hkb
        have hdr := Lib.hid (sameL_drop (a := a) (b := b) (k := k) hk hkb)
        have hsz := HM.out _ (List.getElem_mem hk)
        obtain ⟨x, hx⟩ : ∃ x, a[k] = x := ⟨_, rfl⟩
        obtain ⟨y, hy⟩ : ∃ y, b[k] = y := ⟨_, rfl⟩
        rw [hx] at x0 x1 x2 x3 x4 x5 hwx hkx hdr hsz
        rw [hy] at y0 y1 y2 y3 y4 y5 hwy hky hdr
        clear hx hy
        rw [← Below.cellB hbr hba] at x0 x1 x2 x3 x4 x5 x6
        have hba' : ba < wr.heap.size := by omega
        have hbb' : bb < wr.heap.size := by omega
        rw [← Below.cellB hbr hbb] at y0 y1 y2 y3 y4 y5 y6
        obtain ⟨w1, p1, hp1, hw1, l1, n1, b1⟩ := box_new wr (.cells #[.int .u8 x.op, .int .u8 x.v.kind, .int .i64 x.v.num, .bool x.v.tr, .string x.v.text, .string x.name, vx] 29)
        obtain ⟨w2, p2, hp2, hw2, l2, n2, b2⟩ := box_new w1 (.cells #[.int .u8 y.op, .int .u8 y.v.kind, .int .i64 y.v.num, .bool y.v.tr, .string y.v.text, .string y.name, vy] 29)
        have hb1 : Below wr.heap.size wr w2 := b1.trans (b2.mono b1.size)
        have hB1 := hbr.trans (hb1.mono hbrs)
        obtain ⟨g0, g1, g2, g3, g4, g5, g6⟩ := n_cells ((b2.block p1 (by omega)).trans n1)
        obtain ⟨h0, h1, h2, h3, h4, h5, h6⟩ := n_cells n2
        have z0 : w1.cell? ⟨bb, ob + k * 7, none⟩ = _ := (Below.cellB b1 hbb').trans y0
        have z1 : w1.cell? ⟨bb, ob + k * 7 + 1, none⟩ = _ := (Below.cellB b1 hbb').trans y1
        have z2 : w1.cell? ⟨bb, ob + k * 7 + 2, none⟩ = _ := (Below.cellB b1 hbb').trans y2
        have z3 : w1.cell? ⟨bb, ob + k * 7 + 3, none⟩ = _ := (Below.cellB b1 hbb').trans y3
        have z4 : w1.cell? ⟨bb, ob + k * 7 + 4, none⟩ = _ := (Below.cellB b1 hbb').trans y4
        have z5 : w1.cell? ⟨bb, ob + k * 7 + 5, none⟩ = _ := (Below.cellB b1 hbb').trans y5
        have z6 : w1.cell? ⟨bb, ob + k * 7 + 6, none⟩ = _ := (Below.cellB b1 hbb').trans y6
        have HC := Lib.hid (HI.out x hsz y w2 vx vy ⟨hwx, hkx.mono hB1 hB1.size⟩ ⟨hwy, hky.mono hB1 hB1.size⟩)
        have HBr := Lib.hid hB1
        have k1 : (0 : Int) ≤ (k : Int) := by omega
        have k2 : (k : Int) < (a.length : Int) := by omega
        have k3 : (k : Int) < (b.length : Int) := by omega
        have k4 : decide (k < a.length) = true := decide_eq_true hk
        obtain ⟨ax, cx, rfl⟩ := hkx.val
        obtain ⟨ay, cy, rfl⟩ := hky.val
        clear hwx hkx hwy hky n1 n2 b1 b2 hb1 hB1 hbr hsz
        cases hs : sameN x y with
        | true =>
          have Hf : Hid (sameL (a.drop (k + 1)) (b.drop (k + 1)) = sameL a b) := by rw [← hcov.out, hdr.out, hs, Bool.true_and]; exact rfl
          rw [hs] at HC
          clear hs hdr hcov
          go_wp2_with (go_at_call 15; refine HC.out.mono ?_; rintro e w3 ⟨rfl, hb3⟩; have HB3 := Lib.hid (HBr.out.trans (hb3.mono HBr.out.size)); clear hb3)
          go_roundg (gk - 1)
          case measure => omega
          case rel => exact ⟨k + 1, by omega, by go_num, Hf, HB3.out⟩
        | false =>
          have Hf : Hid (false = sameL a b) := by rw [← hcov.out, hdr.out, hs, Bool.false_and]; exact rfl
          rw [hs] at HC
          clear hs hdr hcov
          go_wp2_with (go_at_call 15; refine HC.out.mono ?_; rintro e w3 ⟨rfl, hb3⟩; have HB3 := Lib.hid (HBr.out.trans (hb3.mono HBr.out.size)); clear hb3)
          go_ret
          exact ⟨ret_bool Hf.out, HB3.out⟩
      · have k4 : decide (k < a.length) = false := decide_eq_false hk
        have Hf : Hid (true = sameL a b) := by rw [← hcov.out, sameL_end (by omega) (by have := H.out; omega)]; exact rfl
        go_wp2_with fail
        go_ret
        exact ⟨ret_bool Hf.out, hbr⟩
  · have hz : ((a.length : Int) != (b.length : Int)) = true := by simp; omega
    have Hf : Hid (false = sameL a b) := (sameL_len a b hne).symm
    clear hne
    go_enter Tryz.func52, Tryz.ntmps52
    go_wp2_with fail
    go_ret
    exact ⟨ret_bool Hf.out, Below.refl _ _⟩
set_option maxHeartbeats 4000000 in
theorem same_step {m : Nat} (IH : SameC m) : SameC (m + 1) := by
  intro a hz b w va vb ha hb
  obtain ⟨w0, p0, hp0, hw0, l0, n0, b0⟩ := box_new w (.cells #[.int .u8 a.op, .int .u8 a.v.kind, .int .i64 a.v.num, .bool a.v.tr, .string a.v.text, .string a.name, va] 29)
  obtain ⟨w1, p1, hp1, hw1, l1, n1, b1⟩ := box_new w0 (.cells #[.int .u8 b.op, .int .u8 b.v.kind, .int .i64 b.v.num, .bool b.v.tr, .string b.v.text, .string b.name, vb] 29)
  obtain ⟨c0, c1, c2, c3, c4, c5, c6⟩ := n_cells ((b1.block p0 (by omega)).trans n0)
  obtain ⟨e0, e1, e2, e3, e4, e5, e6⟩ := n_cells n1
  have hB := b0.trans (b1.mono b0.size)
  have HB := Lib.hid hB
  have HE := Lib.hid (equalN_any IH w1 va vb a.kids b.kids (fun x hx => by have := List.sizeOf_lt_of_mem hx; cases a; simp [Nd.kids] at hz this ⊢; omega) (ha.2.mono hB hB.size) (hb.2.mono hB hB.size))
  have HS := Lib.hid (sameN_is a b)
  have hq := fun w => run_eql_val w a.v b.v
  obtain ⟨aa, ca, rfl⟩ := ha.2.val
  obtain ⟨ab, cb, rfl⟩ := hb.2.val
  obtain ⟨s, hs⟩ : ∃ s, sameN a b = s := ⟨_, rfl⟩
  obtain ⟨t, ht⟩ : ∃ t, sameL a.kids b.kids = t := ⟨_, rfl⟩
  rw [hs]
  rw [hs, ht] at HS
  rw [ht] at HE
  clear n0 b0 n1 b1 ha hb hs ht hz IH hB
  cases h1 : (a.op == b.op) with
  | false =>
    have Hf : Hid (false = s) := by rw [HS.out, h1, Bool.false_and]; exact rfl
    go_enter Tryz.func15, Tryz.ntmps15
    go_wp2_with fail
    go_ret
    exact ⟨ret_bool Hf.out, HB.out⟩
  | true =>
    cases h2 : vlEq a.v b.v with
    | false =>
      have Hf : Hid (false = s) := by rw [HS.out, h1, h2, Bool.true_and, Bool.false_and]; exact rfl
      simp only [h2] at hq
      clear h2
      go_enter Tryz.func15, Tryz.ntmps15
      go_wp2_with fail
      go_ret
      exact ⟨ret_bool Hf.out, HB.out⟩
    | true =>
      cases h3 : (a.name.toList == b.name.toList) with
      | false =>
        have Hf : Hid (false = s) := by rw [HS.out, h1, h2, h3, Bool.true_and, Bool.true_and, Bool.false_and]; exact rfl
        simp only [h2] at hq
        clear h2
        go_enter Tryz.func15, Tryz.ntmps15
        go_wp2_with fail
        go_ret
        exact ⟨ret_bool Hf.out, HB.out⟩
      | true =>
        have Hf : Hid (t = s) := by rw [HS.out, h1, h2, h3, Bool.true_and, Bool.true_and, Bool.true_and]; exact rfl
        simp only [h2] at hq
        clear h2
        go_enter Tryz.func15, Tryz.ntmps15
        go_wp2_with (go_at_call 52; refine HE.out.mono ?_; rintro e w3 ⟨rfl, hb3⟩; have HB3 := Lib.hid (HB.out.trans (hb3.mono HB.out.size)); clear hb3)
        go_ret
        exact ⟨ret_bool Hf.out, HB3.out⟩
theorem same10_any (w : World) (a b : Nd) (va vb : Value) (ha : NdR w w.heap.size va a) (hb : NdR w w.heap.size vb b) :
    Calls Tryz.prog 15 #[valN a va, valN b vb] w fun e w' => e = .returned (.bool (sameN a b)) ∧ Below w.heap.size w w' := by
  have : ∀ m, SameC m := by
    intro m
    induction m with
    | zero => intro a h; cases a; simp at h
    | succ m ih => exact same_step ih
  exact this (SizeOf.sizeOf a) a (Nat.le_refl _) b w va vb ha hb
end Go.Proofs.YtbephgifbghilaaGreatDoor
/- The law ExprBack: a node's text is read as the node; a text's node, written, is read as it again (the walk). -/
set_option maxRecDepth 100000
namespace Go.Proofs.YtbephgifbghilaaGreatDoor
open Go.RowKit
theorem print_is (w : World) (hg : Gx w) (n : Nd) (a : Option Addr) (c d : Nat) (hn : NdR w w.heap.size (.slice a c d) n) (hlen : checkN n = true → (spellE n 1).length ≤ 1000000000) {t : List UInt8} {x : Int} (h : printE n = (t, x)) :
    Calls Tryz.prog 13 #[valN n (.slice a c d)] w fun e w' => e = .returned (.tuple #[.string ⟨t.toArray⟩, .int .i64 x]) ∧ Below w.heap.size w w' := by
  have := print_any w hg.gp hg.t8 n a c d hn.2 hn.1 hlen
  rw [h] at this
  exact this
theorem check_is (w : World) (hg : Gx w) (n : Nd) (vk : Value) (hn : NdR w w.heap.size vk n) {t : Bool} (h : checkN n = t) :
    Calls Tryz.prog 14 #[valN n vk] w fun e w' => e = .returned (.bool t) ∧ Below w.heap.size w w' := by
  have := check_N n hn.1 w vk hg.t8 hn.2
  rw [h] at this
  exact this
theorem same_is (w : World) (a b : Nd) (va vb : Value) (ha : NdR w w.heap.size va a) (hb : NdR w w.heap.size vb b) {t : Bool} (h : sameN a b = t) :
    Calls Tryz.prog 15 #[valN a va, valN b vb] w fun e w' => e = .returned (.bool t) ∧ Below w.heap.size w w' := by
  have := same10_any w a b va vb ha hb
  rw [h] at this
  exact this
theorem few_is (w : World) (n : Nd) (vk : Value) (hn : NdR w w.heap.size vk n) {t : Bool} (h : fewB n = t) : Calls Tryz.prog 11 #[valN n vk] w fun e w' => e = .returned (.bool t) ∧ Below w.heap.size w w' := by
  have := few_any w n vk hn
  rw [h] at this
  exact this
abbrev CellsN (V : World) (p : Nat) (n : Nd) (vk : Value) : Prop :=
  V.cell? ⟨p, 0, none⟩ = some (.int .u8 n.op) ∧ V.cell? ⟨p, 1, none⟩ = some (.int .u8 n.v.kind) ∧ V.cell? ⟨p, 2, none⟩ = some (.int .i64 n.v.num) ∧ V.cell? ⟨p, 3, none⟩ = some (.bool n.v.tr) ∧ V.cell? ⟨p, 4, none⟩ = some (.string n.v.text) ∧ V.cell? ⟨p, 5, none⟩ = some (.string n.name) ∧ V.cell? ⟨p, 6, none⟩ = some vk
/-- A node in a box of the call's own. -/
theorem nd_boxed (W : World) (n : Nd) (vk : Value) (t : TypeId) : ∃ (W' : World) (p : Nat), W.heap.size = p ∧ W.alloc (.cells #[.int .u8 n.op, .int .u8 n.v.kind, .int .i64 n.v.num, .bool n.v.tr, .string n.v.text, .string n.name, vk] t) = W' ∧ p < W'.heap.size ∧ Below W.heap.size W W' ∧ ∀ V, Below W'.heap.size W' V → CellsN V p n vk := by
  obtain ⟨w1, p1, hp1, hw1, l1, n1, b1⟩ := box_new W (.cells #[.int .u8 n.op, .int .u8 n.v.kind, .int .i64 n.v.num, .bool n.v.tr, .string n.v.text, .string n.name, vk] t)
  exact ⟨w1, p1, hp1, hw1, l1, b1, fun V hV => n_cells ((hV.block p1 l1).trans n1)⟩
end Go.Proofs.YtbephgifbghilaaGreatDoor
