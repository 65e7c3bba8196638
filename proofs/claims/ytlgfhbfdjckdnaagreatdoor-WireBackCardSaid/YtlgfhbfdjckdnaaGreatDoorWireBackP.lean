/- What is written is read as it was (wire; plain, no program in sight). -/
import Derived.Test.YtlgfhbfdjckdnaaGreatDoorWireEndsP
import Derived.Test.YtlgfhbfdjckdnaaGreatDoorWireSplitP
import Derived.Test.YtlgfhbfdjckdnaaGreatDoorWireP
set_option maxRecDepth 100000
namespace Go.Proofs.YtlgfhbfdjckdnaaGreatDoor
open Go.Lib

def crlf : List UInt8 := [13, 10]
def hostLine : List UInt8 := [104, 111, 115, 116, 58, 32, 116, 111, 108, 108, 103, 97, 116, 101]
def keyLead : List UInt8 := [105, 100, 101, 109, 112, 111, 116, 101, 110, 99, 121, 45, 107, 101, 121, 58, 32]
def clenLead : List UInt8 := [99, 111, 110, 116, 101, 110, 116, 45, 108, 101, 110, 103, 116, 104, 58, 32]
def firstLine (m p : List UInt8) : List UInt8 := m ++ ([32] ++ (p ++ ([32] ++ http11)))
def headLines (m p k : List UInt8) (n : Nat) : List (List UInt8) :=
  if k = [] then [firstLine m p, hostLine, clenLead ++ itoa n] else [firstLine m p, hostLine, keyLead ++ k, clenLead ++ itoa n]
def joinC : List (List UInt8) → List UInt8
  | [] => []
  | [a] => a
  | a :: b :: r => a ++ (crlf ++ joinC (b :: r))
/-- A request's bytes. -/
def writeL (m p k b : List UInt8) : List UInt8 := joinC (headLines m p k b.length) ++ (ends4 ++ b)

theorem split_joinC : ∀ (P : List (List UInt8)), P ≠ [] → (∀ a ∈ P, ∀ x ∈ a, x ≠ 13) → split (joinC P) [13, 10] = P
  | [], h, _ => absurd rfl h
  | [a], _, h => split_last (h a List.mem_cons_self)
  | a :: b :: r, _, h => by
    rw [joinC, show crlf ++ joinC (b :: r) = [13, 10] ++ joinC (b :: r) from rfl, split_piece (h a List.mem_cons_self), split_joinC (b :: r) (by simp) (fun c hc => h c (List.mem_cons_of_mem _ hc))]
theorem joinC_head : ∀ (P : List (List UInt8)), P ≠ [] → (∀ a ∈ P, a ≠ [] ∧ ∀ x ∈ a, x ≠ 13) → ∃ x r, joinC P = x :: r ∧ x ≠ 13
  | [], h, _ => absurd rfl h
  | [a], _, h => by
    obtain ⟨h1, h2⟩ := h a List.mem_cons_self
    cases a with
    | nil => exact absurd rfl h1
    | cons x r => exact ⟨x, r, rfl, h2 x List.mem_cons_self⟩
  | a :: b :: r, _, h => by
    obtain ⟨h1, h2⟩ := h a List.mem_cons_self
    cases a with
    | nil => exact absurd rfl h1
    | cons x t => exact ⟨x, t ++ (crlf ++ joinC (b :: r)), rfl, h2 x List.mem_cons_self⟩
/-- The head's end is the first. -/
theorem index_joinC (r : List UInt8) : ∀ (P : List (List UInt8)), P ≠ [] → (∀ a ∈ P, a ≠ [] ∧ ∀ x ∈ a, x ≠ 13) → index (joinC P ++ (ends4 ++ r)) ends4 = ((joinC P).length : Int)
  | [], h, _ => absurd rfl h
  | [a], _, h => index_piece (h a List.mem_cons_self).2
  | a :: b :: t, _, h => by
    have ih := index_joinC r (b :: t) (by simp) (fun c hc => h c (List.mem_cons_of_mem _ hc))
    obtain ⟨x, q, hx, hx13⟩ := joinC_head (b :: t) (by simp) (fun c hc => h c (List.mem_cons_of_mem _ hc))
    have e : joinC (a :: b :: t) ++ (ends4 ++ r) = (a ++ [13, 10]) ++ (joinC (b :: t) ++ (ends4 ++ r)) := by
      rw [joinC]; simp only [List.append_assoc]; rfl
    have hno : NoOcc (joinC (a :: b :: t) ++ (ends4 ++ r)) ends4 (a.length + 2) := by
      intro j hj
      rw [e]
      rcases Nat.lt_or_ge j a.length with h1 | h1
      · rw [List.append_assoc]
        exact occ_no (t := [10, 13, 10]) (h a List.mem_cons_self).2 h1
      · cases ho : occAt ((a ++ [13, 10]) ++ (joinC (b :: t) ++ (ends4 ++ r))) ends4 j with
        | false => rfl
        | true =>
          exfalso
          rcases (show j = a.length ∨ j = a.length + 1 by omega) with rfl | rfl
          · unfold occAt at ho
            rw [List.append_assoc, List.drop_left, hx] at ho
            obtain ⟨u, hu⟩ := List.isPrefixOf_iff_prefix.1 ho
            have := congrArg (fun l : List UInt8 => l[2]?) hu
            simp [ends4] at this
            exact hx13 this.symm
          · have := occAt_head rfl ho
            rw [List.getElem?_append_left (by simp)] at this
            simp at this
    rw [index_drop hno (by rw [e]; simp)]
    have ed : (joinC (a :: b :: t) ++ (ends4 ++ r)).drop (a.length + 2) = joinC (b :: t) ++ (ends4 ++ r) := by
      rw [e, show a.length + 2 = (a ++ [13, 10]).length by simp, List.drop_left]
    rw [ed, ih]
    rw [if_neg (fun e => by have := beq_iff_eq.1 e; omega)]
    rw [joinC]
    simp only [List.length_append, crlf, List.length_cons, List.length_nil]
    omega

theorem vis_ne {l : List UInt8} (h : allL visL l = true) (c : UInt8) (hc : c.toNat < 33) : ∀ x ∈ l, x ≠ c := by
  intro x hx e
  subst e
  have := List.all_eq_true.1 h _ hx
  simp only [visL, Bool.and_eq_true, decide_eq_true_eq] at this
  omega
theorem up_ne {l : List UInt8} (h : allL upL l = true) (c : UInt8) (hc : c.toNat < 65) : ∀ x ∈ l, x ≠ c := by
  intro x hx e
  subst e
  have := List.all_eq_true.1 h _ hx
  simp only [upL, Bool.and_eq_true, decide_eq_true_eq] at this
  omega
theorem vis_ok {l : List UInt8} (h : allL visL l = true) : allL okC l = true := by
  refine List.all_eq_true.2 (fun x hx => ?_)
  have := List.all_eq_true.1 h _ hx
  simp only [visL, Bool.and_eq_true, decide_eq_true_eq] at this
  simp only [okC, Bool.or_eq_true, Bool.and_eq_true, decide_eq_true_eq]
  omega
theorem up_ok {l : List UInt8} (h : allL upL l = true) : allL okC l = true := by
  refine List.all_eq_true.2 (fun x hx => ?_)
  have := List.all_eq_true.1 h _ hx
  simp only [upL, Bool.and_eq_true, decide_eq_true_eq] at this
  simp only [okC, Bool.or_eq_true, Bool.and_eq_true, decide_eq_true_eq]
  omega
theorem allL_app (p : Nat → Bool) (a b : List UInt8) : allL p (a ++ b) = (allL p a && allL p b) := List.all_append
theorem num_vis (n : Nat) : allL visL (itoa (n : Int)) = true := by
  refine List.all_eq_true.2 (fun x hx => ?_)
  have := itoa_dig (n := (n : Int)) (by omega) x hx
  unfold isDig at this
  simp only [visL, Bool.and_eq_true, decide_eq_true_eq]
  omega
theorem num_dig (n : Nat) : allL digC (itoa (n : Int)) = true := by
  refine List.all_eq_true.2 (fun x hx => ?_)
  have := itoa_dig (n := (n : Int)) (by omega) x hx
  unfold isDig at this
  simp only [digC, Bool.and_eq_true, decide_eq_true_eq]
  omega
theorem itoa_nat (n : Nat) : itoa (n : Int) = decDigits n := by unfold itoa; rw [if_neg (by omega)]; simp
theorem dec_lead (u : Nat) : u = 0 ∨ ((decDigits u).getD 0 0).toNat ≠ 48 := by
  induction u using Nat.strongRecOn with
  | _ u ih =>
    rw [decDigits]
    split
    · next h =>
      rcases Nat.eq_zero_or_pos u with h0 | h0
      · exact .inl h0
      · right
        show (UInt8.ofNat (48 + u)).toNat ≠ 48
        rw [ofNat_dig h]
        omega
    · next h =>
      right
      rcases ih (u / 10) (by omega) with h1 | h1
      · omega
      · cases hd : decDigits (u / 10) with
        | nil => exact absurd hd (decDigits_ne _)
        | cons c r =>
          rw [hd] at h1
          exact h1
theorem trim_sp {k : List UInt8} (hne : k ≠ []) (h : ∀ x ∈ k, x ≠ 32 ∧ x ≠ 9) : trimS (32 :: k) [32, 9] = k := by
  have hk : ∀ x ∈ k, [32, 9].contains x = false := by
    intro x hx
    obtain ⟨h1, h2⟩ := h x hx
    simp [h1, h2]
  have hr : trimRightS (32 :: k) [32, 9] = 32 :: k := by
    unfold trimRightS
    rw [List.reverse_cons]
    cases hq : k.reverse with
    | nil => exact absurd (List.reverse_eq_nil_iff.1 hq) hne
    | cons y t =>
      have hy : y ∈ k := by rw [← List.mem_reverse, hq]; exact List.mem_cons_self
      rw [List.cons_append, List.dropWhile_cons, if_neg (by rw [hk y hy]; decide), ← List.cons_append, ← hq, ← List.reverse_cons, List.reverse_reverse]
  unfold trimS
  rw [hr]
  unfold trimLeftS
  rw [List.dropWhile_cons, if_pos (by rfl)]
  cases k with
  | nil => rfl
  | cons y t => rw [List.dropWhile_cons, if_neg (by rw [hk y List.mem_cons_self]; decide)]
theorem lengthS_num (n : Nat) (hn : n ≤ 65536) : lengthS (itoa (n : Int)) = (0, n) := by
  have hv : valD (itoa (n : Int)) = n := by rw [itoa_nat, valD_dec]
  unfold lengthS
  rw [if_neg, if_neg (by rw [hv]; omega), hv]
  rintro (h | h | ⟨h, h2⟩)
  · rw [itoa_nat] at h; exact decDigits_ne _ h
  · rw [num_dig] at h; cases h
  · rw [itoa_nat] at h h2
    rcases dec_lead n with h0 | h0
    · subst h0
      exact h2 (by rw [decDigits, dif_pos (by decide)]; rfl)
    · exact h0 h
theorem firstS_line {m p : List UInt8} (hm : methodL m = true) (hp : pathL p = true) : firstS (firstLine m p) = (0, m, p) := by
  have h1 : ∀ x ∈ m, x ≠ 32 := up_ne (by unfold methodL at hm; simp only [Bool.and_eq_true] at hm; exact hm.2) 32 (by decide)
  have h2 : ∀ x ∈ p, x ≠ 32 := vis_ne (by unfold pathL at hp; simp only [Bool.and_eq_true] at hp; exact hp.2) 32 (by decide)
  have hs : split (firstLine m p) [32] = [m, p, http11] := by
    unfold firstLine
    rw [split_piece h1, split_piece h2]
    rw [show split http11 [32] = [http11] from split_last (by decide)]
  unfold firstS
  rw [hs]
  simp only [hm, hp, Bool.and_self, if_true]
theorem lineS_host : lineS ⟨[], [], 0⟩ hostLine = (0, ⟨[hostK], [], 0⟩) := by kernel_rfl
theorem keyLead_eq (r : List UInt8) : keyLead ++ r = ikeyK ++ ([58] ++ (32 :: r)) := rfl
theorem clenLead_eq (r : List UInt8) : clenLead ++ r = clenK ++ ([58] ++ (32 :: r)) := rfl
theorem lineS_key {k : List UInt8} (hne : k ≠ []) (hk : KeyOk k) : lineS ⟨[hostK], [], 0⟩ (keyLead ++ k) = (0, ⟨[ikeyK, hostK], k, 0⟩) := by
  have hc : cut (keyLead ++ k) [58] = (ikeyK, 32 :: k, true) := by rw [keyLead_eq]; exact cut_piece (by decide)
  have ht : trimS (32 :: k) [32, 9] = k := trim_sp hne (fun x hx => ⟨vis_ne hk.2 32 (by decide) x hx, vis_ne hk.2 9 (by decide) x hx⟩)
  unfold lineS
  rw [hc]
  simp only
  rw [if_neg (by decide), ht, show toLowerA ikeyK = ikeyK by decide]
  unfold lineK
  rw [if_neg (by decide), if_neg (by decide), if_pos rfl, if_neg]
  rintro (h | h | h)
  · exact hne h
  · exact absurd hk.1 (by omega)
  · rw [hk.2] at h; cases h
theorem lineS_len (h : HS) (hh : h.seen.contains clenK = false) (n : Nat) (hn : n ≤ 65536) : lineS h (clenLead ++ itoa (n : Int)) = (0, ⟨clenK :: h.seen, h.key, n⟩) := by
  have hc : cut (clenLead ++ itoa (n : Int)) [58] = (clenK, 32 :: itoa (n : Int), true) := by rw [clenLead_eq]; exact cut_piece (by decide)
  have ht : trimS (32 :: itoa (n : Int)) [32, 9] = itoa (n : Int) := trim_sp (by rw [itoa_nat]; exact decDigits_ne _) (fun x hx => ⟨vis_ne (num_vis n) 32 (by decide) x hx, vis_ne (num_vis n) 9 (by decide) x hx⟩)
  unfold lineS
  rw [hc]
  simp only
  rw [if_neg (by decide), ht, show toLowerA clenK = clenK by decide]
  unfold lineK
  rw [if_neg (by rw [hh]; decide), if_pos rfl, lengthS_num n hn]
theorem headP_lines {m p k : List UInt8} {n : Nat} (hm : methodL m = true) (hp : pathL p = true) (hk : KeyOk k) (hn : n ≤ 65536) : headP (headLines m p k n) = (0, m, p, k, n) := by
  have h1 := by unfold methodL at hm; simp only [Bool.and_eq_true] at hm; exact hm.2
  have h2 := by unfold pathL at hp; simp only [Bool.and_eq_true] at hp; exact hp.2
  have ok1 : allL okC (firstLine m p) = true := by
    unfold firstLine
    rw [allL_app, allL_app, allL_app, allL_app, up_ok h1, vis_ok h2]
    decide
  have ok2 : allL okC (clenLead ++ itoa (n : Int)) = true := by rw [allL_app, vis_ok (num_vis n)]; decide
  have ok3 : allL okC (keyLead ++ k) = true := by rw [allL_app, vis_ok hk.2]; decide
  have ok4 : allL okC hostLine = true := by decide
  unfold headLines
  split
  · next h =>
    subst h
    have hl : linesS ⟨[], [], 0⟩ [hostLine, clenLead ++ itoa (n : Int)] = (0, ⟨[clenK, hostK], [], n⟩) := by
      simp only [linesS, lineS_host, lineS_len ⟨[hostK], [], 0⟩ (show [hostK].contains clenK = false by decide) n hn]
      rfl
    unfold headP
    rw [if_neg (by simp [ok1, ok2, ok4])]
    simp only [List.headD_cons, List.tail_cons, firstS_line hm hp, hl]
    rw [if_neg (show ¬ ((0 : Int) ≠ 0) by decide), if_neg (show ¬ ((0 : Int) ≠ 0) by decide), if_neg (show ¬ ([clenK, hostK].contains hostK = false) by decide)]
  · next h =>
    have hl : linesS ⟨[], [], 0⟩ [hostLine, keyLead ++ k, clenLead ++ itoa (n : Int)] = (0, ⟨[clenK, ikeyK, hostK], k, n⟩) := by
      simp only [linesS, lineS_host, lineS_key h hk, lineS_len ⟨[ikeyK, hostK], k, 0⟩ (show [ikeyK, hostK].contains clenK = false by decide) n hn]
      rfl
    unfold headP
    rw [if_neg (by simp [ok1, ok2, ok3, ok4])]
    simp only [List.headD_cons, List.tail_cons, firstS_line hm hp, hl]
    rw [if_neg (show ¬ ((0 : Int) ≠ 0) by decide), if_neg (show ¬ ((0 : Int) ≠ 0) by decide), if_neg (show ¬ ([clenK, ikeyK, hostK].contains hostK = false) by decide)]
theorem lines_ok {m p k : List UInt8} {n : Nat} (hm : methodL m = true) (hp : pathL p = true) (hk : KeyOk k) (hn : n ≤ 65536) : headLines m p k n ≠ [] ∧ (∀ a ∈ headLines m p k n, a ≠ [] ∧ ∀ x ∈ a, x ≠ 13) ∧ (joinC (headLines m p k n)).length + 4 ≤ 4096 := by
  unfold methodL at hm
  unfold pathL at hp
  simp only [Bool.and_eq_true, decide_eq_true_eq] at hm hp
  obtain ⟨⟨hm1, hm2⟩, hm3⟩ := hm
  obtain ⟨⟨hp1, hp2⟩, hp3⟩ := hp
  have hnl : (itoa (n : Int)).length ≤ 20 := itoa_len (by unfold I64n; omega)
  have a1 : firstLine m p ≠ [] ∧ ∀ x ∈ firstLine m p, x ≠ 13 := by
    constructor
    · unfold firstLine; intro h; have := congrArg List.length h; simp at this
    · unfold firstLine
      intro x hx
      simp only [List.mem_append] at hx
      rcases hx with hx | hx | hx | hx | hx
      · exact up_ne hm3 13 (by decide) x hx
      · revert x; decide
      · exact vis_ne hp3 13 (by decide) x hx
      · revert x; decide
      · revert x; decide
  have a2 : clenLead ++ itoa (n : Int) ≠ [] ∧ ∀ x ∈ clenLead ++ itoa (n : Int), x ≠ 13 := by
    constructor
    · intro h; have := congrArg List.length h; simp [clenLead] at this
    · intro x hx
      rcases List.mem_append.1 hx with hx | hx
      · exact (show ∀ x ∈ clenLead, x ≠ 13 by decide) x hx
      · exact vis_ne (num_vis n) 13 (by decide) x hx
  have a3 : keyLead ++ k ≠ [] ∧ ∀ x ∈ keyLead ++ k, x ≠ 13 := by
    constructor
    · intro h; have := congrArg List.length h; simp [keyLead] at this
    · intro x hx
      rcases List.mem_append.1 hx with hx | hx
      · exact (show ∀ x ∈ keyLead, x ≠ 13 by decide) x hx
      · exact vis_ne hk.2 13 (by decide) x hx
  have a4 : hostLine ≠ [] ∧ ∀ x ∈ hostLine, x ≠ 13 := by decide
  have hf : (firstLine m p).length ≤ 1050 := by unfold firstLine; simp only [List.length_append, List.length_cons, List.length_nil, http11]; omega
  have hkl := hk.1
  unfold headLines
  split
  · refine ⟨by simp, ?_, ?_⟩
    · intro a ha
      simp only [List.mem_cons, List.not_mem_nil, or_false] at ha
      rcases ha with rfl | rfl | rfl
      · exact a1
      · exact a4
      · exact a2
    · simp only [joinC, List.length_append, crlf, List.length_cons, List.length_nil, hostLine, clenLead]; omega
  · refine ⟨by simp, ?_, ?_⟩
    · intro a ha
      simp only [List.mem_cons, List.not_mem_nil, or_false] at ha
      rcases ha with rfl | rfl | rfl | rfl
      · exact a1
      · exact a4
      · exact a3
      · exact a2
    · simp only [joinC, List.length_append, crlf, List.length_cons, List.length_nil, hostLine, clenLead, keyLead]; omega
/-- What is written is told next, whatever stands behind. -/
theorem next_write {m p k b : List UInt8} (t : List UInt8) (hm : methodL m = true) (hp : pathL p = true) (hk : KeyOk k) (hb : b.length ≤ 65536) : nextS (writeL m p k b ++ t) = .got ⟨bytesL m, bytesL p, bytesL k, bytesL b, 0⟩ t := by
  obtain ⟨c1, c2, c3⟩ := lines_ok (n := b.length) hm hp hk hb
  have hh := headP_lines (n := b.length) hm hp hk hb
  have hsp := split_joinC _ c1 (fun a ha => (c2 a ha).2)
  unfold writeL
  obtain ⟨P, hP⟩ : ∃ P, headLines m p k b.length = P := ⟨_, rfl⟩
  rw [hP] at c1 c2 c3 hh hsp ⊢
  have e : joinC P ++ (ends4 ++ b) ++ t = joinC P ++ (ends4 ++ (b ++ t)) := by simp only [List.append_assoc]
  rw [e]
  have h4 : ends4.length = 4 := rfl
  have htk : (joinC P ++ (ends4 ++ (b ++ t))).take 4096 = joinC P ++ (ends4 ++ (b ++ t).take (4096 - (joinC P).length - 4)) := by
    rw [List.take_append, List.take_of_length_le (by omega), List.take_append, List.take_of_length_le (by omega), h4]
  have hi : index ((joinC P ++ (ends4 ++ (b ++ t))).take 4096) ends4 = ((joinC P).length : Int) := by rw [htk]; exact index_joinC _ P c1 c2
  have hhd : headS ((joinC P ++ (ends4 ++ (b ++ t))).take (joinC P).length) = (0, m, p, k, b.length) := by
    rw [List.take_left]; unfold headS; rw [hsp, hh]
  have hl : (joinC P ++ (ends4 ++ (b ++ t))).length = (joinC P).length + 4 + b.length + t.length := by simp only [List.length_append, h4]; omega
  have hd : (joinC P ++ (ends4 ++ (b ++ t))).drop ((joinC P).length + 4) = b ++ t := by
    rw [show joinC P ++ (ends4 ++ (b ++ t)) = (joinC P ++ ends4) ++ (b ++ t) by simp only [List.append_assoc], show (joinC P).length + 4 = (joinC P ++ ends4).length by rw [List.length_append, h4], List.drop_left]
  have hd2 : (joinC P ++ (ends4 ++ (b ++ t))).drop ((joinC P).length + 4 + b.length) = t := by rw [← List.drop_drop, hd, List.drop_left]
  unfold nextS
  rw [hi, if_neg (by omega)]
  simp only [Int.toNat_natCast, hhd]
  rw [if_neg (by decide), if_neg (by omega), hd, hd2, List.take_left]
/-- Two requests, and what stands behind. -/
theorem feed_writes {m p k b m' p' k' b' : List UInt8} (t : List UInt8) (hm : methodL m = true) (hp : pathL p = true) (hk : KeyOk k) (hb : b.length ≤ 65536) (hm' : methodL m' = true) (hp' : pathL p' = true) (hk' : KeyOk k') (hb' : b'.length ≤ 65536) :
    ∃ A, (feedS (writeL m p k b ++ writeL m' p' k' b' ++ t)).1 = ⟨bytesL m, bytesL p, bytesL k, bytesL b, 0⟩ :: ⟨bytesL m', bytesL p', bytesL k', bytesL b', 0⟩ :: A := by
  refine ⟨(feedS t).1, ?_⟩
  rw [List.append_assoc, feedS_eq, next_write _ hm hp hk hb]
  simp only
  rw [feedS_eq (writeL m' p' k' b' ++ t), next_write _ hm' hp' hk' hb']

/-- A response's bytes are told, whatever stands behind. -/
theorem told_back (st : Int) (b t : List UInt8) (hw : wordL st ≠ []) : ToldIs (aheadL st b.length ++ b ++ t) st b.length := by
  refine ⟨hw, by omega, ?_, ?_⟩
  · rw [List.append_assoc]; exact List.prefix_append _ _
  · simp only [List.length_append, Int.toNat_natCast]; omega
/-- Without the last byte they are not. -/
theorem told_short (st : Int) (b : List UInt8) (hw : wordL st ≠ []) : ∀ st' n, ¬ ToldIs ((aheadL st b.length ++ b).take ((aheadL st b.length ++ b).length - 1)) st' n := by
  intro st' n h
  have h1 : ToldIs (aheadL st b.length ++ b) st' n := by
    obtain ⟨a1, a2, a3, a4⟩ := h
    refine ⟨a1, a2, a3.trans (List.take_prefix _ _), ?_⟩
    rw [List.length_take] at a4
    omega
  have h2 := told_back st b [] hw
  rw [List.append_nil] at h2
  obtain ⟨rfl, rfl⟩ := told_uniq h1 h2
  obtain ⟨_, _, _, a4⟩ := h
  have hpos : 0 < (aheadL st' (b.length : Int)).length := by unfold aheadL leadL; simp [httpL]
  simp only [List.length_take, List.length_append, Int.toNat_natCast] at a4
  omega
end Go.Proofs.YtlgfhbfdjckdnaaGreatDoor
