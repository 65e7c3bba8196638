/- Texts fused by fuse.py: ExprBindsP, ExprBrk, LExprBinds, FExprBinds. -/
import Derived.Test.YtbephgifbghilaaGreatDoorXBk
import Derived.Test.YtbephgifbghilaaGreatDoorXOpn
import Derived.Laws.Concat
import Derived.Test.YtbephgifbghilaaGreatDoorTie
import Derived.Test.YtbephgifbghilaaGreatDoorCards
import Derived.OpenShut
import Derived.ShutString
import Derived.ChangeOld
import Derived.SevenTiedAt
/- A text in brackets is read as it is alone (plain; seat expr). -/
set_option maxRecDepth 100000
namespace Go.Proofs.YtbephgifbghilaaGreatDoor
open Go.Lib

def Tk.up (d : Nat) : Tk → Tk | .fin a => .fin (a + d) | .nd n a => .nd n (a + d) | .say w a => .say w (a + d)
theorem span_app2 (p : Nat → Bool) (c : UInt8) (hc : p c.toNat = false) (v : List UInt8) : ∀ l : List UInt8, spanE p (l ++ c :: v) = spanE p l
  | [] => by show spanE p (c :: v) = 0; unfold spanE; rw [hc]; rfl
  | b :: r => by
    show spanE p (b :: (r ++ c :: v)) = spanE p (b :: r)
    unfold spanE
    rw [span_app2 p c hc v r]
theorem take_app2 {l v : List UInt8} {n : Nat} (h : n ≤ l.length) : (l ++ v).take n = l.take n := by rw [List.take_append_of_le_length h]
def RelT (d : Nat) (x y : Rs (Tk × Nat)) : Prop := match x with
  | .ok (tk, j) => y = .ok (tk.up d, j + d)
  | .error _ => ∃ e, y = .error e
theorem tok_emb {b : UInt8} {r : List UInt8} (hb : b ≠ 39) (v : List UInt8) (a d : Nat) : RelT d (tokE (b :: r) a) (tokE ((b :: r) ++ 41 :: v) (a + d)) := by
  show RelT d _ (tokE (b :: (r ++ 41 :: v)) (a + d))
  have s1 : spanE digE (b :: (r ++ 41 :: v)) = spanE digE (b :: r) := span_app2 digE 41 rfl v (b :: r)
  have s2 : spanE inNm (b :: (r ++ 41 :: v)) = spanE inNm (b :: r) := span_app2 inNm 41 rfl v (b :: r)
  have t1 : (b :: (r ++ 41 :: v)).take (spanE digE (b :: r)) = (b :: r).take (spanE digE (b :: r)) := take_app2 (l := b :: r) (spanE_le' _ _)
  have t2 : (b :: (r ++ 41 :: v)).take (spanE inNm (b :: r)) = (b :: r).take (spanE inNm (b :: r)) := take_app2 (l := b :: r) (spanE_le' _ _)
  have t3 : (if 1 < (b :: (r ++ 41 :: v)).length ∧ (signL ((b :: (r ++ 41 :: v)).take 2)).isSome then (b :: (r ++ 41 :: v)).take 2 else (b :: (r ++ 41 :: v)).take 1) = (if 1 < (b :: r).length ∧ (signL ((b :: r).take 2)).isSome then (b :: r).take 2 else (b :: r).take 1) := by
    have e : (signL [b, 41]).isSome = false := by unfold signL; simp
    cases r with
    | nil =>
      rw [if_neg (by rintro ⟨_, h⟩; have h' : (signL [b, 41]).isSome = true := h; rw [e] at h'; cases h'), if_neg (by simp)]
      rfl
    | cons c r => 
      have e1 : (b :: (c :: r ++ 41 :: v)).take 2 = [b, c] := rfl
      have e2 : (b :: c :: r).take 2 = [b, c] := rfl
      have e3 : (b :: (c :: r ++ 41 :: v)).take 1 = [b] := rfl
      have e4 : (b :: c :: r).take 1 = [b] := rfl
      have l1 : 1 < (b :: (c :: r ++ 41 :: v)).length := by simp
      have l2 : 1 < (b :: c :: r).length := by simp
      rw [e1, e2, e3, e4]
      by_cases hq : (signL [b, c]).isSome = true
      · exact (if_pos ⟨l1, hq⟩).trans (if_pos ⟨l2, hq⟩).symm
      · exact (if_neg (fun h => hq h.2)).trans (if_neg (fun h => hq h.2)).symm
  unfold tokE
  simp only
  rw [s1, s2, t1, t2, t3]
  by_cases hd : digE b.toNat = true
  · rw [if_pos hd, if_pos hd]
    split
    · exact ⟨_, rfl⟩
    · split
      · exact ⟨_, rfl⟩
      · show _ = _
        rw [Nat.add_right_comm]
        rfl
  · rw [if_neg hd, if_neg hd]
    by_cases hl : letE b.toNat = true
    · rw [if_pos hl, if_pos hl]
      split
      · show _ = _
        rw [Nat.add_right_comm]
        rfl
      · split
        · show _ = _
          rw [Nat.add_right_comm]
          rfl
        · split
          · show _ = _
            rw [Nat.add_right_comm]
            rfl
          · split
            · show _ = _
              rw [Nat.add_right_comm]
              rfl
            · exact ⟨_, rfl⟩
    · rw [if_neg hl, if_neg hl, if_neg hb, if_neg hb]
      generalize (if 1 < (b :: r).length ∧ (signL ((b :: r).take 2)).isSome then (b :: r).take 2 else (b :: r).take 1) = w
      split
      · show _ = _
        rw [Nat.add_right_comm]
        rfl
      · exact ⟨_, rfl⟩
theorem textE_app (v : List UInt8) : ∀ (i : Nat) (acc l t : List UInt8) (n : Nat), textE i acc l = some (t, n) → textE i acc (l ++ 41 :: v) = some (t, n) := by
  intro i acc l t n h
  fun_induction textE i acc l with
  | case1 => cases h
  | case2 i acc => rw [← h]; exact textE_e i acc (v := 41 :: v) (by simp)
  | case3 i acc r ih => show textE i acc (39 :: 39 :: (r ++ 41 :: v)) = _; rw [textE_q]; exact ih h
  | case4 i acc c r hne =>
    rw [← h]
    show textE i acc (39 :: c :: (r ++ 41 :: v)) = _
    exact textE_e i acc (by intro e; injection e with e; exact hne e)
  | case5 i acc c r h1 h2 h3 ih =>
    have hc : c ≠ 39 := by
      rintro rfl
      cases r with
      | nil => exact h1 rfl rfl
      | cons d r =>
        exact h3 d r rfl rfl
    show textE i acc (c :: (r ++ 41 :: v)) = _
    rw [textE_o _ _ hc]
    exact ih h
theorem tok_embq {r : List UInt8} (v : List UInt8) (a d : Nat) {tk : Tk} {j : Nat} (h : tokE (39 :: r) a = .ok (tk, j)) : tokE ((39 :: r) ++ 41 :: v) (a + d) = .ok (tk.up d, j + d) := by
  show tokE (39 :: (r ++ 41 :: v)) (a + d) = _
  unfold tokE at h ⊢
  simp only at h ⊢
  rw [if_neg (by decide), if_neg (by decide), if_pos (by trivial)] at h ⊢
  simp only [List.tail_cons] at h ⊢
  split at h
  · cases h
  · next t n ht =>
    rw [textE_app v _ _ _ _ _ ht]
    simp only
    split at h
    · next hv =>
      rw [if_pos hv]
      injection h with h
      injection h with e1 e2
      subst e1 e2
      rw [Nat.add_right_comm]
      rfl
    · cases h

/-- Where the text stands within the other: behind d bytes; the bracket that closes it follows. -/
structure Emb (b : Bool) (S C : List UInt8) (d : Nat) (v : List UInt8) : Prop where
  hS : S.length ≤ 1000
  hC : C.length ≤ 1000
  dr : C.drop d = S ++ 41 :: v
  quo : b = true → ∀ c ∈ S, c ≠ 39 ∧ c ≠ 40 ∧ c ≠ 41
def Sim (S : List UInt8) (d : Nat) (st st' : Tk × Nat) : Prop := match st.1 with
  | .fin _ => st' = (.say [41] (d + S.length), d + S.length + 1)
  | t => st' = (t.up d, st.2 + d)
def RelN (b : Bool) (S : List UInt8) (d : Nat) (x y : Rs (Tk × Nat)) : Prop := match x with
  | .ok st => ∃ st', y = .ok st' ∧ Sim S d st st'
  | .error _ => b = true → ∃ e, y = .error e
theorem dropW_app (v : List UInt8) : ∀ l : List UInt8, (l.dropWhile (· == 32) ≠ [] → (l ++ 41 :: v).dropWhile (· == 32) = l.dropWhile (· == 32) ++ 41 :: v) ∧ (l.dropWhile (· == 32) = [] → (l ++ 41 :: v).dropWhile (· == 32) = 41 :: v)
  | [] => ⟨fun h => absurd rfl h, fun _ => rfl⟩
  | c :: r => by
    obtain ⟨h1, h2⟩ := dropW_app v r
    show (_ → List.dropWhile _ (c :: (r ++ 41 :: v)) = _) ∧ (_ → List.dropWhile _ (c :: (r ++ 41 :: v)) = _)
    rw [List.dropWhile_cons, List.dropWhile_cons]
    by_cases hc : (c == 32) = true
    · rw [if_pos hc, if_pos hc]; exact ⟨h1, h2⟩
    · rw [if_neg hc, if_neg hc]
      exact ⟨fun _ => rfl, fun h => by cases h⟩
theorem mem_dropW {l : List UInt8} {c : UInt8} (h : c ∈ l.dropWhile (· == 32)) : c ∈ l := (List.dropWhile_sublist _).subset h
theorem emb_next {b : Bool} {S C : List UInt8} {d : Nat} {v : List UInt8} (E : Emb b S C d v) {i : Nat} (hi : i ≤ S.length) : RelN b S d (nextE S i) (nextE C (i + d)) := by
  have hlen := congrArg List.length E.dr
  rw [List.length_drop, List.length_append, List.length_cons] at hlen
  have hdr : C.drop (i + d) = S.drop i ++ 41 :: v := by
    rw [Nat.add_comm, ← List.drop_drop, E.dr, List.drop_append_of_le_length hi]
  have hdl := dropWhile_le (· == 32) (S.drop i)
  rw [List.length_drop] at hdl
  obtain ⟨h1, h2⟩ := dropW_app v (S.drop i)
  unfold nextE
  rw [hdr]
  by_cases he : (S.drop i).dropWhile (· == 32) = []
  · rw [h2 he, he]
    refine ⟨_, ?_, rfl⟩
    rw [tok_close]
    simp only [List.length_cons]
    have e : C.length - (v.length + 1) = d + S.length := by omega
    rw [e]
  · rw [h1 he]
    cases hr : (S.drop i).dropWhile (· == 32) with
    | nil => exact absurd hr he
    | cons c r =>
      rw [hr] at hdl
      have e : C.length - ((c :: r) ++ 41 :: v).length = S.length - (c :: r).length + d := by
        rw [List.length_append, List.length_cons (a := 41)]
        omega
      rw [e]
      by_cases hc : c = 39
      · subst hc
        cases hx : tokE (39 :: r) (S.length - (39 :: r).length) with
        | ok p =>
          obtain ⟨tk, j⟩ := p
          refine ⟨_, tok_embq v _ d hx, ?_⟩
          obtain ⟨h0, _⟩ | h0 := tokE_ok (by have := E.hS; omega) hx
          · cases h0
          · cases tk with
            | fin a => exact absurd h0.1 (by simp [isFin])
            | nd n a => rfl
            | say w a => rfl
        | error e =>
          intro hb
          exact absurd rfl (E.quo hb 39 (List.drop_subset i S (mem_dropW (by rw [hr]; exact List.mem_cons_self)))).1
      · have := tok_emb hc v (S.length - (c :: r).length) d (r := r)
        cases hx : tokE (c :: r) (S.length - (c :: r).length) with
        | ok p =>
          obtain ⟨tk, j⟩ := p
          rw [hx] at this
          refine ⟨_, this, ?_⟩
          obtain ⟨h0, _⟩ | h0 := tokE_ok (by have := E.hS; omega) hx
          · cases h0
          · cases tk with
            | fin a => exact absurd h0.1 (by simp [isFin])
            | nd n a => rfl
            | say w a => rfl
        | error e =>
          rw [hx] at this
          exact fun _ => this
def RelP (b : Bool) (S C : List UInt8) (d : Nat) (x y : Rs (Nd × (Tk × Nat))) : Prop := match x with
  | .ok (n, st) => ∃ st', y = .ok (n, st') ∧ Sim S d st st' ∧ StW C.length st'
  | .error _ => b = true → ∃ e, y = .error e
section
variable {b : Bool} {S C : List UInt8} {d : Nat} {v : List UInt8}
theorem relN_bind (E : Emb b S C d v) {i : Nat} (hi : i ≤ S.length) {k k' : Tk × Nat → Rs (Nd × (Tk × Nat))} (h : ∀ st st', nextE S i = .ok st → nextE C (i + d) = .ok st' → Sim S d st st' → StW C.length st' → RelP b S C d (k st) (k' st')) : RelP b S C d (nextE S i >>= k) (nextE C (i + d) >>= k') := by
  have hn := emb_next E hi
  have hlen := congrArg List.length E.dr
  rw [List.length_drop, List.length_append, List.length_cons] at hlen
  cases hx : nextE S i with
  | ok st =>
    rw [hx] at hn
    obtain ⟨st', hy, hs⟩ := hn
    rw [hy]
    exact h st st' hx hy hs (next_stw E.hC (by omega) hy)
  | error e =>
    rw [hx] at hn
    intro hb
    obtain ⟨e', he⟩ := hn hb
    rw [he]
    exact ⟨e', rfl⟩
theorem relP_bind {x y : Rs (Nd × (Tk × Nat))} (hr : RelP b S C d x y) {k k' : Nd × (Tk × Nat) → Rs (Nd × (Tk × Nat))} (h : ∀ n st st', x = .ok (n, st) → y = .ok (n, st') → Sim S d st st' → StW C.length st' → RelP b S C d (k (n, st)) (k' (n, st'))) : RelP b S C d (x >>= k) (y >>= k') := by
  cases x with
  | ok p =>
    obtain ⟨n, st⟩ := p
    obtain ⟨st', hy, hs, hw⟩ := hr
    rw [hy]
    exact h n st st' rfl hy hs hw
  | error e =>
    intro hb
    obtain ⟨e', he⟩ := hr hb
    rw [he]
    exact ⟨e', rfl⟩
theorem sim_sign {st st' : Tk × Nat} (h : Sim S d st st') : signT st.1 = signT st'.1 := by
  obtain ⟨tk, i⟩ := st
  cases tk with
  | fin a => obtain rfl := h; simp [signT, signL]
  | nd n a => obtain rfl := h; rfl
  | say w a => obtain rfl := h; rfl
theorem sim_at {st st' : Tk × Nat} (h : Sim S d st st') (hf : isFin st.1 = false) : st'.2 = st.2 + d ∧ sayOf st'.1 = sayOf st.1 := by
  obtain ⟨tk, i⟩ := st
  cases tk with
  | fin a => cases hf
  | nd n a => obtain rfl := h; exact ⟨rfl, rfl⟩
  | say w a => obtain rfl := h; exact ⟨rfl, rfl⟩
theorem sim_fin {st st' : Tk × Nat} (h : Sim S d st st') (hf : isFin st.1 = true) : st' = (.say [41] (d + S.length), d + S.length + 1) := by
  obtain ⟨tk, i⟩ := st
  cases tk with
  | fin a => exact h
  | nd n a => cases hf
  | say w a => cases hf
/-- A token's word is made of the text's bytes. -/
theorem tok_mem {rest : List UInt8} {a : Nat} {w : List UInt8} {p j : Nat} (h : tokE rest a = .ok (.say w p, j)) : ∀ c ∈ w, c ∈ rest := by
  unfold tokE at h
  split at h
  · injection h with h; injection h with h1 h2; cases h1
  · next b r =>
    split at h
    · simp only at h
      split at h
      · cases h
      · split at h
        · cases h
        · injection h with h; injection h with h1 h2; cases h1
    · split at h
      · simp only at h
        split at h
        · injection h with h; injection h with h1 h2; cases h1
        · split at h
          · injection h with h; injection h with h1 h2; cases h1
          · split at h
            · injection h with h; injection h with h1 h2; injection h1 with h1 _; subst h1
              exact fun c hc => List.mem_of_mem_take hc
            · split at h
              · injection h with h; injection h with h1 h2; cases h1
              · cases h
      · split at h
        · split at h
          · cases h
          · split at h
            · injection h with h; injection h with h1 h2; cases h1
            · cases h
        · simp only at h
          have hm : ∀ w : List UInt8, w = (if 1 < (b :: r).length ∧ (signL ((b :: r).take 2)).isSome then (b :: r).take 2 else (b :: r).take 1) → ∀ c ∈ w, c ∈ b :: r := by
            rintro w rfl c hc
            split at hc
            · exact List.mem_of_mem_take hc
            · exact List.mem_of_mem_take hc
          generalize hw : (if 1 < (b :: r).length ∧ (signL ((b :: r).take 2)).isSome then (b :: r).take 2 else (b :: r).take 1) = u at h
          split at h
          · injection h with h; injection h with h1 h2; injection h1 with h1 _; subst h1
            exact hm _ hw.symm
          · cases h
def TkN (b : Bool) (tk : Tk) : Prop := b = true → (sayOf tk).data.toList ≠ [40] ∧ (sayOf tk).data.toList ≠ [41]
theorem next_tkn (E : Emb b S C d v) {i : Nat} {st : Tk × Nat} (h : nextE S i = .ok st) : TkN b st.1 := by
  intro hb
  obtain ⟨tk, j⟩ := st
  unfold nextE at h
  cases tk with
  | fin a => exact ⟨by simp [sayOf], by simp [sayOf]⟩
  | nd n a => exact ⟨by simp [sayOf], by simp [sayOf]⟩
  | say w a =>
    have hm := tok_mem h
    have e : (sayOf (.say w a)).data.toList = w := rfl
    simp only [e]
    constructor
    · rintro rfl
      exact (E.quo hb 40 (List.drop_subset i S (mem_dropW (hm 40 (by simp))))).2.1 rfl
    · rintro rfl
      exact (E.quo hb 41 (List.drop_subset i S (mem_dropW (hm 41 (by simp))))).2.2 rfl
theorem prs_emb (E : Emb b S C d v) : ∀ (f : Nat) (m : Option Nd) (line : Nat) (st st' : Tk × Nat), StW S.length st → StW C.length st' → Sim S d st st' → (m = none → TkN b st.1) → mu S.length st < f → RelP b S C d (prsE S f m line st) (PS C m line st') := by
  intro f
  induction f with
  | zero => intro m line st st' _ _ _ _ h; omega
  | succ f IH =>
    intro m line st st' hw hw' hs ht hmu
    cases m with
    | none =>
      rw [prs_first, PS_none E.hC line hw']
      have key : RelP b S C d (firstE S f line st) (firstP C line st') := by
        have hah : ∀ op ln, isFin st.1 = false → RelP b S C d (aheadE S f op ln st) (nextE C st'.2 >>= fun st1 => PS C none ln st1 >>= fun r => .ok (oneN op r.1, r.2)) := by
          intro op ln hf
          rw [ahead_is, (sim_at hs hf).1]
          refine relN_bind E hw.1 fun st1 st1' g1 g1' hs1 hw1 => ?_
          obtain ⟨a1, a2, a3, a4, a5⟩ := next_mu E.hS hw.1 hf g1
          refine relP_bind (IH none ln st1 st1' ⟨a2, a4, a5⟩ hw1 hs1 (fun _ => next_tkn E g1) (by omega)) fun n st2 st2' _ _ hs2 hw2 => ?_
          exact ⟨st2', rfl, hs2, hw2⟩
        cases hfin : isFin st.1 with
        | true =>
          have hx := sim_fin hs hfin
          have e : (sayOf st.1).data.toList = [] := by
            obtain ⟨tk, i⟩ := st
            cases tk with
            | fin a => rfl
            | nd n a => cases hfin
            | say w a => cases hfin
          have hS : ∃ e, firstE S f line st = .error e := by
            unfold firstE
            rw [e, if_neg (by rintro ⟨h, _⟩; cases h), if_neg (by decide), if_neg (by decide)]
            unfold atomE
            obtain ⟨tk, i⟩ := st
            cases tk with
            | fin a => exact ⟨_, rfl⟩
            | nd n a => cases hfin
            | say w a => cases hfin
          obtain ⟨e', he'⟩ := hS
          rw [he']
          intro _
          rw [hx]
          have e2 : (sayOf (.say [41] (d + S.length))).data.toList = [41] := rfl
          unfold firstP firstE
          simp only [e2]
          rw [if_neg (by rintro ⟨h, _⟩; revert h; decide), if_neg (by decide), if_neg (by decide)]
          exact ⟨_, rfl⟩
        | false =>
          have hsay := (sim_at hs hfin).2
          unfold firstP firstE
          rw [hsay]
          by_cases h1 : (sayOf st.1).data.toList = [110, 111, 116] ∧ line ≤ 3
          · rw [if_pos h1, if_pos h1]; exact hah 3 3 hfin
          rw [if_neg h1, if_neg h1]
          by_cases h2 : (sayOf st.1).data.toList = [45]
          · rw [if_pos h2, if_pos h2]; exact hah 4 7 hfin
          rw [if_neg h2, if_neg h2]
          by_cases h3 : (sayOf st.1).data.toList = [40]
          · rw [if_pos h3, if_pos h3, brackE_is, brackE_is, (sim_at hs hfin).1]
            refine relN_bind E hw.1 fun st1 st1' g1 g1' hs1 hw1 => ?_
            obtain ⟨a1, a2, a3, a4, a5⟩ := next_mu E.hS hw.1 hfin g1
            refine relP_bind (IH none 1 st1 st1' ⟨a2, a4, a5⟩ hw1 hs1 (fun _ => next_tkn E g1) (by omega)) fun n st2 st2' e2 _ hs2 hw2 => ?_
            obtain ⟨b1, b2, b3⟩ := prs_mu E.hS f none 1 st1 n st2 ⟨a2, a4, a5⟩ e2
            simp only
            by_cases h41 : (sayOf st2.1).data.toList = [41]
            · have hf2 := fin_say (st := st2) (by rw [h41]; decide)
              obtain ⟨q1, q2⟩ := sim_at hs2 hf2
              rw [tailE_yes h41, tailE_yes (by rw [q2]; exact h41), q1]
              refine relN_bind E b1.1 fun st3 st3' _ _ hs3 hw3 => ⟨st3', rfl, hs3, hw3⟩
            · rw [tailE_no h41]
              intro hb
              exact absurd h3 (ht rfl hb).1
          rw [if_neg h3, if_neg h3]
          unfold atomE
          obtain ⟨tk, i⟩ := st
          cases tk with
          | fin a => cases hfin
          | nd n a =>
            obtain rfl := hs
            refine relN_bind E hw.1 fun st3 st3' _ _ hs3 hw3 => ⟨st3', rfl, hs3, hw3⟩
          | say w a =>
            obtain rfl := hs
            exact fun _ => ⟨_, rfl⟩
      refine relP_bind key fun n st1 st1' e1 _ hs1 hw1 => ?_
      obtain ⟨b1, b2⟩ := first_mu E.hS hw e1
      exact IH (some n) line st1 st1' b1 hw1 hs1 (fun h => by cases h) (by omega)
    | some q =>
      rw [prs_some, PS_some E.hC q line hw', ← sim_sign hs]
      cases hsg : signT st.1 with
      | none => exact ⟨st', rfl, hs, hw'⟩
      | some p =>
        obtain ⟨op, ln⟩ := p
        simp only
        split
        · exact ⟨st', rfl, hs, hw'⟩
        · have hfin := signT_fin hsg
          rw [step_is, (sim_at hs hfin).1]
          simp only [bind_assoc']
          refine relN_bind E hw.1 fun st1 st1' g1 g1' hs1 hw1 => ?_
          obtain ⟨a1, a2, a3, a4, a5⟩ := next_mu E.hS hw.1 hfin g1
          refine relP_bind (IH none (ln + 1) st1 st1' ⟨a2, a4, a5⟩ hw1 hs1 (fun _ => next_tkn E g1) (by omega)) fun n st2 st2' e2 _ hs2 hw2 => ?_
          obtain ⟨b1, b2, b3⟩ := prs_mu E.hS f none _ st1 n st2 ⟨a2, a4, a5⟩ e2
          show RelP b S C d (if chainB ln st2.1 = true then _ else _) (if chainB ln st2'.1 = true then _ else _)
          have hch : chainB ln st2'.1 = chainB ln st2.1 := by unfold chainB; rw [sim_sign hs2]
          rw [hch]
          split
          · exact fun _ => ⟨_, rfl⟩
          · exact IH (some _) line st2 st2' b1 hw2 hs2 (fun h => by cases h) (by omega)
end
theorem prs_tok {s : List UInt8} (P : Tk → Prop) (hP : ∀ i st, nextE s i = .ok st → P st.1) : ∀ (f : Nat) (m : Option Nd) (line : Nat) (st : Tk × Nat) (n : Nd) (st' : Tk × Nat), P st.1 → prsE s f m line st = .ok (n, st') → P st'.1 := by
  intro f
  induction f with
  | zero => intro m line st n st' _ h; unfold prsE at h; cases h
  | succ f IH =>
    intro m line st n st' ht h
    cases m with
    | none =>
      rw [prs_first] at h
      obtain ⟨⟨q, st1⟩, h1, h⟩ := bind_ok h
      have key : P st1.1 := by
        have hah : ∀ op ln, aheadE s f op ln st = .ok (q, st1) → P st1.1 := by
          intro op ln h1
          rw [ahead_is] at h1
          obtain ⟨st2, g1, h1⟩ := bind_ok h1
          obtain ⟨⟨a, st3⟩, g2, h1⟩ := bind_ok h1
          injection h1 with h1
          injection h1 with e1 e2
          subst e1 e2
          exact IH none ln st2 a st3 (hP _ _ g1) g2
        unfold firstE at h1
        split at h1
        · exact hah 3 3 h1
        · split at h1
          · exact hah 4 7 h1
          · split at h1
            · rw [brackE_is] at h1
              obtain ⟨st2, g1, h1⟩ := bind_ok h1
              obtain ⟨⟨a, st3⟩, g2, h1⟩ := bind_ok h1
              simp only at h1
              by_cases h41 : (sayOf st3.1).data.toList = [41]
              · rw [tailE_yes h41] at h1
                obtain ⟨st4, g3, h1⟩ := bind_ok h1
                injection h1 with h1
                injection h1 with e1 e2
                subst e1 e2
                exact hP _ _ g3
              · rw [tailE_no h41] at h1
                cases h1
            · unfold atomE at h1
              split at h1
              · obtain ⟨st2, g1, h1⟩ := bind_ok h1
                injection h1 with h1
                injection h1 with e1 e2
                subst e1 e2
                exact hP _ _ g1
              · cases h1
      exact IH (some q) line st1 n st' key h
    | some q =>
      rw [prs_some] at h
      cases hsg : signT st.1 with
      | none =>
        rw [hsg] at h
        injection h with h
        injection h with e1 e2
        subst e1 e2
        exact ht
      | some p =>
        obtain ⟨op, ln⟩ := p
        rw [hsg] at h
        simp only at h
        split at h
        · injection h with h
          injection h with e1 e2
          subst e1 e2
          exact ht
        · obtain ⟨⟨r, st2⟩, g, h⟩ := bind_ok h
          rw [step_is] at g
          obtain ⟨st3, g1, g⟩ := bind_ok g
          obtain ⟨⟨b, st4⟩, g2, g⟩ := bind_ok g
          injection g with g
          injection g with e1 e2
          subst e1 e2
          have c2 := IH none _ st3 b st4 (hP _ _ g1) g2
          simp only at h
          split at h
          · cases h
          · exact IH (some _) line st4 n st' c2 h
section
variable {S C : List UInt8} {d p : Nat} {v : List UInt8} {line : Nat}
theorem brk_yes {b : Bool} (E : Emb b S C d v) (hS : S.length ≤ 256) {a : Nd} (h : parseE S = .ok a) (hw : StW C.length (.say [40] p, d)) : PS C none line (.say [40] p, d) = (nextE C (d + S.length + 1) >>= fun st3 => PS C (some a) line st3) := by
  rw [parse_ps hS] at h
  obtain ⟨⟨q, st1⟩, h1, h⟩ := bind_ok h
  obtain ⟨st, g1, g2⟩ := bind_ok h1
  simp only at h
  have hfin : isFin st1.1 = true ∧ q = a := by
    split at h
    · next e => injection h with h; rw [e]; exact ⟨rfl, h⟩
    · cases h
  obtain ⟨hfin, rfl⟩ := hfin
  have hn := emb_next E (Nat.zero_le _)
  rw [g1] at hn
  obtain ⟨st', hy, hs⟩ := hn
  have hlen := congrArg List.length E.dr
  rw [List.length_drop, List.length_append, List.length_cons] at hlen
  have hw1 := next_stw E.hS (Nat.zero_le _) g1
  have hw1' := next_stw E.hC (by omega) hy
  have hr := prs_emb E (2 * S.length + 10) none 1 st st' hw1 hw1' hs (fun _ => next_tkn E g1) (by have := mu_le S st; omega)
  have g2' : prsE S (2 * S.length + 10) none 1 st = .ok (q, st1) := g2
  rw [g2'] at hr
  obtain ⟨st2', hy2, hs2, hw2⟩ := hr
  rw [sim_fin hs2 hfin] at hy2
  rw [Nat.zero_add] at hy
  rw [PS_none E.hC line hw, firstP_brack, hy]
  show ((PS C none 1 st' >>= fun r => tailE C r.1 r.2) >>= _) = _
  rw [hy2]
  show (tailE C q (.say [41] (d + S.length), d + S.length + 1) >>= fun r => PS C (some r.1) line r.2) = _
  rw [tailE_yes rfl, bind_assoc']
  rfl
theorem brk_no (E : Emb true S C d v) (hS : S.length ≤ 256) {e : Int × Nat} (h : parseE S = .error e) (hw : StW C.length (.say [40] p, d)) : ∃ e', PS C none line (.say [40] p, d) = .error e' := by
  rw [PS_none E.hC line hw, firstP_brack]
  have hlen := congrArg List.length E.dr
  rw [List.length_drop, List.length_append, List.length_cons] at hlen
  have hn := emb_next E (Nat.zero_le _)
  rw [Nat.zero_add] at hn
  rw [parse_ps hS] at h
  rcases bind_err h with h | ⟨⟨q, st1⟩, h1, h⟩
  · rcases bind_err h with h | ⟨st, g1, h⟩
    · rw [h] at hn
      obtain ⟨e', he⟩ := hn rfl
      rw [he]
      exact ⟨e', rfl⟩
    · rw [g1] at hn
      obtain ⟨st', hy, hs⟩ := hn
      have hw1 := next_stw E.hS (Nat.zero_le _) g1
      have hw1' := next_stw E.hC (by omega) hy
      have hr := prs_emb E (2 * S.length + 10) none 1 st st' hw1 hw1' hs (fun _ => next_tkn E g1) (by have := mu_le S st; omega)
      have h' : prsE S (2 * S.length + 10) none 1 st = .error e := h
      rw [h'] at hr
      obtain ⟨e', he⟩ := hr rfl
      rw [hy]
      show ∃ e', ((PS C none 1 st' >>= fun r => tailE C r.1 r.2) >>= _) = _
      rw [he]
      exact ⟨e', rfl⟩
  · obtain ⟨st, g1, g2⟩ := bind_ok h1
    rw [g1] at hn
    obtain ⟨st', hy, hs⟩ := hn
    have hw1 := next_stw E.hS (Nat.zero_le _) g1
    have hw1' := next_stw E.hC (by omega) hy
    have hr := prs_emb E (2 * S.length + 10) none 1 st st' hw1 hw1' hs (fun _ => next_tkn E g1) (by have := mu_le S st; omega)
    have g2' : prsE S (2 * S.length + 10) none 1 st = .ok (q, st1) := g2
    have ht := prs_tok (TkN true) (fun i st h => next_tkn E h) _ none 1 st q st1 (next_tkn E g1) g2'
    rw [g2'] at hr
    obtain ⟨st2', hy2, hs2, hw2⟩ := hr
    have hfin : isFin st1.1 = false := by
      simp only at h
      split at h
      · cases h
      · next hx =>
        obtain ⟨tk, i⟩ := st1
        cases tk with
        | fin a => exact absurd rfl (hx a)
        | nd n a => rfl
        | say w a => rfl
    rw [hy]
    show ∃ e', ((PS C none 1 st' >>= fun r => tailE C r.1 r.2) >>= _) = _
    rw [hy2]
    show ∃ e', (tailE C q st2' >>= fun r => PS C (some r.1) line r.2) = _
    rw [tailE_no (by rw [(sim_at hs2 hfin).2]; exact (ht rfl).2)]
    exact ⟨_, rfl⟩
end
/-- Two conditions in brackets around a sign. -/
def joinC (S w T : List UInt8) : List UInt8 := 40 :: (S ++ 41 :: (w ++ 40 :: (T ++ [41])))
def noBr (S : List UInt8) : Prop := ∀ c ∈ S, c ≠ 39 ∧ c ≠ 40 ∧ c ≠ 41
section
variable {S T w : List UInt8} {op : Int} {ln : Nat} (hS : S.length ≤ 100) (hT : T.length ≤ 100) (hx : signX op = some (w, ln))
theorem join_len : (joinC S w T).length = S.length + w.length + T.length + 4 := by
  unfold joinC
  simp only [List.length_append, List.length_cons, List.length_nil]
  omega
theorem sgn_len {op : Int} {x : List UInt8} {ln : Nat} (h : signX op = some (x, ln)) : x.length ≤ 3 := by
  unfold signX at h
  repeat (rcases ite_some h with h | h; · (injection h with h1 h2; subst h1 h2; simp))
  cases h
include hS hT hx in
theorem emb_one (b : Bool) (hb : b = true → noBr S) : Emb b S (joinC S w T) 1 (w ++ 40 :: (T ++ [41])) := by
  have := sgn_len hx
  exact ⟨by omega, by rw [join_len]; omega, rfl, hb⟩
include hS hT hx in
theorem emb_two (b : Bool) (hb : b = true → noBr T) : Emb b T (joinC S w T) (S.length + w.length + 3) [] := by
  have := sgn_len hx
  refine ⟨by omega, by rw [join_len]; omega, ?_, hb⟩
  have e : joinC S w T = (40 :: (S ++ 41 :: (w ++ [40]))) ++ (T ++ [41]) := by unfold joinC; simp
  rw [e]
  have hl : S.length + w.length + 3 = (40 :: (S ++ 41 :: (w ++ [40]))).length := by
    simp only [List.length_append, List.length_cons, List.length_nil]
    omega
  rw [hl, List.drop_left]
include hS hT hx in
theorem join_open : nextE (joinC S w T) 0 = .ok (.say [40] 0, 1) ∧ StW (joinC S w T).length (.say [40] 0, 1) := by
  have h : nextE (joinC S w T) 0 = .ok (.say [40] 0, 1) := (nx_at (s := joinC S w T) (i := 0) (c := 40) (u := S ++ 41 :: (w ++ 40 :: (T ++ [41]))) rfl (by decide)).trans (tok_open _ 0)
  have := sgn_len hx
  exact ⟨h, next_stw (by rw [join_len]; omega) (Nat.zero_le _) h⟩
include hS hT hx in
theorem join_sign : nextE (joinC S w T) (1 + S.length + 1) = .ok (.say w (S.length + 2), S.length + 2 + w.length) ∧ StW (joinC S w T).length (.say w (S.length + 2), S.length + 2 + w.length) ∧
    nextE (joinC S w T) (S.length + 2 + w.length) = .ok (.say [40] (S.length + 2 + w.length), S.length + w.length + 3) ∧ StW (joinC S w T).length (.say [40] (S.length + 2 + w.length), S.length + w.length + 3) := by
  have hl := sgn_len hx
  have hC : (joinC S w T).length ≤ 1000 := by rw [join_len]; omega
  have d1 : (joinC S w T).drop (S.length + 2) = w ++ 40 :: (T ++ [41]) := by
    have e : joinC S w T = (40 :: (S ++ [41])) ++ (w ++ 40 :: (T ++ [41])) := by unfold joinC; simp
    rw [e, show S.length + 2 = (40 :: (S ++ [41])).length by simp, List.drop_left]
  have d2 : (joinC S w T).drop (S.length + 2 + w.length) = 40 :: (T ++ [41]) := drop_at d1
  obtain ⟨c, r, hcr, hc⟩ := sign_head (signL_of hx)
  have d1' : (joinC S w T).drop (S.length + 2) = c :: (r ++ 40 :: (T ++ [41])) := by rw [d1, hcr]; rfl
  have h1 : nextE (joinC S w T) (1 + S.length + 1) = .ok (.say w (S.length + 2), S.length + 2 + w.length) := by
    rw [show 1 + S.length + 1 = S.length + 2 by omega, nx_at d1' hc]
    have := tok_sign hx (.inr rfl) (T ++ [41]) (S.length + 2)
    rw [← this, hcr]
    rfl
  have h2 : nextE (joinC S w T) (S.length + 2 + w.length) = .ok (.say [40] (S.length + 2 + w.length), S.length + w.length + 3) := by
    rw [nx_at d2 (by decide), tok_open]
    congr 2
    omega
  exact ⟨h1, next_stw hC (by rw [join_len]; omega) h1, h2, next_stw hC (by rw [join_len]; omega) h2⟩
theorem join_end : nextE (joinC S w T) (S.length + w.length + 3 + T.length + 1) = .ok (.fin (joinC S w T).length, (joinC S w T).length) := by
  refine nx_end ?_
  rw [List.drop_eq_nil_iff, join_len]
  omega
include hS hT hx in
theorem join_yes {a b : Nd} (ha : parseE S = .ok a) (hb : parseE T = .ok b) : parseE (joinC S w T) = .ok (twoN op a b) := by
  have hl := sgn_len hx
  have hC : (joinC S w T).length ≤ 1000 := by rw [join_len]; omega
  obtain ⟨o1, o2⟩ := join_open hS hT hx
  obtain ⟨s1, s2, s3, s4⟩ := join_sign hS hT hx
  have e1 := join_end (S := S) (T := T) (w := w)
  have E1 := emb_one hS hT hx false (fun h => by cases h)
  have E2 := emb_two hS hT hx false (fun h => by cases h)
  have hsg : signT (Tk.say w (S.length + 2)) = some (op, ln) := signL_of hx
  have hln := (sign_op (signL_of hx)).2.2.1
  have hw : StW (joinC S w T).length (.fin (joinC S w T).length, (joinC S w T).length) := ⟨Nat.le_refl _, Nat.le_refl _, trivial⟩
  rw [parse_ps (by rw [join_len]; omega), o1]
  show (PS (joinC S w T) none 1 (.say [40] 0, 1) >>= _) = _
  rw [brk_yes E1 (by omega) ha o2, s1]
  show (PS (joinC S w T) (some a) 1 _ >>= _) = _
  rw [PS_some hC a 1 s2]
  simp only [hsg]
  rw [if_neg (by omega), s3]
  show ((PS (joinC S w T) none (ln + 1) _ >>= _) >>= _) = _
  rw [brk_yes E2 (by omega) hb s4, e1]
  show (((PS (joinC S w T) (some b) (ln + 1) (.fin (joinC S w T).length, (joinC S w T).length)) >>= fun r => if chainB ln r.2.1 then .error (4, r.2.1.at_) else PS (joinC S w T) (some (twoN op a r.1)) 1 r.2) >>= fun r => match r.2.1 with
    | .fin _ => .ok r.1
    | t => .error (4, t.at_)) = _
  rw [PS_stop hC b (ln + 1) hw (fun op q h => by cases h)]
  show ((if chainB ln (Tk.fin _) = true then _ else PS (joinC S w T) (some (twoN op a b)) 1 _) >>= _) = _
  rw [chain_no (fun op q h => by cases h), if_neg (by decide), PS_stop hC _ 1 hw (fun op q h => by cases h)]
  rfl
include hS hT hx in
theorem join_no (h1 : noBr S) (h2 : noBr T) (h : (∃ e, parseE S = .error e) ∨ ∃ e, parseE T = .error e) : ∃ e, parseE (joinC S w T) = .error e := by
  have hl := sgn_len hx
  have hC : (joinC S w T).length ≤ 1000 := by rw [join_len]; omega
  obtain ⟨o1, o2⟩ := join_open hS hT hx
  obtain ⟨s1, s2, s3, s4⟩ := join_sign hS hT hx
  have E1 := emb_one hS hT hx true (fun _ => h1)
  have E2 := emb_two hS hT hx true (fun _ => h2)
  have hsg : signT (Tk.say w (S.length + 2)) = some (op, ln) := signL_of hx
  have hln := (sign_op (signL_of hx)).2.2.1
  rw [parse_ps (by rw [join_len]; omega), o1]
  show ∃ e, (PS (joinC S w T) none 1 (.say [40] 0, 1) >>= _) = _
  cases ha : parseE S with
  | error e =>
    obtain ⟨e', he⟩ := brk_no E1 (by omega) ha o2 (line := 1)
    rw [he]
    exact ⟨e', rfl⟩
  | ok a =>
    rcases h with ⟨e, he⟩ | ⟨e, he⟩
    · rw [ha] at he; cases he
    · rw [brk_yes E1 (by omega) ha o2, s1]
      show ∃ e, (PS (joinC S w T) (some a) 1 _ >>= _) = _
      rw [PS_some hC a 1 s2]
      simp only [hsg]
      rw [if_neg (by omega), s3]
      obtain ⟨e', he'⟩ := brk_no E2 (by omega) he s4 (line := ln + 1)
      show ∃ e, ((PS (joinC S w T) none (ln + 1) _ >>= _) >>= _) = _
      rw [he']
      exact ⟨e', rfl⟩
end
end Go.Proofs.YtbephgifbghilaaGreatDoor

/- The law's brackets: are there any, or a text's sign? (seat expr) -/
set_option maxRecDepth 100000
namespace Go.Proofs.YtbephgifbghilaaGreatDoor
open Go.RowKit

def isBr (c : UInt8) : Bool := (c.toNat == 40) || ((c.toNat == 41) || (c.toNat == 39))
def brB (s : ByteArray) : Bool := s.data.toList.any isBr
theorem brB_no {s : ByteArray} (h : brB s = false) : noBr s.data.toList := by
  intro c hc
  unfold brB at h
  rw [List.any_eq_false] at h
  have h1 := h c hc
  unfold isBr at h1
  simp only [Bool.or_eq_true, beq_iff_eq] at h1
  refine ⟨?_, ?_, ?_⟩ <;> rintro rfl <;> exact h1 (by decide)
set_option maxHeartbeats 2000000 in
theorem brackets_any (w : World) (s : ByteArray) (hs : s.size ≤ 140737488355328) : Calls Tryz.prog 16 #[.string s] w fun e w' => e = .returned (.bool (brB s)) ∧ Below w.heap.size w w' := by
  have hsz : s.data.toList.length = s.size := rfl
  go_enter Tryz.func16, Tryz.ntmps16
  go_wp2_with fail
  go_loopg [3] s.size (fun g s3 wr => ∃ k : Nat, k + g = s.size ∧ s3 = .int .i64 (k : Int) ∧ Hid (∀ j (h : j < s.size), j < k → isBr s[j] = false) ∧ w = wr)
  case atStart => exact ⟨0, by omega, rfl, Lib.hid (fun j h hj => by omega), rfl⟩
  case round =>
    obtain ⟨k, hkg, rfl, hall, rfl⟩ := hrel
    by_cases hlt : k < s.size
    · have u1 : decide ((k : Int) < (s.size : Int)) = true := decide_eq_true (by omega)
      have u1' : decide (k < s.size) = true := decide_eq_true hlt
      obtain ⟨x, hx⟩ : ∃ x, s[k].toNat = x := ⟨_, rfl⟩
      have hbr : isBr s[k] = ((x == 40) || ((x == 41) || (x == 39))) := by unfold isBr; rw [hx]
      by_cases h40 : x = 40 ∨ x = 41 ∨ x = 39
      · have Hf : Hid (true = brB s) := Lib.hid (by
          symm
          unfold brB
          rw [List.any_eq_true]
          refine ⟨s[k], List.mem_iff_getElem.2 ⟨k, hlt, rfl⟩, ?_⟩
          rw [hbr]
          rcases h40 with h | h | h <;> subst h <;> rfl)
        have HX := Lib.hid hx
        clear hsz hbr
        rcases h40 with h | h | h
        · subst h
          go_wp2_with fail
          go_ret
          exact ⟨ret_bool Hf.out, Below.refl _ _⟩
        · subst h
          go_wp2_with fail
          go_ret
          exact ⟨ret_bool Hf.out, Below.refl _ _⟩
        · subst h
          go_wp2_with fail
          go_ret
          exact ⟨ret_bool Hf.out, Below.refl _ _⟩
      · have a1 : (x == 40) = false := beq_eq_false_iff_ne.2 (by omega)
        have a2 : (x == 41) = false := beq_eq_false_iff_ne.2 (by omega)
        have a3 : (x == 39) = false := beq_eq_false_iff_ne.2 (by omega)
        have b1 : ((x : Int) == 40) = false := beq_eq_false_iff_ne.2 (by omega)
        have b2 : ((x : Int) == 41) = false := beq_eq_false_iff_ne.2 (by omega)
        have b3 : ((x : Int) == 39) = false := beq_eq_false_iff_ne.2 (by omega)
        have hn : Hid (∀ j (h : j < s.size), j < k + 1 → isBr s[j] = false) := Lib.hid (fun j h hj => by
          by_cases e : j = k
          · subst e; rw [hbr, a1, a2, a3]; rfl
          · exact hall.out j h (by omega))
        clear hbr hsz
        go_wp2_with fail
        go_roundg (gk - 1)
        case measure => omega
        case rel => exact ⟨k + 1, by omega, by go_num, hn, rfl⟩
    · have u1 : decide ((k : Int) < (s.size : Int)) = false := decide_eq_false (by omega)
      have u1' : decide (k < s.size) = false := decide_eq_false hlt
      have Hf : Hid (false = brB s) := Lib.hid (by
        symm
        unfold brB
        rw [List.any_eq_false]
        intro x hx
        obtain ⟨j, hj, rfl⟩ := List.mem_iff_getElem.1 hx
        have : isBr s[j] = false := hall.out j hj (by have : j < s.size := hj; omega)
        have e : s.data.toList[j] = s[j] := rfl
        rw [e, this]
        exact Bool.false_ne_true)
      clear hsz
      go_wp2_with fail
      go_ret
      exact ⟨ret_bool Hf.out, Below.refl _ _⟩
end Go.Proofs.YtbephgifbghilaaGreatDoor

/- The law ExprBinds: what stands in brackets is read as it is alone, and binds by the table (the walk). -/
set_option maxRecDepth 100000
namespace Go.Proofs.YtbephgifbghilaaGreatDoor
open Go.RowKit

theorem cat_run10 (a b : ByteArray) (h : a.size + b.size ≤ 9223372036854775807) : ∃ c, Hid (c.data.toList = a.data.toList ++ b.data.toList) ∧ c.size ≤ a.size + b.size ∧ ∀ W : World, (Op.stringOp .add a b).run Tryz.prog W = .ok (.string c) W :=
  ⟨_, Lib.hid (by simp), Nat.le_of_eq ByteArray.size_append, fun W => run_string_add_sum W a b h⟩
def sgnTab : List ByteArray := [⟨#[97, 110, 100]⟩, ⟨#[111, 114]⟩, ⟨#[61]⟩, ⟨#[33, 61]⟩, ⟨#[60]⟩, ⟨#[60, 61]⟩, ⟨#[62]⟩, ⟨#[62, 61]⟩, ⟨#[43]⟩, ⟨#[45]⟩, ⟨#[42]⟩, ⟨#[47]⟩, ⟨#[37]⟩]
def sgnCells : Array Value := (sgnTab.map Value.string).toArray
theorem sgn_at {w : World} {p : Nat} {t : TypeId} {fr : Nat × Nat} (h : w.heap[p]? = some (.cells sgnCells t fr)) {k : Nat} (hk : k < 13) : ∃ (W : ByteArray) (ln : Nat), signX (5 + (k : Int)) = some (W.data.toList, ln) ∧ W.size ≤ 3 ∧ w.cell? ⟨p, k, none⟩ = some (.string W) := by
  obtain rfl | rfl | rfl | rfl | rfl | rfl | rfl | rfl | rfl | rfl | rfl | rfl | rfl : k = 0 ∨ k = 1 ∨ k = 2 ∨ k = 3 ∨ k = 4 ∨ k = 5 ∨ k = 6 ∨ k = 7 ∨ k = 8 ∨ k = 9 ∨ k = 10 ∨ k = 11 ∨ k = 12 := by omega
  · exact ⟨_, _, rfl, by decide, cell_of_block h 0⟩
  · exact ⟨_, _, rfl, by decide, cell_of_block h 1⟩
  · exact ⟨_, _, rfl, by decide, cell_of_block h 2⟩
  · exact ⟨_, _, rfl, by decide, cell_of_block h 3⟩
  · exact ⟨_, _, rfl, by decide, cell_of_block h 4⟩
  · exact ⟨_, _, rfl, by decide, cell_of_block h 5⟩
  · exact ⟨_, _, rfl, by decide, cell_of_block h 6⟩
  · exact ⟨_, _, rfl, by decide, cell_of_block h 7⟩
  · exact ⟨_, _, rfl, by decide, cell_of_block h 8⟩
  · exact ⟨_, _, rfl, by decide, cell_of_block h 9⟩
  · exact ⟨_, _, rfl, by decide, cell_of_block h 10⟩
  · exact ⟨_, _, rfl, by decide, cell_of_block h 11⟩
  · exact ⟨_, _, rfl, by decide, cell_of_block h 12⟩
def isErrE (r : Rs Nd) : Bool := match r with | .ok _ => false | .error _ => true
theorem parse_e (w : World) (hg : Gx w) (s : ByteArray) (hs : s.size ≤ 140737488355328) {u : Bool} (h : isErrE (parseE s.data.toList) = u) :
    Calls Tryz.prog 9 #[.string s] w fun e w' => ∃ m a c d p x, e = .returned (.tuple #[valN m (.slice a c d), .int .i64 p, .int .i64 x]) ∧ ((x : Int) != 0) = u ∧ Below w.heap.size w w' := by
  have := parse_any w hg.ga s hs
  cases hr : parseE s.data.toList with
  | ok n =>
    rw [hr] at this h
    refine this.mono ?_
    rintro e w' ⟨m, a, c, d, pos, err, rfl, hb, rfl, rfl, rfl, _, _⟩
    exact ⟨m, a, c, d, 0, 0, rfl, by rw [← h]; rfl, hb⟩
  | error p =>
    obtain ⟨x, p⟩ := p
    rw [hr] at this h
    refine this.mono ?_
    rintro e w' ⟨m, a, c, d, pos, err, rfl, hb, rfl, _, rfl, rfl, hE⟩
    exact ⟨_, a, c, d, _, _, rfl, by rw [← h]; exact bne_iff_ne.2 hE, hb⟩
theorem five_ways : ∀ u1 u2 u3 v1 v2 : Bool, (u1 = true ∨ u2 = true) → (u3 = true ∨ v1 = true ∨ v2 = true) → (u1 = true ∨ u1 = false ∧ u2 = true) ∧ (u3 = true ∨ u3 = false ∧ v1 = true ∨ u3 = false ∧ v1 = false ∧ v2 = true) := by decide
/-- What the last region reads. -/
abbrev EndS (p5 p7 p9 b o d : Nat) (N k m : Nd) (a1 : Option Addr) (c1 d1 : Nat) (a2 : Option Addr) (c2 d2 : Nat) (va vb : Value) (V : World) : Prop :=
  KidsS p9 b o d k m a1 c1 d1 a2 c2 d2 V ∧ V.cell? ⟨p9, 0, none⟩ = some (.int .u8 N.op) ∧ CellsN V p5 k va ∧ CellsN V p7 m vb
theorem br_is (w : World) (s : ByteArray) (hs : s.size ≤ 140737488355328) {t : Bool} (h : brB s = t) : Calls Tryz.prog 16 #[.string s] w fun e w' => e = .returned (.bool t) ∧ Below w.heap.size w w' := by
  rw [← h]; exact brackets_any w s hs
set_option maxHeartbeats 8000000 in
theorem exprBinds_walk (w : World) (hg : Gx w) (s : ByteArray) (hsz : s.size ≤ 140737488355328) (t : ByteArray) (htz : t.size ≤ 140737488355328) (x : Int) (hx : (Lit.int .u8 x).wf = true) : Calls Tryz.prog 5 #[.string s, .string t, .int .u8 x] w fun e w' => e = .returned (.bool true) ∧ Below w.heap.size w w' := by
  have HG := Lib.hid hg
  have HAW := Lib.hid (fun (W : World) (h : Below w.heap.size w W) => awake10_any W (hg.up h))
  have cur : Below w.heap.size w w := Below.refl _ _
  clear hg
  by_cases hs : s.size ≤ 100
  · have d1 : decide ((100 : Int) < (s.size : Int)) = false := decide_eq_false (by omega)
    have d1' : decide (100 < s.size) = false := decide_eq_false (by omega)
    by_cases ht : t.size ≤ 100
    · have d2 : decide ((100 : Int) < (t.size : Int)) = false := decide_eq_false (by omega)
      have d2' : decide (100 < t.size) = false := decide_eq_false (by omega)
      obtain ⟨k, hk, hxk⟩ : ∃ k : Nat, k < 13 ∧ x.tmod 13 = (k : Int) := by
        obtain ⟨x0, x1⟩ : 0 ≤ x ∧ x ≤ 255 := wf_u8 hx
        have h1 : 0 ≤ x.tmod 13 ∧ x.tmod 13 < 13 := ⟨Int.tmod_nonneg _ x0, Int.tmod_lt_of_pos _ (by omega)⟩
        exact ⟨(x.tmod 13).toNat, by omega, by omega⟩
      obtain ⟨x0, x1⟩ : 0 ≤ x ∧ x ≤ 255 := wf_u8 hx
      clear hx
      go_enter Tryz.func5, Tryz.ntmps5
      go_upto_region 5 with (go_at_call 10; refine (HAW.out _ cur).mono ?_; rintro e w2 ⟨rfl, hb⟩; have cur := cur.trans (hb.mono cur.size); clear hb; obtain ⟨w3, p3, hp3, hw3, l3, n3, b3⟩ := box_new w2 (.cells #[.string ⟨#[97, 110, 100]⟩, .string ⟨#[111, 114]⟩, .string ⟨#[61]⟩, .string ⟨#[33, 61]⟩, .string ⟨#[60]⟩, .string ⟨#[60, 61]⟩, .string ⟨#[62]⟩, .string ⟨#[62, 61]⟩, .string ⟨#[43]⟩, .string ⟨#[45]⟩, .string ⟨#[42]⟩, .string ⟨#[47]⟩, .string ⟨#[37]⟩] 9); have n3' : w3.heap[p3]? = some (.cells sgnCells 9 (0, 0)) := n3; have cur := cur.trans (b3.mono cur.size))
      obtain ⟨W, ln, hsx, hWz, hWc⟩ := sgn_at n3' hk
      have HSX := Lib.hid hsx
      have HB3 := Lib.hid cur
      have HW3 := Lib.hid (fun V (h : Below w3.heap.size w3 V) => (Below.cellB h l3).trans hWc)
      obtain ⟨C1, hC1, z1, q1⟩ := cat_run10 ⟨#[40]⟩ s (by show 1 + s.size ≤ _; omega)
      have z1 : C1.size ≤ 1 + s.size := z1
      obtain ⟨C2, hC2, z2, q2⟩ := cat_run10 C1 ⟨#[41]⟩ (by show C1.size + 1 ≤ _; omega)
      have z2 : C2.size ≤ C1.size + 1 := z2
      obtain ⟨C3, hC3, z3, q3⟩ := cat_run10 C2 W (by omega)
      obtain ⟨C4, hC4, z4, q4⟩ := cat_run10 C3 ⟨#[40]⟩ (by show C3.size + 1 ≤ _; omega)
      have z4 : C4.size ≤ C3.size + 1 := z4
      obtain ⟨C5, hC5, z5, q5⟩ := cat_run10 C4 t (by omega)
      obtain ⟨C6, hC6, z6, q6⟩ := cat_run10 C5 ⟨#[41]⟩ (by show C5.size + 1 ≤ _; omega)
      have z6 : C6.size ≤ C5.size + 1 := z6
      have hC : Hid (C6.data.toList = joinC s.data.toList W.data.toList t.data.toList) := Lib.hid (by
        rw [hC6.out, hC5.out, hC4.out, hC3.out, hC2.out, hC1.out]
        unfold joinC
        simp)
      have hzs : s.data.toList.length ≤ 100 := hs
      have hzt : t.data.toList.length ≤ 100 := ht
      have HZ := Lib.hid (And.intro hzs hzt)
      have hC6z : C6.size ≤ 1000 := by omega
      clear hC1 hC2 hC3 hC4 hC5 hC6 z1 z2 z3 z4 z5 z6 n3 n3' b3 hsx hzs hzt cur hWc
      obtain ⟨u1, hu1⟩ : ∃ u, isErrE (parseE s.data.toList) = u := ⟨_, rfl⟩
      obtain ⟨u2, hu2⟩ : ∃ u, isErrE (parseE t.data.toList) = u := ⟨_, rfl⟩
      by_cases hok : u1 = false ∧ u2 = false
      · obtain ⟨rfl, rfl⟩ := hok
        obtain ⟨a, ha⟩ : ∃ a, parseE s.data.toList = .ok a := by
          cases hp : parseE s.data.toList with
          | ok n => exact ⟨n, rfl⟩
          | error e => rw [hp] at hu1; cases hu1
        obtain ⟨b, hb⟩ : ∃ b, parseE t.data.toList = .ok b := by
          cases hp : parseE t.data.toList with
          | ok n => exact ⟨n, rfl⟩
          | error e => rw [hp] at hu2; cases hu2
        have HPC : Hid (parseE C6.data.toList = .ok (twoN (5 + (k : Int)) a b)) := Lib.hid (by rw [hC.out]; exact join_yes HZ.out.1 HZ.out.2 HSX.out ha hb)
        have HPA := Lib.hid ha
        have HPB := Lib.hid hb
        clear ha hb hu1 hu2
        have cur : Below w3.heap.size w3 w3 := Below.refl _ _
        have hWc := HW3.out _ cur
        obtain ⟨N, hN⟩ : ∃ N, twoN (5 + (k : Int)) a b = N := ⟨_, rfl⟩
        rw [hN] at HPC
        have HN := Lib.hid hN
        clear hN
        go_upto_region 8 with (first
          | (have _ := mk2; go_at_call 9; refine (parse_is _ (HG.out.up (HB3.out.trans (cur.mono HB3.out.size))) C6 (by omega) HPC.out).mono ?_; rintro e w8 ⟨a8, c8, d8, rfl, hK8, hb⟩; obtain ⟨w9, p9, hp9, hw9, l9, b9, hC9⟩ := nd_boxed w8 N (.slice a8 c8 d8) 29; have cur5 := cur5.trans ((hb.trans (b9.mono hb.size)).mono cur5.size); have cur7 := cur7.trans ((hb.trans (b9.mono hb.size)).mono cur7.size); have cur := cur.trans ((hb.trans (b9.mono hb.size)).mono cur.size); have HC9 := Lib.hid hC9; have HK9 := Lib.hid (hK8.to b9); clear hb b9 hC9 hK8)
          | (have _ := mk1; go_at_call 9; refine (parse_is _ (HG.out.up (HB3.out.trans (cur.mono HB3.out.size))) t (by omega) HPB.out).mono ?_; rintro e w6 ⟨a6, c6, d6, rfl, hK6, hb⟩; obtain ⟨w7, p7, hp7, hw7, l7, b7, hC7⟩ := nd_boxed w6 b (.slice a6 c6 d6) 29; have cur5 := cur5.trans ((hb.trans (b7.mono hb.size)).mono cur5.size); have cur := cur.trans ((hb.trans (b7.mono hb.size)).mono cur.size); have HC7 := Lib.hid hC7; have HK7 := Lib.hid (hK6.to b7); have cur7 : Below w7.heap.size w7 w7 := Below.refl _ _; have mk2 := l7; have hWc := HW3.out _ cur; clear hb b7 hC7 hK6)
          | (go_at_call 9; refine (parse_is _ (HG.out.up HB3.out) s (by omega) HPA.out).mono ?_; rintro e w4 ⟨a4, c4, d4, rfl, hK4, hb⟩; obtain ⟨w5, p5, hp5, hw5, l5, b5, hC5⟩ := nd_boxed w4 a (.slice a4 c4 d4) 29; have cur := cur.trans ((hb.trans (b5.mono hb.size)).mono cur.size); have HC5 := Lib.hid hC5; have HK5 := Lib.hid (hK4.to b5); have cur5 : Below w5.heap.size w5 w5 := Below.refl _ _; have mk1 := l5; clear hb b5 hC5 hK4))
        have HE := Lib.hid (HB3.out.trans (cur.mono HB3.out.size))
        have hkids : N.kids = [a, b] := by rw [← HN.out]; rfl
        have hop : N.op = 5 + (k : Int) := by rw [← HN.out]; rfl
        have hKN : KidsR w9 w9.heap.size (.slice a8 c8 d8) [a, b] := hkids ▸ HK9.out.2
        obtain ⟨hc2, b0, o0, a1, c1, d1, a2, c2, d2, rfl, K1, K2⟩ := two_of hKN
        subst hc2
        have HND1 : Hid (∀ V, Below w9.heap.size w9 V → NdR V V.heap.size (.slice a1 c1 d1) a) := Lib.hid (fun V h => NdR.to ⟨K1.hw, K1.hk⟩ h)
        have HND2 : Hid (∀ V, Below w9.heap.size w9 V → NdR V V.heap.size (.slice a2 c2 d2) b) := Lib.hid (fun V h => NdR.to ⟨K2.hw, K2.hk⟩ h)
        have HN5 : Hid (∀ V, Below w9.heap.size w9 V → NdR V V.heap.size (.slice a4 c4 d4) a) := Lib.hid (fun V h => HK5.out.to (cur5.trans (h.mono cur5.size)))
        have HN7 : Hid (∀ V, Below w9.heap.size w9 V → NdR V V.heap.size (.slice a6 c6 d6) b) := Lib.hid (fun V h => HK7.out.to (cur7.trans (h.mono cur7.size)))
        have HS : Hid (∀ V, Below w9.heap.size w9 V → EndS p5 p7 p9 b0 o0 d8 N a b a1 c1 d1 a2 c2 d2 (.slice a4 c4 d4) (.slice a6 c6 d6) V) := Lib.hid (fun V h => by
          obtain ⟨y0, y1, y2, y3, y4, y5, y6⟩ := HC9.out V h
          have k0 : KidsS p9 b0 o0 d8 a b a1 c1 d1 a2 c2 d2 w9 := ⟨(HC9.out w9 (Below.refl _ _)).2.2.2.2.2.2, ⟨K1.q0, K1.q1, K1.q2, K1.q3, K1.q4, K1.q5, K1.q6⟩, ⟨K2.q0, K2.q1, K2.q2, K2.q3, K2.q4, K2.q5, K2.q6⟩⟩
          exact ⟨k0.up h, y0, HC5.out V (cur5.trans (h.mono cur5.size)), HC7.out V (cur7.trans (h.mono cur7.size))⟩)
        have o1 : (IntKind.i64.wrap N.op == IntKind.i64.wrap (5 + (k : Int))) = true := by rw [hop]; exact beq_self_eq_true _
        have o2 : 0 ≤ N.op := HK9.out.1.o0
        have o3 : N.op ≤ 255 := HK9.out.1.o1
        clear hop hkids hKN K1 K2 cur cur5 cur7 HC5 HC7 HC9 HK5 HK7 HK9 HPA HPB HPC hWc
        have cur : Below w9.heap.size w9 w9.drew := (Below.refl _ _).drew
        obtain ⟨⟨f6, ⟨y0, y1, y2, y3, y4, y5, y6⟩, z0, z1, z2, z3, z4, z5, z6⟩, f0, ⟨g0, g1, g2, g3, g4, g5, g6⟩, q0, q1, q2, q3, q4, q5, q6⟩ := HS.out w9.drew cur
        go_upto_region 10 with fail
        go_region_held3 (fun V => EndS p5 p7 p9 b0 o0 d8 N a b a1 c1 d1 a2 c2 d2 (.slice a4 c4 d4) (.slice a6 c6 d6) V) (exact HS.out _ cur) (first
          | (have _ := mka; go_at_call 15; refine (same_is _ b b _ _ (HND2.out _ cur) (HN7.out _ cur) (sameN_refl b)).mono ?_; rintro e wz ⟨rfl, hb⟩; have cur := cur.trans (hb.mono cur.size); clear hb)
          | (go_at_call 15; refine (same_is _ a a _ _ (HND1.out _ cur) (HN5.out _ cur) (sameN_refl a)).mono ?_; rintro e wz ⟨rfl, hb⟩; have cur := cur.trans (hb.mono cur.size); have mka := o2; clear hb; obtain ⟨⟨f6, ⟨y0, y1, y2, y3, y4, y5, y6⟩, z0, z1, z2, z3, z4, z5, z6⟩, f0, ⟨g0, g1, g2, g3, g4, g5, g6⟩, q0, q1, q2, q3, q4, q5, q6⟩ := HS.out _ cur))
        all_goals
          go_wp2_with fail
          go_ret
          exact ⟨rfl, HE.out.trans (cur.mono HE.out.size)⟩
      · have hor : Hid (u1 = true ∨ u2 = true) := Lib.hid (by cases u1 <;> cases u2 <;> simp_all)
        obtain ⟨u3, hu3⟩ : ∃ u, isErrE (parseE C6.data.toList) = u := ⟨_, rfl⟩
        obtain ⟨v1, hv1⟩ : ∃ v, brB s = v := ⟨_, rfl⟩
        obtain ⟨v2, hv2⟩ : ∃ v, brB t = v := ⟨_, rfl⟩
        have hor3 : Hid (u3 = true ∨ v1 = true ∨ v2 = true) := Lib.hid (by
          by_cases h1 : v1 = true
          · exact .inr (.inl h1)
          by_cases h2 : v2 = true
          · exact .inr (.inr h2)
          rw [Bool.not_eq_true] at h1 h2
          have n1 := brB_no (hv1.trans h1)
          have n2 := brB_no (hv2.trans h2)
          have hj := join_no HZ.out.1 HZ.out.2 HSX.out n1 n2 (by
            rcases hor.out with h | h
            · rw [h] at hu1
              cases hp : parseE s.data.toList with
              | ok n => rw [hp] at hu1; cases hu1
              | error e => exact .inl ⟨e, rfl⟩
            · rw [h] at hu2
              cases hp : parseE t.data.toList with
              | ok n => rw [hp] at hu2; cases hu2
              | error e => exact .inr ⟨e, rfl⟩)
          obtain ⟨e, he⟩ := hj
          rw [← hC.out] at he
          rw [he] at hu3
          exact .inl hu3.symm)
        have HU1 := Lib.hid hu1
        have HU2 := Lib.hid hu2
        have HU3 := Lib.hid hu3
        have HV1 := Lib.hid hv1
        have HV2 := Lib.hid hv2
        have cur : Below w3.heap.size w3 w3 := Below.refl _ _
        clear hu1 hu2 hu3 hv1 hv2 hok
        obtain hWc := HW3.out _ cur
        go_upto_region 8 with (first
          | (have _ := mk2; go_at_call 9; refine (parse_e _ (HG.out.up (HB3.out.trans (cur.mono HB3.out.size))) C6 (by omega) HU3.out).mono ?_; rintro e w8 ⟨m8, a8, c8, d8, p8, x8, rfl, hx8, hb⟩; obtain ⟨w9, p9, hp9, hw9, l9, b9, hC9⟩ := nd_boxed w8 m8 (.slice a8 c8 d8) 29; have cur := cur.trans ((hb.trans (b9.mono hb.size)).mono cur.size); clear hb b9 hC9)
          | (have _ := mk1; go_at_call 9; refine (parse_e _ (HG.out.up (HB3.out.trans (cur.mono HB3.out.size))) t (by omega) HU2.out).mono ?_; rintro e w6 ⟨m6, a6, c6, d6, p6, x6, rfl, hx6, hb⟩; obtain ⟨w7, p7, hp7, hw7, l7, b7, hC7⟩ := nd_boxed w6 m6 (.slice a6 c6 d6) 29; have cur := cur.trans ((hb.trans (b7.mono hb.size)).mono cur.size); have mk2 := l7; have hWc := HW3.out _ cur; clear hb b7 hC7)
          | (go_at_call 9; refine (parse_e _ (HG.out.up HB3.out) s (by omega) HU1.out).mono ?_; rintro e w4 ⟨m4, a4, c4, d4, p4, x4, rfl, hx4, hb⟩; obtain ⟨w5, p5, hp5, hw5, l5, b5, hC5⟩ := nd_boxed w4 m4 (.slice a4 c4 d4) 29; have cur := cur.trans ((hb.trans (b5.mono hb.size)).mono cur.size); have mk1 := l5; clear hb b5 hC5))
        have key := five_ways u1 u2 u3 v1 v2 hor.out hor3.out
        obtain ⟨e1, e2⟩ := key
        have HE := Lib.hid (HB3.out.trans (cur.mono HB3.out.size))
        clear cur hor hor3 HU1 HU2 HU3 hWc
        have cur := HE.out
        rcases e1 with rfl | ⟨rfl, rfl⟩ <;> rcases e2 with rfl | ⟨rfl, rfl⟩ | ⟨rfl, rfl, rfl⟩
        all_goals
          go_wp2_with (first
            | (have _ := mkb; go_at_call 16; refine (br_is _ t (by omega) HV2.out).mono ?_; rintro e wz ⟨rfl, hb⟩; have cur := cur.trans (hb.mono cur.size); clear hb)
            | (go_at_call 16; refine (br_is _ s (by omega) HV1.out).mono ?_; rintro e wy ⟨rfl, hb⟩; have cur := cur.trans (hb.mono cur.size); have mkb := hs; clear hb))
          go_ret
          exact ⟨rfl, cur⟩
    · have d2 : decide ((100 : Int) < (t.size : Int)) = true := decide_eq_true (by omega)
      have d2' : decide (100 < t.size) = true := decide_eq_true (by omega)
      go_enter Tryz.func5, Tryz.ntmps5
      go_wp2_with (go_at_call 10; refine (HAW.out _ cur).mono ?_; rintro e w2 ⟨rfl, hb⟩; have cur := cur.trans (hb.mono cur.size); clear hb)
      go_ret
      exact ⟨rfl, cur⟩
  · have d1 : decide ((100 : Int) < (s.size : Int)) = true := decide_eq_true (by omega)
    have d1' : decide (100 < s.size) = true := decide_eq_true (by omega)
    go_enter Tryz.func5, Tryz.ntmps5
    go_wp2_with (go_at_call 10; refine (HAW.out _ cur).mono ?_; rintro e w2 ⟨rfl, hb⟩; have cur := cur.trans (hb.mono cur.size); clear hb)
    go_ret
    exact ⟨rfl, cur⟩
end Go.Proofs.YtbephgifbghilaaGreatDoor

/- The tied card of 'ExprBinds': whatever the input, the law returns true and its arguments read as before. No condition but that the listed tables read as the program's text lays them (tied). -/
namespace Go.Proofs.YtbephgifbghilaaGreatDoor.exprBinds
open Go.ChangeShapes Go.WideShapes Go.ChangeAt Go.RowKit
open Go.ChangeMaps (open_string shut_string)

theorem own : ownKnob Tryz.prog.godebug = none := by kernel_rfl
theorem laidOut : laidOutB Tryz.prog = true := by kernel_rfl

set_option maxRecDepth 100000 in
theorem lifted (os : Os) (started : os.Started) (H : Type) (enc : TypeId × Value → H) :
    ReturnsInHanded {} Tryz.checked os 5 .any (fun w args => (Rows.exprBindsSpec.pre enc Tryz.prog Tryz.f5 [] false w args ∧ laidMetH Tryz.prog laid7 w) ∧ sizedMet enc Tryz.prog Tryz.f5 (OpenSpec.ofChange Rows.exprBindsSpec) false w args)
      (Rows.exprBindsSpec.post enc Tryz.prog Tryz.f5 false true false false) := by
  refine handed_shaped (C := Tryz.checked) (laid := laid7) own started (by kernel_rfl) Tryz.func5
    (ChangeSpec.witness_shaped (enc := enc) (C := Tryz.checked) (os := os) (X := fun w _ => laidMetH Tryz.prog laid7 w) false (World.laidAll Tryz.prog os laid7) #[.string ⟨#[]⟩, .string ⟨#[]⟩, .int .u8 0] 8 (World.laidAll_os _ _ _) (World.shaped_of_ZipB (by kernel_rfl) (by kernel_rfl)) (by kernel_rfl) (by kernel_rfl) (by kernel_rfl) (met7 os _)) ?_
  intro W base args ds gs before hval0 hW hsz0 hL hsh
  have hval : ∀ (j : Nat) t v, Tryz.f5.params[j]? = some t → args[j]? = some v → Value.okWide Tryz.prog W .any base t v := hval0
  have hW' := hW
  obtain ⟨p, q, hA0, hV, rfl, hfz, hnd⟩ := hW
  have hA : DataW.TrodAll enc Tryz.prog W 0 (fun _ => true) true Tryz.f5.params.toList args.toList ds p := hA0
  have hsz : (DataW.weightsEach Tryz.prog (Tryz.f5.params.toList ++ Rows.exprBindsSpec.plain.varTypes Tryz.prog) (ds ++ gs)).all (· ≤ reachBytes) = true := hsz0
  have htab := gx_of_laid hL hsh
  rw [Tryz.params5] at hA hval hsz
  obtain ⟨v0, vs0, d0, ds0, p0, q0, hargs, rfl, rfl, h0, r0⟩ := trodAll_cons hA
  obtain ⟨v1, vs1, d1, ds1, p1, q1, rfl, rfl, rfl, h1, r1⟩ := trodAll_cons r0
  obtain ⟨v2, vs2, d2, ds2, p2, q2, rfl, rfl, rfl, h2, r2⟩ := trodAll_cons r1
  obtain ⟨rfl, rfl, rfl⟩ := trodAll_nil r2
  obtain rfl : args = #[v0, v1, v2] := by cases args; simp_all
  obtain ⟨rfl, rfl⟩ := trodVars_none hV
  have k0 := h0
  have lt0 : ∀ x ∈ p0, x.block < W.heap.size := by obtain ⟨m, hm⟩ := k0; exact DataW.trod_lt m _ _ _ hm
  have k1 := h1
  have lt1 : ∀ x ∈ p1, x.block < W.heap.size := by obtain ⟨m, hm⟩ := k1; exact DataW.trod_lt m _ _ _ hm
  have k2 := h2
  obtain ⟨s0, rfl, rfl, rfl, g0⟩ := open_string Tryz.underlying9 (hval 0 9 v0 rfl rfl) h0
  have z0 : s0.size ≤ 140737488355328 := by simpa using fits_str (fits_arg (j := 0) hsz rfl rfl)
  obtain ⟨s1, rfl, rfl, rfl, g1⟩ := open_string Tryz.underlying9 (hval 1 9 v1 rfl rfl) h1
  have z1 : s1.size ≤ 140737488355328 := by simpa using fits_str (fits_arg (j := 1) hsz rfl rfl)
  obtain ⟨x2, rfl, rfl, rfl, g2⟩ := open_int Tryz.underlying5 (hval 2 5 v2 rfl rfl) h2
  clear hA0 hval0 hsz0
  refine (exprBinds_walk W htab s0 z0 s1 z1 x2 g2).mono fun e W' ⟨he, bel⟩ => ?_
  subst he
  exact ⟨_, rfl, _, _, _, [], _, [], hW', trodAll_mk1 (shut_bool Tryz.underlying4 _), (trodAll_cons_mk (Below.trod laidOut (by kernel_rfl) (of_decide_eq_true (by kernel_rfl)) k0 bel lt0) (trodAll_cons_mk (Below.trod laidOut (by kernel_rfl) (of_decide_eq_true (by kernel_rfl)) k1 bel lt1) (trodAll_cons_mk (shut_int Tryz.underlying5 g2) trodAll_mk0))), rfl, bel.frame _, fun h => by cases h⟩

theorem over : Rows.ExprBindsSaid :=
  OpenClaim.holds_of_wide 5 Tryz.f5 rfl rfl rfl rfl rfl rfl rfl ⟨rfl, rfl, rfl, rfl, rfl⟩ rfl rfl rfl rfl rfl (by kernel_rfl) Tryz.func5 (by kernel_rfl)
    (of_decide_eq_true (by kernel_rfl)) (by unfold Func.isWrapper; first | (rw [if_pos (by decide +kernel)]; kernel_rfl) | (rw [if_neg (by decide +kernel)]; exact ⟨rfl, rfl⟩))
    (fun os started H enc _ => lifted os started H enc)

theorem proved : Rows.ExprBindsCardSaid :=
  Claim7.holds_tied_plain_at .later [] [.data, .data, .data, .data, .sentinel, .sentinel, .pinned] true (true, "ccf4f349611c2f5f1ef4289f143feb73a2a725368c64e83e8b61564a4d04fffb") true
    over (fun _ h => by cases h) (by kernel_rfl) (fun _ h => by cases h) exprBinds_row_tie rfl ⟨rfl, rfl⟩ (by kernel_rfl) rfl
    (fun f fn hf hfn => by
      obtain rfl : f = 5 := Option.some.inj ((show Tryz.prog.funcNamed "tollgate/tollgatelaw10.ExprBinds" = some 5 by kernel_rfl).symm.trans hf) |>.symm
      obtain rfl : fn = Tryz.f5 := (Option.some.inj (Tryz.func5.symm.trans hfn)).symm
      exact ⟨by kernel_rfl, fun j t ht => by
        rw [Tryz.params5] at ht
        have hm : t ∈ [9, 9, 5] := by simpa using Array.mem_of_getElem? ht
        have hall : ([9, 9, 5].all fun u => !Tryz.prog.wantsStandIn u) = true := by kernel_rfl
        exact (show Tryz.prog.wantsStandIn t = false by simpa using List.all_eq_true.1 hall t hm)⟩)
    (by kernel_rfl)
end Go.Proofs.YtbephgifbghilaaGreatDoor.exprBinds
