/- Of XAu: what XFAs uses (shake.py). -/
import Derived.Test.YtbephgifbghilaaGreatDoorKEvalMem
import Derived.Test.YtbephgifbghilaaGreatDoorKRowsF
import Derived.Test.YtbephgifbghilaaGreatDoorKBase
import Derived.Test.YtbephgifbghilaaGreatDoorKAppCol
import Derived.Test.YtbephgifbghilaaGreatDoorKStepOwn
import Derived.Test.YtbephgifbghilaaGreatDoorKXNodes
import Derived.Test.YtbephgifbghilaaGreatDoorKXTyp
import Derived.Lib.ValidLaws
import Derived.Lib.Hide
import Derived.Laws.BytesArg
import Derived.Laws.NewBlocks
import Derived.Deep.CutBlock
import Derived.Lib.ItoaLen
import Derived.Lib.ItoaNum
import Derived.Laws.CopyOwn
import Derived.BigRegion
import Derived.Shelf.SlicesQ.Reverse
import Derived.Maps.AppendAt
import Derived.Sort.OwnSorted
import Derived.Sort.Walk0
import Derived.Deep.AppendLies
/- Texts fused by fuse.py: AskUtfP, AskUtf, AskNum, RowsK, AppF, AskPutP, AskPut, AskChk, AskChk2. -/
/- The document's At, on lists of bytes: it takes what utf8.ValidString takes (plain; seat expr). -/
set_option maxRecDepth 100000
namespace Go.Proofs.YtbephgifbghilaaGreatDoor
open Go.Lib
/-- The document's Char: nothing where it is none. -/
def charL (c : Int) : List Int :=
  if c < 0 ∨ 1114111 < c ∨ (55296 ≤ c ∧ c ≤ 57343) then []
  else if c ≤ 127 then [c]
  else if c ≤ 2047 then [192 + c / 64, 128 + c % 64]
  else if c ≤ 65535 then [224 + c / 4096, 128 + c / 64 % 64, 128 + c % 64]
  else [240 + c / 262144, 128 + c / 4096 % 64, 128 + c / 64 % 64, 128 + c % 64]
theorem charL_two (c x y : Int) : charL c = [x, y] ↔ 128 ≤ c ∧ c ≤ 2047 ∧ 192 + c / 64 = x ∧ 128 + c % 64 = y := by
  unfold charL
  repeat' split
  all_goals simp
  all_goals omega
theorem charL_one (c x : Int) : charL c = [x] ↔ 0 ≤ c ∧ c ≤ 127 ∧ c = x := by
  unfold charL
  repeat' split
  all_goals simp
  all_goals omega
theorem charL_three (c x y z : Int) : charL c = [x, y, z] ↔ 2048 ≤ c ∧ c ≤ 65535 ∧ ¬ (55296 ≤ c ∧ c ≤ 57343) ∧ 224 + c / 4096 = x ∧ 128 + c / 64 % 64 = y ∧ 128 + c % 64 = z := by
  unfold charL
  repeat' split
  all_goals simp
  all_goals omega
theorem charL_four (c x y z t : Int) : charL c = [x, y, z, t] ↔ 65536 ≤ c ∧ c ≤ 1114111 ∧ 240 + c / 262144 = x ∧ 128 + c / 4096 % 64 = y ∧ 128 + c / 64 % 64 = z ∧ 128 + c % 64 = t := by
  unfold charL
  repeat' split
  all_goals simp
  all_goals omega
/-- How many bytes the first one tells; the bits that it has. -/
def widN (b : Nat) : Nat := if 240 ≤ b then 4 else if 224 ≤ b then 3 else if 192 ≤ b then 2 else 1
def leadN (b : Nat) : Int := if 240 ≤ b then (b : Int) - 240 else if 224 ≤ b then (b : Int) - 224 else if 192 ≤ b then (b : Int) - 192 else b
def bytsL (l : List UInt8) : List Int := l.map (fun b => (b.toNat : Int))
/-- The bits of what follows, beside those before. -/
def bitsL : Int → List Int → Int
  | c, [] => c
  | c, b :: r => bitsL (c * 64 + b - 128) r
def atL : List UInt8 → Option Nat
  | [] => none
  | b :: t => if widN b.toNat ≤ t.length + 1 ∧ charL (bitsL (leadN b.toNat) (bytsL (t.take (widN b.toNat - 1)))) = bytsL ((b :: t).take (widN b.toNat)) then some (widN b.toNat) else none
theorem atL_cons (b : UInt8) (t : List UInt8) : atL (b :: t) = if widN b.toNat ≤ t.length + 1 ∧ charL (bitsL (leadN b.toNat) (bytsL (t.take (widN b.toNat - 1)))) = bytsL ((b :: t).take (widN b.toNat)) then some (widN b.toNat) else none := rfl
theorem firstT_facts (b : Nat) (h : 128 ≤ b) (h2 : b < 256) : (b < 194 → firstT b % 8 ≠ 2 ∧ firstT b % 8 ≠ 3 ∧ firstT b % 8 ≠ 4) ∧ (245 ≤ b → firstT b % 8 ≠ 2 ∧ firstT b % 8 ≠ 3 ∧ firstT b % 8 ≠ 4) ∧
    (194 ≤ b → b < 224 → firstT b % 8 = 2 ∧ accLo (firstT b / 16) = 128 ∧ accHi (firstT b / 16) = 191) ∧
    (224 ≤ b → b < 240 → firstT b % 8 = 3 ∧ accLo (firstT b / 16) = (if b = 224 then 160 else 128) ∧ accHi (firstT b / 16) = (if b = 237 then 159 else 191)) ∧
    (240 ≤ b → b < 245 → firstT b % 8 = 4 ∧ accLo (firstT b / 16) = (if b = 240 then 144 else 128) ∧ accHi (firstT b / 16) = (if b = 244 then 143 else 191)) := by
  have key : ∀ x : Fin 256, 128 ≤ x.val → (x.val < 194 → firstT x.val % 8 ≠ 2 ∧ firstT x.val % 8 ≠ 3 ∧ firstT x.val % 8 ≠ 4) ∧ (245 ≤ x.val → firstT x.val % 8 ≠ 2 ∧ firstT x.val % 8 ≠ 3 ∧ firstT x.val % 8 ≠ 4) ∧
    (194 ≤ x.val → x.val < 224 → firstT x.val % 8 = 2 ∧ accLo (firstT x.val / 16) = 128 ∧ accHi (firstT x.val / 16) = 191) ∧
    (224 ≤ x.val → x.val < 240 → firstT x.val % 8 = 3 ∧ accLo (firstT x.val / 16) = (if x.val = 224 then 160 else 128) ∧ accHi (firstT x.val / 16) = (if x.val = 237 then 159 else 191)) ∧
    (240 ≤ x.val → x.val < 245 → firstT x.val % 8 = 4 ∧ accLo (firstT x.val / 16) = (if x.val = 240 then 144 else 128) ∧ accHi (firstT x.val / 16) = (if x.val = 244 then 143 else 191)) := by decide +kernel
  exact key ⟨b, h2⟩ h
theorem check_three (n b1 b2 b3 lo hi : Nat) : Lib.checkN n b1 b2 b3 3 lo hi = if n < 3 ∨ b1 < lo ∨ hi < b1 ∨ b2 < 128 ∨ 191 < b2 then none else some 3 := by
  unfold Lib.checkN
  rw [if_neg (by omega), if_pos rfl]
theorem check_four (n b1 b2 b3 lo hi : Nat) : Lib.checkN n b1 b2 b3 4 lo hi = if n < 4 ∨ b1 < lo ∨ hi < b1 ∨ b2 < 128 ∨ 191 < b2 ∨ b3 < 128 ∨ 191 < b3 then none else some 4 := by
  unfold Lib.checkN
  rw [if_neg (by omega), if_neg (by omega), if_pos rfl]
theorem at_lead (b : UInt8) (t : List UInt8) (hb : 128 ≤ b.toNat) : atL (b :: t) = Lib.checkN (t.length + 1) (t.getD 0 0).toNat (t.getD 1 0).toNat (t.getD 2 0).toNat (firstT b.toNat % 8) (accLo (firstT b.toNat / 16)) (accHi (firstT b.toNat / 16)) := by
  obtain ⟨f1, f2, f3, f4, f5⟩ := firstT_facts b.toNat hb b.toNat_lt
  have hlt := b.toNat_lt
  obtain ⟨x, hx⟩ : ∃ x, b.toNat = x := ⟨_, rfl⟩
  rw [atL_cons]
  simp only [bytsL, List.map_take, List.map_cons, hx] at *
  by_cases h1 : x < 192
  · have g := f1 (by omega)
    have hw : widN x = 1 := by unfold widN; rw [if_neg (by omega), if_neg (by omega), if_neg (by omega)]
    have hl : leadN x = x := by unfold leadN; rw [if_neg (by omega), if_neg (by omega), if_neg (by omega)]
    rw [hw, hl]
    have e : charL (bitsL x (List.take (1 - 1) (List.map (fun b => (b.toNat : Int)) t))) ≠ List.take 1 ((x : Int) :: List.map (fun b => (b.toNat : Int)) t) := by
      show charL x ≠ [(x : Int)]
      rw [Ne, charL_one]; omega
    rw [if_neg (fun h => e h.2)]
    unfold Lib.checkN
    rw [if_neg g.1, if_neg g.2.1, if_neg g.2.2]
  by_cases h2 : x < 224
  · have hw : widN x = 2 := by unfold widN; rw [if_neg (by omega), if_neg (by omega), if_pos (by omega)]
    have hl : leadN x = x - 192 := by unfold leadN; rw [if_neg (by omega), if_neg (by omega), if_pos (by omega)]
    rw [hw, hl]
    match t with
    | [] =>
      rw [if_neg (fun h => by have := h.1; simp at this)]
      unfold Lib.checkN
      by_cases h3 : x < 194
      · have g := f1 h3; rw [if_neg g.1, if_neg g.2.1, if_neg g.2.2]
      · have g := f3 (by omega) h2; rw [if_pos g.1, if_pos (by simp)]
    | c :: r =>
      have hc := c.toNat_lt
      have e : (charL (bitsL ((x : Int) - 192) (List.take (2 - 1) (List.map (fun b => (b.toNat : Int)) (c :: r)))) = List.take 2 ((x : Int) :: List.map (fun b => (b.toNat : Int)) (c :: r))) ↔ 194 ≤ x ∧ 128 ≤ c.toNat ∧ c.toNat ≤ 191 := by
        show charL (((x : Int) - 192) * 64 + c.toNat - 128) = [(x : Int), (c.toNat : Int)] ↔ _
        rw [charL_two]; omega
      simp only [e]
      unfold Lib.checkN
      by_cases h3 : x < 194
      · have g := f1 h3; rw [if_neg g.1, if_neg g.2.1, if_neg g.2.2, if_neg (by omega)]
      · have g := f3 (by omega) h2
        rw [g.1, if_pos rfl, g.2.1, g.2.2]
        simp only [List.getD_cons_zero, List.length_cons]
        split <;> split <;> first | rfl | (exfalso; omega)
  by_cases h3 : x < 240
  · have hw : widN x = 3 := by unfold widN; rw [if_neg (by omega), if_pos (by omega)]
    have hl : leadN x = x - 224 := by unfold leadN; rw [if_neg (by omega), if_pos (by omega)]
    have g := f4 (by omega) h3
    rw [hw, hl, g.1, g.2.1, g.2.2]
    match t with
    | [] =>
      rw [if_neg (fun h => by have := h.1; simp at this)]
      unfold Lib.checkN
      rw [if_neg (by omega), if_pos rfl, if_pos (by simp)]
    | [c] =>
      rw [if_neg (fun h => by have := h.1; simp at this)]
      unfold Lib.checkN
      rw [if_neg (by omega), if_pos rfl, if_pos (by simp)]
    | c :: d :: r =>
      have hc := c.toNat_lt
      have hd := d.toNat_lt
      have e : (charL (bitsL ((x : Int) - 224) (List.take (3 - 1) (List.map (fun b => (b.toNat : Int)) (c :: d :: r)))) = List.take 3 ((x : Int) :: List.map (fun b => (b.toNat : Int)) (c :: d :: r))) ↔ (if x = 224 then 160 else 128) ≤ c.toNat ∧ c.toNat ≤ (if x = 237 then 159 else 191) ∧ 128 ≤ d.toNat ∧ d.toNat ≤ 191 := by
        show charL ((((x : Int) - 224) * 64 + c.toNat - 128) * 64 + d.toNat - 128) = [(x : Int), (c.toNat : Int), (d.toNat : Int)] ↔ _
        rw [charL_three]; split <;> split <;> omega
      simp only [e]
      rw [check_three]
      simp only [List.getD_cons_zero, List.getD_cons_succ, List.length_cons]
      by_cases k1 : (if x = 224 then 160 else 128) ≤ c.toNat ∧ c.toNat ≤ (if x = 237 then 159 else 191) ∧ 128 ≤ d.toNat ∧ d.toNat ≤ 191
      · rw [if_pos ⟨by omega, k1⟩, if_neg (by omega)]
      · rw [if_neg (fun h => k1 h.2), if_pos (by omega)]
  · have hw : widN x = 4 := by unfold widN; rw [if_pos (by omega)]
    have hl : leadN x = x - 240 := by unfold leadN; rw [if_pos (by omega)]
    rw [hw, hl]
    have gne : 245 ≤ x → Lib.checkN (t.length + 1) (t.getD 0 0).toNat (t.getD 1 0).toNat (t.getD 2 0).toNat (firstT x % 8) (accLo (firstT x / 16)) (accHi (firstT x / 16)) = none := fun h => by
      have g := f2 h
      unfold Lib.checkN
      rw [if_neg g.1, if_neg g.2.1, if_neg g.2.2]
    match t with
    | [] =>
      rw [if_neg (fun h => by have := h.1; simp at this)]
      by_cases h5 : 245 ≤ x
      · exact (gne h5).symm
      · have g := f5 (by omega) (by omega)
        unfold Lib.checkN
        rw [g.1, if_neg (by omega), if_neg (by omega), if_pos rfl, if_pos (by simp)]
    | [c] =>
      rw [if_neg (fun h => by have := h.1; simp at this)]
      by_cases h5 : 245 ≤ x
      · exact (gne h5).symm
      · have g := f5 (by omega) (by omega)
        unfold Lib.checkN
        rw [g.1, if_neg (by omega), if_neg (by omega), if_pos rfl, if_pos (by simp)]
    | [c, d] =>
      rw [if_neg (fun h => by have := h.1; simp at this)]
      by_cases h5 : 245 ≤ x
      · exact (gne h5).symm
      · have g := f5 (by omega) (by omega)
        unfold Lib.checkN
        rw [g.1, if_neg (by omega), if_neg (by omega), if_pos rfl, if_pos (by simp)]
    | c :: d :: f :: r =>
      have hc := c.toNat_lt
      have hd := d.toNat_lt
      have hf := f.toNat_lt
      have e : (charL (bitsL ((x : Int) - 240) (List.take (4 - 1) (List.map (fun b => (b.toNat : Int)) (c :: d :: f :: r)))) = List.take 4 ((x : Int) :: List.map (fun b => (b.toNat : Int)) (c :: d :: f :: r))) ↔ x < 245 ∧ (if x = 240 then 144 else 128) ≤ c.toNat ∧ c.toNat ≤ (if x = 244 then 143 else 191) ∧ 128 ≤ d.toNat ∧ d.toNat ≤ 191 ∧ 128 ≤ f.toNat ∧ f.toNat ≤ 191 := by
        show charL (((((x : Int) - 240) * 64 + c.toNat - 128) * 64 + d.toNat - 128) * 64 + f.toNat - 128) = [(x : Int), (c.toNat : Int), (d.toNat : Int), (f.toNat : Int)] ↔ _
        rw [charL_four]; split <;> split <;> omega
      simp only [e]
      by_cases h5 : 245 ≤ x
      · rw [gne h5, if_neg (by omega)]
      · have g := f5 (by omega) (by omega)
        rw [g.1, g.2.1, g.2.2, check_four]
        simp only [List.getD_cons_zero, List.getD_cons_succ, List.length_cons]
        by_cases k1 : (if x = 240 then 144 else 128) ≤ c.toNat ∧ c.toNat ≤ (if x = 244 then 143 else 191) ∧ 128 ≤ d.toNat ∧ d.toNat ≤ 191 ∧ 128 ≤ f.toNat ∧ f.toNat ≤ 191
        · rw [if_pos ⟨by omega, by omega, k1⟩, if_neg (by omega)]
        · rw [if_neg (fun h => k1 h.2.2), if_pos (by omega)]
/-- What the document's UTF8 goes on with is what utf8.ValidString goes on with. -/
theorem valid_at (l : List UInt8) (hne : l ≠ []) : validD l = match atL l with | none => false | some k => validD (l.drop k) := by
  match l with
  | [] => exact absurd rfl hne
  | b :: t =>
    by_cases hb : b.toNat < 128
    · have hw : widN b.toNat = 1 := by unfold widN; rw [if_neg (by omega), if_neg (by omega), if_neg (by omega)]
      have hl : leadN b.toNat = b.toNat := by unfold leadN; rw [if_neg (by omega), if_neg (by omega), if_neg (by omega)]
      have e : atL (b :: t) = some 1 := by
        rw [atL_cons, hw, hl]
        have hc : charL (b.toNat : Int) = [(b.toNat : Int)] := (charL_one _ _).2 ⟨by omega, by omega, rfl⟩
        exact if_pos ⟨by omega, hc⟩
      rw [e, validD_cons b t hb]
      rfl
    · rw [validD_lead (b :: t) (by simp) (by simpa using hb), at_lead b t (by omega)]
      rfl
theorem atL_wid {l : List UInt8} {k : Nat} (h : atL l = some k) : 1 ≤ k ∧ k ≤ l.length ∧ k ≤ 4 := by
  match l, h with
  | b :: t, h =>
    rw [atL_cons] at h
    split at h
    · rename_i h1
      injection h with h
      subst h
      refine ⟨?_, h1.1, ?_⟩ <;> (unfold widN; repeat' split) <;> omega
    · cases h
end Go.Proofs.YtbephgifbghilaaGreatDoor
/- The document's Char, At, UTF8 (seat expr). -/
set_option maxRecDepth 100000
namespace Go.Proofs.YtbephgifbghilaaGreatDoor
open Go.RowKit
theorem bytsL_inj : ∀ {a b : List UInt8}, bytsL a = bytsL b → a = b
  | [], [], _ => rfl
  | [], _ :: _, h => by cases h
  | _ :: _, [], h => by cases h
  | x :: a, y :: b, h => by
    have h1 : ((x.toNat : Int) :: bytsL a) = (y.toNat : Int) :: bytsL b := h
    injection h1 with h2 h3
    have h4 : x.toNat = y.toNat := by omega
    rw [bytsL_inj h3, UInt8.toNat_inj.1 h4]
theorem strNums (l : List Int) (h : ∀ x ∈ l, 0 ≤ x ∧ x < 256) : bytsL (strOfNums l).data.toList = l := by
  rw [strOfNums_data]
  unfold bytsL
  rw [List.map_map]
  refine (List.map_congr_left (fun x hx => ?_)).trans (List.map_id _)
  obtain ⟨h1, h2⟩ := h x hx
  show ((UInt8.ofNat x.toNat).toNat : Int) = x
  rw [UInt8.toNat_ofNat']
  omega
theorem conv_new (w : World) (L : List Int) (n : Nat) (h : L.length = n) : (convert 32 9 (.slice (some ⟨w.heap.size, 0, none⟩) n n)).run Tryz.prog (w.alloc (.cells (L.map (Value.int .u8)).toArray 5)) = .ok (.string (strOfNums L)) (w.alloc (.cells (L.map (Value.int .u8)).toArray 5)) :=
  run_convert_bytes_arg (P := Tryz.prog) _ 32 5 Tryz.underlying32 Tryz.underlying5 w.heap.size 0 n n L h (fun i hi => by
    rw [Nat.zero_add]
    refine (cell_of_block (heap_alloc_new w _) i).trans ?_
    have hi' : i < L.length := by omega
    simp [hi']) 9 Tryz.underlying9
/-- What a call of Char answers. -/
def CharC (w : World) (c : Int) (e : Ending) (w' : World) : Prop := ∃ (s : ByteArray) (ok : Bool), e = .returned (.tuple #[.string s, .bool ok]) ∧ (ok = true → bytsL s.data.toList = charL c) ∧ (ok = false → charL c = []) ∧ Below w.heap.size w w'
set_option maxHeartbeats 2000000 in
theorem rchar_any (w : World) (c : Int) (h0 : -1099511627776 ≤ c) (h1 : c ≤ 1099511627776) :
    Calls Tryz.prog 174 #[.int .i64 c] w (CharC w c) := by
  by_cases hb : c < 0 ∨ 1114111 < c ∨ (55296 ≤ c ∧ c ≤ 57343)
  · have hc : Hid (charL c = []) := Lib.hid (by unfold charL; rw [if_pos hb])
    rcases (show c < 0 ∨ (¬ c < 0 ∧ 1114111 < c) ∨ (¬ c < 0 ∧ ¬ 1114111 < c ∧ 55296 ≤ c ∧ c ≤ 57343) by omega) with h | ⟨g1, h⟩ | ⟨g1, g2, g3, g4⟩
    · clear hb
      go_enter Tryz.func174, Tryz.ntmps174
      go_wp2_with fail
      go_ret2
      exact ⟨_, _, rfl, fun h => (by cases h), fun _ => hc.out, Below.refl _ _⟩
    · clear hb
      go_enter Tryz.func174, Tryz.ntmps174
      go_wp2_with fail
      go_ret2
      exact ⟨_, _, rfl, fun h => (by cases h), fun _ => hc.out, Below.refl _ _⟩
    · clear hb
      go_enter Tryz.func174, Tryz.ntmps174
      go_wp2_with fail
      go_ret2
      exact ⟨_, _, rfl, fun h => (by cases h), fun _ => hc.out, Below.refl _ _⟩
  · obtain ⟨n, rfl⟩ : ∃ n : Nat, c = n := ⟨c.toNat, by omega⟩
    have u1 : decide ((n : Int) < 0) = false := decide_eq_false (by omega)
    have u2 : decide ((1114111 : Int) < (n : Int)) = false := decide_eq_false (by omega)
    have hX : (decide ((55296 : Int) ≤ (n : Int)) = false) ∨ (decide ((55296 : Int) ≤ (n : Int)) = true ∧ decide ((n : Int) ≤ 57343) = false) := by
      by_cases h : (55296 : Int) ≤ (n : Int)
      · exact .inr ⟨decide_eq_true h, decide_eq_false (by omega)⟩
      · exact .inl (decide_eq_false h)
    by_cases c1 : n ≤ 127
    · have hv := conv_new w [(n : Int)] 1 rfl
      simp only [List.map_cons, List.map_nil] at hv
      have hs := Lib.hid (strNums [(n : Int)] (fun x hx => by simp only [List.mem_cons, List.not_mem_nil, or_false] at hx; omega))
      have hc : Hid (charL n = [(n : Int)]) := Lib.hid ((charL_one _ _).2 ⟨by omega, by omega, rfl⟩)
      have d3 : decide ((n : Int) ≤ 127) = true := decide_eq_true (by omega)
      have hx : decide ((55296 : Int) ≤ (n : Int)) = false := decide_eq_false (by omega)
      clear hX hb
      go_enter Tryz.func174, Tryz.ntmps174
      go_wp2_with fail
      go_ret2
      exact ⟨_, _, rfl, fun _ => hs.out.trans hc.out.symm, fun h => (by cases h), (Below.refl _ _).alloc (Nat.le_refl _) _⟩
    by_cases c2 : n ≤ 2047
    · have hv := conv_new w [192 + (n : Int) / 64, 128 + (n : Int) % 64] 2 rfl
      simp only [List.map_cons, List.map_nil] at hv
      have hs := Lib.hid (strNums [192 + (n : Int) / 64, 128 + (n : Int) % 64] (fun x hx => by simp only [List.mem_cons, List.not_mem_nil, or_false] at hx; omega))
      have hc : Hid (charL n = [192 + (n : Int) / 64, 128 + (n : Int) % 64]) := Lib.hid ((charL_two _ _ _).2 ⟨by omega, by omega, rfl, rfl⟩)
      have d3 : decide ((n : Int) ≤ 127) = false := decide_eq_false (by omega)
      have d4 : decide ((n : Int) ≤ 2047) = true := decide_eq_true (by omega)
      have hx : decide ((55296 : Int) ≤ (n : Int)) = false := decide_eq_false (by omega)
      clear hX hb
      go_enter Tryz.func174, Tryz.ntmps174
      go_wp2_with fail
      go_ret2
      exact ⟨_, _, rfl, fun _ => hs.out.trans hc.out.symm, fun h => (by cases h), (Below.refl _ _).alloc (Nat.le_refl _) _⟩
    by_cases c3 : n ≤ 65535
    · have hv := conv_new w [224 + (n : Int) / 4096, 128 + (n : Int) / 64 % 64, 128 + (n : Int) % 64] 3 rfl
      simp only [List.map_cons, List.map_nil] at hv
      have hs := Lib.hid (strNums [224 + (n : Int) / 4096, 128 + (n : Int) / 64 % 64, 128 + (n : Int) % 64] (fun x hx => by simp only [List.mem_cons, List.not_mem_nil, or_false] at hx; omega))
      have hc : Hid (charL n = [224 + (n : Int) / 4096, 128 + (n : Int) / 64 % 64, 128 + (n : Int) % 64]) := Lib.hid ((charL_three _ _ _ _).2 ⟨by omega, by omega, by omega, rfl, rfl, rfl⟩)
      have d3 : decide ((n : Int) ≤ 127) = false := decide_eq_false (by omega)
      have d4 : decide ((n : Int) ≤ 2047) = false := decide_eq_false (by omega)
      have d5 : decide ((n : Int) ≤ 65535) = true := decide_eq_true (by omega)
      clear hb
      rcases hX with hx | ⟨hx, hy⟩
      · go_enter Tryz.func174, Tryz.ntmps174
        go_wp2_with fail
        go_ret2
        exact ⟨_, _, rfl, fun _ => hs.out.trans hc.out.symm, fun h => (by cases h), (Below.refl _ _).alloc (Nat.le_refl _) _⟩
      · go_enter Tryz.func174, Tryz.ntmps174
        go_wp2_with fail
        go_ret2
        exact ⟨_, _, rfl, fun _ => hs.out.trans hc.out.symm, fun h => (by cases h), (Below.refl _ _).alloc (Nat.le_refl _) _⟩
    · have hv := conv_new w [240 + (n : Int) / 262144, 128 + (n : Int) / 4096 % 64, 128 + (n : Int) / 64 % 64, 128 + (n : Int) % 64] 4 rfl
      simp only [List.map_cons, List.map_nil] at hv
      have hs := Lib.hid (strNums [240 + (n : Int) / 262144, 128 + (n : Int) / 4096 % 64, 128 + (n : Int) / 64 % 64, 128 + (n : Int) % 64] (fun x hx => by simp only [List.mem_cons, List.not_mem_nil, or_false] at hx; omega))
      have hc : Hid (charL n = [240 + (n : Int) / 262144, 128 + (n : Int) / 4096 % 64, 128 + (n : Int) / 64 % 64, 128 + (n : Int) % 64]) := Lib.hid ((charL_four _ _ _ _ _).2 ⟨by omega, by omega, rfl, rfl, rfl, rfl⟩)
      have d3 : decide ((n : Int) ≤ 127) = false := decide_eq_false (by omega)
      have d4 : decide ((n : Int) ≤ 2047) = false := decide_eq_false (by omega)
      have d5 : decide ((n : Int) ≤ 65535) = false := decide_eq_false (by omega)
      have hx : decide ((55296 : Int) ≤ (n : Int)) = true := decide_eq_true (by omega)
      have hy : decide ((n : Int) ≤ 57343) = false := decide_eq_false (by omega)
      have hm : (n : Int) ≤ 1114111 := by omega
      clear hX hb
      go_enter Tryz.func174, Tryz.ntmps174
      go_wp2_with fail
      go_ret2
      exact ⟨_, _, rfl, fun _ => hs.out.trans hc.out.symm, fun h => (by cases h), (Below.refl _ _).alloc (Nat.le_refl _) _⟩
/-- What a call of At answers. -/
def AtC (w : World) (l : List UInt8) (e : Ending) (w' : World) : Prop := ∃ (c k : Int) (ok : Bool), e = .returned (.tuple #[.int .i64 c, .int .i64 k, .bool ok]) ∧ (ok = true → ∃ m : Nat, atL l = some m ∧ k = m) ∧ (ok = false → atL l = none) ∧ Below w.heap.size w w'
/-- The bits so far keep small. -/
def CBnd (k : Nat) (c : Int) : Prop := (k = 1 ∧ 0 ≤ c ∧ c ≤ 255) ∨ (k = 2 ∧ -128 ≤ c ∧ c ≤ 16447) ∨ (k = 3 ∧ -8320 ≤ c ∧ c ≤ 1052735) ∨ (k = 4 ∧ -532608 ≤ c ∧ c ≤ 67375167)
theorem CBnd.small {k : Nat} {c : Int} (h : CBnd k c) : -532608 ≤ c ∧ c ≤ 67375167 := by unfold CBnd at h; omega
theorem CBnd.next {k : Nat} {c : Int} (h : CBnd k c) (hk : k < 4) {x : Nat} (hx : x < 256) : CBnd (k + 1) (c * 64 + x - 128) := by unfold CBnd at h ⊢; omega
theorem bits_step {c : Int} {l : List Int} {k : Nat} (h : k < l.length) : bitsL c (l.drop k) = bitsL (c * 64 + l[k] - 128) (l.drop (k + 1)) := by
  rw [List.drop_eq_getElem_cons h]
  rfl
set_option maxHeartbeats 4000000 in
theorem rat_any (w : World) (s : ByteArray) (i : Nat) (hi : i < s.size) (hsz : s.size ≤ 140737488355328) : Calls Tryz.prog 142 #[.string s, .int .i64 i] w (AtC w (s.data.toList.drop i)) := by
  have hlen : s.data.toList.length = s.size := rfl
  obtain ⟨x, hx⟩ : ∃ x, s[i].toNat = x := ⟨_, rfl⟩
  have hx2 : x < 256 := by rw [← hx]; exact s[i].toNat_lt
  have hdr : s.data.toList.drop i = s[i] :: s.data.toList.drop (i + 1) := List.drop_eq_getElem_cons (by rw [hlen]; exact hi)
  have HAT : Hid (atL (s.data.toList.drop i) = if i + widN x ≤ s.size ∧ charL (bitsL (leadN x) (bytsL ((s.data.toList.drop (i + 1)).take (widN x - 1)))) = bytsL ((s.data.toList.drop i).take (widN x)) then some (widN x) else none) := by
    refine Lib.hid ?_
    rw [hdr, atL_cons, hx]
    have : widN x ≤ (s.data.toList.drop (i + 1)).length + 1 ↔ i + widN x ≤ s.size := by rw [List.length_drop, hlen]; omega
    simp only [this]
  obtain ⟨n, hn⟩ : ∃ n, widN x = n := ⟨_, rfl⟩
  obtain ⟨c0, hc0⟩ : ∃ c0, leadN x = c0 := ⟨_, rfl⟩
  have hn4 : 1 ≤ n ∧ n ≤ 4 := by rw [← hn]; unfold widN; (repeat' split) <;> omega
  have hcb : CBnd 1 c0 := by rw [← hc0]; unfold leadN CBnd; (repeat' split) <;> omega
  rw [hn, hc0] at HAT
  have u0 : decide ((i : Int) < 0) = false := decide_eq_false (by omega)
  have u1 : decide ((s.size : Int) ≤ (i : Int)) = false := decide_eq_false (by omega)
  have u1' : decide (s.size ≤ i) = false := decide_eq_false (by omega)
  have HX := Lib.hid (show (240 ≤ x → n = 4 ∧ c0 = (x : Int) - 240) ∧ (224 ≤ x → x < 240 → n = 3 ∧ c0 = (x : Int) - 224) ∧ (192 ≤ x → x < 224 → n = 2 ∧ c0 = (x : Int) - 192) ∧ (x < 192 → n = 1 ∧ c0 = x) from by
    rw [← hn, ← hc0]; unfold widN leadN
    refine ⟨fun h => ?_, fun h h2 => ?_, fun h h2 => ?_, fun h => ?_⟩ <;> (repeat' split) <;> omega)
  have HCB := Lib.hid hcb
  clear hn hc0 hdr hcb
  go_enter Tryz.func142, Tryz.ntmps142
  go_upto_block 0 with (fail)
  go_cut [7, 8] (fun s7 s8 wx => w = wx ∧ s7 = .int .i64 (n : Int) ∧ s8 = .int .i64 c0)
  case first =>
    by_cases h1 : 240 ≤ x
    · have d1 : decide ((240 : Int) ≤ (x : Int)) = true := decide_eq_true (by omega)
      have d1' : decide (240 ≤ x) = true := decide_eq_true h1
      obtain ⟨q1, q2⟩ := HX.out.1 h1
      have Q := Lib.hid (And.intro q1 q2)
      clear q1 q2
      go_wp2_with fail
      go_meet
      case rel => exact ⟨rfl, by rw [Q.out.1]; rfl, by rw [Q.out.2]⟩
    have d1 : decide ((240 : Int) ≤ (x : Int)) = false := decide_eq_false (by omega)
    have d1' : decide (240 ≤ x) = false := decide_eq_false h1
    by_cases h2 : 224 ≤ x
    · have d2 : decide ((224 : Int) ≤ (x : Int)) = true := decide_eq_true (by omega)
      have d2' : decide (224 ≤ x) = true := decide_eq_true h2
      have Q := Lib.hid (HX.out.2.1 h2 (by omega))
      go_wp2_with fail
      go_meet
      case rel => exact ⟨rfl, by rw [Q.out.1]; rfl, by rw [Q.out.2]⟩
    have d2 : decide ((224 : Int) ≤ (x : Int)) = false := decide_eq_false (by omega)
    have d2' : decide (224 ≤ x) = false := decide_eq_false h2
    by_cases h3 : 192 ≤ x
    · have d3 : decide ((192 : Int) ≤ (x : Int)) = true := decide_eq_true (by omega)
      have d3' : decide (192 ≤ x) = true := decide_eq_true h3
      have Q := Lib.hid (HX.out.2.2.1 h3 (by omega))
      go_wp2_with fail
      go_meet
      case rel => exact ⟨rfl, by rw [Q.out.1]; rfl, by rw [Q.out.2]⟩
    · have d3 : decide ((192 : Int) ≤ (x : Int)) = false := decide_eq_false (by omega)
      have d3' : decide (192 ≤ x) = false := decide_eq_false h3
      have Q := Lib.hid (HX.out.2.2.2 (by omega))
      go_wp2_with fail
      go_meet
      case rel => exact ⟨rfl, by rw [Q.out.1]; rfl, by rw [Q.out.2]⟩
  case rest =>
    obtain ⟨rfl, rfl, rfl⟩ := hcut
    by_cases hin : i + n ≤ s.size
    · have v1 : decide ((s.size : Int) < (i : Int) + (n : Int)) = false := decide_eq_false (by omega)
      have v1' : decide (s.size < i + n) = false := decide_eq_false (by omega)
      have hln : ((s.data.toList.drop (i + 1)).take (n - 1)).length = n - 1 := by rw [List.length_take, List.length_drop, hlen]; omega
      obtain ⟨TL, hTL⟩ : ∃ TL, bytsL ((s.data.toList.drop (i + 1)).take (n - 1)) = TL := ⟨_, rfl⟩
      have hTLl : TL.length = n - 1 := by rw [← hTL]; unfold bytsL; rw [List.length_map, hln]
      have HTL := Lib.hid (show ∀ j (h : j < TL.length), ∃ h2 : i + 1 + j < s.size, TL[j] = (s[i + 1 + j].toNat : Int) from fun j h => by
        have h3 : i + 1 + j < s.size := by omega
        refine ⟨h3, ?_⟩
        subst hTL
        simp [bytsL]
        rfl)
      rw [hTL] at HAT
      have HTLl := Lib.hid hTLl
      have HT0 : Hid (bitsL c0 (TL.drop 0) = bitsL c0 TL) := Lib.hid rfl
      obtain ⟨T, hT⟩ : ∃ T, bitsL c0 TL = T := ⟨_, rfl⟩
      rw [hT] at HT0 HAT
      clear hln hTL hTLl hT hx
      go_wp2_with fail
      go_loopg [8, 9] (n - 1) (fun g s8 s9 wr => ∃ (k : Nat) (c : Int), k + g = n ∧ 1 ≤ k ∧ s8 = .int .i64 c ∧ s9 = .int .i64 (k : Int) ∧ Hid (CBnd k c) ∧ Hid (bitsL c (TL.drop (k - 1)) = T) ∧ w = wr)
      case atStart => exact ⟨1, c0, by omega, by omega, rfl, rfl, HCB, HT0, rfl⟩
      case round =>
        obtain ⟨k, c, hkg, hk1, rfl, rfl, hC, hT, rfl⟩ := hrel
        obtain ⟨b1, b2⟩ := hC.out.small
        by_cases hk : k < n
        · have v2 : decide ((k : Int) < (n : Int)) = true := decide_eq_true (by omega)
          have v2' : decide (k < n) = true := decide_eq_true hk
          have hik : i + k < s.size := by omega
          obtain ⟨y, hy⟩ : ∃ y, s[i + k].toNat = y := ⟨_, rfl⟩
          have hy2 : y < 256 := by rw [← hy]; exact s[i + k].toNat_lt
          have HC2 := Lib.hid (hC.out.next (by omega) hy2)
          have HT2 : Hid (bitsL (c * 64 + y - 128) (TL.drop (k + 1 - 1)) = T) := Lib.hid (by
            have hl := HTLl.out
            obtain ⟨h2, h3⟩ := HTL.out (k - 1) (by omega)
            have h4 := bits_step (c := c) (l := TL) (k := k - 1) (by omega)
            rw [hT.out, h3] at h4
            have h5 : i + 1 + (k - 1) = i + k := by omega
            simp only [h5, hy] at h4
            rw [h4, show k + 1 - 1 = k - 1 + 1 by omega])
          clear hT hC
          go_wp2_with fail
          go_roundg (gk - 1)
          case measure => omega
          case rel => exact ⟨k + 1, c * 64 + y - 128, by omega, by omega, by go_num, by go_num, HC2, HT2, rfl⟩
        · have v2 : decide ((k : Int) < (n : Int)) = false := decide_eq_false (by omega)
          have v2' : decide (k < n) = false := decide_eq_false hk
          obtain rfl : n = k := by omega
          have HTc : Hid (T = c) := Lib.hid (by
            have hl := HTLl.out
            have h4 := hT.out
            rw [List.drop_eq_nil_of_le (by omega)] at h4
            exact h4.symm)
          have HCh := Lib.hid (rchar_any w c (by omega) (by omega))
          clear hT hC
          have hext : (s.extract i (i + n)).data.toList = (s.data.toList.drop i).take n := by
            rw [ByteArray.data_extract, Array.toList_extract, List.extract_eq_take_drop]
            congr 1
            omega
          obtain ⟨q, hq⟩ : ∃ q, s.extract i (i + n) = q := ⟨_, rfl⟩
          rw [hq] at hext
          have HE := Lib.hid hext
          have HIN := Lib.hid hin
          clear hext
          go_wp2_with (go_at_call 174; refine HCh.out.mono ?_; rintro e w2 ⟨sx, ok, rfl, h1, h2, hb⟩; have H1 := Lib.hid h1; have H2 := Lib.hid h2; have HB := Lib.hid hb; clear h1 h2 hb; refine Hid.out ?_)
          refine Lib.hid ?_
          cases hok : ok with
          | false =>
            subst hok
            go_wp2_with fail
            refine bodyPost_ret (v := .tuple #[.int .i64 0, .int .i64 0, .bool false]) (by simp [results, Tryz.results142, go_sem]) rfl ?_
            refine ⟨_, _, false, rfl, fun h => (by cases h), fun _ => ?_, HB.out⟩
            have h0 := HAT.out
            rw [HTc.out, H2.out (by first | rfl | trivial)] at h0
            rw [h0, if_neg]
            rintro ⟨_, h3⟩
            have h4 := congrArg List.length h3
            unfold bytsL at h4
            rw [List.length_map, List.length_take, List.length_drop, hlen] at h4
            simp at h4
            omega
          | true =>
            subst hok
            by_cases heq : sx.toList = q.toList
            · have hqb : (sx.toList == q.toList) = true := beq_iff_eq.2 heq
              have HEQ := Lib.hid heq
              clear heq
              go_wp2_with fail
              refine bodyPost_ret (v := .tuple #[.int .i64 c, .int .i64 n, .bool true]) (by simp [results, Tryz.results142, go_sem]) rfl ?_
              refine ⟨_, _, true, rfl, fun _ => ⟨n, ?_, rfl⟩, fun h => (by cases h), HB.out⟩
              rw [HAT.out, HTc.out]
              refine if_pos ⟨HIN.out, ?_⟩
              rw [← H1.out (by first | rfl | trivial), ← HE.out, ← Lib.toList_data, ← Lib.toList_data, HEQ.out]
            · have hqb : (sx.toList == q.toList) = false := beq_eq_false_iff_ne.2 heq
              have HEQ := Lib.hid heq
              clear heq
              go_wp2_with fail
              refine bodyPost_ret (v := .tuple #[.int .i64 0, .int .i64 0, .bool false]) (by simp [results, Tryz.results142, go_sem]) rfl ?_
              refine ⟨_, _, false, rfl, fun h => (by cases h), fun _ => ?_, HB.out⟩
              rw [HAT.out, HTc.out]
              refine if_neg ?_
              rintro ⟨_, h3⟩
              refine HEQ.out ?_
              rw [← H1.out (by first | rfl | trivial), ← HE.out] at h3
              have h5 : sx.data.toList = q.data.toList := bytsL_inj h3
              rw [Lib.toList_data, Lib.toList_data, h5]
    · have v1 : decide ((s.size : Int) < (i : Int) + (n : Int)) = true := decide_eq_true (by omega)
      have v1' : decide (s.size < i + n) = true := decide_eq_true (by omega)
      have HN : Hid (atL (s.data.toList.drop i) = none) := Lib.hid (by rw [HAT.out]; exact if_neg (fun h => hin h.1))
      clear hx
      go_wp2_with fail
      refine bodyPost_ret (v := .tuple #[.int .i64 0, .int .i64 0, .bool false]) (by simp [results, Tryz.results142, go_sem]) rfl ?_
      exact ⟨_, _, false, rfl, fun h => (by cases h), fun _ => HN.out, Below.refl _ _⟩
set_option maxHeartbeats 2000000 in
/-- What may be text. -/
theorem rutf_any (w : World) (s : ByteArray) (hsz : s.size ≤ 140737488355328) : Calls Tryz.prog 99 #[.string s] w fun e w' => e = .returned (.bool (Lib.validD s.data.toList)) ∧ Below w.heap.size w w' := by
  have hlen : s.data.toList.length = s.size := rfl
  obtain ⟨t, ht⟩ : ∃ t, Lib.validD s.data.toList = t := ⟨_, rfl⟩
  have HT : Hid (Lib.validD (s.data.toList.drop 0) = t) := Lib.hid ht
  rw [ht]
  clear ht
  go_enter Tryz.func99, Tryz.ntmps99
  go_wp2_with fail
  go_loopg [3] s.size (fun g s3 wr => ∃ i : Nat, i + g = s.size ∧ s3 = .int .i64 (i : Int) ∧ Hid (Lib.validD (s.data.toList.drop i) = t) ∧ Below w.heap.size w wr)
  case atStart => exact ⟨0, by omega, rfl, HT, Below.refl _ _⟩
  case round =>
    obtain ⟨i, hig, rfl, hV, hB⟩ := hrel
    by_cases hi : i < s.size
    · have d1 : decide ((i : Int) < (s.size : Int)) = true := decide_eq_true (by omega)
      have d1' : decide (i < s.size) = true := decide_eq_true hi
      have HC := Lib.hid (rat_any wr s i hi hsz)
      have HV2 := Lib.hid (show ∀ (o : Option Nat), atL (s.data.toList.drop i) = o → (o = none → t = false) ∧ (∀ k, o = some k → Lib.validD (s.data.toList.drop (i + k)) = t ∧ 1 ≤ k ∧ i + k ≤ s.size) from fun o ho => by
        have hne : s.data.toList.drop i ≠ [] := by
          intro h
          have := congrArg List.length h
          rw [List.length_drop, hlen] at this
          simp at this
          omega
        have h1 := valid_at _ hne
        rw [hV.out, ho] at h1
        refine ⟨fun h => by rw [h] at h1; exact h1, fun k hk => ?_⟩
        rw [hk] at h1 ho
        have h2 := atL_wid ho
        rw [List.length_drop, hlen] at h2
        refine ⟨?_, h2.1, by omega⟩
        rw [← List.drop_drop] 
        exact h1.symm)
      have HB := Lib.hid hB
      clear hV hB
      go_wp2_with (go_at_call 142; refine HC.out.mono ?_; rintro e w2 ⟨c, k, ok, rfl, h1, h2, hb⟩; have H1 := Lib.hid h1; have H2 := Lib.hid h2; have HB2 := Lib.hid (HB.out.trans (hb.mono HB.out.size)); clear h1 h2 hb; refine Hid.out ?_)
      refine Lib.hid ?_
      cases hok : ok with
      | false =>
        subst hok
        go_wp2_with fail
        go_ret
        exact ⟨ret_bool (((HV2.out _ (H2.out (by first | rfl | trivial))).1 rfl).symm), HB2.out⟩
      | true =>
        subst hok
        obtain ⟨m, hm, rfl⟩ := H1.out (by first | rfl | trivial)
        obtain ⟨k1, k2, k3⟩ := (HV2.out _ hm).2 m rfl
        have HK := Lib.hid k1
        clear k1 hm
        go_wp2_with fail
        go_roundg (s.size - (i + m))
        case measure => omega
        case rel => exact ⟨i + m, by omega, by go_num, HK, HB2.out⟩
    · have d1 : decide ((i : Int) < (s.size : Int)) = false := decide_eq_false (by omega)
      have d1' : decide (i < s.size) = false := decide_eq_false hi
      have HK : Hid (true = t) := Lib.hid (by have := hV.out; rw [List.drop_eq_nil_of_le (by omega)] at this; exact this)
      clear hV
      go_wp2_with fail
      go_ret
      exact ⟨ret_bool HK.out, hB⟩
end Go.Proofs.YtbephgifbghilaaGreatDoor
/- The document's Number, of what is not less than nothing (seat expr). -/
set_option maxRecDepth 100000
namespace Go.Proofs.YtbephgifbghilaaGreatDoor
open Go.RowKit
/-- A number's text. -/
def numT (n : Int) : ByteArray := ⟨(Lib.itoa n).toArray⟩
def digsR (u : Nat) : List UInt8 := if u = 0 then [] else Lib.decDigits u
theorem digsR_step {u : Nat} (h : u ≠ 0) : digsR u = digsR (u / 10) ++ [UInt8.ofNat (48 + u % 10)] := by
  unfold digsR
  rw [if_neg h, Lib.decDigits]
  by_cases h1 : u < 10
  · rw [dif_pos h1, if_pos (by omega), Nat.mod_eq_of_lt h1, List.nil_append]
  · rw [dif_neg h1, if_neg (by omega)]
theorem rnum_zero (w : World) : Calls Tryz.prog 97 #[.int .i64 0] w fun e w' => e = .returned (.string (numT 0)) ∧ Below w.heap.size w w' := by
  have hf : Hid (Ending.returned (Value.string (ByteArray.mk #[48])) = .returned (.string (numT 0))) := by refine Lib.hid ?_; unfold numT Lib.itoa; rw [if_neg (by omega), Int.toNat_zero, Lib.decDigits_one (by omega)]; rfl
  go_enter Tryz.func97, Tryz.ntmps97
  go_wp2_with fail
  go_ret
  exact ⟨hf.out, Below.refl _ _⟩
set_option maxHeartbeats 2000000 in
theorem rnum_pos (w : World) (n : Nat) (h0 : n ≠ 0) (h1 : (n : Int) ≤ 9223372036854775807) :
    Calls Tryz.prog 97 #[.int .i64 n] w fun e w' => e = .returned (.string (numT n)) ∧ Below w.heap.size w w' := by
  have d1 : ((n : Int) == 0) = false := beq_eq_false_iff_ne.2 (by omega)
  have d2 : decide ((n : Int) < 0) = false := decide_eq_false (by omega)
  have HD : Hid (digsR n ++ (ByteArray.mk #[]).data.toList = Lib.decDigits n) := by refine Lib.hid ?_; unfold digsR; rw [if_neg h0]; exact List.append_nil _
  go_enter Tryz.func97, Tryz.ntmps97
  go_wp2_with fail
  go_loopg [3, 5] n (fun g s3 s5 wr => ∃ (u : Nat) (acc : ByteArray), u = g ∧ s3 = .int .u64 (u : Int) ∧ s5 = .string acc ∧ Hid (digsR u ++ acc.data.toList = Lib.decDigits n) ∧ acc.size ≤ 100 ∧ u ≤ n ∧ Below w.heap.size w wr)
  case atStart => exact ⟨n, ⟨#[]⟩, rfl, rfl, rfl, HD, by show (0 : Nat) ≤ 100; omega, Nat.le_refl _, Below.refl _ _⟩
  case round =>
    obtain ⟨u, acc, rfl, rfl, rfl, hD, hacc, hun, hbel⟩ := hrel
    by_cases hu : u = 0
    · have d3 : decide ((0 : Int) < (u : Int)) = false := decide_eq_false (by omega)
      have d3' : decide (0 < u) = false := decide_eq_false (by omega)
      have hr : Hid (Value.string (ByteArray.mk #[] ++ acc) = .string (numT n)) := by
        refine Lib.hid ?_
        have e := hD.out
        rw [hu] at e
        have e2 : acc = numT n := by
          unfold numT Lib.itoa
          rw [if_neg (by omega), Int.toNat_natCast, ← e]
          cases acc with | mk d => simp [digsR]
        have e3 : ByteArray.mk #[] ++ acc = acc := by
          cases acc with | mk d => exact ByteArray.ext (by simp)
        rw [e3, e2]
      go_wp2_with fail
      go_ret
      exact ⟨congrArg Ending.returned hr.out, hbel⟩
    · have d3 : decide ((0 : Int) < (u : Int)) = true := decide_eq_true (by omega)
      have d3' : decide (0 < u) = true := decide_eq_true (by omega)
      have hconv := run_convert_bytes_arg (P := Tryz.prog) (wr.alloc (.cells #[.int .u8 (48 + (u : Int) % 10)] 5)) 32 5 Tryz.underlying32 Tryz.underlying5 wr.heap.size 0 1 1 [48 + (u : Int) % 10] rfl (fun i hi => by
        obtain rfl : i = 0 := by omega
        exact cell_one_new _ _ _ 0 _ rfl) 9 Tryz.underlying9
      have hsx0 : strOfNums [48 + (u : Int) % 10] = ⟨#[UInt8.ofNat (48 + u % 10)]⟩ := by
        unfold strOfNums
        rw [List.map_cons, List.map_nil, show (48 + (u : Int) % 10).toNat = 48 + u % 10 by omega]
      rw [hsx0] at hconv
      have HD2 : Hid (digsR (u / 10) ++ (ByteArray.mk #[UInt8.ofNat (48 + u % 10)] ++ acc).data.toList = Lib.decDigits n) := by
        refine Lib.hid ?_
        rw [← hD.out, digsR_step hu]
        simp
      obtain ⟨sx, hsx⟩ : ∃ sx, ByteArray.mk #[UInt8.ofNat (48 + u % 10)] = sx := ⟨_, rfl⟩
      rw [hsx] at hconv HD2
      have hsz : sx.size ≤ 1 := by rw [← hsx]; exact Nat.le_refl _
      have hlen : (sx ++ acc).size ≤ 100 := by
        have e := congrArg List.length HD2.out
        rw [List.length_append, Lib.decDigits_length] at e
        have h20 := Lib.nDigits_le20 n (by omega)
        have e4 : (sx ++ acc).data.toList.length = (sx ++ acc).size := rfl
        omega
      have hb := hbel.alloc hbel.size (.cells #[.int .u8 (48 + (u : Int) % 10)] 5)
      have HL := Lib.hid hlen
      clear hsx hsx0 hlen hD
      go_wp2_with fail
      go_roundg (u / 10)
      case measure => omega
      case rel => exact ⟨u / 10, sx ++ acc, rfl, by go_num, rfl, HD2, HL.out, by omega, hb⟩
theorem rnum_any (w : World) (n : Int) (h0 : 0 ≤ n) (h1 : n ≤ 9223372036854775807) : Calls Tryz.prog 97 #[.int .i64 n] w fun e w' => e = .returned (.string (numT n)) ∧ Below w.heap.size w w' := by
  obtain ⟨m, rfl⟩ : ∃ m : Nat, n = m := ⟨n.toNat, by omega⟩
  by_cases hm : m = 0
  · subst hm; exact rnum_zero w
  · exact rnum_pos w m hm h1
end Go.Proofs.YtbephgifbghilaaGreatDoor
/- Rows of elements of k cells: whole elements loaded, stored, exchanged, copied within a row. -/
set_option maxRecDepth 100000
namespace Go.Proofs.YtbephgifbghilaaGreatDoor
open Go.RowKit
theorem add_addrK (b o i : Nat) : (⟨b, o, none⟩ : Addr).add i = ⟨b, o + i, none⟩ := by
  unfold Addr.add
  split <;> simp_all
/-- A run of stores into a list. -/
def setsL (xs : List Value) : Nat → List Value → List Value
  | _, [] => xs
  | s, v :: r => setsL (xs.set s v) (s + 1) r
theorem get_setsL : ∀ (vs : List Value) (s : Nat) (xs : List Value) (t : Nat), s + vs.length ≤ xs.length → (setsL xs s vs)[t]? = if s ≤ t ∧ t < s + vs.length then vs[t - s]? else xs[t]?
  | [], s, xs, t, _ => by rw [setsL, if_neg (by simp only [List.length_nil]; omega)]
  | v :: r, s, xs, t, h => by
    simp only [List.length_cons] at h
    rw [setsL, get_setsL r (s + 1) _ t (by simp; omega)]
    by_cases h1 : s + 1 ≤ t ∧ t < s + 1 + r.length
    · rw [if_pos h1, if_pos (by simp; omega)]
      obtain ⟨u, rfl⟩ : ∃ u, t = s + 1 + u := ⟨t - (s + 1), by omega⟩
      rw [show s + 1 + u - s = u + 1 by omega, show s + 1 + u - (s + 1) = u by omega, List.getElem?_cons_succ]
    · rw [if_neg h1]
      by_cases h2 : t = s
      · subst h2
        rw [if_pos (by simp), List.getElem?_set_self (by omega), show t - t = 0 by omega, List.getElem?_cons_zero]
      · rw [if_neg (by simp; omega), List.getElem?_set_ne (Ne.symm h2)]
theorem stored_many {base g n cap : Nat} {e : TypeId} {size : Nat} : ∀ (vs : List Value) (s : Nat) (w : World) (xs : List Value), w.ownsRow base e size (.slice (some ⟨g, 0, none⟩) n cap) n xs →
    (w.setCells g s vs).ownsRow base e size (.slice (some ⟨g, 0, none⟩) n cap) n (setsL xs s vs) ∧ w.grownBy (w.setCells g s vs) (some g)
  | [], _, w, _, h => ⟨h, ⟨rfl, rfl, rfl, Nat.le_refl _, fun _ _ _ => rfl⟩⟩
  | v :: r, s, w, xs, h => by
    obtain ⟨h1, h2⟩ := World.ownsRow.stored h s v
    obtain ⟨h3, h4⟩ := stored_many r (s + 1) _ _ h1
    refine ⟨h3, ⟨h4.os.trans h2.os, h4.tape.trans h2.tape, h4.output.trans h2.output, Nat.le_trans h2.size h4.size, fun k hk hne => ?_⟩⟩
    exact (h4.block k (Nat.lt_of_lt_of_le hk h2.size) hne).trans (h2.block k hk hne)
theorem setsL_eqK : ∀ (vs : List Value) (s : Nat) (xs : List Value), s + vs.length ≤ xs.length → setsL xs s vs = xs.take s ++ (vs ++ xs.drop (s + vs.length)) := by
  intro vs s xs h
  apply List.ext_getElem?
  intro t
  rw [get_setsL vs s xs t h, List.getElem?_append, List.getElem?_append, List.length_take, Nat.min_eq_left (by omega)]
  by_cases h1 : t < s
  · rw [if_neg (by omega), if_pos h1, List.getElem?_take, if_pos h1]
  · rw [if_neg h1]
    by_cases h2 : t < s + vs.length
    · rw [if_pos (by omega), if_pos (by omega)]
    · rw [if_neg (by omega), if_neg (by omega), List.getElem?_drop]
      congr 1
      omega
section
variable {α : Type} {f : α → List Value} {k : Nat}
theorem cellsF_takeK (hf : ∀ x, (f x).length = k) : ∀ (l : List α) (i : Nat), (cellsF f l).take (i * k) = cellsF f (l.take i)
  | [], i => by simp [cellsF]
  | x :: l, 0 => by simp [cellsF]
  | x :: l, i + 1 => by
    have ih := cellsF_takeK hf l i
    show (f x ++ cellsF f l).take ((i + 1) * k) = f x ++ cellsF f (l.take i)
    rw [← ih, List.take_append, List.take_of_length_le (by rw [hf, Nat.add_mul]; omega), hf, show (i + 1) * k - k = i * k by rw [Nat.add_mul]; omega]
theorem cellsF_dropK (hf : ∀ x, (f x).length = k) : ∀ (l : List α) (i : Nat), (cellsF f l).drop (i * k) = cellsF f (l.drop i)
  | [], i => by simp [cellsF]
  | x :: l, 0 => by simp
  | x :: l, i + 1 => by
    have ih := cellsF_dropK hf l i
    show (f x ++ cellsF f l).drop ((i + 1) * k) = cellsF f (l.drop i)
    rw [← ih, List.drop_append, List.drop_of_length_le (by rw [hf, Nat.add_mul]; omega), hf, show (i + 1) * k - k = i * k by rw [Nat.add_mul]; omega, List.nil_append]
theorem cellsF_one' (h1 : ∀ x, ∀ u ∈ f x, u.oneCell' = true) (l : List α) : ∀ u ∈ cellsF f l, u.oneCell' = true := by
  intro u hu
  obtain ⟨x, _, hx⟩ := List.mem_flatMap.1 hu
  exact h1 x u hx
variable {e : TypeId} {w : World} {base g n cap : Nat} {A : List α}
theorem ownK_inb (_hf : ∀ x, (f x).length = k) (h : OwnF f e k w base (.slice (some ⟨g, 0, none⟩) n cap) A) {q : Nat} (hq : q < A.length * k) : w.cell? ⟨g, q, none⟩ = (cellsF f A)[q]? := by
  obtain ⟨_, _, _, rfl⟩ := h.block
  exact World.ownsRow.cellAt h _ hq
theorem ownK_set (hf : ∀ x, (f x).length = k) (h : OwnF f e k w base (.slice (some ⟨g, 0, none⟩) n cap) A) {i : Nat} (hi : i < A.length) (x : α) :
    OwnF f e k (w.setCells g (i * k) (f x)) base (.slice (some ⟨g, 0, none⟩) n cap) (A.set i x) ∧ w.grownBy (w.setCells g (i * k) (f x)) (some g) := by
  obtain ⟨_, _, _, rfl⟩ := h.block
  obtain ⟨h1, h2⟩ := stored_many (f x) (i * k) w _ h
  refine ⟨?_, h2⟩
  have hR : (cellsF f A).length = A.length * k := cellsF_len hf A
  have hb : i * k + k ≤ A.length * k := by rw [← Nat.succ_mul]; exact Nat.mul_le_mul_right _ hi
  have e : setsL (cellsF f A) (i * k) (f x) = cellsF f (A.set i x) := by
    rw [setsL_eqK _ _ _ (by rw [hf, hR]; exact hb), cellsF_takeK hf, hf, show i * k + k = (i + 1) * k by rw [Nat.add_mul]; omega, cellsF_dropK hf, List.set_eq_take_append_cons_drop, if_pos hi]
    simp [cellsF]
  rw [e] at h1
  unfold OwnF
  rw [List.length_set]
  exact h1
end
theorem run_copy_kK {P : Program} (w : World) (k : Nat) (dT sT ty elem : TypeId) (b o dLen dCap : Nat) (a : Addr) (sLen sCap : Nat) (cs : List Value)
    (hu : P.underlying dT = some (.slice elem)) (hs : (P.info? elem).map (·.size) = some k) (hn : cs.length = Nat.min sLen dLen * k)
    (hsrc : ∀ j v, cs[j]? = some v → w.cell? (a.add j) = some v) (hc : ∀ j, j < cs.length → (w.cell? ⟨b, o + j, none⟩).isSome = true) (hf : ∀ j, j < cs.length → w.frozen? ⟨b, o + j, none⟩ = false) (h1 : ∀ v ∈ cs, v.oneCell' = true) :
    (Builtin.copy_ #[dT, sT] ty #[.slice (some ⟨b, o, none⟩) dLen dCap, .slice (some a) sLen sCap]).run P w = .ok (goInt (Nat.min sLen dLen)) (w.setCells b o cs) := by
  have hl := run_loadCells_list (P := P) w a cs hsrc
  have hst := run_storeCells_cells (P := P) b o cs 0 w (by simpa using hc) (by simpa using hf) h1
  cases hq : P.info? elem with
  | none => simp [hq] at hs
  | some i =>
    have hi : i.size = k := by simpa [hq] using hs
    simp [Builtin.copy_, run_underlying hu, Builtin.lenOf, Builtin.firstCells, sizeOf, typeInfo, hq, hi, ← hn, hl, hst]
/-- Nothing goes over where one of the two has no element. -/
theorem run_copy_zeroK {P : Program} (w : World) (k : Nat) (dT sT ty elem : TypeId) (d a : Addr) (dLen dCap sLen sCap : Nat) (hu : P.underlying dT = some (.slice elem)) (hs : (P.info? elem).map (·.size) = some k) (hn : Nat.min sLen dLen = 0) :
    (Builtin.copy_ #[dT, sT] ty #[.slice (some d) dLen dCap, .slice (some a) sLen sCap]).run P w = .ok (goInt 0) w := by
  cases hq : P.info? elem with
  | none => simp [hq] at hs
  | some i =>
    simp [Builtin.copy_, run_underlying hu, Builtin.lenOf, Builtin.firstCells, sizeOf, typeInfo, hq, hn, storeCells, loadCells, loadCellsFrom, Result.andThen]
section
variable {α : Type} {f : α → List Value} {k : Nat} {e sT : TypeId} {w : World} {base g cap : Nat}
/-- copy(s[m+1:], s[m:]) within one row. -/
theorem ownK_shift {P : Program} (hu : P.underlying sT = some (.slice e)) (hs : (P.info? e).map (·.size) = some k) (hf : ∀ x, (f x).length = k) (h1 : ∀ x, ∀ u ∈ f x, u.oneCell' = true) {R : List α} {m : Nat}
    (h : OwnF f e k w base (.slice (some ⟨g, 0, none⟩) R.length cap) R) (hk : m + 1 < R.length) (ty : TypeId) (c1 c2 : Nat) :
    ∃ w', (Builtin.copy_ #[sT, sT] ty #[.slice (some ⟨g, (m + 1) * k, none⟩) (R.length - (m + 1)) c1, .slice (some ⟨g, m * k, none⟩) (R.length - m) c2]).run P w = .ok (goInt (R.length - (m + 1) : Nat)) w' ∧
      OwnF f e k w' base (.slice (some ⟨g, 0, none⟩) R.length cap) (R.take (m + 1) ++ (R.drop m).take (R.length - (m + 1))) ∧ w.grownBy w' (some g) := by
  obtain ⟨M, hM⟩ : ∃ M, (R.drop m).take (R.length - (m + 1)) = M := ⟨_, rfl⟩
  have hMl : M.length = R.length - (m + 1) := by rw [← hM, List.length_take, List.length_drop]; omega
  have hlen : (cellsF f M).length = (R.length - (m + 1)) * k := by rw [cellsF_len hf, hMl]
  have hR : (cellsF f R).length = R.length * k := cellsF_len hf R
  have hsum : (m + 1) * k + (R.length - (m + 1)) * k = R.length * k := by rw [← Nat.add_mul]; congr 1; omega
  have hsum2 : m * k + k = (m + 1) * k := by rw [Nat.add_mul]; omega
  obtain ⟨g1, g2⟩ := stored_many (cellsF f M) ((m + 1) * k) w _ h
  have hmin : Nat.min (R.length - m) (R.length - (m + 1)) = R.length - (m + 1) := Nat.min_eq_right (by omega)
  have hcell : ∀ j, j < R.length * k → w.cell? ⟨g, j, none⟩ = (cellsF f R)[j]? := fun j hj => ownK_inb hf h hj
  have hsrc : ∀ j v, (cellsF f M)[j]? = some v → w.cell? ((⟨g, m * k, none⟩ : Addr).add j) = some v := fun j v hj => by
    have hjl : j < (cellsF f M).length := (List.getElem?_eq_some_iff.1 hj).1
    rw [add_addrK, hcell _ (by omega), ← hj, ← hM, ← cellsF_takeK hf, ← cellsF_dropK hf, List.getElem?_take, if_pos (by omega), List.getElem?_drop]
  have hrun := run_copy_kK (P := P) w k sT sT ty e g ((m + 1) * k) (R.length - (m + 1)) c1 ⟨g, m * k, none⟩ (R.length - m) c2 (cellsF f M) hu hs (by rw [hlen, hmin]) hsrc
    (fun j hj => by rw [hcell _ (by omega), List.getElem?_eq_getElem (by omega)]; rfl) (fun j _ => h.free _) (cellsF_one' h1 M)
  rw [hmin] at hrun
  refine ⟨_, hrun, ?_, g2⟩
  have e : setsL (cellsF f R) ((m + 1) * k) (cellsF f M) = cellsF f (R.take (m + 1) ++ M) := by
    rw [setsL_eqK _ _ _ (by omega), cellsF_takeK hf, List.drop_of_length_le (by omega), List.append_nil]
    simp [cellsF]
  rw [e] at g1
  unfold OwnF
  rw [hM, show (R.take (m + 1) ++ M).length = R.length by rw [List.length_append, List.length_take, hMl]; omega]
  exact g1
theorem shift_setK {α : Type} {O : List α} {z a : α} {k : Nat} (hk : k < O.length) : ((O ++ [z]).take (k + 1) ++ ((O ++ [z]).drop k).take ((O ++ [z]).length - (k + 1))).set k a = O.take k ++ a :: O.drop k := by
  rw [List.take_append_of_le_length (by omega), List.drop_append_of_le_length (by omega), List.take_append_of_le_length (by simp), List.take_of_length_le (i := (O ++ [z]).length - (k + 1)) (by simp), List.take_add_one, List.getElem?_eq_getElem hk]
  simp only [Option.toList_some, List.append_assoc, List.singleton_append]
  have e := List.set_append (s := O.take k) (t := O[k] :: O.drop k) (i := k) (x := a)
  rw [e, if_neg (by rw [List.length_take]; omega), show k - (O.take k).length = 0 by rw [List.length_take]; omega]
  rfl
/-- copy(s[m+1:], s[m:]) behind append(s, z): what a store at m then makes the insertion. -/
theorem ownK_ins {P : Program} (hu : P.underlying sT = some (.slice e)) (hs : (P.info? e).map (·.size) = some k) (hf : ∀ x, (f x).length = k) (h1 : ∀ x, ∀ u ∈ f x, u.oneCell' = true) {O : List α} {z x : α} {n6 m : Nat}
    (h : OwnF f e k w base (.slice (some ⟨g, 0, none⟩) (O.length + 1) cap) (O ++ [z])) (hn : O.length + 1 = n6) (hm : m ≤ O.length) (ty : TypeId) :
    ∃ ad w7, ∃ R : List α, (if cap = m + 1 then some (⟨g, 0, none⟩ : Addr) else some ⟨g, (m + 1) * k, none⟩) = some ad ∧
      (Builtin.copy_ #[sT, sT] ty #[.slice (some ad) (n6 - (m + 1)) (cap - (m + 1)), .slice (some ⟨g, m * k, none⟩) (n6 - m) (cap - m)]).run P w = .ok (goInt (n6 - (m + 1) : Nat)) w7 ∧
      OwnF f e k w7 base (.slice (some ⟨g, 0, none⟩) n6 cap) R ∧ R.length = n6 ∧ w.grownBy w7 (some g) ∧ R.set m x = O.take m ++ x :: O.drop m := by
  subst hn
  have hcap := OwnF.cap h
  have hl : (O ++ [z]).length = O.length + 1 := by simp
  rw [hl] at hcap
  rcases Nat.lt_or_eq_of_le hm with hlt | rfl
  · rw [← hl] at h
    obtain ⟨w7, g1, g2, g3⟩ := ownK_shift (m := m) hu hs hf h1 h (by omega) ty (cap - (m + 1)) (cap - m)
    have hset := shift_setK (z := z) (a := x) hlt
    obtain ⟨R, hR⟩ : ∃ R, (O ++ [z]).take (m + 1) ++ ((O ++ [z]).drop m).take ((O ++ [z]).length - (m + 1)) = R := ⟨_, rfl⟩
    have hRl : R.length = O.length + 1 := by rw [← hR]; simp; omega
    rw [hR] at g2 hset
    rw [hl] at g1 g2
    exact ⟨_, w7, R, if_neg (by omega), g1, g2, hRl, g3, hset⟩
  · have hz : O.length + 1 - (O.length + 1) = 0 := by omega
    have hr : ∀ ad, (Builtin.copy_ #[sT, sT] ty #[.slice (some ad) (O.length + 1 - (O.length + 1)) (cap - (O.length + 1)), .slice (some ⟨g, O.length * k, none⟩) (O.length + 1 - O.length) (cap - O.length)]).run P w = .ok (goInt (O.length + 1 - (O.length + 1) : Nat)) w := fun ad => by
      have := run_copy_zeroK (P := P) w k sT sT ty e ad ⟨g, O.length * k, none⟩ (O.length + 1 - (O.length + 1)) (cap - (O.length + 1)) (O.length + 1 - O.length) (cap - O.length) hu hs (by rw [hz]; exact Nat.min_eq_right (by omega))
      rw [this, hz]; rfl
    have hs : (O ++ [z]).set O.length x = O.take O.length ++ x :: O.drop O.length := by simp
    by_cases hc : cap = O.length + 1
    · exact ⟨_, w, _, if_pos hc, hr _, h, hl, ⟨rfl, rfl, rfl, Nat.le_refl _, fun _ _ _ => rfl⟩, hs⟩
    · exact ⟨_, w, _, if_neg hc, hr _, h, hl, ⟨rfl, rfl, rfl, Nat.le_refl _, fun _ _ _ => rfl⟩, hs⟩
end
end Go.Proofs.YtbephgifbghilaaGreatDoor
/- append(dst, src...): dst the call's own, src any slice of structs without slices of their own that may be read: nil, empty or not. -/
set_option maxRecDepth 100000
namespace Go.Proofs.YtbephgifbghilaaGreatDoor
open Go.RowKit
section
variable {P : Program} (w : World) {α : Type} {f : α → List Value} {k : Nat}
theorem add_addrF (b o i : Nat) : (⟨b, o, none⟩ : Addr).add i = ⟨b, o + i, none⟩ := by
  unfold Addr.add
  split <;> simp_all
theorem cellsF_one2 (h1 : ∀ x, ∀ u ∈ f x, u.oneCell' = true) (l : List α) : ∀ u ∈ cellsF f l, u.oneCell' = true := by
  intro u hu
  obtain ⟨x, _, hx⟩ := List.mem_flatMap.1 hu
  exact h1 x u hx
theorem run_append_colF (hf : ∀ x, (f x).length = k) (h1 : ∀ x, ∀ u ∈ f x, u.oneCell' = true) (base : Nat) (t ty e : TypeId) (i : TypeInfo) (z : Value) (bytes : Nat) (ht : P.underlying t = some (.slice e)) (hi : P.info? e = some i) (hz : i.zero = some z)
    (hsize : i.size = k) (hby : i.bytes = bytes) (hzs : z.cells.size = k) (hk : 0 < k)
    (v : Value) (n : Nat) (xs : List Value) (hown : w.ownsRow base e k v n xs) {B cap : Nat} {a : Option Addr} {l : List α} (hc : ColF f k w B a l)
    (h63 : n + l.length ≤ maxLen) (hbytes : (n + l.length) * bytes ≤ 140737488355328) (hbase : base ≤ w.heap.size) :
    ∃ v' w', (Builtin.append_ #[t, t] ty #[v, .slice a l.length cap]).run P w = .ok v' w' ∧ w'.ownsRow base e k v' (n + l.length) (xs ++ cellsF f l) ∧ w.grownBy w' v.ownBlock ∧ (v'.ownBlock = v.ownBlock ∨ v'.ownBlock = some w.heap.size) := by
  cases a with
  | none =>
    have hl0 : l = [] := by
      cases l with
      | nil => rfl
      | cons x l => obtain ⟨b, o, hb, _⟩ := hc 0 (by simp); cases hb
    subst hl0
    exact ⟨v, w, run_append_none w base t ty e i k ht hi v n cap xs hown, by simpa [cellsF] using hown, ⟨rfl, rfl, rfl, Nat.le_refl _, fun _ _ _ => rfl⟩, Or.inl rfl⟩
  | some ad =>
    have hnews : ∀ j u, (cellsF f l)[j]? = some u → w.cell? (ad.add j) = some u := by
      intro j u hu
      have hj : j < (cellsF f l).length := (List.getElem?_eq_some_iff.1 hu).1
      rw [cellsF_len hf] at hj
      have hi : j / k < l.length := (Nat.div_lt_iff_lt_mul hk).2 hj
      obtain ⟨b, o, hb, _, hcc⟩ := hc (j / k) hi
      cases hb
      have hm : j % k < k := Nat.mod_lt _ hk
      have e := Nat.div_add_mod' j k
      rw [add_addrF, show o + j = o + (j / k) * k + j % k by omega, hcc _ hm, ← hu]
      have := cellsF_at hf l (j / k) (j % k) hi hm
      rw [e] at this
      exact this.symm
    obtain ⟨v', w', hr, g1, g2, _, g3⟩ := run_append_own_at (P := P) w base t ty e i z k bytes ht hi hz hsize hby hzs hk v n xs hown ad l.length cap (cellsF f l) (cellsF_len hf l) hnews
      (cellsF_one2 h1 l) h63 hbytes hbase
    exact ⟨v', w', hr, g1, g2, g3⟩
theorem wpList_append_colF {ops : Array Oper} {rest : List Oper} {o : Oper} {a : Act} {Q : Exit → Act → World → Prop} (hgd : o.guard = none) (s x : Operand) (t : TypeId)
    (ho : o.op = .call { callee := .builtin .append, args := #[s, x], argTypes := #[t, t] })
    (hf : ∀ x, (f x).length = k) (h1 : ∀ x, ∀ u ∈ f x, u.oneCell' = true) (base : Nat) (e : TypeId) (i : TypeInfo) (z : Value) (bytes : Nat) (ht : P.underlying t = some (.slice e)) (hi : P.info? e = some i) (hz : i.zero = some z)
    (hsize : i.size = k) (hby : i.bytes = bytes) (hzs : z.cells.size = k) (hk : 0 < k)
    (v : Value) (n : Nat) (xs : List Value) (hs : a.eval s = v) (hown : w.ownsRow base e k v n xs) {B cap : Nat} {ad : Option Addr} {l : List α} (hx : a.eval x = .slice ad l.length cap) (hc : ColF f k w B ad l)
    (h63 : n + l.length ≤ maxLen) (hbytes : (n + l.length) * bytes ≤ 140737488355328) (hbase : base ≤ w.heap.size)
    (h : ∀ v' w', w'.ownsRow base e k v' (n + l.length) (xs ++ cellsF f l) → w.grownBy w' v.ownBlock → (v'.ownBlock = v.ownBlock ∨ v'.ownBlock = some w.heap.size) → wpList P ops Q rest (a.put o.dst v') w') : wpList P ops Q (o :: rest) a w := by
  obtain ⟨v', w', hr, h2, h3, h4⟩ := run_append_colF (P := P) (cap := cap) w hf h1 base t o.type e i z bytes ht hi hz hsize hby hzs hk v n xs hown hc h63 hbytes hbase
  refine wpList_plain hgd fun K hK => ?_
  unfold Oper.wp execOp
  simp only [ho, resolve, invoke, builtin, Sem.run_bind, Sem.run_pure, Result.andThen_ok, List.map_toArray, List.map_cons, List.map_nil, hs, hx, hr]
  exact hK _ _ (h v' w' h2 h3 h4)
end
/-- A built slice is the call's own. -/
theorem ownF_built {α : Type} {f : α → List Value} {k : Nat} (hf : ∀ x, (f x).length = k) {e : TypeId} {w : World} {base g n : Nat} {A : List α} {cur : Array Value} (hb : base ≤ g) (h : w.heap[g]? = some (.cells cur e (0, 0))) (hc : cur.toList = cellsF f A) (hn : A.length = n) (hm : n ≤ maxLen) : w.ownsRow base e k (.slice (some ⟨g, 0, none⟩) n n) n (cellsF f A) := by
  have hl := cellsF_len hf A
  have hs : cur.size = n * k := by
    have : cur.toList.length = n * k := by rw [hc, hl, hn]
    simpa using this
  exact ⟨by rw [hl, hn], .inr ⟨g, n, cur, rfl, hb, h, Nat.le_refl _, hm, hs, by rw [hc, List.take_of_length_le (by rw [hl, hn]; omega)]⟩⟩
end Go.Proofs.YtbephgifbghilaaGreatDoor
/- A name put in its place, once (plain; the document's put; seat expr). -/
set_option maxRecDepth 100000
namespace Go.Proofs.YtbephgifbghilaaGreatDoor
/-- Where a name is put: behind all that are not greater. -/
def posK (l : List (List UInt8)) (s : List UInt8) : Nat → Nat
  | 0 => 0
  | k + 1 => if s < l.getD k [] then posK l s k else k + 1
def putL (l : List (List UInt8)) (s : List UInt8) : List (List UInt8) :=
  if 0 < posK l s l.length ∧ l.getD (posK l s l.length - 1) [] = s then l else l.take (posK l s l.length) ++ s :: l.drop (posK l s l.length)
theorem posK_spec (l : List (List UInt8)) (s : List UInt8) : ∀ k, posK l s k ≤ k ∧ (∀ j, posK l s k ≤ j → j < k → s < l.getD j []) ∧ (0 < posK l s k → ¬ s < l.getD (posK l s k - 1) [])
  | 0 => ⟨Nat.le_refl _, fun j _ h => by omega, fun h => absurd h (by show ¬ 0 < 0; omega)⟩
  | k + 1 => by
    obtain ⟨h1, h2, h3⟩ := posK_spec l s k
    show (if s < l.getD k [] then posK l s k else k + 1) ≤ k + 1 ∧ (∀ j, (if s < l.getD k [] then posK l s k else k + 1) ≤ j → j < k + 1 → s < l.getD j []) ∧ (0 < (if s < l.getD k [] then posK l s k else k + 1) → ¬ s < l.getD ((if s < l.getD k [] then posK l s k else k + 1) - 1) [])
    by_cases h : s < l.getD k []
    · rw [if_pos h]
      refine ⟨by omega, fun j hj hk => ?_, h3⟩
      by_cases e : j = k
      · subst e; exact h
      · exact h2 j hj (by omega)
    · rw [if_neg h]
      exact ⟨Nat.le_refl _, fun j hj hk => by omega, fun _ => h⟩
theorem putL_len (l : List (List UInt8)) (s : List UInt8) : (putL l s).length ≤ l.length + 1 := by
  unfold putL
  have := (posK_spec l s l.length).1
  split
  · omega
  · simp; omega
end Go.Proofs.YtbephgifbghilaaGreatDoor
/- The document's put: a name into its place in a row of the call's own (seat expr). -/
set_option maxRecDepth 100000
namespace Go.Proofs.YtbephgifbghilaaGreatDoor
open Go.RowKit
/-- Names in a row of the call's own. -/
def cS (x : List UInt8) : List Value := [.string ⟨x.toArray⟩]
theorem cS_len : ∀ x, (cS x).length = 1 := fun _ => rfl
theorem cS_one : ∀ x, ∀ u ∈ cS x, u.oneCell' = true := fun x u hu => by
  simp only [cS, List.mem_cons, List.not_mem_nil, or_false] at hu
  subst hu; rfl
abbrev OwnZ (w : World) (base : Nat) (v : Value) (L : List (List UInt8)) : Prop := OwnF cS 9 1 w base v L
theorem info_strZ : (Tryz.prog.info? 9).map (fun i => (i.zero, i.size, i.bytes)) = some (some (.string ⟨#[]⟩), 1, 16) := by kernel_rfl
/-- What put leaves. -/
def PutR (w : World) (base : Nat) (v : Value) (L : List (List UInt8)) (s : ByteArray) (e : Ending) (w' : World) : Prop :=
  ∃ v', e = .returned v' ∧ OwnZ w' base v' (putL L s.data.toList) ∧ Frm [v.ownBlock] w w' ∧ Fresh w v v'
set_option maxHeartbeats 4000000 in
theorem rput_any (w : World) (base : Nat) (v : Value) (L : List (List UInt8)) (s : ByteArray) (h : OwnZ w base v L) (hl : L.length ≤ 100000) (hb : base ≤ w.heap.size) :
    Calls Tryz.prog 69 #[v, .string s] w (PutR w base v L s) := by
  obtain ⟨av, cv, rfl⟩ : ∃ a c, v = .slice a L.length c := OwnF.shape h
  have HO := Lib.hid h
  obtain ⟨q, hq⟩ : ∃ q, posK L s.data.toList L.length = q := ⟨_, rfl⟩
  have HQ := Lib.hid hq
  obtain ⟨i0, hti, hz0, hz1, hz2⟩ := info_parts info_strZ
  clear h hq
  go_enter Tryz.func69, Tryz.ntmps69
  go_wp2_with fail
  go_loopg [5] L.length (fun g s5 wr => s5 = .int .i64 (g : Int) ∧ g ≤ L.length ∧ Hid (posK L s.data.toList g = q) ∧ w = wr)
  case atStart => exact ⟨rfl, Nat.le_refl _, HQ, rfl⟩
  case round =>
    obtain ⟨rfl, hgl, hP, rfl⟩ := hrel
    by_cases hgo : 0 < gk ∧ s.data.toList < L.getD (gk - 1) []
    · obtain ⟨j, rfl⟩ : ∃ j, gk = j + 1 := ⟨gk - 1, by omega⟩
      have hj : j < L.length := by omega
      have hlt : s.data.toList < L.getD j [] := hgo.2
      obtain ⟨g, hav, -, -, -⟩ := OwnF.some HO.out (show 0 < L.length by omega)
      subst hav
      have y1 : w.cell? ⟨g, j, none⟩ = some (.string ⟨L[j].toArray⟩) := by
        have := OwnF.at cS_len HO.out (i := j) hj (j := 0) (by omega)
        simpa [cS] using this
      have hLj : L.getD j [] = L[j] := by simp [List.getD_eq_getElem?_getD, hj]
      obtain ⟨xb, hxb⟩ : ∃ xb : ByteArray, (⟨L[j].toArray⟩ : ByteArray) = xb := ⟨_, rfl⟩
      have hxl : xb.data.toList = L[j] := by rw [← hxb]
      have d2 : Op.bytesLess xb.toList s.toList = false := by rw [bytesLess_eq, decide_eq_false_iff_not, Lib.toList_data, Lib.toList_data, hxl, ← hLj]; exact List.lt_asymm hlt
      have d3 : (xb.toList == s.toList) = false := by rw [beq_eq_false_iff_ne, Lib.toList_data, Lib.toList_data, hxl, ← hLj]; intro e; rw [e] at hlt; exact List.lt_irrefl _ hlt
      have d1 : decide ((0 : Int) < ((j + 1 : Nat) : Int)) = true := decide_eq_true (by omega)
      have HP2 : Hid (posK L s.data.toList j = q) := Lib.hid (by rw [← hP.out]; exact (if_pos hlt).symm)
      rw [hxb] at y1
      clear hxb hxl hLj hlt hgo hP
      go_wp2_with fail
      go_roundg j
      case measure => omega
      case rel => exact ⟨by go_num, by omega, HP2, rfl⟩
    · by_cases h0 : gk = 0
      · subst h0
        have hq0 : q = 0 := hP.out.symm
        obtain ⟨m, hm⟩ : ∃ m : Nat, m = 0 := ⟨_, rfl⟩
        have HPL : Hid (putL L s.data.toList = L.take m ++ s.data.toList :: L.drop m) := Lib.hid (by
          subst hm
          unfold putL
          rw [HQ.out, hq0]
          exact if_neg (fun h => by omega))
        have d1 : decide ((0 : Int) < (m : Int)) = false := decide_eq_false (by omega)
        have d1' : decide (0 < m) = false := decide_eq_false (by omega)
        have hml : m ≤ L.length := by omega
        rw [show ((0 : Nat) : Int) = (m : Int) by omega]
        clear hgo hP hq0 hm
        go_wp2_with (at_builtin; refine wpList_append_own_at _ rfl _ _ 44 rfl base 9 i0 _ 1 16 Tryz.underlying44 hti hz0 hz1 hz2 rfl (by decide) (.slice av L.length cv) L.length (cellsF cS L) rfl (OwnF.kept HO.out ((Below.refl _ _).alloc (Nat.le_refl _) _)) _ 1 1 [.string ⟨#[]⟩] rfl rfl (cells_new w _ _) (by simp [Value.oneCell']) (by unfold maxLen; omega) (by omega) (by simp; omega) ?_; intro v6 w6 hown6 hg6 _ hat6; refine Hid.out ?_)
        refine Lib.hid ?_
        have hr6 : OwnZ w6 base v6 (L ++ [[]]) := by
          unfold OwnZ OwnF
          rw [List.length_append, List.length_singleton, cellsF_app]
          exact hown6
        obtain ⟨aa, cap6, rfl⟩ : ∃ a c, v6 = .slice a (L ++ [[]]).length c := OwnF.shape hr6
        obtain ⟨g6, rfl, -, hg6b, hg6l⟩ := OwnF.some hr6 (by simp)
        have hcap := OwnF.cap hr6
        rw [List.length_append, List.length_singleton] at hcap hr6 hat6 ⊢
        obtain ⟨n6, hn6⟩ : ∃ n6, L.length + 1 = n6 := ⟨_, rfl⟩
        obtain ⟨ad, w7, R7, hif, hcp, hr7, hR7l, hg7, hR7s⟩ := ownK_ins (P := Tryz.prog) (x := s.data.toList) (w := w6.drew) (m := m) Tryz.underlying44 (by kernel_rfl) cS_len cS_one (OwnF.kept hr6 (Below.refl _ _).drew) hn6 (by omega) 3
        simp only [Nat.mul_one] at hif hcp
        have hmR : m < R7.length := by omega
        have hst := ownK_set cS_len hr7 hmR s.data.toList
        have e1 : w7.setCells g6 (m * 1) (cS s.data.toList) = w7.setCell ⟨g6, m, none⟩ (.string s) := by rw [Nat.mul_one]; rfl
        rw [e1, hR7s] at hst
        have hF1 : Frm [(Value.slice av L.length cv).ownBlock] w w6 := Frm.grown (Frm.ofBelow ((Below.refl w.heap.size w).alloc (Nat.le_refl _) (.cells #[.string ⟨#[]⟩] 9))) hg6 (by simp)
        have hF2 : Frm [some g6] w6 (w7.setCell ⟨g6, m, none⟩ (.string s)) := Frm.grown (Frm.grown (Frm.ofBelow (Below.refl _ _).drew) hg7 (by simp)) hst.2 (by simp)
        have hob : (Value.slice (some ⟨g6, 0, none⟩) n6 cap6).ownBlock = some g6 := rfl
        have hat7 : some g6 = (Value.slice av L.length cv).ownBlock ∨ w.heap.size ≤ g6 := by
          rcases hat6 with e | e
          · exact .inl e
          · have e' : some g6 = some _ := e
            injection e' with e'
            simp at e'
            exact .inr (by omega)
        have hF := Frm.trans hF1 hF2 (fun r hr => by
          simp only [List.mem_singleton] at hr
          subst hr
          rcases hat7 with e | e
          · exact .inl (by rw [e]; simp)
          · exact .inr ⟨g6, rfl, e⟩)
        have hFr : Fresh w (.slice av L.length cv) (.slice (some ⟨g6, 0, none⟩) n6 cap6) := by
          rcases hat7 with e | e
          · exact .inl e
          · exact .inr ⟨g6, rfl, e⟩
        have c0 : w7.cell? ⟨g6, m, none⟩ = some (.string ⟨R7[m].toArray⟩) := by
          have := OwnF.at cS_len hr7 (i := m) hmR (j := 0) (by omega)
          simpa [cS] using this
        have f0 : w7.frozen? ⟨g6, m, none⟩ = false := OwnF.free hr7 m
        have HFin : Hid (PutR w base (.slice av L.length cv) L s (.returned (.slice (some ⟨g6, 0, none⟩) n6 cap6)) (w7.setCell ⟨g6, m, none⟩ (.string s))) := Lib.hid (by
          refine ⟨_, rfl, ?_, hF, hFr⟩
          rw [HPL.out]
          have h1 := hst.1
          unfold OwnZ OwnF at h1 ⊢
          have e2 : (L.take m ++ s.data.toList :: L.drop m).length = n6 := by rw [← hR7s, List.length_set]; exact hR7l
          rw [e2] at h1 ⊢
          exact h1)
        obtain ⟨z7, hz7⟩ : ∃ z7 : ByteArray, (⟨R7[m].toArray⟩ : ByteArray) = z7 := ⟨_, rfl⟩
        rw [hz7] at c0
        rw [hn6] at hcap ⊢
        have hmn : m + 1 ≤ n6 := by omega
        have hmc : m < cap6 := by omega
        have hn6s : n6 ≤ 1048577 := by omega
        clear hst hF hF1 hF2 hFr hat6 hat7 hown6 hg6 hg7 hr6 hr7 hR7s hR7l hob e1 hz7 hmR hn6
        have hi0 : (0 : Int) ≤ (m : Int) := by omega
        have hi1 : (0 : Int) ≤ (m : Int) + 1 := by omega
        have hi2 : (m : Int) + 1 ≤ (n6 : Int) := by omega
        have hi3 : (m : Int) ≤ (n6 : Int) := by omega
        have hne2 : ¬ cap6 = m := by omega
        have hw1 : IntKind.i64.wrap ((m : Int) + 1) = (m : Int) + 1 := IntWalk.i64_in _ (by omega)
        have hw2 : ((m : Int) + 1).toNat = m + 1 := by omega
        go_wp2_with fail
        go_region_law (fail)
        clear hw1 hw2 hif hcp
        have hmn2 : m < n6 := by omega
        go_wp2_with fail
        go_ret
        exact HFin.out
      · obtain ⟨j, rfl⟩ : ∃ j, gk = j + 1 := ⟨gk - 1, by omega⟩
        have hj : j < L.length := by omega
        have hlt : ¬ s.data.toList < L.getD j [] := fun h => hgo ⟨by omega, h⟩
        have hqj : q = j + 1 := by rw [← hP.out]; exact if_neg hlt
        obtain ⟨g, hav, -, -, -⟩ := OwnF.some HO.out (show 0 < L.length by omega)
        subst hav
        have y1 : w.cell? ⟨g, j, none⟩ = some (.string ⟨L[j].toArray⟩) := by
          have := OwnF.at cS_len HO.out (i := j) hj (j := 0) (by omega)
          simpa [cS] using this
        have hLj : L.getD j [] = L[j] := by simp [List.getD_eq_getElem?_getD, hj]
        obtain ⟨xb, hxb⟩ : ∃ xb : ByteArray, (⟨L[j].toArray⟩ : ByteArray) = xb := ⟨_, rfl⟩
        have hxl : xb.data.toList = L[j] := by rw [← hxb]
        have d1 : decide ((0 : Int) < ((j + 1 : Nat) : Int)) = true := decide_eq_true (by omega)
        rw [hxb] at y1
        by_cases hs : L[j] = s.data.toList
        · have d2 : Op.bytesLess xb.toList s.toList = false := by rw [bytesLess_eq, decide_eq_false_iff_not, Lib.toList_data, Lib.toList_data, hxl, hs]; exact List.lt_irrefl _
          have d3 : (xb.toList == s.toList) = true := by rw [Lib.toList_data, Lib.toList_data, hxl, hs]; exact beq_self_eq_true _
          have HFin : Hid (PutR w base (.slice (some ⟨g, 0, none⟩) L.length cv) L s (.returned (.slice (some ⟨g, 0, none⟩) L.length cv)) w) := Lib.hid (by
            refine ⟨_, rfl, ?_, Frm.refl _ _, Fresh.refl _ _⟩
            have e : putL L s.data.toList = L := by
              unfold putL
              rw [HQ.out, hqj]
              exact if_pos ⟨by omega, by rw [show j + 1 - 1 = j by omega, hLj, hs]⟩
            rw [e]
            exact HO.out)
          clear hxb hxl hLj hlt hgo hP hqj hs
          go_wp2_with fail
          go_ret
          exact HFin.out
        · have d2 : Op.bytesLess xb.toList s.toList = true := by
            rw [bytesLess_eq, decide_eq_true_eq, Lib.toList_data, Lib.toList_data, hxl]
            rw [hLj] at hlt
            by_cases h : L[j] < s.data.toList
            · exact h
            · exact absurd (List.le_antisymm (List.not_lt.1 hlt) (List.not_lt.1 h)) hs
          have d3 : (xb.toList == s.toList) = false := by rw [beq_eq_false_iff_ne, Lib.toList_data, Lib.toList_data, hxl]; exact hs
          have HPL : Hid (putL L s.data.toList = L.take (j + 1) ++ s.data.toList :: L.drop (j + 1)) := Lib.hid (by
            unfold putL
            rw [HQ.out, hqj]
            exact if_neg (fun h => by
              have := h.2
              rw [show j + 1 - 1 = j by omega, hLj] at this
              exact hs this))
          obtain ⟨m, hm⟩ : ∃ m : Nat, m = j + 1 := ⟨_, rfl⟩
          have hml : m ≤ L.length := by omega
          have hm1 : 1 ≤ m := by omega
          have e1 : ((m : Int) - 1).toNat = j := by omega
          have d1 : decide ((0 : Int) < (m : Int)) = true := decide_eq_true (by omega)
          have d1' : decide (0 < m) = true := decide_eq_true (by omega)
          have HPL : Hid (putL L s.data.toList = L.take m ++ s.data.toList :: L.drop m) := Lib.hid (by rw [hm]; exact HPL.out)
          rw [show ((j + 1 : Nat) : Int) = (m : Int) by omega]
          have hj0 : (0 : Int) ≤ (m : Int) - 1 := by omega
          have hj1 : (m : Int) - 1 < (L.length : Int) := by omega
          clear hxb hxl hLj hlt hgo hP hqj hs hm
          go_wp2_with (at_builtin; refine wpList_append_own_at _ rfl _ _ 44 rfl base 9 i0 _ 1 16 Tryz.underlying44 hti hz0 hz1 hz2 rfl (by decide) (.slice (some ⟨g, 0, none⟩) L.length cv) L.length (cellsF cS L) rfl (OwnF.kept HO.out ((Below.refl _ _).alloc (Nat.le_refl _) _)) _ 1 1 [.string ⟨#[]⟩] rfl rfl (cells_new w _ _) (by simp [Value.oneCell']) (by unfold maxLen; omega) (by omega) (by simp; omega) ?_; intro v6 w6 hown6 hg6 _ hat6; refine Hid.out ?_)
          refine Lib.hid ?_
          have hr6 : OwnZ w6 base v6 (L ++ [[]]) := by
            unfold OwnZ OwnF
            rw [List.length_append, List.length_singleton, cellsF_app]
            exact hown6
          obtain ⟨aa, cap6, rfl⟩ : ∃ a c, v6 = .slice a (L ++ [[]]).length c := OwnF.shape hr6
          obtain ⟨g6, rfl, -, hg6b, hg6l⟩ := OwnF.some hr6 (by simp)
          have hcap := OwnF.cap hr6
          rw [List.length_append, List.length_singleton] at hcap hr6 hat6 ⊢
          obtain ⟨n6, hn6⟩ : ∃ n6, L.length + 1 = n6 := ⟨_, rfl⟩
          obtain ⟨ad, w7, R7, hif, hcp, hr7, hR7l, hg7, hR7s⟩ := ownK_ins (P := Tryz.prog) (x := s.data.toList) (w := w6.drew) (m := m) Tryz.underlying44 (by kernel_rfl) cS_len cS_one (OwnF.kept hr6 (Below.refl _ _).drew) hn6 (by omega) 3
          simp only [Nat.mul_one] at hif hcp
          have hmR : m < R7.length := by omega
          have hst := ownK_set cS_len hr7 hmR s.data.toList
          have e1 : w7.setCells g6 (m * 1) (cS s.data.toList) = w7.setCell ⟨g6, m, none⟩ (.string s) := by rw [Nat.mul_one]; rfl
          rw [e1, hR7s] at hst
          have hF1 : Frm [(Value.slice (some ⟨g, 0, none⟩) L.length cv).ownBlock] w w6 := Frm.grown (Frm.ofBelow ((Below.refl w.heap.size w).alloc (Nat.le_refl _) (.cells #[.string ⟨#[]⟩] 9))) hg6 (by simp)
          have hF2 : Frm [some g6] w6 (w7.setCell ⟨g6, m, none⟩ (.string s)) := Frm.grown (Frm.grown (Frm.ofBelow (Below.refl _ _).drew) hg7 (by simp)) hst.2 (by simp)
          have hob : (Value.slice (some ⟨g6, 0, none⟩) n6 cap6).ownBlock = some g6 := rfl
          have hat7 : some g6 = (Value.slice (some ⟨g, 0, none⟩) L.length cv).ownBlock ∨ w.heap.size ≤ g6 := by
            rcases hat6 with e | e
            · exact .inl e
            · have e' : some g6 = some _ := e
              injection e' with e'
              simp at e'
              exact .inr (by omega)
          have hF := Frm.trans hF1 hF2 (fun r hr => by
            simp only [List.mem_singleton] at hr
            subst hr
            rcases hat7 with e | e
            · exact .inl (by rw [e]; simp)
            · exact .inr ⟨g6, rfl, e⟩)
          have hFr : Fresh w (.slice (some ⟨g, 0, none⟩) L.length cv) (.slice (some ⟨g6, 0, none⟩) n6 cap6) := by
            rcases hat7 with e | e
            · exact .inl e
            · exact .inr ⟨g6, rfl, e⟩
          have c0 : w7.cell? ⟨g6, m, none⟩ = some (.string ⟨R7[m].toArray⟩) := by
            have := OwnF.at cS_len hr7 (i := m) hmR (j := 0) (by omega)
            simpa [cS] using this
          have f0 : w7.frozen? ⟨g6, m, none⟩ = false := OwnF.free hr7 m
          have HFin : Hid (PutR w base (.slice (some ⟨g, 0, none⟩) L.length cv) L s (.returned (.slice (some ⟨g6, 0, none⟩) n6 cap6)) (w7.setCell ⟨g6, m, none⟩ (.string s))) := Lib.hid (by
            refine ⟨_, rfl, ?_, hF, hFr⟩
            rw [HPL.out]
            have h1 := hst.1
            unfold OwnZ OwnF at h1 ⊢
            have e2 : (L.take m ++ s.data.toList :: L.drop m).length = n6 := by rw [← hR7s, List.length_set]; exact hR7l
            rw [e2] at h1 ⊢
            exact h1)
          obtain ⟨z7, hz7⟩ : ∃ z7 : ByteArray, (⟨R7[m].toArray⟩ : ByteArray) = z7 := ⟨_, rfl⟩
          rw [hz7] at c0
          rw [hn6] at hcap ⊢
          have hmn : m + 1 ≤ n6 := by omega
          have hmc : m < cap6 := by omega
          have hn6s : n6 ≤ 1048577 := by omega
          clear hst hF hF1 hF2 hFr hat6 hat7 hown6 hg6 hg7 hr6 hr7 hR7s hR7l hob e1 hz7 hmR hn6
          have hi0 : (0 : Int) ≤ (m : Int) := by omega
          have hi1 : (0 : Int) ≤ (m : Int) + 1 := by omega
          have hi2 : (m : Int) + 1 ≤ (n6 : Int) := by omega
          have hi3 : (m : Int) ≤ (n6 : Int) := by omega
          have hne2 : ¬ cap6 = m := by omega
          have hw1 : IntKind.i64.wrap ((m : Int) + 1) = (m : Int) + 1 := IntWalk.i64_in _ (by omega)
          have hw2 : ((m : Int) + 1).toNat = m + 1 := by omega
          go_wp2_with fail
          go_region_law (fail)
          clear hw1 hw2 hif hcp
          have hmn2 : m < n6 := by omega
          go_wp2_with fail
          go_ret
          exact HFin.out
end Go.Proofs.YtbephgifbghilaaGreatDoor
/- The document's Check, of a value and of a node (seat expr). -/
set_option maxRecDepth 100000
namespace Go.Proofs.YtbephgifbghilaaGreatDoor
open Go.RowKit
theorem text_nil (s : ByteArray) : (s.toList == (ByteArray.mk #[]).toList) = s.toList.isEmpty := by
  rw [show (ByteArray.mk #[]).toList = [] from by kernel_rfl]
  cases h : s.toList <;> rfl
theorem checkE_one {v : Vl} (h : v.kind = 1) : checkE v = if !v.tr && v.text.toList.isEmpty then 0 else 1 := by
  have e : vlEq v (numV v.num) = (!v.tr && v.text.toList.isEmpty) := by
    unfold vlEq numV
    simp only [h, beq_self_eq_true, Bool.true_and, text_nil]
    cases v.tr <;> rfl
  have hb : checkB v = (!v.tr && v.text.toList.isEmpty) := by
    unfold checkB
    rw [if_pos h, e]
  unfold checkE
  rw [hb]
theorem checkE_two {v : Vl} (h : v.kind = 2) : checkE v = if (v.num == 0) && v.text.toList.isEmpty then 0 else 1 := by
  have e : vlEq v (trV v.tr) = ((v.num == 0) && v.text.toList.isEmpty) := by
    unfold vlEq trV
    simp only [h, beq_self_eq_true, Bool.true_and, text_nil]
  have hb : checkB v = ((v.num == 0) && v.text.toList.isEmpty) := by
    unfold checkB
    rw [if_neg (by omega), if_pos h, e]
  unfold checkE
  rw [hb]
theorem checkE_three {v : Vl} (h : v.kind = 3) : checkE v = if (v.num == 0) && (!v.tr && (decide (v.text.size ≤ 1024) && Lib.validD v.text.data.toList)) then 0 else 1 := by
  have e : vlEq v (txV v.text) = ((v.num == 0) && !v.tr) := by
    unfold vlEq txV
    simp only [h, beq_self_eq_true, Bool.true_and, Bool.and_true]
    cases v.tr <;> simp
  have hb : checkB v = ((v.num == 0) && (!v.tr && (decide (v.text.size ≤ 1024) && Lib.validD v.text.data.toList))) := by
    unfold checkB
    rw [if_neg (by omega), if_neg (by omega), if_pos h, e, Bool.and_assoc]
  unfold checkE
  rw [hb]
theorem checkE_other {v : Vl} (h1 : v.kind ≠ 1) (h2 : v.kind ≠ 2) (h3 : v.kind ≠ 3) : checkE v = 1 := by
  have hb : checkB v = false := by
    unfold checkB
    rw [if_neg h1, if_neg h2, if_neg h3]
  unfold checkE
  rw [hb]
  rfl
set_option maxHeartbeats 4000000 in
theorem rvcheck_any (w : World) (v : Vl) (hw : VlW v) : Calls Tryz.prog 66 #[valV v] w fun e w' => e = .returned (.int .i64 (checkE v)) ∧ Below w.heap.size w w' := by
  obtain ⟨w1, p0, hp0, hw1, hlt, hn, hb⟩ := box_new w (.cells #[.int .u8 v.kind, .int .i64 v.num, .bool v.tr, .string v.text] 26)
  obtain ⟨n0, n1, n2, n3⟩ := v_cells hn
  have HB := Lib.hid hb
  have hsz : v.text.size ≤ 140737488355328 := hw.t
  obtain ⟨tb, htb⟩ : ∃ tb, v.tr = tb := ⟨_, rfl⟩
  obtain ⟨eb, heb⟩ : ∃ eb, v.text.toList.isEmpty = eb := ⟨_, rfl⟩
  obtain ⟨zb, hzb⟩ : ∃ zb, (v.num == 0) = zb := ⟨_, rfl⟩
  by_cases k1 : v.kind = 1
  · have e1 : (v.kind == 1) = true := by simpa using k1
    have hE := Lib.hid (checkE_one k1)
    rw [htb, heb] at hE
    rw [htb] at n2
    clear hw hn hb k1 htb hzb
    cases tb with
    | true =>
      go_enter Tryz.func66, Tryz.ntmps66
      go_wp2_with fail
      go_ret
      exact ⟨ret_int hE.out.symm, HB.out⟩
    | false =>
      cases eb with
      | true =>
        go_enter Tryz.func66, Tryz.ntmps66
        go_wp2_with fail
        go_ret
        exact ⟨ret_int hE.out.symm, HB.out⟩
      | false =>
        go_enter Tryz.func66, Tryz.ntmps66
        go_wp2_with fail
        go_ret
        exact ⟨ret_int hE.out.symm, HB.out⟩
  have e1 : (v.kind == 1) = false := by simpa using k1
  by_cases k2 : v.kind = 2
  · have e2 : (v.kind == 2) = true := by simpa using k2
    have hE := Lib.hid (checkE_two k2)
    rw [hzb, heb] at hE
    clear hw hn hb k1 k2 htb
    cases zb with
    | false =>
      go_enter Tryz.func66, Tryz.ntmps66
      go_wp2_with fail
      go_ret
      exact ⟨ret_int hE.out.symm, HB.out⟩
    | true =>
      cases eb with
      | true =>
        go_enter Tryz.func66, Tryz.ntmps66
        go_wp2_with fail
        go_ret
        exact ⟨ret_int hE.out.symm, HB.out⟩
      | false =>
        go_enter Tryz.func66, Tryz.ntmps66
        go_wp2_with fail
        go_ret
        exact ⟨ret_int hE.out.symm, HB.out⟩
  have e2 : (v.kind == 2) = false := by simpa using k2
  by_cases k3 : v.kind = 3
  · have e3 : (v.kind == 3) = true := by simpa using k3
    have hE := Lib.hid (checkE_three k3)
    rw [hzb, htb] at hE
    rw [htb] at n2
    clear hw hn hb k1 k2 k3 htb heb
    cases zb with
    | false =>
      go_enter Tryz.func66, Tryz.ntmps66
      go_wp2_with fail
      go_ret
      exact ⟨ret_int hE.out.symm, HB.out⟩
    | true =>
      cases tb with
      | true =>
        go_enter Tryz.func66, Tryz.ntmps66
        go_wp2_with fail
        go_ret
        exact ⟨ret_int hE.out.symm, HB.out⟩
      | false =>
        by_cases hl : v.text.size ≤ 1024
        · have d1 : decide ((v.text.size : Int) ≤ 1024) = true := decide_eq_true (by omega)
          have d1' : decide (v.text.size ≤ 1024) = true := decide_eq_true hl
          have HU := Lib.hid (rutf_any w1 v.text hsz)
          obtain ⟨u, hu⟩ : ∃ u, Lib.validD v.text.data.toList = u := ⟨_, rfl⟩
          rw [hu] at HU
          rw [hu, d1'] at hE
          clear hu hl
          cases u with
          | true =>
            go_enter Tryz.func66, Tryz.ntmps66
            go_wp2_with (go_at_call 99; refine HU.out.mono ?_; rintro e w2 ⟨rfl, hb2⟩; have HB2 := Lib.hid (HB.out.trans (hb2.mono HB.out.size)); clear hb2)
            go_ret
            exact ⟨ret_int hE.out.symm, HB2.out⟩
          | false =>
            go_enter Tryz.func66, Tryz.ntmps66
            go_wp2_with (go_at_call 99; refine HU.out.mono ?_; rintro e w2 ⟨rfl, hb2⟩; have HB2 := Lib.hid (HB.out.trans (hb2.mono HB.out.size)); clear hb2)
            go_ret
            exact ⟨ret_int hE.out.symm, HB2.out⟩
        · have d1 : decide ((v.text.size : Int) ≤ 1024) = false := decide_eq_false (by omega)
          have d1' : decide (v.text.size ≤ 1024) = false := decide_eq_false hl
          rw [d1'] at hE
          clear hl
          go_enter Tryz.func66, Tryz.ntmps66
          go_wp2_with fail
          go_ret
          exact ⟨ret_int hE.out.symm, HB.out⟩
  · have e3 : (v.kind == 3) = false := by simpa using k3
    have hE := Lib.hid (checkE_other k1 k2 k3)
    clear hw hn hb k1 k2 k3 htb heb hzb
    go_enter Tryz.func66, Tryz.ntmps66
    go_wp2_with fail
    go_ret
    exact ⟨ret_int hE.out.symm, HB.out⟩
theorem keyWord_is (s : ByteArray) : keyWord s = ((s.toList == [97, 110, 100]) || ((s.toList == [111, 114]) || ((s.toList == [110, 111, 116]) || ((s.toList == [116, 114, 117, 101]) || (s.toList == [102, 97, 108, 115, 101]))))) := by
  unfold keyWord keyL
  rw [Lib.toList_data]
  simp only [List.contains_cons, List.contains_nil, Bool.or_false]
set_option maxHeartbeats 1000000 in
theorem rword_any (w : World) (s : ByteArray) : Calls Tryz.prog 68 #[.string s] w fun e w' => e = .returned (.bool (keyWord s)) ∧ w = w' := by
  have HK := Lib.hid (keyWord_is s)
  obtain ⟨t, ht⟩ : ∃ t, keyWord s = t := ⟨_, rfl⟩
  rw [ht] at HK ⊢
  clear ht
  cases h1 : (s.toList == [97, 110, 100]) with
  | true =>
    have Hf : Hid (true = t) := Lib.hid (by rw [HK.out, h1]; rfl)
    go_enter Tryz.func68, Tryz.ntmps68
    go_wp2_with fail
    go_ret
    exact ⟨ret_bool Hf.out, rfl⟩
  | false =>
  cases h2 : (s.toList == [111, 114]) with
  | true =>
    have Hf : Hid (true = t) := Lib.hid (by rw [HK.out, h1, h2]; rfl)
    go_enter Tryz.func68, Tryz.ntmps68
    go_wp2_with fail
    go_ret
    exact ⟨ret_bool Hf.out, rfl⟩
  | false =>
  cases h3 : (s.toList == [110, 111, 116]) with
  | true =>
    have Hf : Hid (true = t) := Lib.hid (by rw [HK.out, h1, h2, h3]; rfl)
    go_enter Tryz.func68, Tryz.ntmps68
    go_wp2_with fail
    go_ret
    exact ⟨ret_bool Hf.out, rfl⟩
  | false =>
  cases h4 : (s.toList == [116, 114, 117, 101]) with
  | true =>
    have Hf : Hid (true = t) := Lib.hid (by rw [HK.out, h1, h2, h3, h4]; rfl)
    go_enter Tryz.func68, Tryz.ntmps68
    go_wp2_with fail
    go_ret
    exact ⟨ret_bool Hf.out, rfl⟩
  | false =>
    have Hf : Hid ((s.toList == [102, 97, 108, 115, 101]) = t) := Lib.hid (by rw [HK.out, h1, h2, h3, h4]; rfl)
    go_enter Tryz.func68, Tryz.ntmps68
    go_wp2_with fail
    go_ret
    exact ⟨ret_bool Hf.out, rfl⟩
end Go.Proofs.YtbephgifbghilaaGreatDoor
/- The document's Check of a node (seat expr; printed by gen_askchk2.py). -/
set_option maxRecDepth 100000
namespace Go.Proofs.YtbephgifbghilaaGreatDoor
open Go.RowKit
abbrev CellsO (V : World) (p : Nat) (op : Int) (u : Vl) (nm : ByteArray) (vk : Value) : Prop :=
  V.cell? ⟨p, 0, none⟩ = some (.int .u8 op) ∧ V.cell? ⟨p, 1, none⟩ = some (.int .u8 u.kind) ∧ V.cell? ⟨p, 2, none⟩ = some (.int .i64 u.num) ∧ V.cell? ⟨p, 3, none⟩ = some (.bool u.tr) ∧ V.cell? ⟨p, 4, none⟩ = some (.string u.text) ∧ V.cell? ⟨p, 5, none⟩ = some (.string nm) ∧ V.cell? ⟨p, 6, none⟩ = some vk
/-- A node in a box of the call's own. -/
theorem nd_boxO (W : World) (op : Int) (u : Vl) (nm : ByteArray) (vk : Value) (t : TypeId) : ∃ (W' : World) (p : Nat), W.heap.size = p ∧ W.alloc (.cells #[.int .u8 op, .int .u8 u.kind, .int .i64 u.num, .bool u.tr, .string u.text, .string nm, vk] t) = W' ∧ p < W'.heap.size ∧ Below W.heap.size W W' ∧ ∀ V, Below W'.heap.size W' V → CellsO V p op u nm vk := by
  obtain ⟨w1, p1, hp1, hw1, l1, n1, b1⟩ := box_new W (.cells #[.int .u8 op, .int .u8 u.kind, .int .i64 u.num, .bool u.tr, .string u.text, .string nm, vk] t)
  exact ⟨w1, p1, hp1, hw1, l1, b1, fun V hV => n_cells (n := .mk op u nm []) ((hV.block p1 l1).trans n1)⟩
theorem checkL_drop {ks : List Nd} {k : Nat} (h : k < ks.length) : checkL (ks.drop k) = (checkN ks[k] && checkL (ks.drop (k + 1))) := by
  rw [List.drop_eq_getElem_cons h]
  rfl
theorem checkL_end {ks : List Nd} {k : Nat} (h : ks.length ≤ k) : checkL (ks.drop k) = true := by
  rw [List.drop_eq_nil_of_le h]
  rfl
/-- What Check answers at the smaller nodes. -/
def RChk (m : Nat) : Prop := ∀ (n : Nd), SizeOf.sizeOf n ≤ m → ∀ (w : World) (vk : Value), NdR w w.heap.size vk n → Calls Tryz.prog 32 #[valN n vk] w fun e w' => e = .returned (.bool (checkN n)) ∧ Below w.heap.size w w'
theorem neg_kind {v : Vl} (h : checkB v = true) (h0 : ¬ 0 ≤ v.num) : v.kind = 1 := by
  rcases checkB_kind h with e | e | e
  · rw [e]; rfl
  · rw [e] at h0; exact absurd (by show (0 : Int) ≤ 0; omega) h0
  · rw [e] at h0; exact absurd (by show (0 : Int) ≤ 0; omega) h0
set_option maxHeartbeats 2000000 in
theorem rchk_lo (w : World) (op : Int) (u : Vl) (nm : ByteArray) (ks : List Nd) (a : Option Addr) (c : Nat) (hop : op < 1) :
    Calls Tryz.prog 32 #[valO op u nm (.slice a ks.length c)] w fun e w' => e = .returned (.bool false) ∧ Below w.heap.size w w' := by
  obtain ⟨w0, p0, hp0, hw0, l0, b0, hC0⟩ := nd_boxO w op u nm (.slice a ks.length c) 36
  have HC0 := Lib.hid hC0
  obtain ⟨c0, c1, c2, c3, c4, c5, c6⟩ := hC0 w0 (Below.refl _ _)
  have HB := Lib.hid b0
  clear hC0 b0
  have dl : decide (op < 1) = true := decide_eq_true hop
  go_enter Tryz.func32, Tryz.ntmps32
  go_wp2_with fail
  go_ret
  exact ⟨rfl, HB.out⟩
set_option maxHeartbeats 2000000 in
theorem rchk_hi (w : World) (op : Int) (u : Vl) (nm : ByteArray) (ks : List Nd) (a : Option Addr) (c : Nat) (hop : 17 < op) :
    Calls Tryz.prog 32 #[valO op u nm (.slice a ks.length c)] w fun e w' => e = .returned (.bool false) ∧ Below w.heap.size w w' := by
  obtain ⟨w0, p0, hp0, hw0, l0, b0, hC0⟩ := nd_boxO w op u nm (.slice a ks.length c) 36
  have HC0 := Lib.hid hC0
  obtain ⟨c0, c1, c2, c3, c4, c5, c6⟩ := hC0 w0 (Below.refl _ _)
  have HB := Lib.hid b0
  clear hC0 b0
  have dl : decide (op < 1) = false := decide_eq_false (by omega)
  have dg : decide ((17 : Int) < op) = true := decide_eq_true hop
  go_enter Tryz.func32, Tryz.ntmps32
  go_wp2_with fail
  go_ret
  exact ⟨rfl, HB.out⟩
set_option maxHeartbeats 2000000 in
theorem rchk1_len (w : World) (u : Vl) (nm : ByteArray) (ks : List Nd) (a : Option Addr) (c : Nat) (hk : (ks.length : Int) ≠ 0) :
    Calls Tryz.prog 32 #[valO 1 u nm (.slice a ks.length c)] w fun e w' => e = .returned (.bool false) ∧ Below w.heap.size w w' := by
  obtain ⟨w0, p0, hp0, hw0, l0, b0, hC0⟩ := nd_boxO w 1 u nm (.slice a ks.length c) 36
  have HC0 := Lib.hid hC0
  obtain ⟨c0, c1, c2, c3, c4, c5, c6⟩ := hC0 w0 (Below.refl _ _)
  have HB := Lib.hid b0
  clear hC0 b0
  have dk : ((ks.length : Int) != 0) = true := by rw [bne_iff_ne]; exact hk
  clear hk
  go_enter Tryz.func32, Tryz.ntmps32
  go_wp2_with fail
  go_ret
  exact ⟨rfl, HB.out⟩
set_option maxHeartbeats 2000000 in
theorem rchk1_nm (w : World) (u : Vl) (nm : ByteArray) (ks : List Nd) (a : Option Addr) (c : Nat) (hk : (ks.length : Int) = 0) (hn : nm.toList.isEmpty = false) :
    Calls Tryz.prog 32 #[valO 1 u nm (.slice a ks.length c)] w fun e w' => e = .returned (.bool false) ∧ Below w.heap.size w w' := by
  obtain ⟨w0, p0, hp0, hw0, l0, b0, hC0⟩ := nd_boxO w 1 u nm (.slice a ks.length c) 36
  have HC0 := Lib.hid hC0
  obtain ⟨c0, c1, c2, c3, c4, c5, c6⟩ := hC0 w0 (Below.refl _ _)
  have HB := Lib.hid b0
  clear hC0 b0
  have dk : ((ks.length : Int) != 0) = false := by rw [bne_eq_false_iff_eq]; exact hk
  clear hk
  go_enter Tryz.func32, Tryz.ntmps32
  go_wp2_with fail
  go_ret
  exact ⟨rfl, HB.out⟩
set_option maxHeartbeats 2000000 in
theorem rchk2_len (w : World) (u : Vl) (nm : ByteArray) (ks : List Nd) (a : Option Addr) (c : Nat) (hk : (ks.length : Int) ≠ 0) :
    Calls Tryz.prog 32 #[valO 2 u nm (.slice a ks.length c)] w fun e w' => e = .returned (.bool false) ∧ Below w.heap.size w w' := by
  obtain ⟨w0, p0, hp0, hw0, l0, b0, hC0⟩ := nd_boxO w 2 u nm (.slice a ks.length c) 36
  have HC0 := Lib.hid hC0
  obtain ⟨c0, c1, c2, c3, c4, c5, c6⟩ := hC0 w0 (Below.refl _ _)
  have HB := Lib.hid b0
  clear hC0 b0
  have dk : ((ks.length : Int) != 0) = true := by rw [bne_iff_ne]; exact hk
  clear hk
  go_enter Tryz.func32, Tryz.ntmps32
  go_wp2_with fail
  go_ret
  exact ⟨rfl, HB.out⟩
set_option maxHeartbeats 2000000 in
theorem rchk2_val (w : World) (u : Vl) (nm : ByteArray) (ks : List Nd) (a : Option Addr) (c : Nat) (hk : (ks.length : Int) = 0) (hv : vlEq u Vl.zero = false) :
    Calls Tryz.prog 32 #[valO 2 u nm (.slice a ks.length c)] w fun e w' => e = .returned (.bool false) ∧ Below w.heap.size w w' := by
  obtain ⟨w0, p0, hp0, hw0, l0, b0, hC0⟩ := nd_boxO w 2 u nm (.slice a ks.length c) 36
  have HC0 := Lib.hid hC0
  obtain ⟨c0, c1, c2, c3, c4, c5, c6⟩ := hC0 w0 (Below.refl _ _)
  have HB := Lib.hid b0
  clear hC0 b0
  have dk : ((ks.length : Int) != 0) = false := by rw [bne_eq_false_iff_eq]; exact hk
  have hq : ∀ W, (binOp .neq 26 (.agg #[.int .u8 u.kind, .int .i64 u.num, .bool u.tr, .string u.text]) (.agg #[.int .u8 0, .int .i64 0, .bool false, .string ⟨#[]⟩])).run Tryz.prog W = .ok (.bool true) W := fun W => by
    have := run_neq_val W u Vl.zero
    rw [hv] at this
    exact this
  clear hk hv
  go_enter Tryz.func32, Tryz.ntmps32
  go_wp2_with fail
  go_ret
  exact ⟨rfl, HB.out⟩
set_option maxHeartbeats 2000000 in
theorem rchk3_len (w : World) (u : Vl) (nm : ByteArray) (ks : List Nd) (a : Option Addr) (c : Nat) (hk : (ks.length : Int) ≠ 1) :
    Calls Tryz.prog 32 #[valO 3 u nm (.slice a ks.length c)] w fun e w' => e = .returned (.bool false) ∧ Below w.heap.size w w' := by
  obtain ⟨w0, p0, hp0, hw0, l0, b0, hC0⟩ := nd_boxO w 3 u nm (.slice a ks.length c) 36
  have HC0 := Lib.hid hC0
  obtain ⟨c0, c1, c2, c3, c4, c5, c6⟩ := hC0 w0 (Below.refl _ _)
  have HB := Lib.hid b0
  clear hC0 b0
  have dk : ((ks.length : Int) != 1) = true := by rw [bne_iff_ne]; exact hk
  clear hk
  go_enter Tryz.func32, Tryz.ntmps32
  go_wp2_with fail
  go_ret
  exact ⟨rfl, HB.out⟩
set_option maxHeartbeats 2000000 in
theorem rchk3_val (w : World) (u : Vl) (nm : ByteArray) (ks : List Nd) (a : Option Addr) (c : Nat) (hk : (ks.length : Int) = 1) (hv : vlEq u Vl.zero = false) :
    Calls Tryz.prog 32 #[valO 3 u nm (.slice a ks.length c)] w fun e w' => e = .returned (.bool false) ∧ Below w.heap.size w w' := by
  obtain ⟨w0, p0, hp0, hw0, l0, b0, hC0⟩ := nd_boxO w 3 u nm (.slice a ks.length c) 36
  have HC0 := Lib.hid hC0
  obtain ⟨c0, c1, c2, c3, c4, c5, c6⟩ := hC0 w0 (Below.refl _ _)
  have HB := Lib.hid b0
  clear hC0 b0
  have dk : ((ks.length : Int) != 1) = false := by rw [bne_eq_false_iff_eq]; exact hk
  have hq : ∀ W, (binOp .neq 26 (.agg #[.int .u8 u.kind, .int .i64 u.num, .bool u.tr, .string u.text]) (.agg #[.int .u8 0, .int .i64 0, .bool false, .string ⟨#[]⟩])).run Tryz.prog W = .ok (.bool true) W := fun W => by
    have := run_neq_val W u Vl.zero
    rw [hv] at this
    exact this
  clear hk hv
  go_enter Tryz.func32, Tryz.ntmps32
  go_wp2_with fail
  go_ret
  exact ⟨rfl, HB.out⟩
set_option maxHeartbeats 2000000 in
theorem rchk3_nm (w : World) (u : Vl) (nm : ByteArray) (ks : List Nd) (a : Option Addr) (c : Nat) (hk : (ks.length : Int) = 1) (hv : vlEq u Vl.zero = true) (hn : nm.toList.isEmpty = false) :
    Calls Tryz.prog 32 #[valO 3 u nm (.slice a ks.length c)] w fun e w' => e = .returned (.bool false) ∧ Below w.heap.size w w' := by
  obtain ⟨w0, p0, hp0, hw0, l0, b0, hC0⟩ := nd_boxO w 3 u nm (.slice a ks.length c) 36
  have HC0 := Lib.hid hC0
  obtain ⟨c0, c1, c2, c3, c4, c5, c6⟩ := hC0 w0 (Below.refl _ _)
  have HB := Lib.hid b0
  clear hC0 b0
  have dk : ((ks.length : Int) != 1) = false := by rw [bne_eq_false_iff_eq]; exact hk
  have hq : ∀ W, (binOp .neq 26 (.agg #[.int .u8 u.kind, .int .i64 u.num, .bool u.tr, .string u.text]) (.agg #[.int .u8 0, .int .i64 0, .bool false, .string ⟨#[]⟩])).run Tryz.prog W = .ok (.bool false) W := fun W => by
    have := run_neq_val W u Vl.zero
    rw [hv] at this
    exact this
  clear hk hv
  go_enter Tryz.func32, Tryz.ntmps32
  go_wp2_with fail
  go_ret
  exact ⟨rfl, HB.out⟩
set_option maxHeartbeats 2000000 in
theorem rchk4_len (w : World) (u : Vl) (nm : ByteArray) (ks : List Nd) (a : Option Addr) (c : Nat) (hk : (ks.length : Int) ≠ 1) :
    Calls Tryz.prog 32 #[valO 4 u nm (.slice a ks.length c)] w fun e w' => e = .returned (.bool false) ∧ Below w.heap.size w w' := by
  obtain ⟨w0, p0, hp0, hw0, l0, b0, hC0⟩ := nd_boxO w 4 u nm (.slice a ks.length c) 36
  have HC0 := Lib.hid hC0
  obtain ⟨c0, c1, c2, c3, c4, c5, c6⟩ := hC0 w0 (Below.refl _ _)
  have HB := Lib.hid b0
  clear hC0 b0
  have dk : ((ks.length : Int) != 1) = true := by rw [bne_iff_ne]; exact hk
  clear hk
  go_enter Tryz.func32, Tryz.ntmps32
  go_wp2_with fail
  go_ret
  exact ⟨rfl, HB.out⟩
set_option maxHeartbeats 2000000 in
theorem rchk4_val (w : World) (u : Vl) (nm : ByteArray) (ks : List Nd) (a : Option Addr) (c : Nat) (hk : (ks.length : Int) = 1) (hv : vlEq u Vl.zero = false) :
    Calls Tryz.prog 32 #[valO 4 u nm (.slice a ks.length c)] w fun e w' => e = .returned (.bool false) ∧ Below w.heap.size w w' := by
  obtain ⟨w0, p0, hp0, hw0, l0, b0, hC0⟩ := nd_boxO w 4 u nm (.slice a ks.length c) 36
  have HC0 := Lib.hid hC0
  obtain ⟨c0, c1, c2, c3, c4, c5, c6⟩ := hC0 w0 (Below.refl _ _)
  have HB := Lib.hid b0
  clear hC0 b0
  have dk : ((ks.length : Int) != 1) = false := by rw [bne_eq_false_iff_eq]; exact hk
  have hq : ∀ W, (binOp .neq 26 (.agg #[.int .u8 u.kind, .int .i64 u.num, .bool u.tr, .string u.text]) (.agg #[.int .u8 0, .int .i64 0, .bool false, .string ⟨#[]⟩])).run Tryz.prog W = .ok (.bool true) W := fun W => by
    have := run_neq_val W u Vl.zero
    rw [hv] at this
    exact this
  clear hk hv
  go_enter Tryz.func32, Tryz.ntmps32
  go_wp2_with fail
  go_ret
  exact ⟨rfl, HB.out⟩
set_option maxHeartbeats 2000000 in
theorem rchk4_nm (w : World) (u : Vl) (nm : ByteArray) (ks : List Nd) (a : Option Addr) (c : Nat) (hk : (ks.length : Int) = 1) (hv : vlEq u Vl.zero = true) (hn : nm.toList.isEmpty = false) :
    Calls Tryz.prog 32 #[valO 4 u nm (.slice a ks.length c)] w fun e w' => e = .returned (.bool false) ∧ Below w.heap.size w w' := by
  obtain ⟨w0, p0, hp0, hw0, l0, b0, hC0⟩ := nd_boxO w 4 u nm (.slice a ks.length c) 36
  have HC0 := Lib.hid hC0
  obtain ⟨c0, c1, c2, c3, c4, c5, c6⟩ := hC0 w0 (Below.refl _ _)
  have HB := Lib.hid b0
  clear hC0 b0
  have dk : ((ks.length : Int) != 1) = false := by rw [bne_eq_false_iff_eq]; exact hk
  have hq : ∀ W, (binOp .neq 26 (.agg #[.int .u8 u.kind, .int .i64 u.num, .bool u.tr, .string u.text]) (.agg #[.int .u8 0, .int .i64 0, .bool false, .string ⟨#[]⟩])).run Tryz.prog W = .ok (.bool false) W := fun W => by
    have := run_neq_val W u Vl.zero
    rw [hv] at this
    exact this
  clear hk hv
  go_enter Tryz.func32, Tryz.ntmps32
  go_wp2_with fail
  go_ret
  exact ⟨rfl, HB.out⟩
set_option maxHeartbeats 2000000 in
theorem rchk5_len (w : World) (op : Int) (h5 : 5 ≤ op) (h17 : op ≤ 17) (u : Vl) (nm : ByteArray) (ks : List Nd) (a : Option Addr) (c : Nat) (hk : (ks.length : Int) ≠ 2) :
    Calls Tryz.prog 32 #[valO op u nm (.slice a ks.length c)] w fun e w' => e = .returned (.bool false) ∧ Below w.heap.size w w' := by
  obtain ⟨w0, p0, hp0, hw0, l0, b0, hC0⟩ := nd_boxO w op u nm (.slice a ks.length c) 36
  have HC0 := Lib.hid hC0
  obtain ⟨c0, c1, c2, c3, c4, c5, c6⟩ := hC0 w0 (Below.refl _ _)
  have HB := Lib.hid b0
  clear hC0 b0
  have e1 : (op == 1) = false := by rw [beq_eq_false_iff_ne]; omega
  have f1 : (op != 1) = true := by rw [bne_iff_ne]; omega
  have e2 : (op == 2) = false := by rw [beq_eq_false_iff_ne]; omega
  have f2 : (op != 2) = true := by rw [bne_iff_ne]; omega
  have e3 : (op == 3) = false := by rw [beq_eq_false_iff_ne]; omega
  have f3 : (op != 3) = true := by rw [bne_iff_ne]; omega
  have e4 : (op == 4) = false := by rw [beq_eq_false_iff_ne]; omega
  have f4 : (op != 4) = true := by rw [bne_iff_ne]; omega
  have dl : decide (op < 1) = false := decide_eq_false (by omega)
  have dg : decide ((17 : Int) < op) = false := decide_eq_false (by omega)
  have dk : ((ks.length : Int) != 2) = true := by rw [bne_iff_ne]; exact hk
  clear hk
  go_enter Tryz.func32, Tryz.ntmps32
  go_wp2_with fail
  go_ret
  exact ⟨rfl, HB.out⟩
set_option maxHeartbeats 2000000 in
theorem rchk5_val (w : World) (op : Int) (h5 : 5 ≤ op) (h17 : op ≤ 17) (u : Vl) (nm : ByteArray) (ks : List Nd) (a : Option Addr) (c : Nat) (hk : (ks.length : Int) = 2) (hv : vlEq u Vl.zero = false) :
    Calls Tryz.prog 32 #[valO op u nm (.slice a ks.length c)] w fun e w' => e = .returned (.bool false) ∧ Below w.heap.size w w' := by
  obtain ⟨w0, p0, hp0, hw0, l0, b0, hC0⟩ := nd_boxO w op u nm (.slice a ks.length c) 36
  have HC0 := Lib.hid hC0
  obtain ⟨c0, c1, c2, c3, c4, c5, c6⟩ := hC0 w0 (Below.refl _ _)
  have HB := Lib.hid b0
  clear hC0 b0
  have e1 : (op == 1) = false := by rw [beq_eq_false_iff_ne]; omega
  have f1 : (op != 1) = true := by rw [bne_iff_ne]; omega
  have e2 : (op == 2) = false := by rw [beq_eq_false_iff_ne]; omega
  have f2 : (op != 2) = true := by rw [bne_iff_ne]; omega
  have e3 : (op == 3) = false := by rw [beq_eq_false_iff_ne]; omega
  have f3 : (op != 3) = true := by rw [bne_iff_ne]; omega
  have e4 : (op == 4) = false := by rw [beq_eq_false_iff_ne]; omega
  have f4 : (op != 4) = true := by rw [bne_iff_ne]; omega
  have dl : decide (op < 1) = false := decide_eq_false (by omega)
  have dg : decide ((17 : Int) < op) = false := decide_eq_false (by omega)
  have dk : ((ks.length : Int) != 2) = false := by rw [bne_eq_false_iff_eq]; exact hk
  have hq : ∀ W, (binOp .neq 26 (.agg #[.int .u8 u.kind, .int .i64 u.num, .bool u.tr, .string u.text]) (.agg #[.int .u8 0, .int .i64 0, .bool false, .string ⟨#[]⟩])).run Tryz.prog W = .ok (.bool true) W := fun W => by
    have := run_neq_val W u Vl.zero
    rw [hv] at this
    exact this
  clear hk hv
  go_enter Tryz.func32, Tryz.ntmps32
  go_wp2_with fail
  go_ret
  exact ⟨rfl, HB.out⟩
set_option maxHeartbeats 2000000 in
theorem rchk5_nm (w : World) (op : Int) (h5 : 5 ≤ op) (h17 : op ≤ 17) (u : Vl) (nm : ByteArray) (ks : List Nd) (a : Option Addr) (c : Nat) (hk : (ks.length : Int) = 2) (hv : vlEq u Vl.zero = true) (hn : nm.toList.isEmpty = false) :
    Calls Tryz.prog 32 #[valO op u nm (.slice a ks.length c)] w fun e w' => e = .returned (.bool false) ∧ Below w.heap.size w w' := by
  obtain ⟨w0, p0, hp0, hw0, l0, b0, hC0⟩ := nd_boxO w op u nm (.slice a ks.length c) 36
  have HC0 := Lib.hid hC0
  obtain ⟨c0, c1, c2, c3, c4, c5, c6⟩ := hC0 w0 (Below.refl _ _)
  have HB := Lib.hid b0
  clear hC0 b0
  have e1 : (op == 1) = false := by rw [beq_eq_false_iff_ne]; omega
  have f1 : (op != 1) = true := by rw [bne_iff_ne]; omega
  have e2 : (op == 2) = false := by rw [beq_eq_false_iff_ne]; omega
  have f2 : (op != 2) = true := by rw [bne_iff_ne]; omega
  have e3 : (op == 3) = false := by rw [beq_eq_false_iff_ne]; omega
  have f3 : (op != 3) = true := by rw [bne_iff_ne]; omega
  have e4 : (op == 4) = false := by rw [beq_eq_false_iff_ne]; omega
  have f4 : (op != 4) = true := by rw [bne_iff_ne]; omega
  have dl : decide (op < 1) = false := decide_eq_false (by omega)
  have dg : decide ((17 : Int) < op) = false := decide_eq_false (by omega)
  have dk : ((ks.length : Int) != 2) = false := by rw [bne_eq_false_iff_eq]; exact hk
  have hq : ∀ W, (binOp .neq 26 (.agg #[.int .u8 u.kind, .int .i64 u.num, .bool u.tr, .string u.text]) (.agg #[.int .u8 0, .int .i64 0, .bool false, .string ⟨#[]⟩])).run Tryz.prog W = .ok (.bool false) W := fun W => by
    have := run_neq_val W u Vl.zero
    rw [hv] at this
    exact this
  clear hk hv
  go_enter Tryz.func32, Tryz.ntmps32
  go_wp2_with fail
  go_ret
  exact ⟨rfl, HB.out⟩
set_option maxHeartbeats 2000000 in
theorem rchk1_chk (w : World) (u : Vl) (nm : ByteArray) (ks : List Nd) (a : Option Addr) (c : Nat) (hk : (ks.length : Int) = 0) (hn : nm.toList.isEmpty = true) (hu : VlW u) (hc : checkB u = false) :
    Calls Tryz.prog 32 #[valO 1 u nm (.slice a ks.length c)] w fun e w' => e = .returned (.bool false) ∧ Below w.heap.size w w' := by
  obtain ⟨w0, p0, hp0, hw0, l0, b0, hC0⟩ := nd_boxO w 1 u nm (.slice a ks.length c) 36
  have HC0 := Lib.hid hC0
  obtain ⟨c0, c1, c2, c3, c4, c5, c6⟩ := hC0 w0 (Below.refl _ _)
  have HB := Lib.hid b0
  clear hC0 b0
  have dk : ((ks.length : Int) != 0) = false := by rw [bne_eq_false_iff_eq]; exact hk
  have HV := Lib.hid (rvcheck_any w0 u hu)
  have he : checkE u = 1 := by unfold checkE; rw [hc]; rfl
  rw [he] at HV
  clear hk hu hc he
  go_enter Tryz.func32, Tryz.ntmps32
  go_wp2_with (go_at_call 66; refine HV.out.mono ?_; rintro e w2 ⟨rfl, hb2⟩; have HB2 := Lib.hid (HB.out.trans (hb2.mono HB.out.size)); obtain ⟨c0, c1, c2, c3, c4, c5, c6⟩ := HC0.out _ hb2; clear hb2)
  go_ret
  exact ⟨rfl, HB2.out⟩
set_option maxHeartbeats 2000000 in
theorem rchk1_neg (w : World) (u : Vl) (nm : ByteArray) (ks : List Nd) (a : Option Addr) (c : Nat) (hk : (ks.length : Int) = 0) (hn : nm.toList.isEmpty = true) (hu : VlW u) (hc : checkB u = true) (h0 : ¬ 0 ≤ u.num) :
    Calls Tryz.prog 32 #[valO 1 u nm (.slice a ks.length c)] w fun e w' => e = .returned (.bool false) ∧ Below w.heap.size w w' := by
  obtain ⟨w0, p0, hp0, hw0, l0, b0, hC0⟩ := nd_boxO w 1 u nm (.slice a ks.length c) 36
  have HC0 := Lib.hid hC0
  obtain ⟨c0, c1, c2, c3, c4, c5, c6⟩ := hC0 w0 (Below.refl _ _)
  have HB := Lib.hid b0
  clear hC0 b0
  have dk : ((ks.length : Int) != 0) = false := by rw [bne_eq_false_iff_eq]; exact hk
  have HV := Lib.hid (rvcheck_any w0 u hu)
  have he : checkE u = 0 := by unfold checkE; rw [hc]; rfl
  have hkd : (u.kind == 1) = true := by rw [neg_kind hc h0]; rfl
  have hd : decide (u.num < 0) = true := decide_eq_true (by omega)
  rw [he] at HV
  clear hk hu hc he h0
  go_enter Tryz.func32, Tryz.ntmps32
  go_wp2_with (go_at_call 66; refine HV.out.mono ?_; rintro e w2 ⟨rfl, hb2⟩; have HB2 := Lib.hid (HB.out.trans (hb2.mono HB.out.size)); obtain ⟨c0, c1, c2, c3, c4, c5, c6⟩ := HC0.out _ hb2; clear hb2)
  go_ret
  exact ⟨rfl, HB2.out⟩
set_option maxHeartbeats 2000000 in
theorem rchk2_name (w : World) (u : Vl) (nm : ByteArray) (ks : List Nd) (a : Option Addr) (c : Nat) (hk : (ks.length : Int) = 0) (hv : vlEq u Vl.zero = true) (hb : nameB nm = false) :
    Calls Tryz.prog 32 #[valO 2 u nm (.slice a ks.length c)] w fun e w' => e = .returned (.bool false) ∧ Below w.heap.size w w' := by
  obtain ⟨w0, p0, hp0, hw0, l0, b0, hC0⟩ := nd_boxO w 2 u nm (.slice a ks.length c) 36
  have HC0 := Lib.hid hC0
  obtain ⟨c0, c1, c2, c3, c4, c5, c6⟩ := hC0 w0 (Below.refl _ _)
  have HB := Lib.hid b0
  clear hC0 b0
  have dk : ((ks.length : Int) != 0) = false := by rw [bne_eq_false_iff_eq]; exact hk
  have hq : ∀ W, (binOp .neq 26 (.agg #[.int .u8 u.kind, .int .i64 u.num, .bool u.tr, .string u.text]) (.agg #[.int .u8 0, .int .i64 0, .bool false, .string ⟨#[]⟩])).run Tryz.prog W = .ok (.bool false) W := fun W => by
    have := run_neq_val W u Vl.zero
    rw [hv] at this
    exact this
  have HN := Lib.hid (rname_any w0 nm)
  rw [hb] at HN
  clear hk hv hb
  go_enter Tryz.func32, Tryz.ntmps32
  go_wp2_with (go_at_call 67; refine HN.out.mono ?_; rintro e w2 ⟨rfl, rfl⟩)
  go_ret
  exact ⟨rfl, HB.out⟩
set_option maxHeartbeats 2000000 in
theorem rchk2_key (w : World) (u : Vl) (nm : ByteArray) (ks : List Nd) (a : Option Addr) (c : Nat) (hk : (ks.length : Int) = 0) (hv : vlEq u Vl.zero = true) (hb : nameB nm = true) (hw : keyWord nm = true) :
    Calls Tryz.prog 32 #[valO 2 u nm (.slice a ks.length c)] w fun e w' => e = .returned (.bool false) ∧ Below w.heap.size w w' := by
  obtain ⟨w0, p0, hp0, hw0, l0, b0, hC0⟩ := nd_boxO w 2 u nm (.slice a ks.length c) 36
  have HC0 := Lib.hid hC0
  obtain ⟨c0, c1, c2, c3, c4, c5, c6⟩ := hC0 w0 (Below.refl _ _)
  have HB := Lib.hid b0
  clear hC0 b0
  have dk : ((ks.length : Int) != 0) = false := by rw [bne_eq_false_iff_eq]; exact hk
  have hq : ∀ W, (binOp .neq 26 (.agg #[.int .u8 u.kind, .int .i64 u.num, .bool u.tr, .string u.text]) (.agg #[.int .u8 0, .int .i64 0, .bool false, .string ⟨#[]⟩])).run Tryz.prog W = .ok (.bool false) W := fun W => by
    have := run_neq_val W u Vl.zero
    rw [hv] at this
    exact this
  have HN := Lib.hid (rname_any w0 nm)
  rw [hb] at HN
  have HWd := Lib.hid (rword_any w0 nm)
  rw [hw] at HWd
  clear hk hv hb hw
  go_enter Tryz.func32, Tryz.ntmps32
  go_wp2_with (first | (go_at_call 67; refine HN.out.mono ?_; rintro e w2 ⟨rfl, rfl⟩) | (go_at_call 68; refine HWd.out.mono ?_; rintro e w2 ⟨rfl, rfl⟩))
  go_ret
  exact ⟨rfl, HB.out⟩
set_option maxHeartbeats 4000000 in
theorem rchk1_num {m : Nat} (IH : RChk m) (w : World) (u : Vl) (nm : ByteArray) (ks : List Nd) (a : Option Addr) (c : Nat) (hm : ∀ x ∈ ks, SizeOf.sizeOf x ≤ m) (hks : KidsR w w.heap.size (.slice a ks.length c) ks) (hk : (ks.length : Int) = 0) (hn : nm.toList.isEmpty = true) (hu : VlW u) (hc : checkB u = true) (h0 : 0 ≤ u.num) (hkd : (u.kind == 1) = true) :
    Calls Tryz.prog 32 #[valO 1 u nm (.slice a ks.length c)] w fun e w' => e = .returned (.bool (checkL ks)) ∧ Below w.heap.size w w' := by
  have hll := hks.len
  have HKS := Lib.hid hks
  have HM := Lib.hid hm
  have HI := Lib.hid IH
  clear hks hm IH
  obtain ⟨w0, p0, hp0, hw0, l0, b0, hC0⟩ := nd_boxO w 1 u nm (.slice a ks.length c) 36
  have HC0 := Lib.hid hC0
  obtain ⟨c0, c1, c2, c3, c4, c5, c6⟩ := hC0 w0 (Below.refl _ _)
  have HB := Lib.hid b0
  clear hC0 b0
  have dk : ((ks.length : Int) != 0) = false := by rw [bne_eq_false_iff_eq]; exact hk
  have HV := Lib.hid (rvcheck_any w0 u hu)
  have he : checkE u = 0 := by unfold checkE; rw [hc]; rfl
  rw [he] at HV
  have hd : decide (u.num < 0) = false := decide_eq_false (by omega)
  obtain ⟨t, ht⟩ : ∃ t, checkL ks = t := ⟨_, rfl⟩
  have HT : Hid (checkL (ks.drop 0) = t) := Lib.hid ht
  rw [ht]
  clear ht hu hc he
  have HZ := Lib.hid (show ks.length = 0 from by omega)
  clear hk
  go_enter Tryz.func32, Tryz.ntmps32
  go_wp2_with (go_at_call 66; refine HV.out.mono ?_; rintro e w2 ⟨rfl, hb2⟩; have HB0 := Lib.hid hb2; obtain ⟨c0, c1, c2, c3, c4, c5, c6⟩ := HC0.out _ hb2; clear hb2)
  go_loopg [4] ks.length (fun g s4 wr => ∃ k : Nat, k + g = ks.length ∧ s4 = .int .i64 (k : Int) ∧ Hid (checkL (ks.drop k) = t) ∧ Hid (Below w0.heap.size w0 wr))
  case atStart => exact ⟨0, by omega, rfl, HT, Lib.hid (by first | exact Below.refl _ _ | exact HB0.out)⟩
  case round =>
    obtain ⟨k, hkg, rfl, hT, hB⟩ := hrel
    obtain ⟨c0, c1, c2, c3, c4, c5, c6⟩ := HC0.out wr hB.out
    by_cases hi : k < ks.length
    · exact absurd hi (by have := HZ.out; omega)
    · have u1 : decide ((k : Int) < (ks.length : Int)) = false := decide_eq_false (by omega)
      have u1' : decide (k < ks.length) = false := decide_eq_false hi
      have HD2 : Hid (true = t) := Lib.hid (by have := hT.out; rw [checkL_end (by omega)] at this; exact this)
      clear hT
      go_wp2_with fail
      go_ret
      exact ⟨ret_bool HD2.out, HB.out.trans (hB.out.mono HB.out.size)⟩
set_option maxHeartbeats 4000000 in
theorem rchk1_oth {m : Nat} (IH : RChk m) (w : World) (u : Vl) (nm : ByteArray) (ks : List Nd) (a : Option Addr) (c : Nat) (hm : ∀ x ∈ ks, SizeOf.sizeOf x ≤ m) (hks : KidsR w w.heap.size (.slice a ks.length c) ks) (hk : (ks.length : Int) = 0) (hn : nm.toList.isEmpty = true) (hu : VlW u) (hc : checkB u = true) (hkd : (u.kind == 1) = false) :
    Calls Tryz.prog 32 #[valO 1 u nm (.slice a ks.length c)] w fun e w' => e = .returned (.bool (checkL ks)) ∧ Below w.heap.size w w' := by
  have hll := hks.len
  have HKS := Lib.hid hks
  have HM := Lib.hid hm
  have HI := Lib.hid IH
  clear hks hm IH
  obtain ⟨w0, p0, hp0, hw0, l0, b0, hC0⟩ := nd_boxO w 1 u nm (.slice a ks.length c) 36
  have HC0 := Lib.hid hC0
  obtain ⟨c0, c1, c2, c3, c4, c5, c6⟩ := hC0 w0 (Below.refl _ _)
  have HB := Lib.hid b0
  clear hC0 b0
  have dk : ((ks.length : Int) != 0) = false := by rw [bne_eq_false_iff_eq]; exact hk
  have HV := Lib.hid (rvcheck_any w0 u hu)
  have he : checkE u = 0 := by unfold checkE; rw [hc]; rfl
  rw [he] at HV
  obtain ⟨t, ht⟩ : ∃ t, checkL ks = t := ⟨_, rfl⟩
  have HT : Hid (checkL (ks.drop 0) = t) := Lib.hid ht
  rw [ht]
  clear ht hu hc he
  have HZ := Lib.hid (show ks.length = 0 from by omega)
  clear hk
  go_enter Tryz.func32, Tryz.ntmps32
  go_wp2_with (go_at_call 66; refine HV.out.mono ?_; rintro e w2 ⟨rfl, hb2⟩; have HB0 := Lib.hid hb2; obtain ⟨c0, c1, c2, c3, c4, c5, c6⟩ := HC0.out _ hb2; clear hb2)
  go_loopg [4] ks.length (fun g s4 wr => ∃ k : Nat, k + g = ks.length ∧ s4 = .int .i64 (k : Int) ∧ Hid (checkL (ks.drop k) = t) ∧ Hid (Below w0.heap.size w0 wr))
  case atStart => exact ⟨0, by omega, rfl, HT, Lib.hid (by first | exact Below.refl _ _ | exact HB0.out)⟩
  case round =>
    obtain ⟨k, hkg, rfl, hT, hB⟩ := hrel
    obtain ⟨c0, c1, c2, c3, c4, c5, c6⟩ := HC0.out wr hB.out
    by_cases hi : k < ks.length
    · exact absurd hi (by have := HZ.out; omega)
    · have u1 : decide ((k : Int) < (ks.length : Int)) = false := decide_eq_false (by omega)
      have u1' : decide (k < ks.length) = false := decide_eq_false hi
      have HD2 : Hid (true = t) := Lib.hid (by have := hT.out; rw [checkL_end (by omega)] at this; exact this)
      clear hT
      go_wp2_with fail
      go_ret
      exact ⟨ret_bool HD2.out, HB.out.trans (hB.out.mono HB.out.size)⟩
set_option maxHeartbeats 4000000 in
theorem rchk2_ok {m : Nat} (IH : RChk m) (w : World) (u : Vl) (nm : ByteArray) (ks : List Nd) (a : Option Addr) (c : Nat) (hm : ∀ x ∈ ks, SizeOf.sizeOf x ≤ m) (hks : KidsR w w.heap.size (.slice a ks.length c) ks) (hk : (ks.length : Int) = 0) (hv : vlEq u Vl.zero = true) (hb : nameB nm = true) (hw : keyWord nm = false) :
    Calls Tryz.prog 32 #[valO 2 u nm (.slice a ks.length c)] w fun e w' => e = .returned (.bool (checkL ks)) ∧ Below w.heap.size w w' := by
  have hll := hks.len
  have HKS := Lib.hid hks
  have HM := Lib.hid hm
  have HI := Lib.hid IH
  clear hks hm IH
  obtain ⟨w0, p0, hp0, hw0, l0, b0, hC0⟩ := nd_boxO w 2 u nm (.slice a ks.length c) 36
  have HC0 := Lib.hid hC0
  obtain ⟨c0, c1, c2, c3, c4, c5, c6⟩ := hC0 w0 (Below.refl _ _)
  have HB := Lib.hid b0
  clear hC0 b0
  have dk : ((ks.length : Int) != 0) = false := by rw [bne_eq_false_iff_eq]; exact hk
  have hq : ∀ W, (binOp .neq 26 (.agg #[.int .u8 u.kind, .int .i64 u.num, .bool u.tr, .string u.text]) (.agg #[.int .u8 0, .int .i64 0, .bool false, .string ⟨#[]⟩])).run Tryz.prog W = .ok (.bool false) W := fun W => by
    have := run_neq_val W u Vl.zero
    rw [hv] at this
    exact this
  have HN := Lib.hid (rname_any w0 nm)
  rw [hb] at HN
  have HWd := Lib.hid (rword_any w0 nm)
  rw [hw] at HWd
  obtain ⟨t, ht⟩ : ∃ t, checkL ks = t := ⟨_, rfl⟩
  have HT : Hid (checkL (ks.drop 0) = t) := Lib.hid ht
  rw [ht]
  clear ht hv hb hw
  have HZ := Lib.hid (show ks.length = 0 from by omega)
  clear hk
  go_enter Tryz.func32, Tryz.ntmps32
  go_wp2_with (first | (go_at_call 67; refine HN.out.mono ?_; rintro e w2 ⟨rfl, rfl⟩) | (go_at_call 68; refine HWd.out.mono ?_; rintro e w2 ⟨rfl, rfl⟩))
  go_loopg [4] ks.length (fun g s4 wr => ∃ k : Nat, k + g = ks.length ∧ s4 = .int .i64 (k : Int) ∧ Hid (checkL (ks.drop k) = t) ∧ Hid (Below w0.heap.size w0 wr))
  case atStart => exact ⟨0, by omega, rfl, HT, Lib.hid (by first | exact Below.refl _ _ | exact HB0.out)⟩
  case round =>
    obtain ⟨k, hkg, rfl, hT, hB⟩ := hrel
    obtain ⟨c0, c1, c2, c3, c4, c5, c6⟩ := HC0.out wr hB.out
    by_cases hi : k < ks.length
    · exact absurd hi (by have := HZ.out; omega)
    · have u1 : decide ((k : Int) < (ks.length : Int)) = false := decide_eq_false (by omega)
      have u1' : decide (k < ks.length) = false := decide_eq_false hi
      have HD2 : Hid (true = t) := Lib.hid (by have := hT.out; rw [checkL_end (by omega)] at this; exact this)
      clear hT
      go_wp2_with fail
      go_ret
      exact ⟨ret_bool HD2.out, HB.out.trans (hB.out.mono HB.out.size)⟩
set_option maxHeartbeats 4000000 in
theorem rchk3_ok {m : Nat} (IH : RChk m) (w : World) (u : Vl) (nm : ByteArray) (ks : List Nd) (a : Option Addr) (c : Nat) (hm : ∀ x ∈ ks, SizeOf.sizeOf x ≤ m) (hks : KidsR w w.heap.size (.slice a ks.length c) ks) (hk : (ks.length : Int) = 1) (hv : vlEq u Vl.zero = true) (hn : nm.toList.isEmpty = true) :
    Calls Tryz.prog 32 #[valO 3 u nm (.slice a ks.length c)] w fun e w' => e = .returned (.bool (checkL ks)) ∧ Below w.heap.size w w' := by
  have hll := hks.len
  have HKS := Lib.hid hks
  have HM := Lib.hid hm
  have HI := Lib.hid IH
  clear hks hm IH
  obtain ⟨w0, p0, hp0, hw0, l0, b0, hC0⟩ := nd_boxO w 3 u nm (.slice a ks.length c) 36
  have HC0 := Lib.hid hC0
  obtain ⟨c0, c1, c2, c3, c4, c5, c6⟩ := hC0 w0 (Below.refl _ _)
  have HB := Lib.hid b0
  clear hC0 b0
  have dk : ((ks.length : Int) != 1) = false := by rw [bne_eq_false_iff_eq]; exact hk
  have hq : ∀ W, (binOp .neq 26 (.agg #[.int .u8 u.kind, .int .i64 u.num, .bool u.tr, .string u.text]) (.agg #[.int .u8 0, .int .i64 0, .bool false, .string ⟨#[]⟩])).run Tryz.prog W = .ok (.bool false) W := fun W => by
    have := run_neq_val W u Vl.zero
    rw [hv] at this
    exact this
  obtain ⟨t, ht⟩ : ∃ t, checkL ks = t := ⟨_, rfl⟩
  have HT : Hid (checkL (ks.drop 0) = t) := Lib.hid ht
  rw [ht]
  clear ht hv
  go_enter Tryz.func32, Tryz.ntmps32
  go_wp2_with fail
  go_loopg [4] ks.length (fun g s4 wr => ∃ k : Nat, k + g = ks.length ∧ s4 = .int .i64 (k : Int) ∧ Hid (checkL (ks.drop k) = t) ∧ Hid (Below w0.heap.size w0 wr))
  case atStart => exact ⟨0, by omega, rfl, HT, Lib.hid (by first | exact Below.refl _ _ | exact HB0.out)⟩
  case round =>
    obtain ⟨k, hkg, rfl, hT, hB⟩ := hrel
    obtain ⟨c0, c1, c2, c3, c4, c5, c6⟩ := HC0.out wr hB.out
    by_cases hi : k < ks.length
    · have u1 : decide ((k : Int) < (ks.length : Int)) = true := decide_eq_true (by omega)
      have u1' : decide (k < ks.length) = true := decide_eq_true hi
      have hBw := HB.out.trans (hB.out.mono HB.out.size)
      obtain ⟨b, o, vx, rfl, hb, hw, hkk, e0, e1, e2, e3, e4, e5, e6⟩ := HKS.out.at hi
      have hdr := checkL_drop hi
      have hsz := HM.out _ (List.getElem_mem hi)
      obtain ⟨x, hx⟩ : ∃ x, ks[k] = x := ⟨_, rfl⟩
      rw [hx] at e0 e1 e2 e3 e4 e5 hw hkk hdr hsz
      rw [← Below.cellB hBw hb] at e0 e1 e2 e3 e4 e5 e6
      have HX := Lib.hid (HI.out x hsz wr vx ⟨hw, hkk.mono hBw hBw.size⟩)
      have HD := Lib.hid (hdr.symm.trans hT.out)
      obtain ⟨t1, ht1⟩ : ∃ t1, checkN x = t1 := ⟨_, rfl⟩
      rw [ht1] at HX HD
      have k1 : (0 : Int) ≤ (k : Int) := by omega
      have k2 : (k : Int) < (ks.length : Int) := by omega
      obtain ⟨ax, cx, rfl⟩ := hkk.val
      clear hx hw hkk hsz hdr hT hBw ht1
      cases t1 with
      | true =>
        have HD2 : Hid (checkL (ks.drop (k + 1)) = t) := Lib.hid (by have := HD.out; rw [Bool.true_and] at this; exact this)
        clear HD
        go_wp2_with (go_at_call 32; refine HX.out.mono ?_; rintro e w3 ⟨rfl, hb3⟩; have HB3 := Lib.hid (hB.out.trans (hb3.mono hB.out.size)); clear hb3)
        go_roundg (gk - 1)
        case measure => omega
        case rel => exact ⟨k + 1, by omega, by go_num, HD2, HB3⟩
      | false =>
        have HD2 : Hid (false = t) := Lib.hid (by have := HD.out; rw [Bool.false_and] at this; exact this)
        clear HD
        go_wp2_with (go_at_call 32; refine HX.out.mono ?_; rintro e w3 ⟨rfl, hb3⟩; have HB3 := Lib.hid (hB.out.trans (hb3.mono hB.out.size)); clear hb3)
        go_ret
        exact ⟨ret_bool HD2.out, HB.out.trans (HB3.out.mono HB.out.size)⟩
    · have u1 : decide ((k : Int) < (ks.length : Int)) = false := decide_eq_false (by omega)
      have u1' : decide (k < ks.length) = false := decide_eq_false hi
      have HD2 : Hid (true = t) := Lib.hid (by have := hT.out; rw [checkL_end (by omega)] at this; exact this)
      clear hT
      go_wp2_with fail
      go_ret
      exact ⟨ret_bool HD2.out, HB.out.trans (hB.out.mono HB.out.size)⟩
set_option maxHeartbeats 4000000 in
theorem rchk4_ok {m : Nat} (IH : RChk m) (w : World) (u : Vl) (nm : ByteArray) (ks : List Nd) (a : Option Addr) (c : Nat) (hm : ∀ x ∈ ks, SizeOf.sizeOf x ≤ m) (hks : KidsR w w.heap.size (.slice a ks.length c) ks) (hk : (ks.length : Int) = 1) (hv : vlEq u Vl.zero = true) (hn : nm.toList.isEmpty = true) :
    Calls Tryz.prog 32 #[valO 4 u nm (.slice a ks.length c)] w fun e w' => e = .returned (.bool (checkL ks)) ∧ Below w.heap.size w w' := by
  have hll := hks.len
  have HKS := Lib.hid hks
  have HM := Lib.hid hm
  have HI := Lib.hid IH
  clear hks hm IH
  obtain ⟨w0, p0, hp0, hw0, l0, b0, hC0⟩ := nd_boxO w 4 u nm (.slice a ks.length c) 36
  have HC0 := Lib.hid hC0
  obtain ⟨c0, c1, c2, c3, c4, c5, c6⟩ := hC0 w0 (Below.refl _ _)
  have HB := Lib.hid b0
  clear hC0 b0
  have dk : ((ks.length : Int) != 1) = false := by rw [bne_eq_false_iff_eq]; exact hk
  have hq : ∀ W, (binOp .neq 26 (.agg #[.int .u8 u.kind, .int .i64 u.num, .bool u.tr, .string u.text]) (.agg #[.int .u8 0, .int .i64 0, .bool false, .string ⟨#[]⟩])).run Tryz.prog W = .ok (.bool false) W := fun W => by
    have := run_neq_val W u Vl.zero
    rw [hv] at this
    exact this
  obtain ⟨t, ht⟩ : ∃ t, checkL ks = t := ⟨_, rfl⟩
  have HT : Hid (checkL (ks.drop 0) = t) := Lib.hid ht
  rw [ht]
  clear ht hv
  go_enter Tryz.func32, Tryz.ntmps32
  go_wp2_with fail
  go_loopg [4] ks.length (fun g s4 wr => ∃ k : Nat, k + g = ks.length ∧ s4 = .int .i64 (k : Int) ∧ Hid (checkL (ks.drop k) = t) ∧ Hid (Below w0.heap.size w0 wr))
  case atStart => exact ⟨0, by omega, rfl, HT, Lib.hid (by first | exact Below.refl _ _ | exact HB0.out)⟩
  case round =>
    obtain ⟨k, hkg, rfl, hT, hB⟩ := hrel
    obtain ⟨c0, c1, c2, c3, c4, c5, c6⟩ := HC0.out wr hB.out
    by_cases hi : k < ks.length
    · have u1 : decide ((k : Int) < (ks.length : Int)) = true := decide_eq_true (by omega)
      have u1' : decide (k < ks.length) = true := decide_eq_true hi
      have hBw := HB.out.trans (hB.out.mono HB.out.size)
      obtain ⟨b, o, vx, rfl, hb, hw, hkk, e0, e1, e2, e3, e4, e5, e6⟩ := HKS.out.at hi
      have hdr := checkL_drop hi
      have hsz := HM.out _ (List.getElem_mem hi)
      obtain ⟨x, hx⟩ : ∃ x, ks[k] = x := ⟨_, rfl⟩
      rw [hx] at e0 e1 e2 e3 e4 e5 hw hkk hdr hsz
      rw [← Below.cellB hBw hb] at e0 e1 e2 e3 e4 e5 e6
      have HX := Lib.hid (HI.out x hsz wr vx ⟨hw, hkk.mono hBw hBw.size⟩)
      have HD := Lib.hid (hdr.symm.trans hT.out)
      obtain ⟨t1, ht1⟩ : ∃ t1, checkN x = t1 := ⟨_, rfl⟩
      rw [ht1] at HX HD
      have k1 : (0 : Int) ≤ (k : Int) := by omega
      have k2 : (k : Int) < (ks.length : Int) := by omega
      obtain ⟨ax, cx, rfl⟩ := hkk.val
      clear hx hw hkk hsz hdr hT hBw ht1
      cases t1 with
      | true =>
        have HD2 : Hid (checkL (ks.drop (k + 1)) = t) := Lib.hid (by have := HD.out; rw [Bool.true_and] at this; exact this)
        clear HD
        go_wp2_with (go_at_call 32; refine HX.out.mono ?_; rintro e w3 ⟨rfl, hb3⟩; have HB3 := Lib.hid (hB.out.trans (hb3.mono hB.out.size)); clear hb3)
        go_roundg (gk - 1)
        case measure => omega
        case rel => exact ⟨k + 1, by omega, by go_num, HD2, HB3⟩
      | false =>
        have HD2 : Hid (false = t) := Lib.hid (by have := HD.out; rw [Bool.false_and] at this; exact this)
        clear HD
        go_wp2_with (go_at_call 32; refine HX.out.mono ?_; rintro e w3 ⟨rfl, hb3⟩; have HB3 := Lib.hid (hB.out.trans (hb3.mono hB.out.size)); clear hb3)
        go_ret
        exact ⟨ret_bool HD2.out, HB.out.trans (HB3.out.mono HB.out.size)⟩
    · have u1 : decide ((k : Int) < (ks.length : Int)) = false := decide_eq_false (by omega)
      have u1' : decide (k < ks.length) = false := decide_eq_false hi
      have HD2 : Hid (true = t) := Lib.hid (by have := hT.out; rw [checkL_end (by omega)] at this; exact this)
      clear hT
      go_wp2_with fail
      go_ret
      exact ⟨ret_bool HD2.out, HB.out.trans (hB.out.mono HB.out.size)⟩
set_option maxHeartbeats 4000000 in
theorem rchk5_ok {m : Nat} (IH : RChk m) (w : World) (op : Int) (h5 : 5 ≤ op) (h17 : op ≤ 17) (u : Vl) (nm : ByteArray) (ks : List Nd) (a : Option Addr) (c : Nat) (hm : ∀ x ∈ ks, SizeOf.sizeOf x ≤ m) (hks : KidsR w w.heap.size (.slice a ks.length c) ks) (hk : (ks.length : Int) = 2) (hv : vlEq u Vl.zero = true) (hn : nm.toList.isEmpty = true) :
    Calls Tryz.prog 32 #[valO op u nm (.slice a ks.length c)] w fun e w' => e = .returned (.bool (checkL ks)) ∧ Below w.heap.size w w' := by
  have hll := hks.len
  have HKS := Lib.hid hks
  have HM := Lib.hid hm
  have HI := Lib.hid IH
  clear hks hm IH
  obtain ⟨w0, p0, hp0, hw0, l0, b0, hC0⟩ := nd_boxO w op u nm (.slice a ks.length c) 36
  have HC0 := Lib.hid hC0
  obtain ⟨c0, c1, c2, c3, c4, c5, c6⟩ := hC0 w0 (Below.refl _ _)
  have HB := Lib.hid b0
  clear hC0 b0
  have e1 : (op == 1) = false := by rw [beq_eq_false_iff_ne]; omega
  have f1 : (op != 1) = true := by rw [bne_iff_ne]; omega
  have e2 : (op == 2) = false := by rw [beq_eq_false_iff_ne]; omega
  have f2 : (op != 2) = true := by rw [bne_iff_ne]; omega
  have e3 : (op == 3) = false := by rw [beq_eq_false_iff_ne]; omega
  have f3 : (op != 3) = true := by rw [bne_iff_ne]; omega
  have e4 : (op == 4) = false := by rw [beq_eq_false_iff_ne]; omega
  have f4 : (op != 4) = true := by rw [bne_iff_ne]; omega
  have dl : decide (op < 1) = false := decide_eq_false (by omega)
  have dg : decide ((17 : Int) < op) = false := decide_eq_false (by omega)
  have dk : ((ks.length : Int) != 2) = false := by rw [bne_eq_false_iff_eq]; exact hk
  have hq : ∀ W, (binOp .neq 26 (.agg #[.int .u8 u.kind, .int .i64 u.num, .bool u.tr, .string u.text]) (.agg #[.int .u8 0, .int .i64 0, .bool false, .string ⟨#[]⟩])).run Tryz.prog W = .ok (.bool false) W := fun W => by
    have := run_neq_val W u Vl.zero
    rw [hv] at this
    exact this
  obtain ⟨t, ht⟩ : ∃ t, checkL ks = t := ⟨_, rfl⟩
  have HT : Hid (checkL (ks.drop 0) = t) := Lib.hid ht
  rw [ht]
  clear ht hv
  go_enter Tryz.func32, Tryz.ntmps32
  go_wp2_with fail
  go_loopg [4] ks.length (fun g s4 wr => ∃ k : Nat, k + g = ks.length ∧ s4 = .int .i64 (k : Int) ∧ Hid (checkL (ks.drop k) = t) ∧ Hid (Below w0.heap.size w0 wr))
  case atStart => exact ⟨0, by omega, rfl, HT, Lib.hid (by first | exact Below.refl _ _ | exact HB0.out)⟩
  case round =>
    obtain ⟨k, hkg, rfl, hT, hB⟩ := hrel
    obtain ⟨c0, c1, c2, c3, c4, c5, c6⟩ := HC0.out wr hB.out
    by_cases hi : k < ks.length
    · have u1 : decide ((k : Int) < (ks.length : Int)) = true := decide_eq_true (by omega)
      have u1' : decide (k < ks.length) = true := decide_eq_true hi
      have hBw := HB.out.trans (hB.out.mono HB.out.size)
      obtain ⟨b, o, vx, rfl, hb, hw, hkk, e0, e1, e2, e3, e4, e5, e6⟩ := HKS.out.at hi
      have hdr := checkL_drop hi
      have hsz := HM.out _ (List.getElem_mem hi)
      obtain ⟨x, hx⟩ : ∃ x, ks[k] = x := ⟨_, rfl⟩
      rw [hx] at e0 e1 e2 e3 e4 e5 hw hkk hdr hsz
      rw [← Below.cellB hBw hb] at e0 e1 e2 e3 e4 e5 e6
      have HX := Lib.hid (HI.out x hsz wr vx ⟨hw, hkk.mono hBw hBw.size⟩)
      have HD := Lib.hid (hdr.symm.trans hT.out)
      obtain ⟨t1, ht1⟩ : ∃ t1, checkN x = t1 := ⟨_, rfl⟩
      rw [ht1] at HX HD
      have k1 : (0 : Int) ≤ (k : Int) := by omega
      have k2 : (k : Int) < (ks.length : Int) := by omega
      obtain ⟨ax, cx, rfl⟩ := hkk.val
      clear hx hw hkk hsz hdr hT hBw ht1
      cases t1 with
      | true =>
        have HD2 : Hid (checkL (ks.drop (k + 1)) = t) := Lib.hid (by have := HD.out; rw [Bool.true_and] at this; exact this)
        clear HD
        go_wp2_with (go_at_call 32; refine HX.out.mono ?_; rintro e w3 ⟨rfl, hb3⟩; have HB3 := Lib.hid (hB.out.trans (hb3.mono hB.out.size)); clear hb3)
        go_roundg (gk - 1)
        case measure => omega
        case rel => exact ⟨k + 1, by omega, by go_num, HD2, HB3⟩
      | false =>
        have HD2 : Hid (false = t) := Lib.hid (by have := HD.out; rw [Bool.false_and] at this; exact this)
        clear HD
        go_wp2_with (go_at_call 32; refine HX.out.mono ?_; rintro e w3 ⟨rfl, hb3⟩; have HB3 := Lib.hid (hB.out.trans (hb3.mono hB.out.size)); clear hb3)
        go_ret
        exact ⟨ret_bool HD2.out, HB.out.trans (HB3.out.mono HB.out.size)⟩
    · have u1 : decide ((k : Int) < (ks.length : Int)) = false := decide_eq_false (by omega)
      have u1' : decide (k < ks.length) = false := decide_eq_false hi
      have HD2 : Hid (true = t) := Lib.hid (by have := hT.out; rw [checkL_end (by omega)] at this; exact this)
      clear hT
      go_wp2_with fail
      go_ret
      exact ⟨ret_bool HD2.out, HB.out.trans (hB.out.mono HB.out.size)⟩
theorem rchk_step {m : Nat} (IH : RChk m) : RChk (m + 1) := by
  intro n hz w vk hn
  obtain ⟨op, u, nm, ks⟩ := n
  have hks : KidsR w w.heap.size vk ks := hn.2
  have hu : VlW u := hn.1.v
  obtain ⟨a, c, rfl⟩ := hks.val
  have hm : ∀ x ∈ ks, SizeOf.sizeOf x ≤ m := fun x hx => by have := List.sizeOf_lt_of_mem hx; simp at hz; omega
  have e : checkN (.mk op u nm ks) = (headB op u nm ks.length && checkL ks) := rfl
  show Calls Tryz.prog 32 #[valO op u nm (.slice a ks.length c)] w fun e w' => e = .returned (.bool (checkN (.mk op u nm ks))) ∧ Below w.heap.size w w'
  have hne : ∀ s : ByteArray, s.toList.isEmpty = true ∨ s.toList.isEmpty = false := fun s => by cases s.toList.isEmpty <;> simp
  by_cases h1 : op < 1
  · have k : kidsN op = -1 := by unfold kidsN; rw [if_pos (.inl h1)]
    have hh : headB op u nm ks.length = false := by
      unfold headB
      rw [k, beq_eq_false_iff_ne.2 (show (ks.length : Int) ≠ -1 by omega), Bool.false_and]
    rw [e, hh, Bool.false_and]
    exact rchk_lo w op u nm ks a c h1
  by_cases h17 : 17 < op
  · have k : kidsN op = -1 := by unfold kidsN; rw [if_pos (.inr h17)]
    have hh : headB op u nm ks.length = false := by
      unfold headB
      rw [k, beq_eq_false_iff_ne.2 (show (ks.length : Int) ≠ -1 by omega), Bool.false_and]
    rw [e, hh, Bool.false_and]
    exact rchk_hi w op u nm ks a c h17
  have hop : op = 1 ∨ op = 2 ∨ op = 3 ∨ op = 4 ∨ 5 ≤ op := by omega
  rcases hop with rfl | rfl | rfl | rfl | h5
  · have k : kidsN 1 = 0 := rfl
    have hh : headB 1 u nm ks.length = (((ks.length : Int) == 0) && (nm.toList.isEmpty && (checkB u && decide (0 ≤ u.num)))) := by
      unfold headB
      rw [k, (show (((1 : Int)) == 1) = true from rfl), (show (((1 : Int)) == 2) = false from rfl)]
      simp
    rw [e, hh]
    by_cases hk : (ks.length : Int) = 0
    · rw [beq_iff_eq.2 hk, Bool.true_and]
      rcases hne nm with hn | hn
      · cases hc : checkB u with
        | false => rw [hn, Bool.true_and, Bool.false_and, Bool.false_and]; exact rchk1_chk w u nm ks a c hk hn hu hc
        | true =>
          by_cases h0 : 0 ≤ u.num
          · rw [hn, decide_eq_true h0, Bool.true_and, Bool.true_and, Bool.true_and]
            cases hkd : (u.kind == 1) with
            | true => exact rchk1_num IH w u nm ks a c hm hks hk hn hu hc h0 hkd
            | false => exact rchk1_oth IH w u nm ks a c hm hks hk hn hu hc hkd
          · rw [hn, decide_eq_false h0, Bool.true_and, Bool.true_and, Bool.false_and]; exact rchk1_neg w u nm ks a c hk hn hu hc h0
      · rw [hn, Bool.false_and, Bool.false_and]; exact rchk1_nm w u nm ks a c hk hn
    · rw [beq_eq_false_iff_ne.2 hk, Bool.false_and, Bool.false_and]
      exact rchk1_len w u nm ks a c hk
  · have k : kidsN 2 = 0 := rfl
    have hh : headB 2 u nm ks.length = (((ks.length : Int) == 0) && (vlEq u Vl.zero && (nameB nm && !keyWord nm))) := by
      unfold headB
      rw [k, (show (((2 : Int)) == 1) = false from rfl), (show (((2 : Int)) == 2) = true from rfl)]
      simp
    rw [e, hh]
    by_cases hk : (ks.length : Int) = 0
    · rw [beq_iff_eq.2 hk, Bool.true_and]
      cases hv : vlEq u Vl.zero with
      | false => rw [Bool.false_and, Bool.false_and]; exact rchk2_val w u nm ks a c hk hv
      | true =>
        cases hb : nameB nm with
        | false => rw [Bool.true_and, Bool.false_and, Bool.false_and]; exact rchk2_name w u nm ks a c hk hv hb
        | true =>
          cases hw : keyWord nm with
          | true => rw [Bool.true_and, Bool.true_and, Bool.not_true, Bool.false_and]; exact rchk2_key w u nm ks a c hk hv hb hw
          | false => rw [Bool.true_and, Bool.true_and, Bool.not_false, Bool.true_and]; exact rchk2_ok IH w u nm ks a c hm hks hk hv hb hw
    · rw [beq_eq_false_iff_ne.2 hk, Bool.false_and, Bool.false_and]
      exact rchk2_len w u nm ks a c hk
  · have k : kidsN 3 = 1 := rfl
    have hh : headB 3 u nm ks.length = (((ks.length : Int) == 1) && (vlEq u Vl.zero && nm.toList.isEmpty)) := by
      unfold headB
      rw [k, (show (((3 : Int)) == 1) = false from rfl), (show (((3 : Int)) == 2) = false from rfl)]
      simp
    rw [e, hh]
    by_cases hk : (ks.length : Int) = 1
    · rw [beq_iff_eq.2 hk, Bool.true_and]
      cases hv : vlEq u Vl.zero with
      | false => rw [Bool.false_and, Bool.false_and]; exact rchk3_val w u nm ks a c hk hv
      | true =>
        rcases hne nm with hn | hn
        · rw [hn, Bool.true_and, Bool.true_and]; exact rchk3_ok IH w u nm ks a c hm hks hk hv hn
        · rw [hn, Bool.true_and, Bool.false_and]; exact rchk3_nm w u nm ks a c hk hv hn
    · rw [beq_eq_false_iff_ne.2 hk, Bool.false_and, Bool.false_and]
      exact rchk3_len w u nm ks a c hk
  · have k : kidsN 4 = 1 := rfl
    have hh : headB 4 u nm ks.length = (((ks.length : Int) == 1) && (vlEq u Vl.zero && nm.toList.isEmpty)) := by
      unfold headB
      rw [k, (show (((4 : Int)) == 1) = false from rfl), (show (((4 : Int)) == 2) = false from rfl)]
      simp
    rw [e, hh]
    by_cases hk : (ks.length : Int) = 1
    · rw [beq_iff_eq.2 hk, Bool.true_and]
      cases hv : vlEq u Vl.zero with
      | false => rw [Bool.false_and, Bool.false_and]; exact rchk4_val w u nm ks a c hk hv
      | true =>
        rcases hne nm with hn | hn
        · rw [hn, Bool.true_and, Bool.true_and]; exact rchk4_ok IH w u nm ks a c hm hks hk hv hn
        · rw [hn, Bool.true_and, Bool.false_and]; exact rchk4_nm w u nm ks a c hk hv hn
    · rw [beq_eq_false_iff_ne.2 hk, Bool.false_and, Bool.false_and]
      exact rchk4_len w u nm ks a c hk
  · have k : kidsN op = 2 := by unfold kidsN; rw [if_neg (by omega), if_neg (by omega), if_neg (by omega)]
    have hh : headB op u nm ks.length = (((ks.length : Int) == 2) && (vlEq u Vl.zero && nm.toList.isEmpty)) := by
      unfold headB
      rw [k, (show (op == 1) = false by rw [beq_eq_false_iff_ne]; omega), (show (op == 2) = false by rw [beq_eq_false_iff_ne]; omega)]
      simp
    rw [e, hh]
    by_cases hk : (ks.length : Int) = 2
    · rw [beq_iff_eq.2 hk, Bool.true_and]
      cases hv : vlEq u Vl.zero with
      | false => rw [Bool.false_and, Bool.false_and]; exact rchk5_val w op h5 (by omega) u nm ks a c hk hv
      | true =>
        rcases hne nm with hn | hn
        · rw [hn, Bool.true_and, Bool.true_and]; exact rchk5_ok IH w op h5 (by omega) u nm ks a c hm hks hk hv hn
        · rw [hn, Bool.true_and, Bool.false_and]; exact rchk5_nm w op h5 (by omega) u nm ks a c hk hv hn
    · rw [beq_eq_false_iff_ne.2 hk, Bool.false_and, Bool.false_and]
      exact rchk5_len w op h5 (by omega) u nm ks a c hk
theorem rcheck_any (w : World) (n : Nd) (vk : Value) (hn : NdR w w.heap.size vk n) : Calls Tryz.prog 32 #[valN n vk] w fun e w' => e = .returned (.bool (checkN n)) ∧ Below w.heap.size w w' := by
  have : ∀ m, RChk m := by
    intro m
    induction m with
    | zero => intro n h; cases n; simp at h
    | succ m ih => exact rchk_step ih
  exact this (SizeOf.sizeOf n) n (Nat.le_refl _) w vk hn
end Go.Proofs.YtbephgifbghilaaGreatDoor
