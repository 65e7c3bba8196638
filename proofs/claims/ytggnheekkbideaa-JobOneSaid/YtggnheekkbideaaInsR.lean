/- Tokens, variables, instances: their cells, their readings. -/
import Derived.Test.YtggnheekkbideaaBase
import Derived.Test.YtggnheekkbideaaRowsF
set_option maxRecDepth 100000
namespace Go.Proofs.Ytggnheekkbideaa
open Go.RowKit

structure Tok where
  id : Int
  here : ByteArray
  on : ByteArray
  born : Int
  tries : Int
  worker : ByteArray
  til : Int
  inc : Int
  err : Int
structure Bnd where
  name : ByteArray
  kind : Int
  num : Int
  tr : Bool
  text : ByteArray
structure Ins where
  id : Int
  model : ByteArray
  state : Int
  vars : List Bnd
  toks : List Tok
instance : Inhabited Tok := ⟨⟨0, default, default, 0, 0, default, 0, 0, 0⟩⟩
instance : Inhabited Bnd := ⟨⟨default, 0, 0, false, default⟩⟩
instance : Inhabited Ins := ⟨⟨0, default, 0, [], []⟩⟩

def cellT (t : Tok) : List Value := [.int .i64 t.id, .string t.here, .string t.on, .int .i64 t.born, .int .i64 t.tries, .string t.worker, .int .i64 t.til, .int .u8 t.inc, .int .i64 t.err]
def cellB (b : Bnd) : List Value := [.string b.name, .int .u8 b.kind, .int .i64 b.num, .bool b.tr, .string b.text]
abbrev valT (t : Tok) : Value := .agg #[.int .i64 t.id, .string t.here, .string t.on, .int .i64 t.born, .int .i64 t.tries, .string t.worker, .int .i64 t.til, .int .u8 t.inc, .int .i64 t.err]
theorem cellT_len : ∀ t : Tok, (cellT t).length = 9 := fun _ => rfl
theorem cellB_len : ∀ t : Bnd, (cellB t).length = 5 := fun _ => rfl
theorem cellT_one (t : Tok) : ∀ u ∈ cellT t, u.oneCell' = true := by
  intro u hu
  simp only [cellT, List.mem_cons, List.mem_nil_iff, or_false] at hu
  rcases hu with rfl | rfl | rfl | rfl | rfl | rfl | rfl | rfl | rfl <;> rfl
theorem cellB_one (t : Bnd) : ∀ u ∈ cellB t, u.oneCell' = true := by
  intro u hu
  simp only [cellB, List.mem_cons, List.mem_nil_iff, or_false] at hu
  rcases hu with rfl | rfl | rfl | rfl | rfl <;> rfl

/-- A slice of structs without slices of their own, that may be read. -/
def SlF {α : Type} (f : α → List Value) (k L : Nat) (w : World) (B : Nat) (v : Value) (l : List α) : Prop := ∃ a cap, v = .slice a l.length cap ∧ l.length ≤ L ∧ l.length ≤ cap ∧ ColF f k w B a l
section
variable {α : Type} {f : α → List Value} {k L : Nat} {w w' : World} {B B' : Nat} {v : Value} {l : List α}
theorem SlF.mono (h : SlF f k L w B v l) (hb : Below B w w') (hB : B ≤ B') : SlF f k L w' B' v l := by
  obtain ⟨a, cap, rfl, hl, hcp, hc⟩ := h
  exact ⟨a, cap, rfl, hl, hcp, hc.mono hb hB⟩
theorem SlF.val (h : SlF f k L w B v l) : ∃ a cap, v = .slice a l.length cap := by
  obtain ⟨a, cap, rfl, _⟩ := h
  exact ⟨a, cap, rfl⟩
theorem SlF.len (h : SlF f k L w B v l) : l.length ≤ L := by
  obtain ⟨a, cap, _, hl, _⟩ := h
  exact hl
theorem SlF.col {a : Option Addr} {n cap : Nat} (h : SlF f k L w B (.slice a n cap) l) : ColF f k w B a l := by
  obtain ⟨a', cap', hv, _, _, hc⟩ := h
  cases hv
  exact hc
theorem SlF.cap {a : Option Addr} {n cap : Nat} (h : SlF f k L w B (.slice a n cap) l) : l.length ≤ cap := by
  obtain ⟨a', cap', hv, _, hc, _⟩ := h
  cases hv
  exact hc
/-- The cells of one element. -/
theorem SlF.at {b o n cap : Nat} (h : SlF f k L w B (.slice (some ⟨b, o, none⟩) n cap) l) {i : Nat} (hi : i < l.length) : b < B ∧ ∀ j, j < k → w.cell? ⟨b, o + i * k + j, none⟩ = (f l[i])[j]? := by
  obtain ⟨b', o', hab, hb, hc⟩ := h.col i hi
  cases hab
  exact ⟨hb, hc⟩
theorem SlF.addr {a : Option Addr} {n cap : Nat} (h : SlF f k L w B (.slice a n cap) l) (hl : 0 < l.length) : ∃ b o, a = some ⟨b, o, none⟩ ∧ b < B := by
  obtain ⟨b, o, hab, hb, _⟩ := h.col 0 hl
  exact ⟨b, o, hab, hb⟩
theorem SlF.nil : SlF f k L w B (.slice none 0 0) [] := ⟨none, 0, rfl, by simp, by simp, fun i h => by simp at h⟩
end

abbrev TsR (w : World) (B : Nat) (v : Value) (l : List Tok) : Prop := SlF cellT 9 1466015503658 w B v l
abbrev BsR (w : World) (B : Nat) (v : Value) (l : List Bnd) : Prop := SlF cellB 5 2513169434843 w B v l

def InsC (w : World) (B : Nat) (a : Option Addr) (l : List Ins) : Prop :=
  ∀ i (h : i < l.length), ∃ b o vv vt, a = some ⟨b, o, none⟩ ∧ b < B ∧ w.cell? ⟨b, o + i * 5, none⟩ = some (.int .i64 l[i].id) ∧ w.cell? ⟨b, o + i * 5 + 1, none⟩ = some (.string l[i].model) ∧ w.cell? ⟨b, o + i * 5 + 2, none⟩ = some (.int .u8 l[i].state) ∧
    w.cell? ⟨b, o + i * 5 + 3, none⟩ = some vv ∧ w.cell? ⟨b, o + i * 5 + 4, none⟩ = some vt ∧ BsR w B vv l[i].vars ∧ TsR w B vt l[i].toks
/-- Instances that may be read. -/
def InsR (w : World) (B : Nat) (v : Value) (l : List Ins) : Prop := ∃ a cap, v = .slice a l.length cap ∧ l.length ≤ 1759218604390 ∧ l.length ≤ cap ∧ InsC w B a l

section
variable {w w' : World} {B B' : Nat} {v : Value} {l : List Ins}
theorem InsC.mono {a : Option Addr} (h : InsC w B a l) (hb : Below B w w') (hB : B ≤ B') : InsC w' B' a l := by
  intro i hi
  obtain ⟨b, o, vv, vt, ha, hlt, h0, h1, h2, h3, h4, h5, h6⟩ := h i hi
  exact ⟨b, o, vv, vt, ha, by omega, by rw [Below.cellB hb hlt]; exact h0, by rw [Below.cellB hb hlt]; exact h1, by rw [Below.cellB hb hlt]; exact h2, by rw [Below.cellB hb hlt]; exact h3, by rw [Below.cellB hb hlt]; exact h4, h5.mono hb hB, h6.mono hb hB⟩
theorem InsR.mono (h : InsR w B v l) (hb : Below B w w') (hB : B ≤ B') : InsR w' B' v l := by
  obtain ⟨a, cap, rfl, hl, hcp, hc⟩ := h
  exact ⟨a, cap, rfl, hl, hcp, hc.mono hb hB⟩
theorem InsR.val (h : InsR w B v l) : ∃ a cap, v = .slice a l.length cap := by
  obtain ⟨a, cap, rfl, _⟩ := h
  exact ⟨a, cap, rfl⟩
theorem InsR.len (h : InsR w B v l) : l.length ≤ 1759218604390 := by
  obtain ⟨a, cap, _, hl, _⟩ := h
  exact hl
theorem InsR.col {a : Option Addr} {n cap : Nat} (h : InsR w B (.slice a n cap) l) : InsC w B a l := by
  obtain ⟨a', cap', hv, _, _, hc⟩ := h
  cases hv
  exact hc
theorem InsR.addr {a : Option Addr} {n cap : Nat} (h : InsR w B (.slice a n cap) l) (hl : 0 < l.length) : ∃ b o, a = some ⟨b, o, none⟩ ∧ b < B := by
  obtain ⟨b, o, _, _, hab, hb, _⟩ := h.col 0 hl
  exact ⟨b, o, hab, hb⟩
/-- The cells of one instance. -/
theorem InsR.at {b o n cap : Nat} (h : InsR w B (.slice (some ⟨b, o, none⟩) n cap) l) {i : Nat} (hi : i < l.length) {x : Ins} (hx : l[i] = x) : ∃ av cv at_ ct, w.cell? ⟨b, o + i * 5, none⟩ = some (.int .i64 x.id) ∧ w.cell? ⟨b, o + i * 5 + 1, none⟩ = some (.string x.model) ∧ w.cell? ⟨b, o + i * 5 + 2, none⟩ = some (.int .u8 x.state) ∧
    w.cell? ⟨b, o + i * 5 + 3, none⟩ = some (.slice av x.vars.length cv) ∧ w.cell? ⟨b, o + i * 5 + 4, none⟩ = some (.slice at_ x.toks.length ct) ∧ BsR w B (.slice av x.vars.length cv) x.vars ∧ TsR w B (.slice at_ x.toks.length ct) x.toks := by
  subst hx
  obtain ⟨b', o', vv, vt, ha, _, h0, h1, h2, h3, h4, h5, h6⟩ := h.col i hi
  cases ha
  obtain ⟨av, cv, rfl⟩ := h5.val
  obtain ⟨at_, ct, rfl⟩ := h6.val
  exact ⟨av, cv, at_, ct, h0, h1, h2, h3, h4, h5, h6⟩
theorem InsR.nil : InsR w B (.slice none 0 0) [] := ⟨none, 0, rfl, by simp, by simp, fun i h => by simp at h⟩
end
/-- The cells of one token that may be read. -/
theorem tsR_at {w : World} {B b o n cap : Nat} {l : List Tok} (h : TsR w B (.slice (some ⟨b, o, none⟩) n cap) l) {i : Nat} (hi : i < l.length) {x : Tok} (hx : l[i] = x) :
    w.cell? ⟨b, o + i * 9, none⟩ = some (.int .i64 x.id) ∧ w.cell? ⟨b, o + i * 9 + 1, none⟩ = some (.string x.here) ∧ w.cell? ⟨b, o + i * 9 + 2, none⟩ = some (.string x.on) ∧ w.cell? ⟨b, o + i * 9 + 3, none⟩ = some (.int .i64 x.born) ∧ w.cell? ⟨b, o + i * 9 + 4, none⟩ = some (.int .i64 x.tries) ∧
    w.cell? ⟨b, o + i * 9 + 5, none⟩ = some (.string x.worker) ∧ w.cell? ⟨b, o + i * 9 + 6, none⟩ = some (.int .i64 x.til) ∧ w.cell? ⟨b, o + i * 9 + 7, none⟩ = some (.int .u8 x.inc) ∧ w.cell? ⟨b, o + i * 9 + 8, none⟩ = some (.int .i64 x.err) := by
  subst hx
  obtain ⟨_, hc⟩ := SlF.at h hi
  exact ⟨hc 0 (by omega), hc 1 (by omega), hc 2 (by omega), hc 3 (by omega), hc 4 (by omega), hc 5 (by omega), hc 6 (by omega), hc 7 (by omega), hc 8 (by omega)⟩
theorem bsR_at {w : World} {B b o n cap : Nat} {l : List Bnd} (h : BsR w B (.slice (some ⟨b, o, none⟩) n cap) l) {i : Nat} (hi : i < l.length) {x : Bnd} (hx : l[i] = x) :
    w.cell? ⟨b, o + i * 5, none⟩ = some (.string x.name) ∧ w.cell? ⟨b, o + i * 5 + 1, none⟩ = some (.int .u8 x.kind) ∧ w.cell? ⟨b, o + i * 5 + 2, none⟩ = some (.int .i64 x.num) ∧ w.cell? ⟨b, o + i * 5 + 3, none⟩ = some (.bool x.tr) ∧ w.cell? ⟨b, o + i * 5 + 4, none⟩ = some (.string x.text) := by
  subst hx
  obtain ⟨_, hc⟩ := SlF.at h hi
  exact ⟨hc 0 (by omega), hc 1 (by omega), hc 2 (by omega), hc 3 (by omega), hc 4 (by omega)⟩

end Go.Proofs.Ytggnheekkbideaa
