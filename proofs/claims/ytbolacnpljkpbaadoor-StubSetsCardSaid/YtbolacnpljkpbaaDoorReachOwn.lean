/- A graph in memory of the call's own. -/
import Derived.Test.YtbolacnpljkpbaaDoorReachP
import Derived.Test.YtbolacnpljkpbaaDoorReachKey
import Derived.Test.YtbolacnpljkpbaaDoorRowsF
import Derived.Test.YtbolacnpljkpbaaDoorBoxes
import Derived.Maps.OwnOps
set_option maxRecDepth 100000
namespace Go.Proofs.YtbolacnpljkpbaaDoor
open Go.RowKit Go.Maps Go.WideMaps

theorem law_str : Keyed Tryd.prog 9 := string_keyed Tryd.underlying9
theorem zero_int (w : World) : (zeroValue 3).run Tryd.prog w = .ok (.int .i64 0) w := by kernel_rfl
abbrev MapR (w : World) (mp k : Nat) (D : DataW Unit) : Prop := w.ownsMap Tryd.prog 9 (plainElem Tryd.prog 3) mp k D
theorem key_of {m : List Int} (hw : ∀ x ∈ m, In64 x) (hl : m.length ≤ 4096) : keyOf Tryd.prog 9 (.string (keyS m)) = some (.string (keyL m)) := by
  rw [keyOf_string_mk Tryd.underlying9 (by rw [keyS_size]; have := keyL_le hw; unfold maxLen; omega), keyS_list]
theorem keyLit (m : List Int) : WideAt.IsKeyLit (.string (keyL m)) := trivial
/-- What the map holds: each marking's number. -/
def MapG (D : DataW Unit) (l : List (List Int)) : Prop :=
  Maps.IsMap D ∧ ∀ m : List Int, Maps.has D (.string (keyL m)) = decide (0 ≤ findM l m) ∧ (0 ≤ findM l m → D.atKey (.string (keyL m)) (.lit (.int .i64 0)) = .lit (.int .i64 (findM l m)))
theorem MapG.empty : MapG (.map [] : DataW Unit) [] := ⟨Maps.isMap_empty, fun m => ⟨rfl, fun h => by rw [findM_nil] at h; omega⟩⟩
theorem MapG.new {D : DataW Unit} {l : List (List Int)} (h : MapG D l) {d : List Int} (hd : findM l d < 0) : MapG (D.put (.string (keyL d)) (.lit (.int .i64 (l.length : Int)))) (l ++ [d]) := by
  refine ⟨h.1.put _ _, fun m => ?_⟩
  obtain ⟨h1, h2⟩ := h.2 m
  by_cases hm : d = m
  · subst hm
    rw [findM_app_new hd, if_pos rfl, Maps.has_put_same h.1 (keyLit _), Maps.atKey_put_same h.1 (keyLit _)]
    simp
  · have hne : Lit.string (keyL m) ≠ Lit.string (keyL d) := by
      intro e
      exact hm (keyL_inj (Lit.string.inj e)).symm
    rw [Maps.has_put_other hne, Maps.atKey_put_other hne]
    by_cases hp : 0 ≤ findM l m
    · rw [findM_app_old hp]; exact ⟨h1, h2⟩
    · rw [findM_app_new (by omega), if_neg hm, h1]
      simp; omega

def cellM (x : List Int × Value) : List Value := [x.2]
def cellX (x : List (Int × Int) × Value) : List Value := [x.2]
def cellE (e : Int × Int) : List Value := [.int .i64 e.1, .int .i64 e.2]
theorem cellM_len (x : List Int × Value) : (cellM x).length = 1 := rfl
theorem cellX_len (x : List (Int × Int) × Value) : (cellX x).length = 1 := rfl
theorem cellE_len (x : Int × Int) : (cellE x).length = 2 := rfl

abbrev RowM (w : World) (base : Nat) (v : Value) (A : List (List Int × Value)) : Prop := OwnF cellM 26 1 w base v A
abbrev RowX (w : World) (base : Nat) (v : Value) (A : List (List (Int × Int) × Value)) : Prop := OwnF cellX 42 1 w base v A
abbrev RowE (w : World) (base : Nat) (v : Value) (A : List (Int × Int)) : Prop := OwnF cellE 79 2 w base v A

/-- The nine cells of a graph. -/
def gCells (v0 v1 : Value) (a b : Int) (vM : Value) (mp : Nat) (vE vF vH : Value) : Array Value := #[v0, v1, .int .i64 a, .int .i64 b, vM, .map (some mp), vE, vF, vH]

/-- A graph under way. -/
structure GOwn (w : World) (base p : Nat) (v0 v1 : Value) (a b : Int) (vM : Value) (mp : Nat) (vE vF : Value) (g : Gr) (Ms : List (List Int × Value)) (Es : List (List (Int × Int) × Value)) : Prop where
  box : w.heap[p]? = some (.cells (gCells v0 v1 a b vM mp vE vF (.slice none 0 0)) 83)
  hp : base ≤ p
  hmp : base ≤ mp
  isM : Ms.map Prod.fst = g.marks
  isE : Es.map Prod.fst = g.edges
  rowM : RowM w base vM Ms
  rowE : RowX w base vE Es
  rowF : RowE w base vF g.src
  marks : ∀ x ∈ Ms, OwnI w base x.2 x.1
  edges : ∀ x ∈ Es, RowE w base x.2 x.1
  apartF : ∀ x ∈ Es, ∀ b, x.2.ownBlock = some b → vF.ownBlock ≠ some b
  apart : Es.Pairwise (fun x y => ∀ b, x.2.ownBlock = some b → y.2.ownBlock ≠ some b)
  by_ : ∃ D, MapR w mp g.marks.length D ∧ MapG D g.marks

theorem GOwn.kept {w w' : World} {base p : Nat} {v0 v1 : Value} {a b : Int} {vM : Value} {mp : Nat} {vE vF : Value} {g : Gr} {Ms : List (List Int × Value)} {Es : List (List (Int × Int) × Value)} (h : GOwn w base p v0 v1 a b vM mp vE vF g Ms Es) (hb : Below w.heap.size w w') : GOwn w' base p v0 v1 a b vM mp vE vF g Ms Es where
  box := (hb.block p (lt_of_block h.box)).trans h.box
  hp := h.hp
  hmp := h.hmp
  isM := h.isM
  isE := h.isE
  rowM := OwnF.kept h.rowM hb
  rowE := OwnF.kept h.rowE hb
  rowF := OwnF.kept h.rowF hb
  marks := fun x hx => (h.marks x hx).kept hb (Nat.le_refl _)
  edges := fun x hx => OwnF.kept (h.edges x hx) hb
  apartF := h.apartF
  apart := h.apart
  by_ := by
    obtain ⟨D, h1, h2⟩ := h.by_
    exact ⟨D, h1.kept (below_grownBy hb none) (by simp), h2⟩

end Go.Proofs.YtbolacnpljkpbaaDoor
