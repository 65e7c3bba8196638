/- As WireLaid, at the seat of the other five: six listed variables and two pinned ones (seat wirez). -/
import Derived.Test.YtlgfhbfdjckdnaaGreatDoorWireGnd
import Derived.Test.YtlgfhbfdjckdnaaGreatDoorOpen
import Derived.LaidMore
import Derived.OpenShut
import Derived.Stop.Joined
import Derived.Lib.LaidTab
import Derived.Stop.LaidErr
import Derived.Lib.SmallJoins
import Derived.Shelf.Vars
import Derived.Lay
import Derived.LaidLaws
import GoSem.PinnedTables
set_option maxRecDepth 100000
namespace Go.Proofs.YtlgfhbfdjckdnaaGreatDoor
open Go.ChangeShapes Go.WideShapes Go.ChangeAt Go.RowKit Go.Deep Go.Joins

def laid8 : List (String × DataW Unit) := [("math/bits.deBruijn32tab", Rows.laid_math_bits_deBruijn32tab), ("math/bits.deBruijn64tab", Rows.laid_math_bits_deBruijn64tab), ("internal/strconv.uint64pow10", Rows.laid_internal_strconv_uint64pow10), ("unicode/utf8.acceptRanges", Rows.laid_unicode_utf8_acceptRanges), ("strconv.ErrRange", Rows.laid_strconv_ErrRange), ("strconv.ErrSyntax", Rows.laid_strconv_ErrSyntax), ("unicode.CaseRanges", Rows.laid_unicode_CaseRanges), ("unicode/utf8.first", Rows.laid_unicode_utf8_first)]

theorem met8 (os : Os) (args : Array Value) : laidMetH Tryz.prog laid8 ((World.laidAll Tryz.prog os laid8).forCall (fun _ _ => 0) ⟨#[], args, []⟩).memory := by
  rw [MakeChecks.laidMetH_plain _ _ _ (by kernel_rfl)]
  exact laidMet_laidAll _ (by kernel_rfl) (by kernel_rfl)

/-- What the world's shape says stays at hand: a row's wrap that gives the listed variables and the shape. -/
theorem handed_shaped {H : Type} {enc : TypeId × Value → H} {a : Assume} {C : Checked} {os : Os} {f : FuncId} {fn : Func} {s : ChangeSpec} {conds : List PathCond} {apart fresh handsOn again : Bool} {laid : List (String × DataW Unit)}
    (own : ownKnob C.prog.godebug = none) (started : os.Started) (noInit : C.prog.inits.idxOf? f = none) (hfn : C.prog.funcs[f]? = some fn)
    (witness : ∃ (w : World) (tape : Tape) (i : Input), w.os = os ∧ (w.forCall tape i).Shaped C.prog ∧ i.vars = [] ∧ Input.okWide C.prog (w.forCall tape i) .any w.heap.size f i ∧
      ((s.pre enc C.prog fn conds apart (w.forCall tape i).memory i.args ∧ laidMetH C.prog laid (w.forCall tape i).memory) ∧ sizedMet enc C.prog fn (OpenSpec.ofChange s) apart (w.forCall tape i).memory i.args) ∧ a.holds C.prog (lone (Frame.enter C.prog f i.args .normal) [] (w.forCall tape i)))
    (walk : ∀ (W : World) (base : Nat) (args : Array Value) (ds gs : List (DataW H)) (before : List MemPlace),
      (∀ (j : Nat) t v, fn.params[j]? = some t → args[j]? = some v → Value.okWide C.prog W .any base t v) →
      DataW.Whole enc C.prog fn.params.toList s.vars apart W args.toList ds gs before →
      (DataW.weightsEach C.prog (fn.params.toList ++ s.plain.varTypes C.prog) (ds ++ gs)).all (· ≤ reachBytes) = true → laidMetH C.prog laid W → W.ShapedOpen C.prog →
      Calls C.prog f args W fun e W' => ∃ v, e = .returned v ∧ s.post enc C.prog fn apart fresh handsOn again W args v W') :
    ReturnsInHanded a C os f .any (fun w args => (s.pre enc C.prog fn conds apart w args ∧ laidMetH C.prog laid w) ∧ sizedMet enc C.prog fn (OpenSpec.ofChange s) apart w args) (s.post enc C.prog fn apart fresh handsOn again) :=
  returnsInHanded_of_calls own started noInit witness fun w tape i _ shaped _ ok pre _ => by
    have hval := ok.2.2.2
    obtain ⟨g, hg, -, -, -, -, hval⟩ := hval
    cases Option.some.inj (hg.symm.trans hfn)
    obtain ⟨⟨⟨ds, gs, before, hw, _⟩, hl⟩, hz⟩ := pre
    exact (walk _ w.heap.size i.args ds gs before hval (DataW.Whole.of_heap (w' := w.forCall tape i) (by rfl) hw) (hz.weights hw) (hl.of_heap (by rfl)) shaped).mono fun e W' ⟨v, he, hp⟩ => by
      subst he
      exact ChangeSpec.post_blind hp

theorem lt_of_cell {w : World} {b i : Nat} {v : Value} (h : w.cell? ⟨b, i, none⟩ = some v) : b < w.heap.size := by
  rcases Nat.lt_or_ge b w.heap.size with h1 | h1
  · exact h1
  · unfold World.cell? at h
    rw [show w.heap[b]? = none from Array.getElem?_eq_none h1] at h
    cases h
theorem kept_cell {w : World} {b i : Nat} {v : Value} (h : w.cell? ⟨b, i, none⟩ = some v) : ∀ W, Below w.heap.size w W → W.cell? ⟨b, i, none⟩ = some v := fun W hW => by
  rw [Below.cellB hW (lt_of_cell h)]; exact h

theorem star : "*" ++ "errors.errorString" = "*errors.errorString" := by decide
theorem rowErr (u : TypeId) (h : Tryz.prog.typeName? 3 u = some "*errors.errorString") : u = 151 :=
  typeName_ptr_named (nm := "errors.errorString") (by rw [star]; kernel_rfl) (by kernel_rfl) (by decide) u (by rw [star]; exact h)
theorem gnd_of_laid {W : World} (h : laidMetH Tryz.prog laid8 W) (hsh : W.ShapedOpen Tryz.prog) : Gnd W := by
  rw [MakeChecks.laidMetH_plain _ _ _ (by kernel_rfl)] at h
  have h2 := laidMet.tail (laidMet.tail h)
  have h3 := laidMet.tail h2
  have h3' := laidMet.tail h3
  have h4 := laidMet.tail h3'
  have gR : Tryz.prog.globalNamed "strconv.ErrRange" = some 2 := by kernel_rfl
  have gS : Tryz.prog.globalNamed "strconv.ErrSyntax" = some 1 := by kernel_rfl
  obtain ⟨a0, s0, v0, -, -, -⟩ := laid_sentinel h3' gR (by kernel_rfl) Tryz.underlying86 rowErr Tryz.underlying151 Tryz.underlying153 rfl rfl Tryz.underlying9 (by kernel_rfl) (by kernel_rfl)
  obtain ⟨a1, s1, v1, -, -, -⟩ := laid_sentinel h4 gS (by kernel_rfl) Tryz.underlying86 rowErr Tryz.underlying151 Tryz.underlying153 rfl rfl Tryz.underlying9 (by kernel_rfl) (by kernel_rfl)
  have c0 := World.var?_cell gR v0 0
  have c1 := World.var?_cell gS v1 0
  obtain ⟨m, hm⟩ := cell_of_shapedOpen_int (g := 0) hsh (of_decide_eq_true (by kernel_rfl)) (zero := #[.int .i64 0]) (t := 3) (by kernel_rfl) rfl (by kernel_rfl) (by kernel_rfl) Tryz.underlying3
  have h2' : laidMet Tryz.prog (("internal/strconv.uint64pow10", Lib.tabData .u64 Lib.pow10Tab) :: [("unicode/utf8.acceptRanges", Rows.laid_unicode_utf8_acceptRanges), ("strconv.ErrRange", Rows.laid_strconv_ErrRange), ("strconv.ErrSyntax", Rows.laid_strconv_ErrSyntax), ("unicode.CaseRanges", Rows.laid_unicode_CaseRanges), ("unicode/utf8.first", Rows.laid_unicode_utf8_first)]) W := h2
  exact ⟨Lib.tabBelow_of_tabIs (Lib.tabIs_of_head (g := 3) (by kernel_rfl) (by kernel_rfl) Tryz.underlying148 Tryz.underlying107 (by kernel_rfl) (by kernel_rfl) h2'),
    ⟨_, _, kept_cell (by simpa using c1)⟩, ⟨_, _, kept_cell (by simpa using c0)⟩, ⟨m, kept_cell hm⟩⟩

section
variable {H : Type} {enc : TypeId × Value → H} {W : World} {spare : Nat → Bool} {held : Bool}
theorem fits_str {t : TypeId} {s : List UInt8} (h : Fits (H := H) Tryz.prog t (.lit (.string s))) : s.length ≤ 140737488355328 := by
  have := h s.length (by simp [DataW.weights])
  unfold reachBytes at this
  omega
theorem open_req {v : Value} {d : DataW H} {ps : List MemPlace} {r : Reach} {b0 : Nat} (hv : Value.okWide Tryz.prog W r b0 37 v) (h : DataW.Trod enc Tryz.prog W 0 spare held 37 v d ps) (hfit : Fits Tryz.prog 37 d) :
    ∃ m p k b : ByteArray, v = .agg #[.string m, .string p, .string k, .string b] ∧ m.size ≤ 140737488355328 ∧ p.size ≤ 140737488355328 ∧ k.size ≤ 140737488355328 ∧ b.size ≤ 140737488355328 := by
  obtain ⟨v0, v1, v2, v3, y0, y1, y2, y3, n, rfl, rfl, _, f0, f1, f2, f3⟩ := open_agg4 Tryz.underlying37 (by kernel_rfl) (by kernel_rfl) hv h
  obtain ⟨x0, e0, d0, _⟩ := DataW.trod_string Tryz.underlying9 f0
  obtain ⟨x1, e1, d1, _⟩ := DataW.trod_string Tryz.underlying9 f1
  obtain ⟨x2, e2, d2, _⟩ := DataW.trod_string Tryz.underlying9 f2
  obtain ⟨x3, e3, d3, _⟩ := DataW.trod_string Tryz.underlying9 f3
  have g0 := fits_part (j := 0) Tryz.underlying37 hfit rfl rfl
  have g1 := fits_part (j := 1) Tryz.underlying37 hfit rfl rfl
  have g2 := fits_part (j := 2) Tryz.underlying37 hfit rfl rfl
  have g3 := fits_part (j := 3) Tryz.underlying37 hfit rfl rfl
  rw [d0] at g0
  rw [d1] at g1
  rw [d2] at g2
  rw [d3] at g3
  simp only [List.cons.injEq, and_true] at e0 e1 e2 e3
  subst e0 e1 e2 e3
  exact ⟨x0, x1, x2, x3, rfl, by simpa using fits_str g0, by simpa using fits_str g1, by simpa using fits_str g2, by simpa using fits_str g3⟩
theorem open_resp {v : Value} {d : DataW H} {ps : List MemPlace} {r : Reach} {b0 : Nat} (hv : Value.okWide Tryz.prog W r b0 46 v) (h : DataW.Trod enc Tryz.prog W 0 spare held 46 v d ps) (hfit : Fits Tryz.prog 46 d) :
    ∃ (st : Int) (b : ByteArray), v = .agg #[.int .i64 st, .string b] ∧ (Lit.int .i64 st).wf = true ∧ I64n st ∧ b.size ≤ 140737488355328 := by
  obtain ⟨v0, v1, y0, y1, n, rfl, rfl, _, f0, f1⟩ := open_agg2 Tryz.underlying46 (by kernel_rfl) (by kernel_rfl) hv h
  obtain ⟨x0, e0, _, w0⟩ := DataW.trod_int Tryz.underlying3 f0
  obtain ⟨x1, e1, d1, _⟩ := DataW.trod_string Tryz.underlying9 f1
  have g1 := fits_part (j := 1) Tryz.underlying46 hfit rfl rfl
  rw [d1] at g1
  simp only [List.cons.injEq, and_true] at e0 e1
  subst e0 e1
  have h' : (decide ((-9223372036854775808 : Int) ≤ x0) && decide (x0 ≤ 9223372036854775807)) = true := w0
  simp only [Bool.and_eq_true, decide_eq_true_eq] at h'
  exact ⟨x0, x1, rfl, w0, h', by simpa using fits_str g1⟩
end
end Go.Proofs.YtlgfhbfdjckdnaaGreatDoor
