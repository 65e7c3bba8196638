/- Of XOpn: what XFAs uses (shake.py). -/
import Derived.Test.YtbephgifbghilaaGreatDoorKExprParseP
import Derived.Test.YtbephgifbghilaaGreatDoorKXPars
import Derived.Test.YtbephgifbghilaaGreatDoorKXPrint
import Derived.Test.YtbephgifbghilaaGreatDoorKXTyp
import Derived.Test.YtbephgifbghilaaGreatDoorKBase
import Derived.Test.YtbephgifbghilaaGreatDoorKRowsF
import Derived.KernelRfl
import Derived.Deep.Slices
import Derived.Deep.Strs
import Derived.SizedLaws
import Derived.Lib.SmallJoins
import Derived.LaidMore
import Derived.OpenShut
import Derived.Stop.Joined
import Derived.Lib.LaidTab
import Derived.Stop.LaidErr
import Derived.Shelf.Vars
import Derived.Lay
import Derived.Lib.LaidU8T
import GoSem.PinnedTables
/- Texts fused by fuse.py: ExprTryP, ExprAwake, Open, OpenF, OpenNd10, ExprLaid. -/
/- Conditions that are read, and refused: the closed examples (plain). -/
set_option maxRecDepth 100000
namespace Go.Proofs.YtbephgifbghilaaGreatDoor
open Go.Lib
theorem awake_parse : parseE [97, 61, 49, 32, 111, 114, 32, 110, 111, 116, 32, 98, 32, 97, 110, 100, 32, 99] = .ok (twoN 6 (twoN 7 (varN ⟨#[97]⟩) (litN (numV 1))) (twoN 5 (oneN 3 (varN ⟨#[98]⟩)) (varN ⟨#[99]⟩))) := by kernel_rfl
end Go.Proofs.YtbephgifbghilaaGreatDoor
/- The law's awake: a condition is read, typed, written (seat expr). -/
set_option maxRecDepth 100000
namespace Go.Proofs.YtbephgifbghilaaGreatDoor
open Go.RowKit
/-- What the library's variables hold: all that these laws' walks ask for. -/
structure Gx (w : World) : Prop where
  ga : GA w.heap.size w
  gp : Gp w
theorem Gx.up {w w' : World} (h : Gx w) (hb : Below w.heap.size w w') : Gx w' := ⟨fun W hW => h.ga W (hb.trans (hW.mono hb.size)), h.gp.up hb⟩
theorem Gx.t8 {w : World} (h : Gx w) : Tabs8 w := h.ga.now.t8
def awN : Nd := twoN 6 (twoN 7 (varN ⟨#[97]⟩) (litN (numV 1))) (twoN 5 (oneN 3 (varN ⟨#[98]⟩)) (varN ⟨#[99]⟩))
def awB : List Bd := [⟨⟨#[97]⟩, ⟨1, 0, false, ⟨#[]⟩⟩⟩, ⟨⟨#[98]⟩, ⟨2, 0, false, ⟨#[]⟩⟩⟩, ⟨⟨#[99]⟩, ⟨2, 0, false, ⟨#[]⟩⟩⟩]
def awT : List UInt8 := [97, 32, 61, 32, 49, 32, 111, 114, 32, 110, 111, 116, 32, 98, 32, 97, 110, 100, 32, 99]
theorem aw_spell : spellE awN 1 = awT := by kernel_rfl
theorem aw_print : printE awN = (awT, 0) := by kernel_rfl
theorem aw_type : tyE awB awN = (2, 0) := by kernel_rfl
theorem bds_3 {w : World} {p : Nat} {x y z : Bd} {t : TypeId} {fr : Nat × Nat} (h : w.heap[p]? = some (.cells (cellBd x ++ cellBd y ++ cellBd z).toArray t fr)) (hx : VlW x.val ∧ x.name.size ≤ 140737488355328) (hy : VlW y.val ∧ y.name.size ≤ 140737488355328) (hz : VlW z.val ∧ z.name.size ≤ 140737488355328) : BdsR w w.heap.size (.slice (some ⟨p, 0, none⟩) 3 3) [x, y, z] := by
  refine ⟨_, 3, rfl, by simp, by simp, fun i hi => ?_, ?_⟩
  · refine ⟨p, 0, rfl, lt_of_block h, fun j hj => ?_⟩
    rw [cell_of_block h]
    obtain rfl | rfl | rfl : i = 0 ∨ i = 1 ∨ i = 2 := by simp at hi; omega
    · obtain rfl | rfl | rfl | rfl | rfl : j = 0 ∨ j = 1 ∨ j = 2 ∨ j = 3 ∨ j = 4 := by omega
      all_goals rfl
    · obtain rfl | rfl | rfl | rfl | rfl : j = 0 ∨ j = 1 ∨ j = 2 ∨ j = 3 ∨ j = 4 := by omega
      all_goals rfl
    · obtain rfl | rfl | rfl | rfl | rfl : j = 0 ∨ j = 1 ∨ j = 2 ∨ j = 3 ∨ j = 4 := by omega
      all_goals rfl
  · intro b hb
    simp only [List.mem_cons, List.not_mem_nil, or_false] at hb
    rcases hb with rfl | rfl | rfl
    · exact hx
    · exact hy
    · exact hz
theorem aw_vl (k : Int) (h0 : 0 ≤ k) (h1 : k ≤ 255) : VlW ⟨k, 0, false, ⟨#[]⟩⟩ := ⟨h0, h1, by show _ ≤ (0 : Int); omega, by show (0 : Int) ≤ _; omega, by show 0 ≤ _; omega⟩
set_option maxHeartbeats 4000000 in
theorem awake10_any (w : World) (hg : Gx w) : Calls Tryz.prog 10 #[] w fun e w' => e = .returned (.bool true) ∧ Below w.heap.size w w' := by
  obtain ⟨S, hS⟩ : ∃ S : ByteArray, (⟨#[97, 61, 49, 32, 111, 114, 32, 110, 111, 116, 32, 98, 32, 97, 110, 100, 32, 99]⟩ : ByteArray) = S := ⟨_, rfl⟩
  have HPA : Hid (Calls Tryz.prog 9 #[.string ⟨#[97, 61, 49, 32, 111, 114, 32, 110, 111, 116, 32, 98, 32, 97, 110, 100, 32, 99]⟩] w (ParseC w (.ok awN))) := Lib.hid (by
    have h := parse_any w hg.ga ⟨#[97, 61, 49, 32, 111, 114, 32, 110, 111, 116, 32, 98, 32, 97, 110, 100, 32, 99]⟩ (by show 18 ≤ _; omega)
    have e := awake_parse
    exact e ▸ h)
  have hop : Hid (awN.op = 6) := Lib.hid rfl
  have HSP : Hid ((spellE awN 1).length ≤ 1000000000) := Lib.hid (by rw [aw_spell]; decide)
  have HPR : Hid (printE awN = (awT, 0)) := Lib.hid aw_print
  have HTY : Hid (tyE awB awN = (2, 0)) := Lib.hid aw_type
  obtain ⟨N, hN⟩ : ∃ N, awN = N := ⟨_, rfl⟩
  rw [hN] at HPA hop HSP HPR HTY
  have e6 : (N.op == 6) = true := beq_iff_eq.2 hop.out
  have eT : ((⟨awT.toArray⟩ : ByteArray).toList == [97, 32, 61, 32, 49, 32, 111, 114, 32, 110, 111, 116, 32, 98, 32, 97, 110, 100, 32, 99]) = true := by rw [Lib.toList_data]; rfl
  obtain ⟨T, hT⟩ : ∃ T : ByteArray, (⟨awT.toArray⟩ : ByteArray) = T := ⟨_, rfl⟩
  rw [hT] at eT
  have HT := Lib.hid hT
  have HG := Lib.hid hg
  clear hS hN hT hop hg
  go_enter Tryz.func10, Tryz.ntmps10
  go_wp2_with (first
    | (go_at_call 9; refine HPA.out.mono ?_; rintro e w2 ⟨n, a, c, d, pos, err, rfl, hb2, rfl, rfl, rfl, hH, hK⟩; obtain ⟨w3, p3, hp3, hw3, l3, n3, b3⟩ := box_new w2 (.cells #[.int .u8 n.op, .int .u8 n.v.kind, .int .i64 n.v.num, .bool n.v.tr, .string n.v.text, .string n.name, .slice a c d] 29); obtain ⟨g0, g1, g2, g3, g4, g5, g6, gf⟩ := n7_cells n3; have HB3 := Lib.hid (hb2.trans (b3.mono hb2.size)); have HK3 := Lib.hid (And.intro hH (hK.mono b3 b3.size)); clear hb2 hH hK n3 b3)
    | (go_at_call 13; refine (print_any w3 (HG.out.up HB3.out).gp (HG.out.up HB3.out).t8 n a c d HK3.out.2 HK3.out.1 (fun _ => HSP.out)).mono ?_; rintro e w4 ⟨rfl, hb4⟩; refine Hid.out ?_))
  refine Lib.hid ?_
  rw [HPR.out]
  simp only
  rw [HT.out]
  have HB4 := Lib.hid (HB3.out.trans (hb4.mono HB3.out.size))
  have HK4 := Lib.hid (And.intro HK3.out.1 (HK3.out.2.mono hb4 hb4.size))
  obtain ⟨x0, x1, x2, x3, x4, x5, x6⟩ : w4.cell? ⟨p3, 0, none⟩ = some (.int .u8 n.op) ∧ w4.cell? ⟨p3, 1, none⟩ = some (.int .u8 n.v.kind) ∧ w4.cell? ⟨p3, 2, none⟩ = some (.int .i64 n.v.num) ∧ w4.cell? ⟨p3, 3, none⟩ = some (.bool n.v.tr) ∧ w4.cell? ⟨p3, 4, none⟩ = some (.string n.v.text) ∧ w4.cell? ⟨p3, 5, none⟩ = some (.string n.name) ∧ w4.cell? ⟨p3, 6, none⟩ = some (.slice a c d) := (⟨(Below.cellB hb4 l3).trans g0, (Below.cellB hb4 l3).trans g1, (Below.cellB hb4 l3).trans g2, (Below.cellB hb4 l3).trans g3, (Below.cellB hb4 l3).trans g4, (Below.cellB hb4 l3).trans g5, (Below.cellB hb4 l3).trans g6⟩)
  have l34 : p3 < w4.heap.size := by have := hb4.size; omega
  obtain ⟨w5, p5, hp5, hw5, l5, n5, b5⟩ := box_new w4 (.cells #[.string ⟨#[97]⟩, .int .u8 1, .int .i64 0, .bool false, .string ⟨#[]⟩, .string ⟨#[98]⟩, .int .u8 2, .int .i64 0, .bool false, .string ⟨#[]⟩, .string ⟨#[99]⟩, .int .u8 2, .int .i64 0, .bool false, .string ⟨#[]⟩] 55)
  have hbd : BdsR w5 w5.heap.size (.slice (some ⟨p5, 0, none⟩) 3 3) awB := bds_3 (x := ⟨⟨#[97]⟩, ⟨1, 0, false, ⟨#[]⟩⟩⟩) (y := ⟨⟨#[98]⟩, ⟨2, 0, false, ⟨#[]⟩⟩⟩) (z := ⟨⟨#[99]⟩, ⟨2, 0, false, ⟨#[]⟩⟩⟩) n5 ⟨aw_vl 1 (by omega) (by omega), by show 1 ≤ _; omega⟩ ⟨aw_vl 2 (by omega) (by omega), by show 1 ≤ _; omega⟩ ⟨aw_vl 2 (by omega) (by omega), by show 1 ≤ _; omega⟩
  have HB5 := Lib.hid (HB4.out.trans (b5.mono HB4.out.size))
  have HTP := Lib.hid (typ_any w5 n (.slice a c d) (.slice (some ⟨p5, 0, none⟩) 3 3) awB ⟨HK4.out.1, HK4.out.2.mono b5 b5.size⟩ hbd (HG.out.up HB5.out).t8)
  have y0 : w5.cell? ⟨p3, 0, none⟩ = some (.int .u8 n.op) := (Below.cellB b5 l34).trans x0
  have l35 : p3 < w5.heap.size := by have := b5.size; omega
  clear g0 g1 g2 g3 g4 g5 g6 gf hb4 hbd n5 b5
  go_wp2_with (go_at_call 28; refine HTP.out.mono ?_; rintro e w6 ⟨rfl, hb6⟩; refine Hid.out ?_)
  refine Lib.hid ?_
  rw [HTY.out]
  simp only
  have z0 : w6.cell? ⟨p3, 0, none⟩ = some (.int .u8 n.op) := (Below.cellB hb6 l35).trans y0
  have HB6 := Lib.hid (HB5.out.trans (hb6.mono HB5.out.size))
  clear hb6
  go_wp2_with fail
  go_ret
  exact ⟨rfl, HB6.out⟩
end Go.Proofs.YtbephgifbghilaaGreatDoor
/- What a reading of the arguments gives: slices of numbers and of strings, nets. -/
set_option maxRecDepth 100000
namespace Go.Proofs.YtbephgifbghilaaGreatDoor
open Go.RowKit Go.Deep Go.ChangeShapes Go.WideShapes
section
variable {H : Type} {enc : TypeId × Value → H} {P : Program} {W : World} {spare : Nat → Bool} {held : Bool}
/-- All slices and strings of a reading are within the reach. -/
def Fits (P : Program) (t : TypeId) (d : DataW H) : Prop := ∀ n ∈ d.weights P t, n ≤ reachBytes
theorem fits_arg {ts : List TypeId} {ds : List (DataW H)} (h : (DataW.weightsEach P ts ds).all (· ≤ reachBytes) = true) {j : Nat} {t : TypeId} {d : DataW H} (ht : ts[j]? = some t) (hd : ds[j]? = some d) : Fits P t d := by
  intro n hn
  have := List.all_eq_true.1 h _ (DataW.weights_mem_each ht hd n hn)
  simpa using this
theorem fits_part {t : TypeId} {fs : Array Field} {parts : List (DataW H)} (ht : P.underlying t = some (.struct fs)) (h : Fits P t (.agg parts)) {j : Nat} {f : Field} {d : DataW H} (hf : fs[j]? = some f) (hd : parts[j]? = some d) : Fits P f.type d := by
  intro n hn
  refine h n ?_
  simp only [DataW.weights, ht]
  exact DataW.weights_mem_each (j := j) (by simp [hf]) hd n hn
theorem weightsAll_mem {e : TypeId} {l : List (DataW H)} {d : DataW H} (hd : d ∈ l) {n : Nat} (hn : n ∈ d.weights P e) : n ∈ DataW.weightsAll P e l := by
  induction l with
  | nil => cases hd
  | cons x r ih =>
    simp only [DataW.weightsAll, List.mem_append]
    rcases List.mem_cons.1 hd with rfl | h
    · exact Or.inl hn
    · exact Or.inr (ih h)
theorem fits_elem {t e : TypeId} {elems sp : List (DataW H)} (ht : P.underlying t = some (.slice e)) (h : Fits P t (.slice elems sp)) {d : DataW H} (hd : d ∈ elems) : Fits P e d := by
  intro n hn
  refine h n ?_
  simp only [DataW.weights, ht, List.mem_cons, List.mem_append]
  exact Or.inr (Or.inl (weightsAll_mem hd hn))
theorem fits_len {t e : TypeId} {elems sp : List (DataW H)} (ht : P.underlying t = some (.slice e)) (h : Fits P t (.slice elems sp)) : elems.length * P.bytesOf e ≤ reachBytes := by
  have := h ((elems.length + sp.length) * P.bytesOf e) (by simp [DataW.weights, ht])
  exact Nat.le_trans (Nat.mul_le_mul_right _ (Nat.le_add_right _ _)) this
theorem add_none {a : Addr} (b o i : Nat) (h : a = ⟨b, o, none⟩) : a.add i = ⟨b, o + i, none⟩ := by
  subst h
  unfold Addr.add
  split <;> simp_all
/-- An address that leads to cells bears no spot. -/
theorem addr_of_cell {w : World} {a : Addr} {v : Value} (h : w.cell? a = some v) : ∃ b o, a = ⟨b, o, none⟩ ∧ b < w.heap.size := by
  obtain ⟨b, o, s⟩ := a
  refine ⟨b, o, ?_, World.block_lt_of_cell? w _ h⟩
  unfold World.cell? at h
  split at h
  · cases s with
    | none => rfl
    | some s => simp at h
  · cases h
end
end Go.Proofs.YtbephgifbghilaaGreatDoor
/- What a reading of a slice of structs gives, whatever the struct: one lemma over a reading of one element. -/
set_option maxRecDepth 100000
namespace Go.Proofs.YtbephgifbghilaaGreatDoor
open Go.RowKit Go.Deep Go.ChangeShapes Go.WideShapes Go.Joins
section
variable {H : Type} {enc : TypeId × Value → H} {P : Program} {W : World} {spare : Nat → Bool} {held : Bool}
theorem open_rows {α : Type} [Inhabited α] {t e : TypeId} {k : Nat} (ht : P.underlying t = some (.slice e)) (hk : P.cellsOf e = k) (hk0 : 0 < k) (R : List Value → α → Prop)
    (each : ∀ (fuel : Nat) (cs : List Value) (d : DataW H) (ps : List MemPlace), DataW.trod enc P W 0 spare held fuel e cs = some (d, ps) → Fits P e d → cs.length = k → ∃ x : α, R cs x)
    {fuel : Nat} {cs0 : List Value} {d : DataW H} {ps : List MemPlace} (h : DataW.trod enc P W 0 spare held fuel t cs0 = some (d, ps)) (hfit : Fits P t d) :
    ∃ v, ∃ l : List α, cs0 = [v] ∧ ∃ a cap, v = .slice a l.length cap ∧ l.length * P.bytesOf e ≤ reachBytes ∧ l.length ≤ cap ∧
      ∀ i (_ : i < l.length), ∃ b o cs, a = some ⟨b, o, none⟩ ∧ b < W.heap.size ∧ cs.length = k ∧ (∀ j, j < k → W.cell? ⟨b, o + i * k + j, none⟩ = cs[j]?) ∧ R cs l[i] := by
  rcases open_slice ht h with ⟨rfl, _⟩ | ⟨a, len, cap, m, n, D, Pl, rfl, _, hlc, hm, hmm, hx, hV⟩
  · exact ⟨_, [], rfl, none, 0, rfl, by simp, by simp, fun i h => by simp at h⟩
  · have hlm : len ≤ m := by rw [hmm]; split <;> omega
    have hd : d = _ := congrArg Prod.fst hx
    subst hd
    have each' : ∀ i, i < len → ∃ t : α, ∃ cs, cs.length = k ∧ (∀ j, j < k → W.cell? ((a.add (i * k)).add j) = cs[j]?) ∧ R cs t := fun i hi => by
      obtain ⟨cs, hcs, ht2⟩ := hV i (by omega)
      rw [hk] at hcs
      obtain ⟨_, hl, hc⟩ := World.cells?_some hcs
      obtain ⟨t, hr⟩ := each _ _ _ _ ht2 (fits_elem ht hfit (by simp; exact ⟨i, hi, rfl⟩)) hl
      exact ⟨t, cs, hl, fun j hj => by rw [hc j hj, List.getElem?_eq_getElem (by omega)], hr⟩
    obtain ⟨f, hf⟩ := choose_lt (α := α) each'
    have hlen := fits_len ht hfit
    simp only [List.length_map, List.length_range] at hlen
    refine ⟨_, (List.range len).map f, rfl, some a, cap, by simp, by simpa using hlen, by simpa using hlc, fun i hi => ?_⟩
    have hi' : i < len := by simpa using hi
    obtain ⟨cs, hl, hc, hr⟩ := hf i hi'
    obtain ⟨cs0, hl0, hc0, _⟩ := hf 0 (by omega)
    have c00 := hc0 0 hk0
    rw [show (a.add (0 * k)).add 0 = a by simp [Addr.add], List.getElem?_eq_getElem (by omega)] at c00
    obtain ⟨b, o, rfl, hb⟩ := addr_of_cell c00
    refine ⟨b, o, cs, rfl, hb, hl, fun j hj => ?_, by simpa using hr⟩
    have := hc j hj
    rwa [add_none b o (i * k) rfl, add_none b (o + i * k) _ rfl] at this
/-- Elements without a slice of their own: a column. -/
theorem open_colF {α : Type} [Inhabited α] {f : α → List Value} {t e : TypeId} {k : Nat} (ht : P.underlying t = some (.slice e)) (hk : P.cellsOf e = k) (hk0 : 0 < k) (G : α → Prop)
    (each : ∀ (fuel : Nat) (cs : List Value) (d : DataW H) (ps : List MemPlace), DataW.trod enc P W 0 spare held fuel e cs = some (d, ps) → Fits P e d → cs.length = k → ∃ x : α, cs = f x ∧ G x)
    {fuel : Nat} {cs0 : List Value} {d : DataW H} {ps : List MemPlace} (h : DataW.trod enc P W 0 spare held fuel t cs0 = some (d, ps)) (hfit : Fits P t d) :
    ∃ v, ∃ l : List α, cs0 = [v] ∧ (∃ a cap, v = .slice a l.length cap ∧ l.length * P.bytesOf e ≤ reachBytes ∧ l.length ≤ cap ∧ ColF f k W W.heap.size a l) ∧ ∀ x ∈ l, G x := by
  obtain ⟨v, l, h0, a, cap, h1, h2, hcp, h3⟩ := open_rows ht hk hk0 (fun cs x => cs = f x ∧ G x) each h hfit
  refine ⟨v, l, h0, ⟨a, cap, h1, h2, hcp, fun i hi => ?_⟩, fun x hx => ?_⟩
  · obtain ⟨b, o, cs, e1, e2, _, e3, rfl, _⟩ := h3 i hi
    exact ⟨b, o, e1, e2, e3⟩
  · obtain ⟨i, hi, rfl⟩ := List.getElem_of_mem hx
    obtain ⟨_, _, _, _, _, _, _, _, g⟩ := h3 i hi
    exact g
end
end Go.Proofs.YtbephgifbghilaaGreatDoor
/- What a reading of values, binds and nodes (the document's) gives (seat expr). -/
set_option maxRecDepth 100000
namespace Go.Proofs.YtbephgifbghilaaGreatDoor
open Go.RowKit Go.Deep Go.ChangeShapes Go.WideShapes Go.Joins
section
variable {H : Type} {enc : TypeId × Value → H} {W : World} {spare : Nat → Bool} {held : Bool}
theorem fits_str {t : TypeId} {s : List UInt8} (h : Fits (H := H) Tryz.prog t (.lit (.string s))) : s.length ≤ 140737488355328 := by
  have := h s.length (by simp [DataW.weights])
  unfold reachBytes at this
  omega
theorem wf_u8 {x : Int} (h : (Lit.int .u8 x).wf = true) : 0 ≤ x ∧ x ≤ 255 := by
  have h' : (decide ((0 : Int) ≤ x) && decide (x ≤ 255)) = true := h
  simpa only [Bool.and_eq_true, decide_eq_true_eq] using h'
theorem wf_i64 {x : Int} (h : (Lit.int .i64 x).wf = true) : -9223372036854775808 ≤ x ∧ x ≤ 9223372036854775807 := by
  have h' : (decide ((-9223372036854775808 : Int) ≤ x) && decide (x ≤ 9223372036854775807)) = true := h
  simpa only [Bool.and_eq_true, decide_eq_true_eq] using h'
theorem open_vl (fuel : Nat) (cs : List Value) (d : DataW H) (ps : List MemPlace) (h : DataW.trod enc Tryz.prog W 0 spare held fuel 26 cs = some (d, ps)) (hfit : Fits Tryz.prog 26 d) (hlk : cs.length = 4) :
    ∃ v : Vl, cs = cellV v ∧ VlW v := by
  obtain ⟨xs, n, _, hx, hl, hlen, hf⟩ := DataW.trod_struct Tryz.underlying26 h
  have k0 : Tryz.prog.cellsOf 4 = 1 := by kernel_rfl
  have k1 : Tryz.prog.cellsOf 2 = 1 := by kernel_rfl
  have k2 : Tryz.prog.cellsOf 9 = 1 := by kernel_rfl
  have k3 : Tryz.prog.cellsOf 5 = 1 := by kernel_rfl
  simp only [Prod.mk.injEq] at hx
  obtain ⟨rfl, _⟩ := hx
  match xs, hlen, cs, hlk with
  | [y0, y1, y2, y3], _, [c0, c1, c2, c3], _ =>
    have f0 : DataW.trod enc Tryz.prog W 0 spare held n 5 [c0] = some y0 := by have := hf 0 _ rfl; simpa [k3] using this
    have f1 : DataW.trod enc Tryz.prog W 0 spare held n 2 [c1] = some y1 := by have := hf 1 _ rfl; simpa [k1] using this
    have f2 : DataW.trod enc Tryz.prog W 0 spare held n 4 [c2] = some y2 := by have := hf 2 _ rfl; simpa [k0] using this
    have f3 : DataW.trod enc Tryz.prog W 0 spare held n 9 [c3] = some y3 := by have := hf 3 _ rfl; simpa [k2] using this
    obtain ⟨x0, e0, _, w0⟩ := DataW.trod_int Tryz.underlying5 f0
    obtain ⟨x1, e1, _, w1⟩ := DataW.trod_int Tryz.underlying2 f1
    obtain ⟨x2, e2, _⟩ := DataW.trod_bool Tryz.underlying4 f2
    obtain ⟨x3, e3, d3, _⟩ := DataW.trod_string Tryz.underlying9 f3
    have g3 := fits_part (j := 3) Tryz.underlying26 hfit rfl rfl
    rw [d3] at g3
    have g3' := fits_str g3
    simp only [List.cons.injEq, and_true] at e0 e1 e2 e3
    subst e0 e1 e2 e3
    obtain ⟨a0, a1⟩ := wf_u8 w0
    obtain ⟨b0, b1⟩ := wf_i64 w1
    exact ⟨⟨x0, x1, x2, x3⟩, rfl, a0, a1, b0, b1, by simpa using g3'⟩
def BdW (b : Bd) : Prop := VlW b.val ∧ b.name.size ≤ 140737488355328
theorem open_bd (fuel : Nat) (cs : List Value) (d : DataW H) (ps : List MemPlace) (h : DataW.trod enc Tryz.prog W 0 spare held fuel 55 cs = some (d, ps)) (hfit : Fits Tryz.prog 55 d) (hlk : cs.length = 5) :
    ∃ b : Bd, cs = cellBd b ∧ BdW b := by
  obtain ⟨xs, n, _, hx, hl, hlen, hf⟩ := DataW.trod_struct Tryz.underlying55 h
  have k0 : Tryz.prog.cellsOf 9 = 1 := by kernel_rfl
  have k1 : Tryz.prog.cellsOf 26 = 4 := by kernel_rfl
  simp only [Prod.mk.injEq] at hx
  obtain ⟨rfl, _⟩ := hx
  match xs, hlen, cs, hlk with
  | [y0, y1], _, [c0, c1, c2, c3, c4], _ =>
    have f0 : DataW.trod enc Tryz.prog W 0 spare held n 9 [c0] = some y0 := by have := hf 0 _ rfl; simpa [k0] using this
    have f1 : DataW.trod enc Tryz.prog W 0 spare held n 26 [c1, c2, c3, c4] = some y1 := by have := hf 1 _ rfl; simpa [k1] using this
    obtain ⟨x0, e0, d0, _⟩ := DataW.trod_string Tryz.underlying9 f0
    have g0 := fits_part (j := 0) Tryz.underlying55 hfit rfl rfl
    rw [d0] at g0
    have g0' := fits_str g0
    obtain ⟨v, e1, w1⟩ := open_vl _ _ _ _ f1 (fits_part (j := 1) Tryz.underlying55 hfit rfl rfl) rfl
    simp only [cellV, List.cons.injEq, and_true] at e0 e1
    obtain ⟨rfl, rfl, rfl, rfl⟩ := e1
    subst e0
    exact ⟨⟨x0, v⟩, rfl, w1, by simpa using g0'⟩
theorem open_bds {fuel : Nat} {cs : List Value} {d : DataW H} {ps : List MemPlace} (h : DataW.trod enc Tryz.prog W 0 spare held fuel 51 cs = some (d, ps)) (hfit : Fits Tryz.prog 51 d) :
    ∃ v, ∃ l : List Bd, cs = [v] ∧ BdsR W W.heap.size v l ∧ l.length ≤ 2513169434900 := by
  have kb : Tryz.prog.bytesOf 55 = 56 := by kernel_rfl
  obtain ⟨v, l, h0, ⟨a, cap, h1, h2, hc, h3⟩, h4⟩ := open_colF (f := cellBd) Tryz.underlying51 (k := 5) (by kernel_rfl) (by omega) BdW open_bd h hfit
  rw [kb] at h2
  unfold reachBytes at h2
  exact ⟨v, l, h0, ⟨a, cap, h1, by omega, hc, h3, h4⟩, by omega⟩
/-- As open_rows, the element's reading known to be a part. -/
theorem open_rows_lt {P : Program} {α : Type} [Inhabited α] {t e : TypeId} {k : Nat} (ht : P.underlying t = some (.slice e)) (hk : P.cellsOf e = k) (hk0 : 0 < k) (R : List Value → α → Prop)
    {fuel : Nat} {cs0 : List Value} {d : DataW H} {ps : List MemPlace}
    (each : ∀ (fuel : Nat) (cs : List Value) (d' : DataW H) (ps : List MemPlace), SizeOf.sizeOf d' < SizeOf.sizeOf d → DataW.trod enc P W 0 spare held fuel e cs = some (d', ps) → Fits P e d' → cs.length = k → ∃ x : α, R cs x)
    (h : DataW.trod enc P W 0 spare held fuel t cs0 = some (d, ps)) (hfit : Fits P t d) :
    ∃ v, ∃ l : List α, cs0 = [v] ∧ ∃ a cap, v = .slice a l.length cap ∧ l.length * P.bytesOf e ≤ reachBytes ∧ l.length ≤ cap ∧
      ∀ i (_ : i < l.length), ∃ b o cs, a = some ⟨b, o, none⟩ ∧ b < W.heap.size ∧ cs.length = k ∧ (∀ j, j < k → W.cell? ⟨b, o + i * k + j, none⟩ = cs[j]?) ∧ R cs l[i] := by
  rcases open_slice ht h with ⟨rfl, _⟩ | ⟨a, len, cap, m, n, D, Pl, rfl, _, hlc, hm, hmm, hx, hV⟩
  · exact ⟨_, [], rfl, none, 0, rfl, by simp, by simp, fun i h => by simp at h⟩
  · have hlm : len ≤ m := by rw [hmm]; split <;> omega
    have hd : d = _ := congrArg Prod.fst hx
    subst hd
    have each' : ∀ i, i < len → ∃ t : α, ∃ cs, cs.length = k ∧ (∀ j, j < k → W.cell? ((a.add (i * k)).add j) = cs[j]?) ∧ R cs t := fun i hi => by
      obtain ⟨cs, hcs, ht2⟩ := hV i (by omega)
      rw [hk] at hcs
      obtain ⟨_, hl, hc⟩ := World.cells?_some hcs
      have hmem : D i ∈ (List.range len).map D := by simp; exact ⟨i, hi, rfl⟩
      obtain ⟨t, hr⟩ := each _ _ _ _ (by have := List.sizeOf_lt_of_mem hmem; simp only [DataW.slice.sizeOf_spec]; omega) ht2 (fits_elem ht hfit hmem) hl
      exact ⟨t, cs, hl, fun j hj => by rw [hc j hj, List.getElem?_eq_getElem (by omega)], hr⟩
    obtain ⟨f, hf⟩ := choose_lt (α := α) each'
    have hlen := fits_len ht hfit
    simp only [List.length_map, List.length_range] at hlen
    refine ⟨_, (List.range len).map f, rfl, some a, cap, by simp, by simpa using hlen, by simpa using hlc, fun i hi => ?_⟩
    have hi' : i < len := by simpa using hi
    obtain ⟨cs, hl, hc, hr⟩ := hf i hi'
    obtain ⟨cs0, hl0, hc0, _⟩ := hf 0 (by omega)
    have c00 := hc0 0 hk0
    rw [show (a.add (0 * k)).add 0 = a by simp [Addr.add], List.getElem?_eq_getElem (by omega)] at c00
    obtain ⟨b, o, rfl, hb⟩ := addr_of_cell c00
    refine ⟨b, o, cs, rfl, hb, hl, fun j hj => ?_, by simpa using hr⟩
    have := hc j hj
    rwa [add_none b o (i * k) rfl, add_none b (o + i * k) _ rfl] at this
def NdC10 (W : World) (cs : List Value) (n : Nd) : Prop := ∃ vk, cs = cellN n vk ∧ NdR W W.heap.size vk n
theorem open_nd : ∀ (m fuel : Nat) (cs : List Value) (d : DataW H) (ps : List MemPlace), SizeOf.sizeOf d < m → DataW.trod enc Tryz.prog W 0 spare held fuel 36 cs = some (d, ps) → Fits Tryz.prog 36 d → cs.length = 7 → ∃ n : Nd, NdC10 W cs n := by
  intro m
  induction m with
  | zero => intro _ _ _ _ h; omega
  | succ m ih =>
    intro fuel cs d ps hm h hfit hlk
    obtain ⟨xs, n, _, hx, hl, hlen, hf⟩ := DataW.trod_struct Tryz.underlying36 h
    have k0 : Tryz.prog.cellsOf 5 = 1 := by kernel_rfl
    have k1 : Tryz.prog.cellsOf 26 = 4 := by kernel_rfl
    have k2 : Tryz.prog.cellsOf 9 = 1 := by kernel_rfl
    have k3 : Tryz.prog.cellsOf 34 = 1 := by kernel_rfl
    have kb : Tryz.prog.bytesOf 36 = 88 := by kernel_rfl
    simp only [Prod.mk.injEq] at hx
    obtain ⟨rfl, _⟩ := hx
    match xs, hlen, cs, hlk with
    | [y0, y1, y2, y3], _, [c0, c1, c2, c3, c4, c5, c6], _ =>
      have f0 : DataW.trod enc Tryz.prog W 0 spare held n 5 [c0] = some y0 := by have := hf 0 _ rfl; simpa [k0] using this
      have f1 : DataW.trod enc Tryz.prog W 0 spare held n 26 [c1, c2, c3, c4] = some y1 := by have := hf 1 _ rfl; simpa [k1] using this
      have f2 : DataW.trod enc Tryz.prog W 0 spare held n 9 [c5] = some y2 := by have := hf 2 _ rfl; simpa [k2] using this
      have f3 : DataW.trod enc Tryz.prog W 0 spare held n 34 [c6] = some y3 := by have := hf 3 _ rfl; simpa [k3] using this
      obtain ⟨x0, e0, _, w0⟩ := DataW.trod_int Tryz.underlying5 f0
      obtain ⟨v, e1, w1⟩ := open_vl _ _ _ _ f1 (fits_part (j := 1) Tryz.underlying36 hfit rfl rfl) rfl
      obtain ⟨s, e2, d2, _⟩ := DataW.trod_string Tryz.underlying9 f2
      have g2 := fits_part (j := 2) Tryz.underlying36 hfit rfl rfl
      rw [d2] at g2
      have g2' := fits_str g2
      have hfit3 := fits_part (j := 3) Tryz.underlying36 hfit rfl rfl
      have hs3 : SizeOf.sizeOf y3.1 < m := by
        simp only [List.map_cons, List.map_nil, DataW.agg.sizeOf_spec, List.cons.sizeOf_spec] at hm
        omega
      obtain ⟨vk, l, e3, a, cap, h1, h2, hcp, h3⟩ := open_rows_lt Tryz.underlying34 (k := 7) (by kernel_rfl) (by omega) (NdC10 W) (fun fuel' cs' d' ps' hd' h' hf' hl' => ih fuel' cs' d' ps' (by omega) h' hf' hl') f3 hfit3
      rw [kb] at h2
      unfold reachBytes at h2
      simp only [cellV, List.cons.injEq, and_true] at e0 e1 e2 e3
      obtain ⟨rfl, rfl, rfl, rfl⟩ := e1
      subst e0 e2 e3 h1
      obtain ⟨a0, a1⟩ := wf_u8 w0
      refine ⟨.mk x0 v s l, _, rfl, ⟨a0, a1, w1, show s.size ≤ _ by simpa using g2'⟩, ?_⟩
      obtain ⟨f, hfv⟩ := choose_lt (α := Value) (n := l.length) (p := fun i vk => ∃ b o, a = some ⟨b, o, none⟩ ∧ b < W.heap.size ∧ (∀ j, j < 7 → ∃ hi : i < l.length, W.cell? ⟨b, o + i * 7 + j, none⟩ = (cellN l[i] vk)[j]?) ∧ ∃ hi : i < l.length, NdR W W.heap.size vk l[i]) (fun i hi => by
        obtain ⟨b, o, cs, e1, e2, _, e3, vk', rfl, e4⟩ := h3 i hi
        exact ⟨vk', b, o, e1, e2, fun j hj => ⟨hi, e3 j hj⟩, hi, e4⟩)
      refine .mk a cap l f (by omega) hcp (fun i hi => ?_) (fun i hi => ?_) (fun i hi => ?_)
      · obtain ⟨_, _, _, _, _, _, h⟩ := hfv i hi
        exact h.1
      · obtain ⟨b, o, e1, e2, e3, _⟩ := hfv i hi
        exact ⟨b, o, e1, e2, fun j hj => (e3 j hj).2⟩
      · obtain ⟨_, _, _, _, _, _, h⟩ := hfv i hi
        exact h.2
theorem open_node {v : Value} {d : DataW H} {ps : List MemPlace} {r : Reach} {b0 : Nat} (hv : Value.okWide Tryz.prog W r b0 36 v) (h : DataW.Trod enc Tryz.prog W 0 spare held 36 v d ps) (hfit : Fits Tryz.prog 36 d) :
    ∃ n : Nd, ∃ vk, v = valN n vk ∧ NdR W W.heap.size vk n := by
  obtain ⟨cs, rfl, hsz⟩ := okWide_struct Tryz.underlying36 hv
  obtain ⟨fuel, hf⟩ := h
  have h7 : Tryz.prog.cellsOf 36 = 7 := by kernel_rfl
  obtain ⟨n, vk, e, hn⟩ := open_nd _ fuel _ d ps (Nat.lt_succ_self _) hf hfit (by simpa [Value.cells] using hsz.trans h7)
  exact ⟨n, vk, congrArg Value.agg (Array.ext' (by simpa [Value.cells, cellN] using e)), hn⟩
theorem open_binds {v : Value} {d : DataW H} {ps : List MemPlace} {r : Reach} {b0 : Nat} (hv : Value.okWide Tryz.prog W r b0 51 v) (h : DataW.Trod enc Tryz.prog W 0 spare held 51 v d ps) (hfit : Fits Tryz.prog 51 d) :
    ∃ l, BdsR W W.heap.size v l ∧ l.length ≤ 2513169434900 := by
  obtain ⟨fuel, h⟩ := h
  obtain ⟨a, len, cap, rfl⟩ := okWide_slice Tryz.underlying51 hv
  obtain ⟨v, l, hvl, hc, hm⟩ := open_bds h hfit
  simp [Value.cells] at hvl
  subst hvl
  exact ⟨l, hc, hm⟩
end
end Go.Proofs.YtbephgifbghilaaGreatDoor
/- What the listed variables and the shape give the walks (seat expr): seven listed variables, two of them sentinels, one pinned. -/
set_option maxRecDepth 100000
namespace Go.Proofs.YtbephgifbghilaaGreatDoor
open Go.ChangeShapes Go.WideShapes Go.ChangeAt Go.RowKit Go.Lib
def laid7 : List (String × DataW Unit) := [("math/bits.deBruijn32tab", Rows.laid_math_bits_deBruijn32tab), ("math/bits.deBruijn64tab", Rows.laid_math_bits_deBruijn64tab), ("internal/strconv.uint64pow10", Rows.laid_internal_strconv_uint64pow10), ("unicode/utf8.acceptRanges", Rows.laid_unicode_utf8_acceptRanges), ("strconv.ErrRange", Rows.laid_strconv_ErrRange), ("strconv.ErrSyntax", Rows.laid_strconv_ErrSyntax), ("unicode/utf8.first", Rows.laid_unicode_utf8_first)]
theorem first_eq : (Rows.laid_unicode_utf8_first : DataW Unit) = firstData := by kernel_rfl
theorem accept_eq : (Rows.laid_unicode_utf8_acceptRanges : DataW Unit) = acceptData := by kernel_rfl
theorem xU : U8Extra Tryz.prog Tryz.laysValid_ren := ⟨by kernel_rfl, by kernel_rfl, by kernel_rfl, by kernel_rfl, by kernel_rfl, by kernel_rfl, by kernel_rfl⟩
theorem met7 (os : Os) (args : Array Value) : laidMetH Tryz.prog laid7 ((World.laidAll Tryz.prog os laid7).forCall (fun _ _ => 0) ⟨#[], args, []⟩).memory := by
  rw [MakeChecks.laidMetH_plain _ _ _ (by kernel_rfl)]
  exact laidMet_laidAll _ (by kernel_rfl) (by kernel_rfl)
/-- What the world's shape says stays at hand: a row's wrap that gives the listed variables and the shape. -/
theorem handed_shaped {H : Type} {enc : TypeId × Value → H} {a : Assume} {C : Checked} {os : Os} {f : FuncId} {fn : Func} {s : ChangeSpec} {conds : List PathCond} {apart fresh handsOn again : Bool} {laid : List (String × DataW Unit)}
    (own : ownKnob C.prog.godebug = none) (started : os.Started) (noInit : C.prog.inits.idxOf? f = none) (hfn : C.prog.funcs[f]? = some fn)
    (witness : ∃ (w : World) (tape : Tape) (i : Input), w.os = os ∧ (w.forCall tape i).Shaped C.prog ∧ i.vars = [] ∧ Input.okWide C.prog (w.forCall tape i) .any w.heap.size f i ∧
      ((s.pre enc C.prog fn conds apart (w.forCall tape i).memory i.args ∧ laidMetH C.prog laid (w.forCall tape i).memory) ∧ sizedMet enc C.prog fn (OpenSpec.ofChange s) apart (w.forCall tape i).memory i.args) ∧ a.holds C.prog (lone (Frame.enter C.prog f i.args .normal) [] (w.forCall tape i)))
    (walk : ∀ (W : World) (base : Nat) (args : Array Value) (ds gs : List (DataW H)) (before : List MemPlace),
      (∀ (j : Nat) t v, fn.params[j]? = some t → args[j]? = some v → Value.okWide C.prog W .any base t v) →
      DataW.Whole enc C.prog fn.params.toList s.vars apart W args.toList ds gs before →
      (DataW.weightsEach C.prog (fn.params.toList ++ s.plain.varTypes C.prog) (ds ++ gs)).all (· ≤ reachBytes) = true → laidMetH C.prog laid W → W.ShapedOpen C.prog →
      Calls C.prog f args W fun e W' => ∃ v, e = .returned v ∧ s.post enc C.prog fn apart fresh handsOn again W args v W') :
    ReturnsInHanded a C os f .any (fun w args => (s.pre enc C.prog fn conds apart w args ∧ laidMetH C.prog laid w) ∧ sizedMet enc C.prog fn (OpenSpec.ofChange s) apart w args) (s.post enc C.prog fn apart fresh handsOn again) :=
  returnsInHanded_of_calls own started noInit witness fun w tape i _ shaped _ ok pre _ => by
    have hval := ok.2.2.2
    obtain ⟨g, hg, -, -, -, -, hval⟩ := hval
    cases Option.some.inj (hg.symm.trans hfn)
    obtain ⟨⟨⟨ds, gs, before, hw, _⟩, hl⟩, hz⟩ := pre
    exact (walk _ w.heap.size i.args ds gs before hval (DataW.Whole.of_heap (w' := w.forCall tape i) (by rfl) hw) (hz.weights hw) (hl.of_heap (by rfl)) shaped).mono fun e W' ⟨v, he, hp⟩ => by
      subst he
      exact ChangeSpec.post_blind hp
theorem lt_of_cell {w : World} {b i : Nat} {v : Value} (h : w.cell? ⟨b, i, none⟩ = some v) : b < w.heap.size := by
  rcases Nat.lt_or_ge b w.heap.size with h1 | h1
  · exact h1
  · unfold World.cell? at h
    rw [show w.heap[b]? = none from Array.getElem?_eq_none h1] at h
    cases h
theorem kept_cell {w : World} {b i : Nat} {v : Value} (h : w.cell? ⟨b, i, none⟩ = some v) : ∀ W, Below w.heap.size w W → W.cell? ⟨b, i, none⟩ = some v := fun W hW => by
  rw [Below.cellB hW (lt_of_cell h)]; exact h
theorem star : "*" ++ "errors.errorString" = "*errors.errorString" := by decide
theorem rowErr (u : TypeId) (h : Tryz.prog.typeName? 3 u = some "*errors.errorString") : u = 245 :=
  typeName_ptr_named (nm := "errors.errorString") (by rw [star]; kernel_rfl) (by kernel_rfl) (by decide) u (by rw [star]; exact h)
theorem gx_of_laid {W : World} (h : laidMetH Tryz.prog laid7 W) (hsh : W.ShapedOpen Tryz.prog) : Gx W := by
  rw [MakeChecks.laidMetH_plain _ _ _ (by kernel_rfl)] at h
  have h2 := laidMet.tail (laidMet.tail h)
  have h3 := laidMet.tail h2
  have h4 := laidMet.tail h3
  have h5 := laidMet.tail h4
  have h6 := laidMet.tail h5
  have gR : Tryz.prog.globalNamed "strconv.ErrRange" = some 4 := by kernel_rfl
  have gS : Tryz.prog.globalNamed "strconv.ErrSyntax" = some 3 := by kernel_rfl
  obtain ⟨a0, s0, v0, -, -, -⟩ := laid_sentinel h4 gR (by kernel_rfl) Tryz.underlying146 rowErr Tryz.underlying245 Tryz.underlying247 rfl rfl Tryz.underlying9 (by kernel_rfl) (by kernel_rfl)
  obtain ⟨a1, s1, v1, -, -, -⟩ := laid_sentinel h5 gS (by kernel_rfl) Tryz.underlying146 rowErr Tryz.underlying245 Tryz.underlying247 rfl rfl Tryz.underlying9 (by kernel_rfl) (by kernel_rfl)
  have c0 := World.var?_cell gR v0 0
  have c1 := World.var?_cell gS v1 0
  obtain ⟨m, hm⟩ := cell_of_shapedOpen_int (g := 5) hsh (of_decide_eq_true (by kernel_rfl)) (zero := #[.int .i64 0]) (t := 3) (by kernel_rfl) rfl (by kernel_rfl) (by kernel_rfl) Tryz.underlying3
  have h2' : laidMet Tryz.prog (("internal/strconv.uint64pow10", Lib.tabData .u64 Lib.pow10Tab) :: [("unicode/utf8.acceptRanges", Rows.laid_unicode_utf8_acceptRanges), ("strconv.ErrRange", Rows.laid_strconv_ErrRange), ("strconv.ErrSyntax", Rows.laid_strconv_ErrSyntax), ("unicode/utf8.first", Rows.laid_unicode_utf8_first)]) W := h2
  have r1 := Lib.laidMet.reads h6 (.head _)
  have r2 := Lib.laidMet.reads h3 (.head _)
  rw [first_eq] at r1
  rw [accept_eq] at r2
  have ht8 : Tabs8 W := utf8Tabs_of_readsT (U8Types.of196 Tryz.laysValid) xU r1 r2
  have t8 : ∀ V, Below W.heap.size W V → Tabs8 V := fun V hV => ⟨fun c hc => kept_cell (ht8.1 c hc) V hV, fun i hi => ⟨kept_cell (ht8.2 i hi).1 V hV, kept_cell (ht8.2 i hi).2 V hV⟩⟩
  have k0 := kept_cell (show W.cell? ⟨4, 0, none⟩ = some _ by simpa using c0)
  have k1 := kept_cell (show W.cell? ⟨3, 0, none⟩ = some _ by simpa using c1)
  refine ⟨fun V hV => ⟨t8 V hV, ⟨_, _, k1 V hV⟩, ⟨_, _, k0 V hV⟩⟩, ?_, ⟨m, hm⟩⟩
  exact Lib.tabBelow_of_tabIs (Lib.tabIs_of_head (g := 2) (by kernel_rfl) (by kernel_rfl) Tryz.underlying228 Tryz.underlying177 (by kernel_rfl) (by kernel_rfl) h2')
end Go.Proofs.YtbephgifbghilaaGreatDoor
