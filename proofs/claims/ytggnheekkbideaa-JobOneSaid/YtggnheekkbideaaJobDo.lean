/- job.Fetch, Fail, Revive: one contract each. -/
import Derived.Test.YtggnheekkbideaaJobFail
set_option maxRecDepth 100000
namespace Go.Proofs.Ytggnheekkbideaa
open Go.RowKit

def TriL (l : List Ins) : Prop := ∀ x ∈ l, ∀ t ∈ x.toks, t.tries ≤ 9223372036854775807
def chgE (may : Tok → Int) (l : List Ins) (tok : Int) : Int := match findT l tok with | none => 5 | some p => may p.t
def chgL (may : Tok → Int) (F : Tok → Tok) (l : List Ins) (tok : Int) : List Ins := match findT l tok with | none => [] | some p => if may p.t = 0 then markL F l p.i p.k else []
instance (clock : Int) (wk : ByteArray) (n ticks : Int) : Decidable (fetchOk clock wk n ticks) := by unfold fetchOk; infer_instance
def fetE (clock : Int) (wk : ByteArray) (n ticks : Int) : Int := if fetchOk clock wk n ticks then 0 else 1
def fetL (l : List Ins) (clock : Int) (wk : ByteArray) (n ticks : Int) : List Ins := if fetchOk clock wk n ticks then marks (fetchF wk (clock + ticks)) l (fetchP l clock n) else []
def fetT (l : List Ins) (clock : Int) (wk : ByteArray) (n ticks : Int) : List Int := if fetchOk clock wk n ticks then (fetchP l clock n).map (·.t.id) else []

theorem insO_nil (w : World) (lo : Nat) : InsO w lo (.slice none 0 0) [] := ⟨OwnF.nil _ _, OwnH.nil⟩

theorem fetch_any (w : World) (v : Value) (l : List Ins) (clock : Int) (wk : ByteArray) (n ticks : Int) (hI : InsR w w.heap.size v l) (hS : SmL l) (hl : (allT l).length ≤ 1048576) :
    Calls Try.prog 12 #[v, .int .i64 clock, .string wk, .int .i64 n, .int .i64 ticks] w fun e w' => ∃ vo vt R, e = .returned (.tuple #[vo, vt, .int .i64 (fetE clock wk n ticks)]) ∧ InsO w' w.heap.size vo R ∧
      R.map (·.x) = fetL l clock wk n ticks ∧ OwnI w' w.heap.size vt (fetT l clock wk n ticks) ∧ Below w.heap.size w w' := by
  by_cases h : fetchOk clock wk n ticks
  · unfold fetE fetL fetT
    rw [if_pos h, if_pos h, if_pos h]
    exact fetch_yes w v l clock wk n ticks hI hS hl h
  · unfold fetE fetL fetT
    rw [if_neg h, if_neg h, if_neg h]
    obtain ⟨a, c, rfl⟩ := hI.val
    exact (fetch_no w a l.length c clock wk n ticks h).mono (fun e w' ⟨h1, h2⟩ => ⟨_, _, [], h1, insO_nil _ _, rfl, OwnI.nil _ _, h2⟩)

theorem change_any (w : World) (v : Value) (l : List Ins) (tok : Int) (gm gf : Nat) (lm lt : Array Value) (may : Tok → Int) (F : Tok → Tok) (em : ∀ args w, (callFunc gm args).run Try.prog w = .ok (.enter gm args) w) (et : ∀ args w, (callFunc gf args).run Try.prog w = .ok (.enter gf args) w)
    (hm : MayC gm lm may w) (ht : TurnC gf lt may F w) (hI : InsR w w.heap.size v l) (hS : SmL l) (hT : TriL l) :
    Calls Try.prog 39 #[v, .int .i64 tok, .func (.func gm) #[] lm, .func (.func gf) #[] lt] w fun e w' => ∃ vo R, e = .returned (.tuple #[vo, .int .i64 (chgE may l tok)]) ∧ InsO w' w.heap.size vo R ∧ R.map (·.x) = chgL may F l tok ∧ Below w.heap.size w w' := by
  unfold chgE chgL
  cases hf : findT l tok with
  | none => exact (change_none w v l tok _ _ hI hf).mono (fun e w' ⟨h1, h2⟩ => ⟨_, [], h1, insO_nil _ _, rfl, h2⟩)
  | some p =>
    simp only
    by_cases hp : may p.t = 0
    · rw [if_pos hp]
      have hpm := find_in hf
      obtain ⟨h1, h2, h3, _⟩ := allT_at hpm
      have htr : p.t.tries ≤ 9223372036854775807 := by
        rw [h3]
        exact hT (atL l p.i) (by rw [atL_eq h1]; exact List.getElem_mem _) (atL (atL l p.i).toks p.k) (by rw [atL_eq h2]; exact List.getElem_mem _)
      rw [hp]
      exact change_yes w v l tok gm gf lm lt may F em et hm ht hI hS hf hp htr
    · rw [if_neg hp]
      exact (change_no w v l tok gm lm may _ em hm hI hf hp).mono (fun e w' ⟨h1, h2⟩ => ⟨_, [], h1, insO_nil _ _, rfl, h2⟩)

set_option maxHeartbeats 2000000 in
theorem fail_any (w : World) (v : Value) (l : List Ins) (clock : Int) (wk : ByteArray) (tok : Int) (hI : InsR w w.heap.size v l) (hS : SmL l) (hT : TriL l) :
    Calls Try.prog 15 #[v, .int .i64 clock, .string wk, .int .i64 tok] w fun e w' => ∃ vo R, e = .returned (.tuple #[vo, .int .i64 (chgE (mayFail wk clock) l tok)]) ∧ InsO w' w.heap.size vo R ∧ R.map (·.x) = chgL (mayFail wk clock) failF l tok ∧ Below w.heap.size w w' := by
  obtain ⟨p0, hp0⟩ : ∃ p0, w.heap.size = p0 := ⟨_, rfl⟩
  obtain ⟨w1, p1, hw1, hp1, ep1, hb1, hn1⟩ := alloc_named w (.cells #[.int .i64 clock] 3) hp0
  obtain ⟨w2, p2, hw2, hp2, ep2, hb2, hn2⟩ := alloc_named w1 (.cells #[.string wk] 9) hp1
  have l1 : p0 < p1 := by omega
  have l2 : p1 < p2 := by omega
  have hB2 : Below w.heap.size w w2 := by rw [hp0]; exact hb1.trans (hb2.mono (by omega))
  have cw : w2.cell? ⟨p1, 0, none⟩ = some (.string wk) := (cell_of_block hn2 0).trans rfl
  have cc : w2.cell? ⟨p0, 0, none⟩ = some (.int .i64 clock) := (cell_of_block ((hb2.block p0 l1).trans hn1) 0).trans rfl
  have HB := Lib.hid hB2
  have S1 := Lib.hid (change_any w2 v l tok 40 41 #[.pointer (some ⟨p1, 0, none⟩), .pointer (some ⟨p0, 0, none⟩)] #[] (mayFail wk clock) failF (enters_of Try.func40 (by kernel_rfl) rfl) (enters_of Try.func41 (by kernel_rfl) rfl)
    (fun W t hb => (fail1_any W t p1 p0 wk clock ((Below.cellB hb (by omega)).trans cw) ((Below.cellB hb (by omega)).trans cc) (Nat.lt_of_lt_of_le (by omega) hb.size) (Nat.lt_of_lt_of_le (by omega) hb.size)))
    (fail2_turn w2 wk clock) ((hI.mono hB2 (Nat.le_refl _)).mono (Below.refl _ _) hB2.size) hS hT)
  obtain ⟨a, c, rfl⟩ := hI.val
  clear hI hB2 cw cc hn1 hn2 hb1 hb2 ep1 ep2
  go_enter Try.func15, Try.ntmps15
  go_wp2_with (go_at_call 39; refine S1.out.mono ?_; rintro e w3 ⟨vo, R, rfl, hO, hR, hb3⟩; have HO := Lib.hid hO; have HR := Lib.hid hR; have HB3 := Lib.hid hb3; clear hO hR hb3)
  go_ret2
  exact ⟨_, R, rfl, ⟨OwnF.lower HO.out.row HB.out.size, HO.out.own.lower HB.out.size⟩, HR.out, HB.out.trans (HB3.out.mono HB.out.size)⟩

set_option maxHeartbeats 2000000 in
theorem revive_any (w : World) (v : Value) (l : List Ins) (tok tries : Int) (hI : InsR w w.heap.size v l) (hS : SmL l) (hT : TriL l) :
    Calls Try.prog 28 #[v, .int .i64 tok, .int .i64 tries] w fun e w' => ∃ vo R, e = .returned (.tuple #[vo, .int .i64 (chgE (mayRev tries) l tok)]) ∧ InsO w' w.heap.size vo R ∧ R.map (·.x) = chgL (mayRev tries) (revF tries) l tok ∧ Below w.heap.size w w' := by
  obtain ⟨p0, hp0⟩ : ∃ p0, w.heap.size = p0 := ⟨_, rfl⟩
  obtain ⟨w2, p2, hw2, hp2, ep2, hb2, hn2⟩ := alloc_named w (.cells #[.int .i64 tries] 3) hp0
  have l1 : p0 < p2 := by omega
  have hB2 : Below w.heap.size w w2 := by rw [hp0]; exact hb2
  have cc : w2.cell? ⟨p0, 0, none⟩ = some (.int .i64 tries) := (cell_of_block hn2 0).trans rfl
  have HB := Lib.hid hB2
  have S1 := Lib.hid (change_any w2 v l tok 46 47 #[.pointer (some ⟨p0, 0, none⟩)] #[.pointer (some ⟨p0, 0, none⟩)] (mayRev tries) (revF tries) (enters_of Try.func46 (by kernel_rfl) rfl) (enters_of Try.func47 (by kernel_rfl) rfl)
    (fun W t hb => (rev1_any W t p0 tries ((Below.cellB hb (by omega)).trans cc) (Nat.lt_of_lt_of_le (by omega) hb.size)))
    (rev2_turn w2 p0 tries cc (by omega)) ((hI.mono hB2 (Nat.le_refl _)).mono (Below.refl _ _) hB2.size) hS hT)
  obtain ⟨a, c, rfl⟩ := hI.val
  clear hI hB2 cc hn2 hb2 ep2
  go_enter Try.func28, Try.ntmps28
  go_wp2_with (go_at_call 39; refine S1.out.mono ?_; rintro e w3 ⟨vo, R, rfl, hO, hR, hb3⟩; have HO := Lib.hid hO; have HR := Lib.hid hR; have HB3 := Lib.hid hb3; clear hO hR hb3)
  go_ret2
  exact ⟨_, R, rfl, ⟨OwnF.lower HO.out.row HB.out.size, HO.out.own.lower HB.out.size⟩, HR.out, HB.out.trans (HB3.out.mono HB.out.size)⟩

end Go.Proofs.Ytggnheekkbideaa
