/- job.change: instances with one token turned. -/
import Derived.Test.YtggnheekkbideaaJobFetch2
import Derived.Test.YtggnheekkbideaaJobFind
set_option maxRecDepth 100000
namespace Go.Proofs.Ytggnheekkbideaa
open Go.RowKit

def MayC (gm : Nat) (lm : Array Value) (may : Tok → Int) (w : World) : Prop :=
  ∀ (W : World) (t : Tok), Below w.heap.size w W → Calls Try.prog gm (#[valT t] ++ lm) W fun e W' => e = .returned (.int .i64 (may t)) ∧ Below W.heap.size W W'
def TurnC (gt : Nat) (lt : Array Value) (may : Tok → Int) (F : Tok → Tok) (w : World) : Prop :=
  ∀ (W : World) (lo : Nat) (v : Value) (R : List Ih) (i k g : Nat), Below w.heap.size w W → w.heap.size ≤ lo → InsO W lo v R → i < R.length → k < (atL R i).x.toks.length → (atL R i).ta = some ⟨g, 0, none⟩ → may (atL (atL R i).x.toks k) = 0 → (atL (atL R i).x.toks k).tries ≤ 9223372036854775807 →
    Calls Try.prog gt (#[.pointer (some ⟨g, k * 9, none⟩)] ++ lt) W fun e W' => e = .returned (.tuple #[]) ∧ InsO W' lo v (setT R i k (F (atL (atL R i).x.toks k))) ∧ Below lo W W'

theorem find_in {l : List Ins} {t : Int} {p : PT} (h : findT l t = some p) : p ∈ allT l := List.mem_of_find?_eq_some h

set_option maxHeartbeats 4000000 in
theorem change_none (w : World) (v : Value) (l : List Ins) (tok : Int) (fm ft : Value) (hI : InsR w w.heap.size v l) (hf : findT l tok = none) :
    Calls Try.prog 39 #[v, .int .i64 tok, fm, ft] w fun e w' => e = .returned (.tuple #[.slice none 0 0, .int .i64 5]) ∧ Below w.heap.size w w' := by
  have S1 := Lib.hid (find_any w v l tok hI)
  rw [hf] at S1
  unfold findV at S1
  obtain ⟨a, c, rfl⟩ := hI.val
  clear hI hf
  go_enter Try.func39, Try.ntmps39
  go_wp2_with (go_at_call 13; refine S1.out.mono ?_; rintro e w1 ⟨rfl, hb1⟩)
  go_ret2
  exact ⟨rfl, hb1⟩

set_option maxHeartbeats 4000000 in
theorem change_no (w : World) (v : Value) (l : List Ins) (tok : Int) (gm : Nat) (lm : Array Value) (may : Tok → Int) (ft : Value) (em : ∀ args w, (callFunc gm args).run Try.prog w = .ok (.enter gm args) w) (hm : MayC gm lm may w) (hI : InsR w w.heap.size v l) {p : PT} (hf : findT l tok = some p) (hp : may p.t ≠ 0) :
    Calls Try.prog 39 #[v, .int .i64 tok, .func (.func gm) #[] lm, ft] w fun e w' => e = .returned (.tuple #[.slice none 0 0, .int .i64 (may p.t)]) ∧ Below w.heap.size w w' := by
  have S1 := Lib.hid (find_any w v l tok hI)
  rw [hf] at S1
  unfold findV at S1
  have hpm := find_in hf
  have HI := Lib.hid hI
  obtain ⟨a, c, rfl⟩ := hI.val
  obtain ⟨h1, h2, h3, _⟩ := allT_at hpm
  obtain ⟨b, o, rfl, _⟩ := hI.addr (by omega)
  have hd : (may p.t != 0) = true := by simpa using hp
  have HPM := Lib.hid hpm
  have HM := Lib.hid hm
  have i1 : (0 : Int) ≤ (p.i : Int) := by omega
  have i2 : (p.i : Int) < (l.length : Int) := by omega
  clear hI hf hp hpm hm h3
  go_enter Try.func39, Try.ntmps39
  go_wp2_with (go_at_call 13; refine S1.out.mono ?_; rintro e w1 ⟨rfl, hb1⟩; refine Hid.out ?_)
  refine Lib.hid ?_
  obtain ⟨bt, ot, n2, ct, k1, k2, q0, q4, t0, t1, t2, t3, t4, t5, t6, t7, t8, hbl, hbt⟩ := (HI.out.mono hb1 (Nat.le_refl _)).placeT HPM.out
  have k3 : (0 : Int) ≤ (p.k : Int) := by omega
  have k4 : (p.k : Int) < (n2 : Int) := by omega
  have HB1 := Lib.hid hb1
  have C1 := Lib.hid (HM.out w1 p.t hb1)
  clear hb1
  go_wp2_with (go_at_fn gm; refine C1.out.mono ?_; rintro e w2 ⟨rfl, hb2⟩; have HB2 := Lib.hid hb2; clear hb2)
  go_ret2
  exact ⟨rfl, HB1.out.trans (HB2.out.mono HB1.out.size)⟩

set_option maxHeartbeats 4000000 in
theorem change_yes (w : World) (v : Value) (l : List Ins) (tok : Int) (gm gf : Nat) (lm lt : Array Value) (may : Tok → Int) (F : Tok → Tok) (em : ∀ args w, (callFunc gm args).run Try.prog w = .ok (.enter gm args) w) (et : ∀ args w, (callFunc gf args).run Try.prog w = .ok (.enter gf args) w)
    (hm : MayC gm lm may w) (ht : TurnC gf lt may F w) (hI : InsR w w.heap.size v l) (hS : SmL l) {p : PT} (hf : findT l tok = some p) (hp : may p.t = 0) (htr : p.t.tries ≤ 9223372036854775807) :
    Calls Try.prog 39 #[v, .int .i64 tok, .func (.func gm) #[] lm, .func (.func gf) #[] lt] w fun e w' => ∃ vo R, e = .returned (.tuple #[vo, .int .i64 0]) ∧ InsO w' w.heap.size vo R ∧ R.map (·.x) = markL F l p.i p.k ∧ Below w.heap.size w w' := by
  have S1 := Lib.hid (find_any w v l tok hI)
  rw [hf] at S1
  unfold findV at S1
  have hpm := find_in hf
  have HI := Lib.hid hI
  have HS := Lib.hid hS
  obtain ⟨a, c, rfl⟩ := hI.val
  obtain ⟨h1, h2, h3, _⟩ := allT_at hpm
  obtain ⟨b, o, rfl, _⟩ := hI.addr (by omega)
  have hd : (may p.t != 0) = false := by simp [hp]
  have HP0 := Lib.hid hp
  have HPM := Lib.hid hpm
  have HM := Lib.hid hm
  have HT := Lib.hid ht
  have H3 := Lib.hid h3
  have i1 : (0 : Int) ≤ (p.i : Int) := by omega
  have i2 : (p.i : Int) < (l.length : Int) := by omega
  clear hI hf hp hpm hm h3 ht hS
  go_enter Try.func39, Try.ntmps39
  go_wp2_with (go_at_call 13; refine S1.out.mono ?_; rintro e w1 ⟨rfl, hb1⟩; refine Hid.out ?_)
  refine Lib.hid ?_
  obtain ⟨bt, ot, n2, ct, k1, k2, q0, q4, t0, t1, t2, t3, t4, t5, t6, t7, t8, hbl, hbt⟩ := (HI.out.mono hb1 (Nat.le_refl _)).placeT HPM.out
  have k3 : (0 : Int) ≤ (p.k : Int) := by omega
  have k4 : (p.k : Int) < (n2 : Int) := by omega
  have HB1 := Lib.hid hb1
  have C1 := Lib.hid (HM.out w1 p.t hb1)
  clear hb1
  go_wp2_with (go_at_fn gm; refine C1.out.mono ?_; rintro e w2 ⟨rfl, hb2⟩; refine Hid.out ?_)
  refine Lib.hid ?_
  have hz1 := HB1.out.size
  have HB2 := Lib.hid (HB1.out.trans (hb2.mono hz1))
  have hz2 := HB2.out.size
  have S2 := Lib.hid (twins_any w2 _ l ((HI.out.mono HB2.out (Nat.le_refl _)).mono (Below.refl _ _) hz2) HS.out)
  clear hb2 q0 q4 t0 t1 t2 t3 t4 t5 t6 t7 t8
  go_wp2_with (go_at_call 34; refine S2.out.mono ?_; rintro e w3 ⟨vo, R, rfl, hO, hR, hb3⟩; refine Hid.out ?_)
  refine Lib.hid ?_
  have HB3 := Lib.hid (HB2.out.trans (hb3.mono hz2))
  have hRl : R.length = l.length := by rw [← hR, List.length_map]
  obtain ⟨ao, co, hvo⟩ := OwnF.shape hO.row
  rw [hRl] at hvo
  subst hvo
  have hiR : p.i < R.length := by omega
  have hx : (atL R p.i).x = atL l p.i := by rw [← hR, atL_map_x R _ hiR]
  have hkR : p.k < (atL R p.i).x.toks.length := by rw [hx]; exact h2
  have hty : atL (atL R p.i).x.toks p.k = p.t := by rw [hx, H3.out]
  obtain ⟨g, rfl, -, hglo, hg⟩ := OwnF.some hO.row (by omega)
  have r4 : w3.cell? ⟨g, p.i * 5 + 4, none⟩ = some (tvI (atL R p.i)) := by
    have := OwnF.at cellI_len hO.row hiR (j := 4) (by omega)
    rw [this, ← atL_eq hiR]; rfl
  obtain ⟨gt, hta, hlo, -, -, -⟩ := hO.setT hiR hkR (j := 5) (by omega) (.string default) { atL (atL R p.i).x.toks p.k with worker := default } rfl
  obtain ⟨nt, hnt⟩ : ∃ nt, (atL R p.i).x.toks.length = nt := ⟨_, rfl⟩
  obtain ⟨tc, htc⟩ : ∃ tc, (atL R p.i).tc = tc := ⟨_, rfl⟩
  rw [show tvI (atL R p.i) = .slice (some ⟨gt, 0, none⟩) nt tc by show Value.slice _ _ _ = _; rw [hta, hnt, htc]] at r4
  have k5 : (p.k : Int) < (nt : Int) := by omega
  have C2 := Lib.hid (HT.out w3 w2.heap.size _ R p.i p.k gt HB3.out hz2 hO hiR hkR hta (by rw [hty]; exact HP0.out) (by rw [hty]; exact htr))
  have HM2 : Hid ((setT R p.i p.k (F (atL (atL R p.i).x.toks p.k))).map (·.x) = markL F l p.i p.k) := Lib.hid (by rw [setT_map R p.i p.k _ F hiR rfl, hR])
  clear hO hR hb3 hx hty hta hnt htc
  go_wp2_with (go_at_fn gf; refine C2.out.mono ?_; rintro e w4 ⟨rfl, hO4, hb4⟩; have HO4 := Lib.hid hO4; have HB4 := Lib.hid hb4; clear hO4 hb4)
  go_ret2
  exact ⟨_, _, rfl, ⟨OwnF.lower HO4.out.row hz2, HO4.out.own.lower hz2⟩, HM2.out, HB3.out.trans (HB4.out.mono hz2)⟩

end Go.Proofs.Ytggnheekkbideaa
