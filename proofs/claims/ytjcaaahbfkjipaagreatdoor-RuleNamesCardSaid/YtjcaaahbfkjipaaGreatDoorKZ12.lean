/- Texts fused by fuse.py: KRuleFst2. -/
import Derived.Test.YtjcaaahbfkjipaaGreatDoorKZ11
import Derived.Test.YtjcaaahbfkjipaaGreatDoorKZ03
import Derived.Shelf.Abstract
/- Of RuleFst2: what FRuleNames uses (shake.py). -/
set_option maxRecDepth 100000
/- rule.first over elements, flows, binds and texts (printed by wip/gen_rulefst2.py). -/
namespace Go.Proofs.YtjcaaahbfkjipaaGreatDoor
open Go.RowKit
section
variable {base : Nat} {w : World} {row : Option Nat}
theorem grown_self (w : World) (row : Option Nat) : w.grownBy w row := ⟨rfl, rfl, rfl, Nat.le_refl _, fun _ _ _ => rfl⟩
set_option maxHeartbeats 1000000 in
theorem fst1El (x : El) (pc fid : Nat) (caps : Array Value) (b : Bool) (Q : World → Prop) (hc : w.cell? ⟨pc, 0, none⟩ = some (.func (.func fid) #[] caps)) (hl : pc < w.heap.size)
    (hrun : ∀ (args : Array Value) (W : World), (callFunc fid args).run Tryz.prog W = .ok (.enter fid args) W)
    (hcall : ∀ W, Below w.heap.size w W → Calls Tryz.prog fid (#[valEl x] ++ caps) W fun e w' => e = .returned (.bool b) ∧ W.grownBy w' row ∧ Q w') :
    Calls Tryz.prog 109 #[valEl x, .pointer (some ⟨pc, 0, none⟩)] w fun e w' => e = .returned (.bool (!b)) ∧ w.grownBy w' row ∧ Q w' := by
  obtain ⟨w1, p0, hp0, hw1, l1, n1, b1⟩ := box_new w (.cells #[.string x.id, .string x.name, .int .u8 x.kind, .string x.inn, .string x.dflt, .string x.att, .int .u8 x.event, .string x.ref, .string x.key, .int .i64 x.ticks, .int .i64 x.tries] 39)
  have c0 : w1.cell? ⟨p0, 0, none⟩ = some (.string x.id) := (cell_of_block n1 0).trans rfl
  have c1 : w1.cell? ⟨p0, 1, none⟩ = some (.string x.name) := (cell_of_block n1 1).trans rfl
  have c2 : w1.cell? ⟨p0, 2, none⟩ = some (.int .u8 x.kind) := (cell_of_block n1 2).trans rfl
  have c3 : w1.cell? ⟨p0, 3, none⟩ = some (.string x.inn) := (cell_of_block n1 3).trans rfl
  have c4 : w1.cell? ⟨p0, 4, none⟩ = some (.string x.dflt) := (cell_of_block n1 4).trans rfl
  have c5 : w1.cell? ⟨p0, 5, none⟩ = some (.string x.att) := (cell_of_block n1 5).trans rfl
  have c6 : w1.cell? ⟨p0, 6, none⟩ = some (.int .u8 x.event) := (cell_of_block n1 6).trans rfl
  have c7 : w1.cell? ⟨p0, 7, none⟩ = some (.string x.ref) := (cell_of_block n1 7).trans rfl
  have c8 : w1.cell? ⟨p0, 8, none⟩ = some (.string x.key) := (cell_of_block n1 8).trans rfl
  have c9 : w1.cell? ⟨p0, 9, none⟩ = some (.int .i64 x.ticks) := (cell_of_block n1 9).trans rfl
  have c10 : w1.cell? ⟨p0, 10, none⟩ = some (.int .i64 x.tries) := (cell_of_block n1 10).trans rfl
  have cp : w1.cell? ⟨pc, 0, none⟩ = some (.func (.func fid) #[] caps) := (Below.cellB b1 hl).trans hc
  have HC := Lib.hid (hcall w1 b1)
  have HG := Lib.hid (below_grownBy b1 row)
  clear n1 b1 hc hcall
  go_enter Tryz.func109, Tryz.ntmps109
  go_wp2_with fail
  refine HC.out.mono ?_
  rintro e w2 ⟨rfl, hb2, hq2⟩
  have HB2 := Lib.hid (And.intro (HG.out.trans hb2) hq2)
  clear hb2 hq2
  go_wp2_with fail
  go_ret
  exact ⟨rfl, HB2.out⟩
set_option maxHeartbeats 4000000 in
theorem firstEl (hbw : base ≤ w.heap.size) (hrow : ∀ r, row = some r → base ≤ r) (v : Value) (l : List El) (h : ElsR w base v l) (gid fid : Nat) (gcaps caps : Array Value) (key : El → ByteArray) (J : Nat → World → Prop) (p : Nat → Bool)
    (grun : ∀ (args : Array Value) (W : World), (callFunc gid args).run Tryz.prog W = .ok (.enter gid args) W)
    (hrun : ∀ (args : Array Value) (W : World), (callFunc fid args).run Tryz.prog W = .ok (.enter fid args) W) (h0 : J 0 w) (hJ : ∀ i W W', Below W.heap.size W W' → J i W → J i W') (hne : ∀ r, row = some r → r < w.heap.size)
    (hg : ∀ i (hi : i < l.length) (W : World), w.grownBy W row → Calls Tryz.prog gid (#[valEl l[i]] ++ gcaps) W fun e w' => e = .returned (.string (key l[i])) ∧ Below W.heap.size W w')
    (hf : ∀ i (hi : i < l.length) (W : World), w.grownBy W row → J i W → (∀ j, j < i → p j = true) → Calls Tryz.prog fid (#[valEl l[i]] ++ caps) W fun e w' => e = .returned (.bool (p i)) ∧ W.grownBy w' row ∧ (p i = true → J (i + 1) w')) :
    Calls Tryz.prog 64 #[v, .func (.func gid) #[] gcaps, .func (.func fid) #[] caps] w fun e w' => e = .returned (.tuple #[.string ((firstO key p l).getD ⟨#[]⟩), .bool (firstO key p l).isSome]) ∧ w.grownBy w' row ∧ ((∀ j, j < l.length → p j = true) → J l.length w') := by
  obtain ⟨w1, p0, hp0, hw1, l1, n1, b1⟩ := box_new w (.cells #[.func (.func fid) #[] caps] 63)
  have g1 : w.grownBy w1 row := below_grownBy b1 row
  have hs1 : w.heap.size ≤ w1.heap.size := b1.size
  have S1 := Lib.hid (idxEl (base := base) (w := w1) (row := row) (by omega) hrow v l (h.mono (b1.mono hbw) (Nat.le_refl _)) 109 #[.pointer (some ⟨p0, 0, none⟩)] (fun i W => J i W) p (enters_of Tryz.func109 (by kernel_rfl) rfl) (hJ 0 _ _ b1 h0) (fun i hi W hW hJi hp => by
    have hcell : W.cell? ⟨p0, 0, none⟩ = some (.func (.func fid) #[] caps) := by
      have hne' : some p0 ≠ row := fun e => by have := hne p0 e.symm; omega
      exact (cell_of_block ((hW.block p0 l1 hne').trans n1) 0).trans rfl
    refine fst1El (w := W) (row := row) l[i] p0 fid caps (p i) (fun w' => p i = true → J (i + 1) w') hcell (Nat.lt_of_lt_of_le l1 hW.size) hrun (fun W2 hW2 => ?_)
    exact hf i hi W2 ((g1.trans hW).trans (below_grownBy hW2 row)) (hJ i _ _ hW2 hJi) hp))
  have HR := Lib.hid h
  have HG := Lib.hid hg
  have HQ := Lib.hid g1
  have HW := Lib.hid (And.intro hbw hrow)
  have hll := h.len
  obtain ⟨a, c, rfl⟩ := h.val
  clear n1 b1 h hg hf h0 hJ g1 hrow hbw hne
  rcases firstO_cases (key := key) p l with ⟨hf, hp⟩ | ⟨k, hk, h1, h2, h3⟩
  · rw [hf]
    rw [show idxZ (fstBad p l.length) = -1 from idxZ_none hp] at S1
    have HP := Lib.hid hp
    clear hf hp
    go_enter Tryz.func64, Tryz.ntmps64
    go_wp2_with (go_at_call 51; refine S1.out.mono ?_; rintro e w2 ⟨rfl, hb2, hj2⟩; refine Hid.out ?_)
    refine Lib.hid ?_
    have HB2 := Lib.hid (And.intro (HQ.out.trans hb2) (hj2 HP.out))
    clear hb2 hj2
    go_wp2_with fail
    go_ret2
    exact ⟨rfl, HB2.out.1, fun _ => HB2.out.2⟩
  · rw [h3]
    rw [show idxZ (fstBad p l.length) = (k : Int) from idxZ_some hk h1 h2] at S1
    obtain ⟨x, hx⟩ : ∃ x, l[k] = x := ⟨_, rfl⟩
    rw [hx]
    have HX := Lib.hid hx
    have HN : Hid (¬ ∀ j, j < l.length → p j = true) := Lib.hid (fun hh => by have := hh k hk; rw [h2] at this; cases this)
    clear h1 h2 h3 hx
    go_enter Tryz.func64, Tryz.ntmps64
    go_wp2_with (go_at_call 51; refine S1.out.mono ?_; rintro e w2 ⟨rfl, hb2, hj2⟩; refine Hid.out ?_)
    refine Lib.hid ?_
    have hW2 := Lib.hid (HQ.out.trans hb2)
    have hcall := Lib.hid (HG.out k hk w2 hW2.out)
    obtain ⟨b, o, rfl, hb, hw, h0, h1, h2, h3, h4, h5, h6, h7, h8, h9, h10⟩ := elsR_at (HR.out.mono (below_row HW.out.2 HW.out.1 hW2.out) (Nat.le_refl _)) hk
    rw [HX.out] at hcall
    simp only [HX.out] at h0 h1 h2 h3 h4 h5 h6 h7 h8 h9 h10
    have k1 : (0 : Int) ≤ (k : Int) := by omega
    have k2 : (k : Int) < (l.length : Int) := by omega
    have dk : decide ((k : Int) < 0) = false := decide_eq_false (by omega)
    clear hw hb2 hj2
    go_wp2_with fail
    refine hcall.out.mono ?_
    rintro e w3 ⟨rfl, hb3⟩
    have HB3 := Lib.hid (hW2.out.trans (below_grownBy hb3 row))
    clear hb3
    go_wp2_with fail
    go_ret2
    exact ⟨rfl, HB3.out, fun hh => absurd hh HN.out⟩
set_option maxHeartbeats 1000000 in
theorem fst1Fl (x : Fl) (pc fid : Nat) (caps : Array Value) (b : Bool) (Q : World → Prop) (hc : w.cell? ⟨pc, 0, none⟩ = some (.func (.func fid) #[] caps)) (hl : pc < w.heap.size)
    (hrun : ∀ (args : Array Value) (W : World), (callFunc fid args).run Tryz.prog W = .ok (.enter fid args) W)
    (hcall : ∀ W, Below w.heap.size w W → Calls Tryz.prog fid (#[valFl x] ++ caps) W fun e w' => e = .returned (.bool b) ∧ W.grownBy w' row ∧ Q w') :
    Calls Tryz.prog 111 #[valFl x, .pointer (some ⟨pc, 0, none⟩)] w fun e w' => e = .returned (.bool (!b)) ∧ w.grownBy w' row ∧ Q w' := by
  obtain ⟨w1, p0, hp0, hw1, l1, n1, b1⟩ := box_new w (.cells #[.string x.id, .string x.frm, .string x.into, .string x.cond] 36)
  have c0 : w1.cell? ⟨p0, 0, none⟩ = some (.string x.id) := (cell_of_block n1 0).trans rfl
  have c1 : w1.cell? ⟨p0, 1, none⟩ = some (.string x.frm) := (cell_of_block n1 1).trans rfl
  have c2 : w1.cell? ⟨p0, 2, none⟩ = some (.string x.into) := (cell_of_block n1 2).trans rfl
  have c3 : w1.cell? ⟨p0, 3, none⟩ = some (.string x.cond) := (cell_of_block n1 3).trans rfl
  have cp : w1.cell? ⟨pc, 0, none⟩ = some (.func (.func fid) #[] caps) := (Below.cellB b1 hl).trans hc
  have HC := Lib.hid (hcall w1 b1)
  have HG := Lib.hid (below_grownBy b1 row)
  clear n1 b1 hc hcall
  go_enter Tryz.func111, Tryz.ntmps111
  go_wp2_with fail
  refine HC.out.mono ?_
  rintro e w2 ⟨rfl, hb2, hq2⟩
  have HB2 := Lib.hid (And.intro (HG.out.trans hb2) hq2)
  clear hb2 hq2
  go_wp2_with fail
  go_ret
  exact ⟨rfl, HB2.out⟩
set_option maxHeartbeats 4000000 in
theorem firstFl (hbw : base ≤ w.heap.size) (hrow : ∀ r, row = some r → base ≤ r) (v : Value) (l : List Fl) (h : FlsR w base v l) (gid fid : Nat) (gcaps caps : Array Value) (key : Fl → ByteArray) (J : Nat → World → Prop) (p : Nat → Bool)
    (grun : ∀ (args : Array Value) (W : World), (callFunc gid args).run Tryz.prog W = .ok (.enter gid args) W)
    (hrun : ∀ (args : Array Value) (W : World), (callFunc fid args).run Tryz.prog W = .ok (.enter fid args) W) (h0 : J 0 w) (hJ : ∀ i W W', Below W.heap.size W W' → J i W → J i W') (hne : ∀ r, row = some r → r < w.heap.size)
    (hg : ∀ i (hi : i < l.length) (W : World), w.grownBy W row → Calls Tryz.prog gid (#[valFl l[i]] ++ gcaps) W fun e w' => e = .returned (.string (key l[i])) ∧ Below W.heap.size W w')
    (hf : ∀ i (hi : i < l.length) (W : World), w.grownBy W row → J i W → (∀ j, j < i → p j = true) → Calls Tryz.prog fid (#[valFl l[i]] ++ caps) W fun e w' => e = .returned (.bool (p i)) ∧ W.grownBy w' row ∧ (p i = true → J (i + 1) w')) :
    Calls Tryz.prog 67 #[v, .func (.func gid) #[] gcaps, .func (.func fid) #[] caps] w fun e w' => e = .returned (.tuple #[.string ((firstO key p l).getD ⟨#[]⟩), .bool (firstO key p l).isSome]) ∧ w.grownBy w' row ∧ ((∀ j, j < l.length → p j = true) → J l.length w') := by
  obtain ⟨w1, p0, hp0, hw1, l1, n1, b1⟩ := box_new w (.cells #[.func (.func fid) #[] caps] 65)
  have g1 : w.grownBy w1 row := below_grownBy b1 row
  have hs1 : w.heap.size ≤ w1.heap.size := b1.size
  have S1 := Lib.hid (idxFl (base := base) (w := w1) (row := row) (by omega) hrow v l (h.mono (b1.mono hbw) (Nat.le_refl _)) 111 #[.pointer (some ⟨p0, 0, none⟩)] (fun i W => J i W) p (enters_of Tryz.func111 (by kernel_rfl) rfl) (hJ 0 _ _ b1 h0) (fun i hi W hW hJi hp => by
    have hcell : W.cell? ⟨p0, 0, none⟩ = some (.func (.func fid) #[] caps) := by
      have hne' : some p0 ≠ row := fun e => by have := hne p0 e.symm; omega
      exact (cell_of_block ((hW.block p0 l1 hne').trans n1) 0).trans rfl
    refine fst1Fl (w := W) (row := row) l[i] p0 fid caps (p i) (fun w' => p i = true → J (i + 1) w') hcell (Nat.lt_of_lt_of_le l1 hW.size) hrun (fun W2 hW2 => ?_)
    exact hf i hi W2 ((g1.trans hW).trans (below_grownBy hW2 row)) (hJ i _ _ hW2 hJi) hp))
  have HR := Lib.hid h
  have HG := Lib.hid hg
  have HQ := Lib.hid g1
  have HW := Lib.hid (And.intro hbw hrow)
  have hll := h.len
  obtain ⟨a, c, rfl⟩ := h.val
  clear n1 b1 h hg hf h0 hJ g1 hrow hbw hne
  rcases firstO_cases (key := key) p l with ⟨hf, hp⟩ | ⟨k, hk, h1, h2, h3⟩
  · rw [hf]
    rw [show idxZ (fstBad p l.length) = -1 from idxZ_none hp] at S1
    have HP := Lib.hid hp
    clear hf hp
    go_enter Tryz.func67, Tryz.ntmps67
    go_wp2_with (go_at_call 110; refine S1.out.mono ?_; rintro e w2 ⟨rfl, hb2, hj2⟩; refine Hid.out ?_)
    refine Lib.hid ?_
    have HB2 := Lib.hid (And.intro (HQ.out.trans hb2) (hj2 HP.out))
    clear hb2 hj2
    go_wp2_with fail
    go_ret2
    exact ⟨rfl, HB2.out.1, fun _ => HB2.out.2⟩
  · rw [h3]
    rw [show idxZ (fstBad p l.length) = (k : Int) from idxZ_some hk h1 h2] at S1
    obtain ⟨x, hx⟩ : ∃ x, l[k] = x := ⟨_, rfl⟩
    rw [hx]
    have HX := Lib.hid hx
    have HN : Hid (¬ ∀ j, j < l.length → p j = true) := Lib.hid (fun hh => by have := hh k hk; rw [h2] at this; cases this)
    clear h1 h2 h3 hx
    go_enter Tryz.func67, Tryz.ntmps67
    go_wp2_with (go_at_call 110; refine S1.out.mono ?_; rintro e w2 ⟨rfl, hb2, hj2⟩; refine Hid.out ?_)
    refine Lib.hid ?_
    have hW2 := Lib.hid (HQ.out.trans hb2)
    have hcall := Lib.hid (HG.out k hk w2 hW2.out)
    obtain ⟨b, o, rfl, hb, hw, h0, h1, h2, h3⟩ := flsR_at (HR.out.mono (below_row HW.out.2 HW.out.1 hW2.out) (Nat.le_refl _)) hk
    rw [HX.out] at hcall
    simp only [HX.out] at h0 h1 h2 h3
    have k1 : (0 : Int) ≤ (k : Int) := by omega
    have k2 : (k : Int) < (l.length : Int) := by omega
    have dk : decide ((k : Int) < 0) = false := decide_eq_false (by omega)
    clear hw hb2 hj2
    go_wp2_with fail
    refine hcall.out.mono ?_
    rintro e w3 ⟨rfl, hb3⟩
    have HB3 := Lib.hid (hW2.out.trans (below_grownBy hb3 row))
    clear hb3
    go_wp2_with fail
    go_ret2
    exact ⟨rfl, HB3.out, fun hh => absurd hh HN.out⟩
set_option maxHeartbeats 1000000 in
theorem fst1Bd (x : Bd) (pc fid : Nat) (caps : Array Value) (b : Bool) (Q : World → Prop) (hc : w.cell? ⟨pc, 0, none⟩ = some (.func (.func fid) #[] caps)) (hl : pc < w.heap.size)
    (hrun : ∀ (args : Array Value) (W : World), (callFunc fid args).run Tryz.prog W = .ok (.enter fid args) W)
    (hcall : ∀ W, Below w.heap.size w W → Calls Tryz.prog fid (#[valBd x] ++ caps) W fun e w' => e = .returned (.bool b) ∧ W.grownBy w' row ∧ Q w') :
    Calls Tryz.prog 105 #[valBd x, .pointer (some ⟨pc, 0, none⟩)] w fun e w' => e = .returned (.bool (!b)) ∧ w.grownBy w' row ∧ Q w' := by
  obtain ⟨w1, p0, hp0, hw1, l1, n1, b1⟩ := box_new w (.cells #[.string x.name, .int .u8 x.val.kind, .int .i64 x.val.num, .bool x.val.tr, .string x.val.text] 60)
  have c0 : w1.cell? ⟨p0, 0, none⟩ = some (.string x.name) := (cell_of_block n1 0).trans rfl
  have c1 : w1.cell? ⟨p0, 1, none⟩ = some (.int .u8 x.val.kind) := (cell_of_block n1 1).trans rfl
  have c2 : w1.cell? ⟨p0, 2, none⟩ = some (.int .i64 x.val.num) := (cell_of_block n1 2).trans rfl
  have c3 : w1.cell? ⟨p0, 3, none⟩ = some (.bool x.val.tr) := (cell_of_block n1 3).trans rfl
  have c4 : w1.cell? ⟨p0, 4, none⟩ = some (.string x.val.text) := (cell_of_block n1 4).trans rfl
  have cp : w1.cell? ⟨pc, 0, none⟩ = some (.func (.func fid) #[] caps) := (Below.cellB b1 hl).trans hc
  have HC := Lib.hid (hcall w1 b1)
  have HG := Lib.hid (below_grownBy b1 row)
  clear n1 b1 hc hcall
  go_enter Tryz.func105, Tryz.ntmps105
  go_wp2_with fail
  refine HC.out.mono ?_
  rintro e w2 ⟨rfl, hb2, hq2⟩
  have HB2 := Lib.hid (And.intro (HG.out.trans hb2) hq2)
  clear hb2 hq2
  go_wp2_with fail
  go_ret
  exact ⟨rfl, HB2.out⟩
set_option maxHeartbeats 4000000 in
theorem firstBd (hbw : base ≤ w.heap.size) (hrow : ∀ r, row = some r → base ≤ r) (v : Value) (l : List Bd) (h : BdsR w base v l) (gid fid : Nat) (gcaps caps : Array Value) (key : Bd → ByteArray) (J : Nat → World → Prop) (p : Nat → Bool)
    (grun : ∀ (args : Array Value) (W : World), (callFunc gid args).run Tryz.prog W = .ok (.enter gid args) W)
    (hrun : ∀ (args : Array Value) (W : World), (callFunc fid args).run Tryz.prog W = .ok (.enter fid args) W) (h0 : J 0 w) (hJ : ∀ i W W', Below W.heap.size W W' → J i W → J i W') (hne : ∀ r, row = some r → r < w.heap.size)
    (hg : ∀ i (hi : i < l.length) (W : World), w.grownBy W row → Calls Tryz.prog gid (#[valBd l[i]] ++ gcaps) W fun e w' => e = .returned (.string (key l[i])) ∧ Below W.heap.size W w')
    (hf : ∀ i (hi : i < l.length) (W : World), w.grownBy W row → J i W → (∀ j, j < i → p j = true) → Calls Tryz.prog fid (#[valBd l[i]] ++ caps) W fun e w' => e = .returned (.bool (p i)) ∧ W.grownBy w' row ∧ (p i = true → J (i + 1) w')) :
    Calls Tryz.prog 60 #[v, .func (.func gid) #[] gcaps, .func (.func fid) #[] caps] w fun e w' => e = .returned (.tuple #[.string ((firstO key p l).getD ⟨#[]⟩), .bool (firstO key p l).isSome]) ∧ w.grownBy w' row ∧ ((∀ j, j < l.length → p j = true) → J l.length w') := by
  obtain ⟨w1, p0, hp0, hw1, l1, n1, b1⟩ := box_new w (.cells #[.func (.func fid) #[] caps] 76)
  have g1 : w.grownBy w1 row := below_grownBy b1 row
  have hs1 : w.heap.size ≤ w1.heap.size := b1.size
  have S1 := Lib.hid (idxBd (base := base) (w := w1) (row := row) (by omega) hrow v l (h.mono (b1.mono hbw) (Nat.le_refl _)) 105 #[.pointer (some ⟨p0, 0, none⟩)] (fun i W => J i W) p (enters_of Tryz.func105 (by kernel_rfl) rfl) (hJ 0 _ _ b1 h0) (fun i hi W hW hJi hp => by
    have hcell : W.cell? ⟨p0, 0, none⟩ = some (.func (.func fid) #[] caps) := by
      have hne' : some p0 ≠ row := fun e => by have := hne p0 e.symm; omega
      exact (cell_of_block ((hW.block p0 l1 hne').trans n1) 0).trans rfl
    refine fst1Bd (w := W) (row := row) l[i] p0 fid caps (p i) (fun w' => p i = true → J (i + 1) w') hcell (Nat.lt_of_lt_of_le l1 hW.size) hrun (fun W2 hW2 => ?_)
    exact hf i hi W2 ((g1.trans hW).trans (below_grownBy hW2 row)) (hJ i _ _ hW2 hJi) hp))
  have HR := Lib.hid h
  have HG := Lib.hid hg
  have HQ := Lib.hid g1
  have HW := Lib.hid (And.intro hbw hrow)
  have hll := h.len'
  obtain ⟨a, c, rfl⟩ := h.val
  clear n1 b1 h hg hf h0 hJ g1 hrow hbw hne
  rcases firstO_cases (key := key) p l with ⟨hf, hp⟩ | ⟨k, hk, h1, h2, h3⟩
  · rw [hf]
    rw [show idxZ (fstBad p l.length) = -1 from idxZ_none hp] at S1
    have HP := Lib.hid hp
    clear hf hp
    go_enter Tryz.func60, Tryz.ntmps60
    go_wp2_with (go_at_call 104; refine S1.out.mono ?_; rintro e w2 ⟨rfl, hb2, hj2⟩; refine Hid.out ?_)
    refine Lib.hid ?_
    have HB2 := Lib.hid (And.intro (HQ.out.trans hb2) (hj2 HP.out))
    clear hb2 hj2
    go_wp2_with fail
    go_ret2
    exact ⟨rfl, HB2.out.1, fun _ => HB2.out.2⟩
  · rw [h3]
    rw [show idxZ (fstBad p l.length) = (k : Int) from idxZ_some hk h1 h2] at S1
    obtain ⟨x, hx⟩ : ∃ x, l[k] = x := ⟨_, rfl⟩
    rw [hx]
    have HX := Lib.hid hx
    have HN : Hid (¬ ∀ j, j < l.length → p j = true) := Lib.hid (fun hh => by have := hh k hk; rw [h2] at this; cases this)
    clear h1 h2 h3 hx
    go_enter Tryz.func60, Tryz.ntmps60
    go_wp2_with (go_at_call 104; refine S1.out.mono ?_; rintro e w2 ⟨rfl, hb2, hj2⟩; refine Hid.out ?_)
    refine Lib.hid ?_
    have hW2 := Lib.hid (HQ.out.trans hb2)
    have hcall := Lib.hid (HG.out k hk w2 hW2.out)
    obtain ⟨b, o, rfl, hb, hw, hw2, h0, h1, h2, h3, h4⟩ := BdsR.at (HR.out.mono (below_row HW.out.2 HW.out.1 hW2.out) (Nat.le_refl _)) hk
    rw [HX.out] at hcall
    simp only [HX.out] at h0 h1 h2 h3 h4
    have k1 : (0 : Int) ≤ (k : Int) := by omega
    have k2 : (k : Int) < (l.length : Int) := by omega
    have dk : decide ((k : Int) < 0) = false := decide_eq_false (by omega)
    clear hw hw2 hb2 hj2
    go_wp2_with fail
    refine hcall.out.mono ?_
    rintro e w3 ⟨rfl, hb3⟩
    have HB3 := Lib.hid (hW2.out.trans (below_grownBy hb3 row))
    clear hb3
    go_wp2_with fail
    go_ret2
    exact ⟨rfl, HB3.out, fun hh => absurd hh HN.out⟩
set_option maxHeartbeats 1000000 in
theorem fst1St (x : ByteArray) (pc fid : Nat) (caps : Array Value) (b : Bool) (Q : World → Prop) (hc : w.cell? ⟨pc, 0, none⟩ = some (.func (.func fid) #[] caps)) (_hl : pc < w.heap.size)
    (hrun : ∀ (args : Array Value) (W : World), (callFunc fid args).run Tryz.prog W = .ok (.enter fid args) W)
    (hcall : ∀ W, Below w.heap.size w W → Calls Tryz.prog fid (#[.string x] ++ caps) W fun e w' => e = .returned (.bool b) ∧ W.grownBy w' row ∧ Q w') :
    Calls Tryz.prog 114 #[.string x, .pointer (some ⟨pc, 0, none⟩)] w fun e w' => e = .returned (.bool (!b)) ∧ w.grownBy w' row ∧ Q w' := by
  have HC := Lib.hid (hcall w (Below.refl _ _))
  have HG := Lib.hid (grown_self w row)
  clear hcall
  go_enter Tryz.func114, Tryz.ntmps114
  go_wp2_with fail
  refine HC.out.mono ?_
  rintro e w2 ⟨rfl, hb2, hq2⟩
  have HB2 := Lib.hid (And.intro (HG.out.trans hb2) hq2)
  clear hb2 hq2
  go_wp2_with fail
  go_ret
  exact ⟨rfl, HB2.out⟩
set_option maxHeartbeats 4000000 in
theorem firstSt (hbw : base ≤ w.heap.size) (hrow : ∀ r, row = some r → base ≤ r) (v : Value) (l : List ByteArray) (h : StsR w base v l) (gid fid : Nat) (gcaps caps : Array Value) (key : ByteArray → ByteArray) (J : Nat → World → Prop) (p : Nat → Bool)
    (grun : ∀ (args : Array Value) (W : World), (callFunc gid args).run Tryz.prog W = .ok (.enter gid args) W)
    (hrun : ∀ (args : Array Value) (W : World), (callFunc fid args).run Tryz.prog W = .ok (.enter fid args) W) (h0 : J 0 w) (hJ : ∀ i W W', Below W.heap.size W W' → J i W → J i W') (hne : ∀ r, row = some r → r < w.heap.size)
    (hg : ∀ i (hi : i < l.length) (W : World), w.grownBy W row → Calls Tryz.prog gid (#[.string l[i]] ++ gcaps) W fun e w' => e = .returned (.string (key l[i])) ∧ Below W.heap.size W w')
    (hf : ∀ i (hi : i < l.length) (W : World), w.grownBy W row → J i W → (∀ j, j < i → p j = true) → Calls Tryz.prog fid (#[.string l[i]] ++ caps) W fun e w' => e = .returned (.bool (p i)) ∧ W.grownBy w' row ∧ (p i = true → J (i + 1) w')) :
    Calls Tryz.prog 76 #[v, .func (.func gid) #[] gcaps, .func (.func fid) #[] caps] w fun e w' => e = .returned (.tuple #[.string ((firstO key p l).getD ⟨#[]⟩), .bool (firstO key p l).isSome]) ∧ w.grownBy w' row ∧ ((∀ j, j < l.length → p j = true) → J l.length w') := by
  obtain ⟨w1, p0, hp0, hw1, l1, n1, b1⟩ := box_new w (.cells #[.func (.func fid) #[] caps] 71)
  have g1 : w.grownBy w1 row := below_grownBy b1 row
  have hs1 : w.heap.size ≤ w1.heap.size := b1.size
  have S1 := Lib.hid (idxSt (base := base) (w := w1) (row := row) (by omega) hrow v l (h.mono (b1.mono hbw) (Nat.le_refl _)) 114 #[.pointer (some ⟨p0, 0, none⟩)] (fun i W => J i W) p (enters_of Tryz.func114 (by kernel_rfl) rfl) (hJ 0 _ _ b1 h0) (fun i hi W hW hJi hp => by
    have hcell : W.cell? ⟨p0, 0, none⟩ = some (.func (.func fid) #[] caps) := by
      have hne' : some p0 ≠ row := fun e => by have := hne p0 e.symm; omega
      exact (cell_of_block ((hW.block p0 l1 hne').trans n1) 0).trans rfl
    refine fst1St (w := W) (row := row) l[i] p0 fid caps (p i) (fun w' => p i = true → J (i + 1) w') hcell (Nat.lt_of_lt_of_le l1 hW.size) hrun (fun W2 hW2 => ?_)
    exact hf i hi W2 ((g1.trans hW).trans (below_grownBy hW2 row)) (hJ i _ _ hW2 hJi) hp))
  have HR := Lib.hid h
  have HG := Lib.hid hg
  have HQ := Lib.hid g1
  have HW := Lib.hid (And.intro hbw hrow)
  have hll := h.len
  obtain ⟨a, c, rfl⟩ := h.val
  clear n1 b1 h hg hf h0 hJ g1 hrow hbw hne
  rcases firstO_cases (key := key) p l with ⟨hf, hp⟩ | ⟨k, hk, h1, h2, h3⟩
  · rw [hf]
    rw [show idxZ (fstBad p l.length) = -1 from idxZ_none hp] at S1
    have HP := Lib.hid hp
    clear hf hp
    go_enter Tryz.func76, Tryz.ntmps76
    go_wp2_with (go_at_call 113; refine S1.out.mono ?_; rintro e w2 ⟨rfl, hb2, hj2⟩; refine Hid.out ?_)
    refine Lib.hid ?_
    have HB2 := Lib.hid (And.intro (HQ.out.trans hb2) (hj2 HP.out))
    clear hb2 hj2
    go_wp2_with fail
    go_ret2
    exact ⟨rfl, HB2.out.1, fun _ => HB2.out.2⟩
  · rw [h3]
    rw [show idxZ (fstBad p l.length) = (k : Int) from idxZ_some hk h1 h2] at S1
    obtain ⟨x, hx⟩ : ∃ x, l[k] = x := ⟨_, rfl⟩
    rw [hx]
    have HX := Lib.hid hx
    have HN : Hid (¬ ∀ j, j < l.length → p j = true) := Lib.hid (fun hh => by have := hh k hk; rw [h2] at this; cases this)
    clear h1 h2 h3 hx
    go_enter Tryz.func76, Tryz.ntmps76
    go_wp2_with (go_at_call 113; refine S1.out.mono ?_; rintro e w2 ⟨rfl, hb2, hj2⟩; refine Hid.out ?_)
    refine Lib.hid ?_
    have hW2 := Lib.hid (HQ.out.trans hb2)
    have hcall := Lib.hid (HG.out k hk w2 hW2.out)
    obtain ⟨b, o, rfl, hb, hw, h0⟩ := stsR_at (HR.out.mono (below_row HW.out.2 HW.out.1 hW2.out) (Nat.le_refl _)) hk
    rw [HX.out] at hcall
    simp only [HX.out] at h0
    have k1 : (0 : Int) ≤ (k : Int) := by omega
    have k2 : (k : Int) < (l.length : Int) := by omega
    have dk : decide ((k : Int) < 0) = false := decide_eq_false (by omega)
    clear hw hb2 hj2
    go_wp2_with fail
    refine hcall.out.mono ?_
    rintro e w3 ⟨rfl, hb3⟩
    have HB3 := Lib.hid (hW2.out.trans (below_grownBy hb3 row))
    clear hb3
    go_wp2_with fail
    go_ret2
    exact ⟨rfl, HB3.out, fun hh => absurd hh HN.out⟩
end
end Go.Proofs.YtjcaaahbfkjipaaGreatDoor
