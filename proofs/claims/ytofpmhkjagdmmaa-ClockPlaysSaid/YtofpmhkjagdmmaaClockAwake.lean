/- The example (awake): New, four Sets, two Ticks. -/
import Derived.Test.YtofpmhkjagdmmaaClockTick
import Derived.Laws.Strings
set_option maxRecDepth 100000
namespace Go.Proofs.Ytofpmhkjagdmmaa
open Go.RowKit

theorem Kept.toBelow {w w' : World} {base p B : Nat} {now many : Int} {v v' : Value} {l l' : List Ent} (h : Kept w w' base p now v v' l' many) (hr : Row w base v l) (hp : B ≤ p) (hb : B ≤ base) (hB : B ≤ w.heap.size) : Below B w w' := by
  refine h.frm.toBelow hB (fun r hr' k e => ?_)
  rcases (show r = some p ∨ r = v.ownBlock by simpa using hr') with rfl | rfl
  · injection e with e; omega
  · rcases hr.own with ⟨rfl, _⟩ | ⟨g, cap, rfl, hg, _⟩
    · cases e
    · simp only [Value.ownBlock, Option.some.injEq] at e; omega

theorem set_new (w : World) (base p : Nat) (now many : Int) (v : Value) (l : List Ent) (a : Al) (hc : Clk w p now v many) (hr : Row w base v l) (hbase : base ≤ w.heap.size) (hl : l.length ≤ 1048575) (hm0 : 0 ≤ many) (hm1 : many ≤ 1048576) (ho : okA now a = true) (hh : hasA l a = false) :
    Calls Try.prog 9 #[.pointer (some ⟨p, 0, none⟩), valA a] w fun r w' => r = .returned (.int .i64 0) ∧ ∃ v', Kept w w' base p now v v' (pushE ltEnt l ⟨a, many + 1⟩) (many + 1) :=
  (set_ok w base p now many v l a hc hr hbase hl hm0 hm1 ho).mono fun r w' h => by
    rcases h with ⟨h, _⟩ | ⟨_, h1, h2⟩
    · rw [hh] at h; cases h
    · exact ⟨h1, h2⟩
theorem set_twice (w : World) (base p : Nat) (now many : Int) (v : Value) (l : List Ent) (a : Al) (hc : Clk w p now v many) (hr : Row w base v l) (hbase : base ≤ w.heap.size) (hl : l.length ≤ 1048575) (hm0 : 0 ≤ many) (hm1 : many ≤ 1048576) (ho : okA now a = true) (hh : hasA l a = true) :
    Calls Try.prog 9 #[.pointer (some ⟨p, 0, none⟩), valA a] w fun r w' => r = .returned (.int .i64 6) ∧ Below w.heap.size w w' :=
  (set_ok w base p now many v l a hc hr hbase hl hm0 hm1 ho).mono fun r w' h => by
    rcases h with ⟨_, h1, h2⟩ | ⟨h, _⟩
    · exact ⟨h1, h2⟩
    · rw [hh] at h; cases h
theorem new_ok (w : World) (now : Int) (h0 : 0 ≤ now) (h1 : now ≤ 1099511627776) : Calls Try.prog 8 #[.int .i64 now] w fun r w' => ∃ p, r = .returned (.tuple #[.pointer (some ⟨p, 0, none⟩), .int .i64 0]) ∧ w.heap.size ≤ p ∧ Clk w' p now (.slice none 0 0) 0 ∧ Below w.heap.size w w' :=
  (new_any w now).mono fun r w' h => by
    rcases h with ⟨h, _⟩ | ⟨_, h⟩
    · omega
    · exact h
theorem row_nil (w : World) (base : Nat) : Row w base (.slice none 0 0) [] := World.ownsRow_nil _ _ _ _

abbrev va : ByteArray := ⟨#[97]⟩
abbrev vb : ByteArray := ⟨#[98]⟩
def E1 : Ent := ⟨⟨5, 1, va, 0⟩, 1⟩
def E2 : Ent := ⟨⟨3, 2, vb, 0⟩, 2⟩
def E3 : Ent := ⟨⟨5, 1, vb, 0⟩, 3⟩
theorem aw1 : pushE ltEnt [] E1 = [E1] := by rfl
theorem aw2 : pushE ltEnt [E1] E2 = [E2, E1] := by rfl
theorem aw3 : pushE ltEnt [E2, E1] E3 = [E2, E1, E3] := by rfl
theorem aw4 : tickE [E2, E1, E3] 3 = ([E2], [E1, E3]) := by rfl
theorem aw5 : tickE [E1, E3] 5 = ([E1, E3], []) := by rfl
theorem ab_ne : (va.toList == vb.toList) = false := by
  rw [ByteArray.toList_eq, ByteArray.toList_eq]; rfl
theorem bb_eq : (vb.toList == vb.toList) = true := by simp
theorem ah1 : hasA [] E1.al = false := by rfl
theorem ah2 : hasA [E1] E2.al = false := by rfl
theorem ah3 : hasA [E2, E1] E3.al = false := by
  show ((((2 : Int) == 1) && (vb.toList == vb.toList)) || ((((1 : Int) == 1) && (va.toList == vb.toList)) || false)) = false
  rw [ab_ne]; rfl
theorem ah4 : hasA [E2, E1, E3] E3.al = true := by
  show ((((2 : Int) == 1) && (vb.toList == vb.toList)) || ((((1 : Int) == 1) && (va.toList == vb.toList)) || ((((1 : Int) == 1) && (vb.toList == vb.toList)) || false))) = true
  rw [ab_ne, bb_eq]; rfl

set_option maxHeartbeats 8000000 in
theorem awake_any (w : World) : Calls Try.prog 7 #[] w fun r w' => r = .returned (.bool true) ∧ Below w.heap.size w w' := by
  have N0 := Lib.hid (new_ok w 0 (by omega) (by omega))
  go_enter Try.func7, Try.ntmps7
  go_wp2_with (go_at_call 8; refine N0.out.mono ?_; rintro e w1 ⟨p, rfl, hp, hc1, hb1⟩; refine Hid.out ?_)
  refine Lib.hid ?_
  have z1 := hb1.size
  have hp1 := lt_of_block hc1
  have S1 := Lib.hid (set_new w1 w.heap.size p 0 0 _ [] E1.al hc1 (row_nil _ _) z1 (by simp) (by omega) (by omega) (by rfl) ah1)
  have tok1 : True := trivial
  go_wp2_with (go_at_call 9; have _t := tok1; refine S1.out.mono ?_; rintro e w2 ⟨rfl, v2, hk2⟩; refine Hid.out ?_)
  refine Lib.hid ?_
  have B2 := hb1.trans (hk2.toBelow (row_nil _ _) hp (Nat.le_refl _) z1)
  have z2 := B2.size
  have hk2 : Kept w1 w2 w.heap.size p 0 _ v2 [E1] 1 := hk2
  have S2 := Lib.hid (set_new w2 w.heap.size p 0 1 _ _ E2.al hk2.clk hk2.row z2 (by simp) (by omega) (by omega) (by rfl) ah2)
  clear tok1 S1
  have tok2 : True := trivial
  go_wp2_with (go_at_call 9; have _t := tok2; refine S2.out.mono ?_; rintro e w3 ⟨rfl, v3, hk3⟩; refine Hid.out ?_)
  refine Lib.hid ?_
  have B3 := B2.trans (hk3.toBelow hk2.row hp (Nat.le_refl _) z2)
  have z3 := B3.size
  have hk3 : Kept w2 w3 w.heap.size p 0 _ v3 [E2, E1] 2 := hk3
  have S3 := Lib.hid (set_new w3 w.heap.size p 0 2 _ _ E3.al hk3.clk hk3.row z3 (by simp) (by omega) (by omega) (by rfl) ah3)
  clear tok2 S2
  have tok3 : True := trivial
  go_wp2_with (go_at_call 9; have _t := tok3; refine S3.out.mono ?_; rintro e w4 ⟨rfl, v4, hk4⟩; refine Hid.out ?_)
  refine Lib.hid ?_
  have B4 := B3.trans (hk4.toBelow hk3.row hp (Nat.le_refl _) z3)
  have z4 := B4.size
  have hk4 : Kept w3 w4 w.heap.size p 0 _ v4 [E2, E1, E3] 3 := hk4
  have S4 := Lib.hid (set_twice w4 w.heap.size p 0 3 _ _ E3.al hk4.clk hk4.row z4 (by simp) (by omega) (by omega) (by rfl) ah4)
  clear tok3 S3
  have tok4 : True := trivial
  go_wp2_with (go_at_call 9; have _t := tok4; refine S4.out.mono ?_; rintro e w5 ⟨rfl, hb5⟩; refine Hid.out ?_)
  refine Lib.hid ?_
  clear tok4 S4
  have B5 := B4.trans (hb5.mono z4)
  have z5 := B5.size
  have hc5 := hk4.clk.below hb5 (Nat.le_refl _)
  have hr5 := hk4.row.kept hb5 (Nat.le_refl _)
  have T1 := Lib.hid (tick_any w5 w.heap.size p 0 3 3 v4 _ hc5 hr5 z5 (by simp) (by omega) (by unfold badT; omega))
  have tok5 : True := trivial
  go_wp2_with (go_at_call 11; have _t := tok5; refine T1.out.mono ?_; rintro e w6 ⟨x6, v6, rfl, ha6, hk6⟩; refine Hid.out ?_)
  refine Lib.hid ?_
  clear tok5 T1
  have ha6 : Als w6 w5.heap.size x6 [E2.al] := ha6
  have hk6 : Kept w5 w6 w.heap.size p 3 v4 v6 [E1, E3] 3 := hk6
  have B6 := B5.trans (hk6.toBelow hr5 hp (Nat.le_refl _) z5)
  have z6 := B6.size
  have T2 := Lib.hid (tick_any w6 w.heap.size p 3 3 2 v6 _ hk6.clk hk6.row z6 (by simp) (by omega) (by unfold badT; omega))
  have tok6 : True := trivial
  go_wp2_with (go_at_call 11; have _t := tok6; refine T2.out.mono ?_; rintro e w7 ⟨x7, v7, rfl, ha7, hk7⟩; refine Hid.out ?_)
  refine Lib.hid ?_
  clear tok6 T2
  have ha7 : Als w7 w6.heap.size x7 [E1.al, E3.al] := ha7
  have hk7 : Kept w6 w7 w.heap.size p 5 v6 v7 [] 3 := hk7
  have B7 := B6.trans (hk7.toBelow hk6.row hp (Nat.le_refl _) z6)
  have ha67 : Als w7 w5.heap.size x6 [E2.al] := own_frm ha6 hk7.frm (fun r hr => by
    rcases (show r = some p ∨ r = v6.ownBlock by simpa using hr) with rfl | rfl
    · exact Or.inr (Ne.symm (own_blk ha6 hk6.clk (by decide)))
    · exact own_row ha6 hk6.row (by decide))
  rcases ha67.val with ⟨_, h0⟩ | ⟨g6, c6, rfl, -, -⟩
  · cases h0
  rcases ha7.val with ⟨_, h0⟩ | ⟨g7, c7, rfl, -, -⟩
  · cases h0
  have r6 : w7.cell? ⟨g6, 1, none⟩ = some (.int .i64 2) := ha67.at cellA_len (i := 0) (j := 1) (by simp) (by omega)
  have r7 : w7.cell? ⟨g7, 2, none⟩ = some (.string va) := ha7.at cellA_len (i := 0) (j := 2) (by simp) (by omega)
  have r8 : w7.cell? ⟨g7, 6, none⟩ = some (.string vb) := ha7.at cellA_len (i := 1) (j := 2) (by simp) (by omega)
  rcases hk7.row.own with ⟨rfl, _⟩ | ⟨g9, c9, rfl, _⟩
  · have L1 := Lib.hid (clen_any w7 p 5 3 _ _ _ hk7.clk)
    have M1 := Lib.hid (now_any w7 p 5 3 _ hk7.clk)
    clear ha6 ha7 ha67 hk7 hk6 hc5 hr5 hk4 hk3 hk2 hc1
    go_wp2_with (first | (go_at_call 14; refine L1.out.mono ?_; rintro e w8 ⟨rfl, rfl⟩) | (go_at_call 13; refine M1.out.mono ?_; rintro e w8 ⟨rfl, rfl⟩))
    go_ret
    exact ⟨rfl, B7⟩
  · have L1 := Lib.hid (clen_any w7 p 5 3 _ _ _ hk7.clk)
    have M1 := Lib.hid (now_any w7 p 5 3 _ hk7.clk)
    clear ha6 ha7 ha67 hk7 hk6 hc5 hr5 hk4 hk3 hk2 hc1
    go_wp2_with (first | (go_at_call 14; refine L1.out.mono ?_; rintro e w8 ⟨rfl, rfl⟩) | (go_at_call 13; refine M1.out.mono ?_; rintro e w8 ⟨rfl, rfl⟩))
    go_ret
    exact ⟨rfl, B7⟩

end Go.Proofs.Ytofpmhkjagdmmaa
