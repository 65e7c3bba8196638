/- slices.DeleteFunc over a clock's entries; clock.Drop. -/
import Derived.Test.YtofpmhkjagdmmaaClockTwo
set_option maxRecDepth 100000
namespace Go.Proofs.Ytofpmhkjagdmmaa
open Go.RowKit

theorem own_cut {w : World} {base : Nat} {e : TypeId} {size g n cap : Nat} {xs : List Value} (h : w.ownsRow base e size (.slice (some ⟨g, 0, none⟩) n cap) n xs) {k : Nat} (hk : k ≤ n) : w.ownsRow base e size (.slice (some ⟨g, 0, none⟩) k cap) k (xs.take (k * size)) := by
  have hks : k * size ≤ n * size := Nat.mul_le_mul_right _ hk
  refine ⟨by rw [List.length_take, h.1, Nat.min_eq_left hks], ?_⟩
  rcases h.2 with ⟨h0, _⟩ | ⟨g', cap', cur, hv, hb, hg, hc, hm, hs, ht⟩
  · cases h0
  · cases hv
    refine Or.inr ⟨g, cap, cur, rfl, hb, hg, by omega, hm, hs, ?_⟩
    rw [← ht, List.take_take, Nat.min_eq_left hks]
theorem take_setsL : ∀ (vs : List Value) (s : Nat) (xs : List Value), s + vs.length ≤ xs.length → (setsL xs s vs).take s = xs.take s := by
  intro vs s xs h
  refine List.ext_getElem? fun t => ?_
  rw [List.getElem?_take, List.getElem?_take]
  by_cases ht : t < s
  · rw [if_pos ht, if_pos ht, get_setsL vs s xs t h, if_neg (by omega)]
  · rw [if_neg ht, if_neg ht]

abbrev zEnt : List Value := [.int .i64 0, .int .i64 0, .string default, .int .i64 0, .int .i64 0]
theorem zero_ent (w : World) : (zeroValue 67).run Try.prog w = .ok (.agg #[.int .i64 0, .int .i64 0, .string default, .int .i64 0, .int .i64 0]) w := by kernel_rfl
theorem zeros_len (n : Nat) : (Builtin.zeroCells #[Value.int .i64 0, .int .i64 0, .string default, .int .i64 0, .int .i64 0] n).toList.length = n * 5 := by
  rw [Array.length_toList, size_zeroCells]; rfl
theorem zeros_one (n : Nat) : ∀ u ∈ (Builtin.zeroCells #[Value.int .i64 0, .int .i64 0, .string default, .int .i64 0, .int .i64 0] n).toList, u.oneCell' = true := by
  intro u hu
  simp only [Builtin.zeroCells, Array.toList_map, List.mem_map] at hu
  obtain ⟨q, _, rfl⟩ := hu
  have : q % 5 = 0 ∨ q % 5 = 1 ∨ q % 5 = 2 ∨ q % 5 = 3 ∨ q % 5 = 4 := by omega
  rcases this with h | h | h | h | h <;> simp [h, Value.oneCell']

/-- clear(s[i:]) -/
theorem run_clear_row {w : World} {base g cap : Nat} {M : List Ent} (h : Row w base (.slice (some ⟨g, 0, none⟩) M.length cap) M) {i : Nat} (hi : i < M.length) (ty : TypeId) (c : Nat) :
    ∃ w', (Builtin.clear_ #[62] ty #[.slice (some ⟨g, i * 5, none⟩) (M.length - i) c]).run Try.prog w = .ok (.tuple #[]) w' ∧ Row w' base (.slice (some ⟨g, 0, none⟩) i cap) (M.take i) ∧ w.grownBy w' (some g) := by
  obtain ⟨zs, hzs⟩ : ∃ zs, (Builtin.zeroCells #[Value.int .i64 0, .int .i64 0, .string default, .int .i64 0, .int .i64 0] (M.length - i)).toList = zs := ⟨_, rfl⟩
  have hlen := zeros_len (M.length - i)
  have hone := zeros_one (M.length - i)
  rw [hzs] at hlen hone
  obtain ⟨h1, h2⟩ := stored_many zs (i * 5) w _ h
  have hle : i * 5 + zs.length ≤ (cellsE M).length := by rw [hlen, cellsE_len]; omega
  have hst := run_storeCells_cells (P := Try.prog) g (i * 5) zs 0 w (fun q hq => by
      rw [Nat.add_zero, World.ownsRow.cellAt h _ (by rw [cellsE_len] at hle; omega), List.getElem?_eq_getElem (by omega)]; rfl)
    (fun q hq => by rw [Nat.add_zero]; exact World.ownsRow.frozenAt h _) hone
  rw [Nat.add_zero] at hst
  refine ⟨_, ?_, ?_, h2⟩
  · obtain ⟨q, hq⟩ : ∃ q, M.length - i = q + 1 := ⟨M.length - i - 1, by omega⟩
    rw [hq] at hzs ⊢
    simp [Builtin.clear_, run_underlying Try.underlying62, Result.andThen]
    have hz2 : (Builtin.zeroCells (Value.agg #[Value.int .i64 0, .int .i64 0, .string ⟨#[]⟩, .int .i64 0, .int .i64 0]).cells (q + 1)).toList = zs := hzs
    rw [hz2, hst]
  · have h3 := own_cut h1 (k := i) (by omega)
    have hlt : (M.take i).length = i := by rw [List.length_take, Nat.min_eq_left (by omega)]
    rw [take_setsL zs (i * 5) _ hle, ← cellsE_take] at h3
    unfold Row
    rw [hlt]; exact h3

theorem eg29 : ∀ args (w : World), (callFunc 29 args).run Try.prog w = .ok (.enter 29 args) w := enters_of Try.func29 (by kernel_rfl) rfl

def keepB (t : Int) (e : Ent) : Bool := !(e.al.token == t)
/-- What DeleteFunc leaves. -/
def DelOk (w : World) (base : Nat) (v : Value) (l : List Ent) (t : Int) (r : Ending) (w' : World) : Prop :=
  ∃ v', r = .returned v' ∧ Row w' base v' (l.filter (keepB t)) ∧ Frm [v.ownBlock] w w' ∧ v'.ownBlock = v.ownBlock

theorem take_drop_set {M l : List Ent} {i j : Nat} {t : Int} (hM : M.length = l.length) (hij : i < j) (hj : j < l.length) (h1 : M.take i = (l.take j).filter (keepB t)) (h2 : M.drop j = l.drop j) (hk : keepB t l[j] = true) :
    (M.set i l[j]).take (i + 1) = (l.take (j + 1)).filter (keepB t) ∧ (M.set i l[j]).drop (j + 1) = l.drop (j + 1) := by
  constructor
  · rw [List.take_succ_eq_append_getElem hj, List.filter_append, ← h1]
    rw [List.take_succ_eq_append_getElem (by rw [List.length_set]; omega), List.getElem_set_self, List.take_set_of_le (Nat.le_refl _)]
    simp [hk]
  · rw [List.drop_set_of_lt (by omega)]
    have := congrArg (List.drop 1) h2
    rwa [List.drop_drop, List.drop_drop] at this
theorem skip_take {l : List Ent} {j : Nat} {t : Int} (hj : j < l.length) (hk : keepB t l[j] = false) : (l.take (j + 1)).filter (keepB t) = (l.take j).filter (keepB t) := by
  rw [List.take_succ_eq_append_getElem hj, List.filter_append]
  simp [hk]

set_option maxHeartbeats 8000000 in
theorem del_any (w : World) (base : Nat) (v : Value) (l : List Ent) (t : Int) (b : Nat) (hr : Row w base v l) (hl : l.length ≤ 1048576) (hb : w.heap[b]? = some (.cells #[.int .i64 t] 3)) :
    Calls Try.prog 28 #[v, .func (.func 29) #[] #[.pointer (some ⟨b, 0, none⟩)]] w (DelOk w base v l t) := by
  obtain ⟨a, cap, rfl⟩ := hr.shape
  have fin : ∀ v' w', Row w' base v' (l.filter (keepB t)) → Frm [(Value.slice a l.length cap).ownBlock] w w' → v'.ownBlock = (Value.slice a l.length cap).ownBlock → DelOk w base (.slice a l.length cap) l t (.returned v') w' := fun v' w' h1 h2 h3 => ⟨v', rfl, h1, h2, h3⟩
  have FIN := Lib.hid fin
  have hbl := lt_of_block hb
  have hP : PredE 29 #[.pointer (some ⟨b, 0, none⟩)] (fun e => e.al.token == t) w := fun W x hW => drop1_any W b t ((hW.block _ hbl).trans hb) x
  have I1 := Lib.hid (index_any w base _ l hr hl _ _ _ eg29 hP)
  have HB := Lib.hid hb
  clear fin hP hb
  go_enter Try.func28, Try.ntmps28
  go_wp2_with (go_at_call 34; refine I1.out.mono ?_; rintro e w1 ⟨⟨rfl, h1⟩ | ⟨k, h1, rfl, h2, h3⟩, hb1⟩; (all_goals refine Hid.out ?_))
  · refine Lib.hid ?_
    have H1 := Lib.hid h1
    clear h1
    go_wp2_with fail
    go_ret
    refine FIN.out _ _ ?_ (Frm.ofBelow hb1) rfl
    rw [List.filter_eq_self.2 (fun x hx => by simp [keepB, H1.out x hx])]
    exact hr.kept hb1 (Nat.le_refl _)
  · refine Lib.hid ?_
    rcases hr.own with ⟨_, hx⟩ | ⟨g, cap', hv, hbg, hg⟩
    · rw [hx] at h1; simp at h1
    cases hv
    have HM0 : Hid ((l.take k) = (l.take (k + 1)).filter (keepB t) ∧ l.drop (k + 1) = l.drop (k + 1)) := Lib.hid (by
      have e1 : (l.take k).filter (keepB t) = l.take k := List.filter_eq_self.2 (fun x hx => by
        obtain ⟨i, hi, rfl⟩ := List.getElem_of_mem hx
        rw [List.length_take] at hi
        rw [List.getElem_take]
        have := h3 i (by omega)
        rw [atL_eq (by omega)] at this
        simp [keepB, this])
      refine ⟨?_, rfl⟩
      rw [skip_take h1 (by rw [atL_eq h1] at h2; simp [keepB, h2]), e1])
    have hr1 := hr.kept hb1 (Nat.le_refl _)
    have hf1 : Frm [some g] w w1 := Frm.ofBelow hb1
    have hbx := (hb1.block _ hbl).trans HB.out
    have hgb : g ≠ b := by
      obtain ⟨_, _, _, _, _, cur, hgc⟩ := hr.block
      exact type_ne hgc HB.out (by decide)
    have hcap := hr.block.2.2.2.1
    have dk : ((k : Int) == -1) = false := by rw [beq_eq_false_iff_ne]; omega
    obtain ⟨n, hn⟩ : ∃ n, l.length = n := ⟨_, rfl⟩
    rw [hn] at hr1 h1 hl hcap
    rw [hn]
    have HN := Lib.hid hn
    have HR1 := Lib.hid hr1
    have HF1 := Lib.hid hf1
    have HBX := Lib.hid hbx
    clear h2 h3 hr hn hr1 hf1 hbx I1
    go_wp2_with fail
    go_loopg [5, 6] (n - (k + 1)) (fun gh s5 s6 wx => ∃ (i j : Nat) (M : List Ent), j + gh = n ∧ i < j ∧ s5 = .int .i64 (i : Int) ∧ s6 = .int .i64 (j : Int) ∧ Hid (M.length = n) ∧ Hid (M.take i = (l.take j).filter (keepB t) ∧ M.drop j = l.drop j) ∧ Hid (Row wx base (.slice (some ⟨g, 0, none⟩) n cap) M) ∧ Hid (Frm [some g] w wx) ∧ Hid (wx.heap[b]? = some (.cells #[.int .i64 t] 3)))
    case atStart => exact ⟨k, k + 1, l, by omega, by omega, rfl, by first | rfl | go_num, HN, Lib.hid ⟨HM0.out.1, rfl⟩, HR1, HF1, HBX⟩
    case round =>
      obtain ⟨i, j, M, hjg, hij, rfl, rfl, hM, hMM, hR, hF, hbx⟩ := hrel
      by_cases hj : j < n
      · have hRM : Row wr base (.slice (some ⟨g, 0, none⟩) M.length cap) M := by rw [hM.out]; exact hR.out
        obtain ⟨a0, a1, a2, a3, a4⟩ := hRM.at (i := j) (by rw [hM.out]; exact hj)
        have hjl : j < l.length := by rw [HN.out]; exact hj
        have hxj : atL M j = l[j] := by
          have h := congrArg (fun q => q[0]?) hMM.out.2
          simp only [List.getElem?_drop, Nat.add_zero] at h
          rw [List.getElem?_eq_getElem (by rw [hM.out]; exact hj), List.getElem?_eq_getElem hjl] at h
          rw [atL_eq (by rw [hM.out]; exact hj)]
          exact Option.some.inj h
        obtain ⟨x, hx⟩ : ∃ x, l[j] = x := ⟨_, rfl⟩
        rw [hxj, hx] at a0 a1 a2 a3 a4
        have hw4b := (Below.refl wr.heap.size wr).alloc (Nat.le_refl _) (.cells #[.int .i64 x.al.due, .int .i64 x.al.token, .string x.al.via, .int .i64 x.al.inst, .int .i64 x.n] 67)
        have hw4n := heap_alloc_new wr (.cells #[.int .i64 x.al.due, .int .i64 x.al.token, .string x.al.via, .int .i64 x.al.inst, .int .i64 x.n] 67)
        have hw4s : (wr.alloc (.cells #[.int .i64 x.al.due, .int .i64 x.al.token, .string x.al.via, .int .i64 x.al.inst, .int .i64 x.n] 67)).heap.size = wr.heap.size + 1 := World.size_alloc _ _
        obtain ⟨w4, hw4⟩ : ∃ w4, wr.alloc (.cells #[.int .i64 x.al.due, .int .i64 x.al.token, .string x.al.via, .int .i64 x.al.inst, .int .i64 x.n] 67) = w4 := ⟨_, rfl⟩
        rw [hw4] at hw4b hw4n hw4s
        obtain ⟨b0, b1, b2, b3, b4⟩ := box5 hw4n
        have D1 := Lib.hid (drop1_any w4 b t ((hw4b.block _ (lt_of_block hbx.out)).trans hbx.out) x)
        have hs34 : wr.heap.size < w4.heap.size := by omega
        have HX := Lib.hid hx
        have HW4 := Lib.hid hw4b
        have HW4N := Lib.hid hw4n
        have hj2 : decide (j < n) = true := decide_eq_true hj
        clear hxj hx hw4b hw4n hw4s
        cases hk : (x.al.token == t) with
        | true =>
          rw [hk] at D1
          have HK : Hid (keepB t x = false) := Lib.hid (by simp [keepB, hk])
          clear hk
          go_wp2_with (go_at_call 29; refine D1.out.mono ?_; rintro e w7 ⟨rfl, hb7⟩)
          have h47 := HW4.out.trans (hb7.mono HW4.out.size)
          go_roundg (n - (j + 1))
          case measure => omega
          case rel => exact ⟨i, j + 1, M, by omega, by omega, rfl, by go_num, hM, Lib.hid ⟨by rw [skip_take hjl (by rw [HX.out]; exact HK.out)]; exact hMM.out.1, by have := congrArg (List.drop 1) hMM.out.2; rwa [List.drop_drop, List.drop_drop] at this⟩, Lib.hid (hR.out.kept h47 (Nat.le_refl _)), Lib.hid (hF.out.below h47), Lib.hid ((h47.block _ (lt_of_block hbx.out)).trans hbx.out)⟩
        | false =>
          rw [hk] at D1
          have HK : Hid (keepB t x = true) := Lib.hid (by simp [keepB, hk])
          clear hk
          go_wp2_with (go_at_call 29; refine D1.out.mono ?_; rintro e w7 ⟨rfl, hb7⟩; refine Hid.out ?_)
          refine Lib.hid ?_
          have h47 := HW4.out.trans (hb7.mono HW4.out.size)
          have hR7 := hRM.kept h47 (Nat.le_refl _)
          obtain ⟨m0, m1, m2, m3, m4⟩ := hR7.at (i := i) (by rw [hM.out]; omega)
          obtain ⟨_, _, _, _, _, cur, hgc⟩ := hR7.block
          have f0 := free_of_block hgc (i * 5)
          have f1 := free_of_block hgc (i * 5 + 1)
          have f2 := free_of_block hgc (i * 5 + 2)
          have f3 := free_of_block hgc (i * 5 + 3)
          have f4 := free_of_block hgc (i * 5 + 4)
          have hn7 := (hb7.block _ hs34).trans HW4N.out
          obtain ⟨n0, n1, n2, n3, n4⟩ := box5 hn7
          have hset := hR7.set (i := i) (by rw [hM.out]; omega) x
          have HSET := Lib.hid hset
          have h47h := Lib.hid h47
          clear a0 a1 a2 a3 a4 b0 b1 b2 b3 b4 hgc hset h47
          go_wp2_with fail
          have hMM2 := take_drop_set (t := t) (by rw [hM.out, HN.out]) hij hjl hMM.out.1 hMM.out.2 (by rw [HX.out]; exact HK.out)
          rw [HX.out] at hMM2
          have hrow : Row (w7.setCells g (i * 5) (cellE x)) base (.slice (some ⟨g, 0, none⟩) n cap) (M.set i x) := by
            have := HSET.out.1
            rwa [hM.out] at this
          have hbox : (w7.setCells g (i * 5) (cellE x)).heap[b]? = some (.cells #[.int .i64 t] 3) := (HSET.out.2.block _ (Nat.lt_of_lt_of_le (lt_of_block hbx.out) h47h.out.size) (by simp; exact fun e => hgb e.symm)).trans ((h47h.out.block _ (lt_of_block hbx.out)).trans hbx.out)
          go_roundg (n - (j + 1))
          case measure => omega
          case rel => exact ⟨i + 1, j + 1, M.set i x, by omega, by omega, by go_num, by go_num, Lib.hid ((List.length_set ..).trans hM.out), Lib.hid hMM2, Lib.hid hrow, Lib.hid ((hF.out.below h47h.out).grown HSET.out.2 (by simp)), Lib.hid hbox⟩
      · obtain rfl : j = n := by omega
        have hRM : Row wr base (.slice (some ⟨g, 0, none⟩) M.length cap) M := by rw [hM.out]; exact hR.out
        have hj2 : decide (j < j) = false := decide_eq_false (by omega)
        obtain ⟨w8, hcl, hr8, hg8⟩ := run_clear_row hRM (i := i) (by rw [hM.out]; omega) 0 (cap - i)
        rw [hM.out] at hcl
        have hic : i ≤ cap := by omega
        have hij2 : (i : Int) ≤ (j : Int) := by omega
        have hin : i ≤ j := by omega
        go_wp2_with fail
        go_ret
        refine FIN.out _ _ ?_ (hF.out.grown hg8 (by simp)) rfl
        rw [← List.take_length (l := l), HN.out, ← hMM.out.1]
        have hli : (M.take i).length = i := by rw [List.length_take, hM.out, Nat.min_eq_left hin]
        exact hr8

/-- clock.Drop -/
def DropOk (w : World) (base p : Nat) (now many : Int) (v : Value) (l : List Ent) (t : Int) (r : Ending) (w' : World) : Prop :=
  r = .returned (.int .i64 ((l.length : Int) - ((l.filter (keepB t)).length : Int))) ∧ ∃ v', Kept w w' base p now v v' (initE ltEnt (l.filter (keepB t))) many

set_option maxHeartbeats 4000000 in
theorem drop_any (w : World) (base p : Nat) (now many : Int) (v : Value) (l : List Ent) (t : Int) (hc : Clk w p now v many) (hr : Row w base v l) (hl : l.length ≤ 1048576) :
    Calls Try.prog 12 #[.pointer (some ⟨p, 0, none⟩), .int .i64 t] w (DropOk w base p now many v l t) := by
  obtain ⟨a, cap, rfl⟩ := hr.shape
  have hp := lt_of_block hc
  have hn := heap_alloc_new w (.cells #[.int .i64 t] 3)
  have hb := (Below.refl w.heap.size w).alloc (Nat.le_refl _) (.cells #[.int .i64 t] 3)
  have hs : (w.alloc (.cells #[.int .i64 t] 3)).heap.size = w.heap.size + 1 := World.size_alloc _ _
  obtain ⟨w1, hw1⟩ : ∃ w1, w.alloc (.cells #[.int .i64 t] 3) = w1 := ⟨_, rfl⟩
  rw [hw1] at hn hb hs
  have hc1 := hc.below hb (Nat.le_refl _)
  have hr1 := hr.kept hb (Nat.le_refl _)
  obtain ⟨k0, k1, k2⟩ := box3 hc1
  have fin : ∀ w' v' (n m : Nat), n = l.length → m = (l.filter (keepB t)).length → Kept w w' base p now (.slice a l.length cap) v' (initE ltEnt (l.filter (keepB t))) many → DropOk w base p now many (.slice a l.length cap) l t (.returned (.int .i64 ((n : Int) - (m : Int)))) w' := fun w' v' n m h1 h2 h3 => ⟨by rw [h1, h2], v', h3⟩
  have FIN := Lib.hid fin
  have D1 := Lib.hid (del_any w1 base _ l t w.heap.size hr1 hl hn)
  have hne := hr1.ne hc1 (by decide)
  have HC1 := Lib.hid hc1
  have HB := Lib.hid hb
  have hlt : w.heap.size < w1.heap.size := by omega
  clear fin hn hb hs hc1 hr1
  go_enter Try.func12, Try.ntmps12
  go_wp2_with (go_at_call 28; refine D1.out.mono ?_; rintro e w2 ⟨v2, rfl, hr2, hf2, hv2⟩; refine Hid.out ?_)
  refine Lib.hid ?_
  obtain ⟨F, hF⟩ : ∃ F, l.filter (keepB t) = F := ⟨_, rfl⟩
  rw [hF] at hr2
  have HF := Lib.hid hF
  obtain ⟨a2, cap2, rfl⟩ := hr2.shape
  have hc2 := HC1.out.frm hf2 (fun r hr => by rw [List.mem_singleton.1 hr]; exact hne)
  obtain ⟨j0, j1, j2⟩ := box3 hc2
  have f1 := free_of_block hc2 1
  have hc3 : Clk (w2.setCell ⟨p, 1, none⟩ (.slice a2 F.length cap2)) p now (.slice a2 F.length cap2) many := heap_setCell_self _ hc2
  have hf3 : Frm [some p] w2 (w2.setCell ⟨p, 1, none⟩ (.slice a2 F.length cap2)) := (Frm.refl _ _).grown (grownBy_setCell _ _ _ _) (by simp)
  have hr3 := hr2.frm hf3 (fun r hr => Or.inr (by rw [List.mem_singleton.1 hr]; exact Ne.symm (hr2.ne hc2 (by decide))))
  have hlF : F.length ≤ 1048576 := by rw [← hF]; exact Nat.le_trans (List.length_filter_le _ _) hl
  have I1 := Lib.hid (hinit_any _ base p now many _ F hc3 hr3 hlF)
  have HF23 := Lib.hid (((Frm.ofBelow (S := [some p, (Value.slice a l.length cap).ownBlock]) HB.out).trans hf2 (fun r hr => Or.inl (by rw [List.mem_singleton.1 hr]; simp))).trans hf3 (fun r hr => Or.inl (by rw [List.mem_singleton.1 hr]; simp)))
  have hs3 : w1.heap.size ≤ (w2.setCell ⟨p, 1, none⟩ (.slice a2 F.length cap2)).heap.size := by have := hf2.size; simpa using this
  obtain ⟨w3, hw3⟩ : ∃ w3, w2.setCell ⟨p, 1, none⟩ (.slice a2 F.length cap2) = w3 := ⟨_, rfl⟩
  have HV2 := Lib.hid hv2
  rw [hw3] at I1 HF23 hs3
  clear hF hc3 hf3 hr3 D1 hc2 hv2
  go_wp2_with (go_at_call 30; refine I1.out.mono ?_; rintro e w4 ⟨rfl, hk4⟩; refine Hid.out ?_)
  refine Lib.hid ?_
  obtain ⟨i0, i1, i2⟩ := box3 hk4.clk
  go_wp2_with fail
  go_ret
  refine FIN.out _ (.slice a2 F.length cap2) _ _ rfl (by rw [HF.out]) ⟨hk4.clk, by rw [HF.out]; exact hk4.row, HF23.out.trans hk4.frm (fun r hr => ?_), Or.inl HV2.out⟩
  rcases (show r = some p ∨ r = (Value.slice a2 F.length cap2).ownBlock by simpa using hr) with rfl | rfl
  · exact Or.inl (by simp)
  · exact Or.inl (by rw [HV2.out]; simp)

end Go.Proofs.Ytofpmhkjagdmmaa
