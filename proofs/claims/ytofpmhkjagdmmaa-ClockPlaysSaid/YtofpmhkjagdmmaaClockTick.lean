/- clock.New, Now, Len, Tick. -/
import Derived.Test.YtofpmhkjagdmmaaClockSet
import Derived.Test.YtofpmhkjagdmmaaRowsF
set_option maxRecDepth 100000
namespace Go.Proofs.Ytofpmhkjagdmmaa
open Go.RowKit

theorem own_frm {S : List (Option Nat)} {w w' : World} {base : Nat} {e : TypeId} {size : Nat} {v : Value} {n : Nat} {xs : List Value} (h : w.ownsRow base e size v n xs) (hf : Frm S w w') (hs : ∀ r ∈ S, r = none ∨ r ≠ v.ownBlock) : w'.ownsRow base e size v n xs := by
  refine ⟨h.1, ?_⟩
  rcases h.2 with h0 | ⟨g, cap, cur, hv, hbg, hg, r⟩
  · exact Or.inl h0
  · refine Or.inr ⟨g, cap, cur, hv, hbg, hf.block hg (fun r hr e => ?_), r⟩
    rcases hs r hr with h1 | h1
    · rw [h1] at e; cases e
    · apply h1; rw [e, hv]; rfl
theorem own_blk {w : World} {base p : Nat} {e t : TypeId} {size : Nat} {v : Value} {n : Nat} {xs : List Value} {c : Array Value} (h : w.ownsRow base e size v n xs) (hp : w.heap[p]? = some (.cells c t)) (ht : t ≠ e) : v.ownBlock ≠ some p := by
  rcases h.2 with ⟨rfl, _⟩ | ⟨g, cap, cur, rfl, _, hg, _⟩
  · simp [Value.ownBlock]
  · have := type_ne hg hp (Ne.symm ht)
    simpa [Value.ownBlock] using this
theorem own_row {w : World} {base base' : Nat} {e e' : TypeId} {size size' : Nat} {v v' : Value} {n n' : Nat} {xs xs' : List Value} (h : w.ownsRow base e size v n xs) (k : w.ownsRow base' e' size' v' n' xs') (ht : e ≠ e') : v'.ownBlock = none ∨ v'.ownBlock ≠ v.ownBlock := by
  rcases k.2 with ⟨rfl, _⟩ | ⟨g, cap, cur, rfl, _, hg, _⟩
  · exact Or.inl rfl
  · exact Or.inr (fun e => own_blk h hg (Ne.symm ht) e.symm)

abbrev Als (w : World) (base : Nat) (v : Value) (A : List Al) : Prop := OwnF cellA 33 4 w base v A
theorem cellA_len : ∀ a : Al, (cellA a).length = 4 := fun _ => rfl
theorem cellA_one (a : Al) : ∀ u ∈ cellA a, u.oneCell' = true := by
  intro u hu
  simp only [cellA, List.mem_cons, List.mem_nil_iff, or_false] at hu
  rcases hu with rfl | rfl | rfl | rfl <;> rfl
theorem info_al : (Try.prog.info? 33).map (fun i => (i.zero, i.size, i.bytes)) = some (some (.agg #[.int .i64 0, .int .i64 0, .string default, .int .i64 0]), 4, 40) := by kernel_rfl
theorem als_push {w : World} {base : Nat} {v : Value} {A : List Al} {x : Al} (h : w.ownsRow base 33 4 v (A.length + 1) (cellsF cellA A ++ cellA x)) : Als w base v (A ++ [x]) := by
  unfold Als OwnF
  rw [List.length_append, List.length_singleton, cellsF_app]
  exact h

/-- A new clock. -/
def NewOk (w : World) (now : Int) (r : Ending) (w' : World) : Prop :=
  (now < 0 ∨ 1099511627776 < now) ∧ r = .returned (.tuple #[.pointer none, .int .i64 1]) ∧ w = w' ∨
  (0 ≤ now ∧ now ≤ 1099511627776) ∧ ∃ p, r = .returned (.tuple #[.pointer (some ⟨p, 0, none⟩), .int .i64 0]) ∧ w.heap.size ≤ p ∧ Clk w' p now (.slice none 0 0) 0 ∧ Below w.heap.size w w'

set_option maxHeartbeats 1000000 in
theorem new_any (w : World) (now : Int) : Calls Try.prog 8 #[.int .i64 now] w (NewOk w now) := by
  have f1 : ∀ w', w = w' → (now < 0 ∨ 1099511627776 < now) → NewOk w now (.returned (.tuple #[.pointer none, .int .i64 1])) w' := fun w' h h2 => Or.inl ⟨h2, rfl, h⟩
  have f2 : ∀ w' p, (0 ≤ now ∧ now ≤ 1099511627776) → w.heap.size ≤ p → Clk w' p now (.slice none 0 0) 0 → Below w.heap.size w w' → NewOk w now (.returned (.tuple #[.pointer (some ⟨p, 0, none⟩), .int .i64 0])) w' := fun w' p h h1 h2 h3 => Or.inr ⟨h, p, rfl, h1, h2, h3⟩
  have F1 := Lib.hid f1
  have F2 := Lib.hid f2
  have HB := Lib.hid (show ∀ o, Below w.heap.size w (w.alloc o) from fun o => (Below.refl _ _).alloc (Nat.le_refl _) o)
  have HN := Lib.hid (show ∀ o, (w.alloc o).heap[w.heap.size]? = some o from fun o => heap_alloc_new w o)
  clear f1 f2
  by_cases h1 : now < 0
  · have d1 : decide (now < 0) = true := decide_eq_true h1
    go_enter Try.func8, Try.ntmps8
    go_wp2_with fail
    go_ret2
    exact F1.out _ rfl (Or.inl h1)
  · have d1 : decide (now < 0) = false := decide_eq_false h1
    by_cases h2 : 1099511627776 < now
    · have d2 : decide (now > 1099511627776) = true := decide_eq_true h2
      go_enter Try.func8, Try.ntmps8
      go_wp2_with fail
      go_ret2
      exact F1.out _ rfl (Or.inr h2)
    · have d2 : decide (now > 1099511627776) = false := decide_eq_false h2
      go_enter Try.func8, Try.ntmps8
      go_wp2_with fail
      go_ret2
      exact F2.out _ _ ⟨by omega, by omega⟩ (Nat.le_refl _) (HN.out _) (HB.out _)

theorem now_any (w : World) (p : Nat) (now many : Int) (v : Value) (hc : Clk w p now v many) : Calls Try.prog 13 #[.pointer (some ⟨p, 0, none⟩)] w fun r w' => r = .returned (.int .i64 now) ∧ w = w' := by
  obtain ⟨k0, k1, k2⟩ := box3 hc
  clear hc
  go_enter Try.func13, Try.ntmps13
  go_wp2_with fail
  go_ret
  exact ⟨rfl, rfl⟩
theorem clen_any (w : World) (p : Nat) (now many : Int) (a : Option Addr) (n cap : Nat) (hc : Clk w p now (.slice a n cap) many) : Calls Try.prog 14 #[.pointer (some ⟨p, 0, none⟩)] w fun r w' => r = .returned (.int .i64 (n : Int)) ∧ w = w' := by
  obtain ⟨k0, k1, k2⟩ := box3 hc
  clear hc
  go_enter Try.func14, Try.ntmps14
  go_wp2_with fail
  go_ret
  exact ⟨rfl, rfl⟩

/-- A tick that may not be. -/
def badT (now n : Int) : Prop := n < 0 ∨ 1048576 < n ∨ 1099511627776 < now + n

set_option maxHeartbeats 2000000 in
theorem tick_bad (w : World) (p : Nat) (now many n : Int) (v : Value) (hc : Clk w p now v many) (hn0 : 0 ≤ now) (hn1 : now ≤ 1099511627776) (hb : badT now n) :
    Calls Try.prog 11 #[.pointer (some ⟨p, 0, none⟩), .int .i64 n] w fun r w' => r = .returned (.tuple #[.slice none 0 0, .int .i64 1]) ∧ w = w' := by
  obtain ⟨k0, k1, k2⟩ := box3 hc
  have h3 : n < 0 ∨ (0 ≤ n ∧ 1048576 < n) ∨ (0 ≤ n ∧ n ≤ 1048576 ∧ 1099511627776 < now + n) := by unfold badT at hb; omega
  clear hc hb
  rcases h3 with h1 | ⟨h1, h2⟩ | ⟨h1, h2, h3⟩
  · have d1 : decide (n < 0) = true := decide_eq_true h1
    go_enter Try.func11, Try.ntmps11
    go_wp2_with fail
    go_ret2
    exact ⟨rfl, rfl⟩
  · have d1 : decide (n < 0) = false := decide_eq_false (by omega)
    have d2 : decide (n > 1048576) = true := decide_eq_true h2
    go_enter Try.func11, Try.ntmps11
    go_wp2_with fail
    go_ret2
    exact ⟨rfl, rfl⟩
  · have d1 : decide (n < 0) = false := decide_eq_false (by omega)
    have d2 : decide (n > 1048576) = false := decide_eq_false (by omega)
    have d3 : decide (now + n > 1099511627776) = true := decide_eq_true h3
    go_enter Try.func11, Try.ntmps11
    go_wp2_with fail
    go_ret2
    exact ⟨rfl, rfl⟩

/-- What a tick leaves. -/
def TickOk (w : World) (base p : Nat) (nx many : Int) (v : Value) (l : List Ent) (r : Ending) (w' : World) : Prop :=
  ∃ va v', r = .returned (.tuple #[va, .int .i64 0]) ∧ Als w' w.heap.size va ((tickE l nx).1.map Ent.al) ∧ Kept w w' base p nx v v' (tickE l nx).2 many

set_option maxHeartbeats 8000000 in
theorem tick_any (w : World) (base p : Nat) (now many n : Int) (v : Value) (l : List Ent) (hc : Clk w p now v many) (hr : Row w base v l) (_hbase : base ≤ w.heap.size) (hl : l.length ≤ 1048576) (hn0 : 0 ≤ now) (hb : ¬ badT now n) :
    Calls Try.prog 11 #[.pointer (some ⟨p, 0, none⟩), .int .i64 n] w (TickOk w base p (now + n) many v l) := by
  obtain ⟨i0, hti, hz0, hz1, hz2⟩ := info_parts info_al
  have h3 : 0 ≤ n ∧ n ≤ 1048576 ∧ now + n ≤ 1099511627776 := by unfold badT at hb; omega
  obtain ⟨h4, h5, h6⟩ := h3
  obtain ⟨k0, k1, k2⟩ := box3 hc
  have f0 := free_of_block hc 0
  have hp := lt_of_block hc
  obtain ⟨q, cap, rfl⟩ := hr.shape
  have d1 : decide (n < 0) = false := decide_eq_false (by omega)
  have d2 : decide (n > 1048576) = false := decide_eq_false (by omega)
  have d3 : decide (now + n > 1099511627776) = false := decide_eq_false (by omega)
  obtain ⟨nx, hto⟩ : ∃ nx, now + n = nx := ⟨_, rfl⟩
  have fin : ∀ va v' w', Als w' w.heap.size va ((tickE l nx).1.map Ent.al) → Kept w w' base p nx (.slice q l.length cap) v' (tickE l nx).2 many → TickOk w base p nx many (.slice q l.length cap) l (.returned (.tuple #[va, .int .i64 0])) w' := fun va v' w' h1 h2 => ⟨va, v', rfl, h1, h2⟩
  have FIN := Lib.hid fin
  have hc1 : Clk (w.setCell ⟨p, 0, none⟩ (.int .i64 nx)) p nx (.slice q l.length cap) many := heap_setCell_self _ hc
  have hf1 : Frm [some p, (Value.slice q l.length cap).ownBlock] w (w.setCell ⟨p, 0, none⟩ (.int .i64 nx)) := (Frm.refl _ _).grown (grownBy_setCell _ _ _ _) (by simp)
  have hr1 := hr.frm ((Frm.refl [some p] w).grown (grownBy_setCell w p 0 (.int .i64 nx)) (by simp)) (fun r hr' => Or.inr (by rw [List.mem_singleton.1 hr']; exact Ne.symm (hr.ne hc (by decide))))
  have HC1 := Lib.hid hc1
  have HF1 := Lib.hid hf1
  have hs1 : w.heap.size ≤ (w.setCell ⟨p, 0, none⟩ (.int .i64 nx)).heap.size := by simp
  rw [hto] at d3
  rw [hto]
  have HTO := Lib.hid hto
  clear fin hc hc1 hf1 hb
  go_enter Try.func11, Try.ntmps11
  go_wp2_with fail
  go_loopg [6] l.length (fun gh s6 wx => ∃ (O : List Al) (L : List Ent) (vS : Value), Hid (L.length = gh) ∧ O.length + gh = l.length ∧ Als wx w.heap.size s6 O ∧ Clk wx p nx vS many ∧ Row wx base vS L ∧ Frm [some p, (Value.slice q l.length cap).ownBlock] w wx ∧ Fresh w (.slice q l.length cap) vS ∧ Hid ((tickE l nx).1.map Ent.al = O ++ (tickE L nx).1.map Ent.al ∧ (tickE l nx).2 = (tickE L nx).2))
  case atStart => exact ⟨[], l, _, rfl, by simp, OwnF.nil _ _, HC1.out, hr1, HF1.out, Fresh.refl _ _, ⟨rfl, rfl⟩⟩
  case round =>
    clear hr hr1
    obtain ⟨O, L, vS, hL, hOL, hO, hC, hR, hF, hN, hT⟩ := hrel
    obtain ⟨j0, j1, j2⟩ := box3 hC
    have HC := Lib.hid hC
    have hsz := hF.size
    clear hC
    rcases Nat.eq_zero_or_pos gk with h0 | h0
    · subst h0
      obtain rfl := List.eq_nil_of_length_eq_zero hL.out
      obtain ⟨q2, cap2, rfl⟩ := hR.shape
      have e1 : (tickE ([] : List Ent) nx) = ([], []) := tick_stop (by simp)
      have HT : Hid ((tickE l nx).1.map Ent.al = O ∧ (tickE l nx).2 = []) := Lib.hid (by have := hT.out; rw [e1] at this; simpa using this)
      clear e1 hT
      go_wp2_with fail
      go_quiet (fail)
      have hD := below_drewN' (w := wr) nq
      go_wp2_with fail
      go_ret2
      exact FIN.out _ _ _ (by rw [HT.out.1]; exact hO.kept hD) ⟨HC.out.below hD (Nat.le_refl _), by rw [HT.out.2]; exact hR.kept hD (Nat.le_refl _), hF.below hD, hN⟩
    · obtain ⟨k, rfl⟩ : ∃ k, gk = k + 1 := ⟨gk - 1, by omega⟩
      have hLp : 0 < L.length := by rw [hL.out]; omega
      rcases hR.own with ⟨_, hx⟩ | ⟨g, cap2, rfl, hbg, hg⟩
      · rw [hx] at hLp; simp at hLp
      obtain ⟨a0, a1, a2, a3, a4⟩ := hR.at (i := 0) hLp
      obtain ⟨x, hx⟩ : ∃ x, atL L 0 = x := ⟨_, rfl⟩
      rw [hx] at a0 a1 a2 a3 a4
      rw [Nat.zero_mul] at a0 a1 a2 a3 a4
      have hk1 : (0 : Int) < (k : Int) + 1 := by omega
      have dk : decide ((k : Int) + 1 > 0) = true := decide_eq_true hk1
      have hkn : 0 < k + 1 := by omega
      rw [hL.out] at j1
      have HX := Lib.hid hx
      by_cases hdue : x.al.due ≤ nx
      · have dd : decide (x.al.due ≤ nx) = true := decide_eq_true hdue
        have HT : Hid ((tickE l nx).1.map Ent.al = (O ++ [x.al]) ++ (tickE ((popE ltEnt L).take (L.length - 1)) nx).1.map Ent.al ∧ (tickE l nx).2 = (tickE ((popE ltEnt L).take (L.length - 1)) nx).2) := Lib.hid (by
          have := hT.out
          rw [tick_pop (l := L) ⟨hLp, by rw [hx]; exact hdue⟩, hx] at this
          simpa using this)
        clear hT hx
        go_wp2_with fail
        go_quiet (fail)
        have hD := below_drewN' (w := wr) nq
        have P1 := hpop_any (wr.drewN nq) base p nx many _ L hLp (HC.out.below hD (Nat.le_refl _)) (hR.kept hD (Nat.le_refl _)) (by rw [hL.out]; omega)
        rw [HX.out] at P1
        have HP1 := Lib.hid P1
        have ta := assert_ent x
        have hOd : Als (wr.drewN nq) w.heap.size u6 O := hO.kept hD
        have HD := Lib.hid hD
        have hRd := hR.kept hD (Nat.le_refl _)
        clear P1 hD a0 a1 a2 a3 a4 j0 j1 j2 dd hR hO
        go_wp2_with (go_at_call 27; refine HP1.out.mono ?_; rintro e w3 ⟨rfl, v3, hk3⟩; refine Hid.out ?_)
        refine Lib.hid ?_
        have hO3 : Als w3 w.heap.size u6 O := own_frm hOd hk3.frm (fun r hr => by
          have h2 := hk3.fresh
          rcases (show r = some p ∨ r = some g by simpa [Value.ownBlock] using hr) with rfl | rfl
          · exact Or.inr (Ne.symm (own_blk hOd (HC.out.below HD.out (Nat.le_refl _)) (by decide)))
          · refine Or.inr (fun e => ?_)
            obtain ⟨_, _, _, _, _, cur, hgc⟩ := hRd.block
            exact own_blk hOd hgc (by decide) e.symm)
        have hw4b := (Below.refl w3.heap.size w3).alloc (Nat.le_refl _) (.cells #[.int .i64 x.al.due, .int .i64 x.al.token, .string x.al.via, .int .i64 x.al.inst, .int .i64 x.n] 67)
        have hw4n := heap_alloc_new w3 (.cells #[.int .i64 x.al.due, .int .i64 x.al.token, .string x.al.via, .int .i64 x.al.inst, .int .i64 x.n] 67)
        have hw4s : (w3.alloc (.cells #[.int .i64 x.al.due, .int .i64 x.al.token, .string x.al.via, .int .i64 x.al.inst, .int .i64 x.n] 67)).heap.size = w3.heap.size + 1 := World.size_alloc _ _
        obtain ⟨w4, hw4⟩ : ∃ w4, w3.alloc (.cells #[.int .i64 x.al.due, .int .i64 x.al.token, .string x.al.via, .int .i64 x.al.inst, .int .i64 x.n] 67) = w4 := ⟨_, rfl⟩
        rw [hw4] at hw4b hw4n hw4s
        obtain ⟨b0, b1, b2, b3, b4⟩ := box5 hw4n
        have hs34 : w3.heap.size < w4.heap.size := by omega
        have hs43 : w.heap.size ≤ w4.heap.size := by have := hk3.frm.size; have h2 : (wr.drewN nq).heap.size = wr.heap.size := rfl; omega
        have hO4 : Als w4 w.heap.size u6 O := hO3.kept hw4b
        have HWB := Lib.hid hw4b
        clear hw4n hw4s hw4b b4
        go_wp2_with (at_builtin; refine wpList_append_own _ rfl _ _ 29 rfl w.heap.size 33 i0 _ 4 40 Try.underlying29 hti hz0 hz1 hz2 rfl (by decide) u6 O.length (cellsF cellA O) rfl (hO4.alloc _) _ 1 1 (cellA x.al) rfl rfl (cells_new w4 _ _) (cellA_one _) (by unfold maxLen; omega) (by omega) (by simp; omega) ?_; intro v6 w6 hown6 hg6 _)
        have hO6 := als_push hown6
        have hF36 : Frm [u6.ownBlock] w3 w6 := ((Frm.ofBelow HWB.out).below ((Below.refl _ _).alloc (Nat.le_refl _) _)).grown hg6 (by simp)
        have hc6 : Clk w6 p nx v3 many := hk3.clk.frm hF36 (fun r hr => by rw [List.mem_singleton.1 hr]; exact own_blk hO3 hk3.clk (by decide))
        have hr6 : Row w6 base v3 ((popE ltEnt L).take (L.length - 1)) := hk3.row.frm hF36 (fun r hr => by
          rw [List.mem_singleton.1 hr]
          exact own_row hk3.row hO3 (by decide))
        go_roundg k
        case measure => omega
        case rel => exact ⟨O ++ [x.al], _, v3, Lib.hid (by rw [len_rest, hL.out]; rfl), by simp; omega, hO6, hc6, hr6, ((hF.below HD.out).trans hk3.frm (fun r hr => by
            rcases (show r = some p ∨ r = some g by simpa [Value.ownBlock] using hr) with rfl | rfl
            · exact Or.inl (by simp)
            · rcases hN with h | ⟨b, h, hb⟩
              · exact Or.inl (by rw [← h]; simp [Value.ownBlock])
              · exact Or.inr ⟨b, by rw [← h]; rfl, hb⟩)).trans0 hF36 (fun r hr => by
            rw [List.mem_singleton.1 hr]
            rcases hOd.val with ⟨e, _⟩ | ⟨b, c, e, hb, _⟩
            · exact Or.inl (by rw [e]; rfl)
            · exact Or.inr (Or.inr ⟨b, by rw [e]; rfl, hb⟩)), hN.trans hk3.fresh hsz, HT⟩
      · have dd : decide (x.al.due ≤ nx) = false := decide_eq_false hdue
        have HT : Hid ((tickE l nx).1.map Ent.al = O ∧ (tickE l nx).2 = L) := Lib.hid (by
          have := hT.out
          rw [tick_stop (l := L) (by rw [hx]; exact fun h => hdue h.2)] at this
          simpa using this)
        clear hT hx
        go_wp2_with fail
        go_quiet (fail)
        have hD := below_drewN' (w := wr) nq
        go_wp2_with fail
        go_ret2
        exact FIN.out _ _ _ (by rw [HT.out.1]; exact hO.kept hD) ⟨HC.out.below hD (Nat.le_refl _), by rw [HT.out.2]; exact hR.kept hD (Nat.le_refl _), hF.below hD, hN⟩

end Go.Proofs.Ytofpmhkjagdmmaa
