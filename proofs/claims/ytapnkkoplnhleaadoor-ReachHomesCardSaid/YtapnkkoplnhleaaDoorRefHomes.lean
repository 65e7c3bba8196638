/- Readers of the document's graph: Deadlocks, Dead, To, Homes. -/
import Derived.Test.YtapnkkoplnhleaaDoorRefFind
import Derived.Test.YtapnkkoplnhleaaDoorReachDead
import Derived.Test.YtapnkkoplnhleaaDoorReachHomeP
set_option maxRecDepth 100000
/- Readers of the document's graph: Deadlocks, Dead. -/
namespace Go.Proofs.YtapnkkoplnhleaaDoor
open Go.RowKit

set_option maxHeartbeats 1000000 in
theorem refdeadl_any (w : World) (B p nt : Nat) (g : Gr) (h : RgR w B p nt g) (hB : B ≤ w.heap.size) (hE : EOk g.edges) :
    Calls Tryd.prog 29 #[.pointer (some ⟨p, 0, none⟩)] w fun e w' => ∃ v, e = .returned v ∧ OwnI w' w.heap.size v (deadE g.edges) ∧ Below w.heap.size w w' := by
  obtain ⟨v0, a1, c1, x, y, vM, vE, vF, h1, h2, h3, h4, h5, h6⟩ := h
  obtain ⟨k1, k4, k5, k6⟩ := hbox h1
  obtain ⟨aE, cE, rfl⟩ := h4.val
  obtain ⟨i0, hti, hz0, hz1, hz2⟩ := info_parts info_int
  have hl := hE.len
  have HV := Lib.hid h4
  have hpw : p < w.heap.size := by omega
  unfold deadE
  obtain ⟨E, hEE⟩ : ∃ E, g.edges = E := ⟨_, rfl⟩
  rw [hEE] at hl HV hE k5 ⊢
  clear h1 h3 h4 h5 h6 hEE k1 k4 k6
  have HK := Lib.hid k5
  go_enter Tryd.func29, Tryd.ntmps29
  go_wp2_with fail
  go_loopg [3, 4] E.length (fun gh s3 s4 wr => ∃ k : Nat, k + gh = E.length ∧ s4 = .int .i64 (k : Int) ∧ OwnI wr w.heap.size s3 (deadTo E k) ∧ Below w.heap.size w wr)
  case atStart => exact ⟨0, by omega, rfl, OwnI.nil _ _, Below.refl _ _⟩
  case round =>
    clear k5
    obtain ⟨k, hkg, rfl, hO, hbel⟩ := hrel
    have k5 := HK.out
    rw [← Below.cellB hbel hpw] at k5
    by_cases hk : k < E.length
    · obtain ⟨b, o, u, rfl, hb, hc, hu⟩ := HV.out.at k hk
      rw [← Below.cellB hbel (by omega)] at hc
      have hsn := Lib.hid (deadTo_succ hk)
      have hdl := deadTo_len E k
      obtain ⟨row, hrow⟩ : ∃ row, E[k] = row := ⟨_, rfl⟩
      rw [hrow] at hu hsn
      obtain ⟨l, hll⟩ : ∃ l, deadTo E k = l := ⟨_, rfl⟩
      rw [hll] at hO hsn hdl
      obtain ⟨au, cu, rfl⟩ := hu.val
      obtain ⟨a3, c3, rfl⟩ := hO.shape
      clear hrow hll
      have hul := hu.len
      by_cases h0 : row.length = 0
      · rw [if_pos h0] at hsn
        have hx3 := (Below.refl wr.heap.size wr).alloc (Nat.le_refl _) (.cells #[.int .i64 (k : Int)] 3)
        have hT4 := hO.kept hx3 (Nat.le_refl _)
        have HX := Lib.hid (hbel.trans (hx3.mono hbel.size))
        have hws := hbel.size
        rw [h0] at hc
        clear hx3 h0
        go_wp2_with (at_builtin; refine wpList_append_own_at _ rfl _ _ 26 rfl w.heap.size 3 i0 (.int .i64 0) 1 8 Tryd.underlying26 hti hz0 hz1 hz2 rfl (by decide) _ _ _ rfl hT4 ⟨wr.heap.size, 0, none⟩ 1 1 [.int .i64 (k : Int)] rfl rfl (cell_one_new _ _ _) (by intro u hu; simp at hu; subst hu; rfl) (by unfold maxLen; omega) (by omega) (by simp; omega) ?_; intro v6 w6 hown6 hg6 _ hat6)
        go_roundg (gk - 1)
        case measure => omega
        case rel => exact ⟨k + 1, by omega, by go_num, by rw [hsn.out]; unfold OwnI; simpa using hown6, HX.out.grown hg6 HX.out.size (fun k hk => (World.ownsRow.lt hT4 k hk).1)⟩
      · rw [if_neg h0] at hsn
        have h0' : 0 < row.length := by omega
        have hd0 : ((row.length : Int) == 0) = false := by rw [beq_eq_false_iff_ne]; omega
        clear h0
        go_wp2_with fail
        go_roundg (gk - 1)
        case measure => omega
        case rel => exact ⟨k + 1, by omega, by go_num, by rw [hsn.out]; exact hO, hbel⟩
    · have hk' : ¬ ((k : Int) < (E.length : Int)) := by omega
      obtain rfl : k = E.length := by omega
      go_wp2_with fail
      go_ret
      exact ⟨_, rfl, hO, hbel⟩

theorem usedB_zero (E : List (List (Int × Int))) (t : Nat) : usedB E 0 0 t = false := by unfold usedB; simp
theorem usedB_next {E : List (List (Int × Int))} {i q t : Nat} (hi : i < E.length) (hq : (E.getD i []).length ≤ q) : usedB E (i + 1) 0 t = usedB E i q t := by
  unfold usedB
  have e : E.getD i [] = E[i] := by simp [hi]
  rw [List.take_of_length_le hq, List.take_succ_eq_append_getElem hi, List.any_append, e]
  simp
theorem usedB_step {E : List (List (Int × Int))} {i q t : Nat} (hq : q < (E.getD i []).length) : usedB E i (q + 1) t = (usedB E i q t || ((E.getD i [])[q].1 == (t : Int))) := by
  unfold usedB
  rw [List.take_succ_eq_append_getElem hq, List.any_append]
  simp [Bool.or_assoc]
set_option maxHeartbeats 2000000 in
theorem refdead_any (w : World) (B p nt : Nat) (g : Gr) (h : RgR w B p nt g) (hB : B ≤ w.heap.size) (hE : EOk g.edges) :
    Calls Tryd.prog 30 #[.pointer (some ⟨p, 0, none⟩)] w fun e w' => ∃ v, e = .returned v ∧ OwnI w' w.heap.size v (deadTE g.edges nt) ∧ Below w.heap.size w w' := by
  obtain ⟨v0, a1, c1, x, y, vM, vE, vF, h1, h2, h3, h4, h5, h6⟩ := h
  obtain ⟨k1, k4, k5, k6⟩ := hbox h1
  obtain ⟨aE, cE, rfl⟩ := h4.val
  obtain ⟨i0, hti, hz0, hz1, hz2⟩ := info_parts info_int
  have hl := hE.len
  have HV := Lib.hid h4
  have hpw : p < w.heap.size := by omega
  unfold deadTE
  obtain ⟨E, hEE⟩ : ∃ E, g.edges = E := ⟨_, rfl⟩
  rw [hEE] at hl HV hE k5 ⊢
  clear h1 h3 h4 h5 hEE k4 k6
  have HK := Lib.hid (And.intro k1 k5)
  go_enter Tryd.func30, Tryd.ntmps30
  go_wp2_with fail
  go_loopg [3, 4] nt (fun gh s3 s4 wr => ∃ t : Nat, t + gh = nt ∧ s4 = .int .i64 (t : Int) ∧ OwnI wr w.heap.size s3 (deadTTo E nt t) ∧ Below w.heap.size w wr)
  case atStart => exact ⟨0, by omega, rfl, OwnI.nil _ _, Below.refl _ _⟩
  case round =>
    clear k1 k5
    obtain ⟨t, htg, rfl, hO, hbel⟩ := hrel
    obtain ⟨k1, k5⟩ := HK.out
    rw [← Below.cellB hbel hpw] at k1 k5
    by_cases ht : t < nt
    · obtain ⟨wo, rfl⟩ : ∃ wo : World, wo = wr := ⟨_, rfl⟩
      have hsn := Lib.hid (deadTTo_succ (E := E) (nt := nt) (k := t))
      have hdl := deadTTo_len E nt t
      obtain ⟨l, hll⟩ : ∃ l, deadTTo E nt t = l := ⟨_, rfl⟩
      rw [hll] at hO hsn hdl
      clear hll
      obtain ⟨a3, c3, rfl⟩ := hO.shape
      go_wp2_with fail
      go_loopg [5, 6] E.length (fun gh s5 s6 wx => ∃ (i : Nat) (sb : Bool), i + gh = E.length ∧ s6 = .int .i64 (i : Int) ∧ s5 = .bool sb ∧ Hid (sb = usedB E i 0 t) ∧ wo = wx)
      case atStart => exact ⟨0, false, by omega, rfl, rfl, (usedB_zero E t).symm, rfl⟩
      case round =>
        obtain ⟨i, sb, hig, rfl, rfl, hsb, rfl⟩ := hrel
        by_cases hi : i < E.length
        · obtain ⟨b, o, u, rfl, hb, hc, hu⟩ := HV.out.at i hi
          rw [← Below.cellB hbel (by omega)] at hc
          have hrl := hE.row _ (List.getElem_mem hi)
          have hgd : Hid (E.getD i [] = E[i]) := by refine Lib.hid ?_; simp [hi]
          obtain ⟨row, hrow⟩ : ∃ row, E[i] = row := ⟨_, rfl⟩
          rw [hrow] at hu hrl hgd
          clear hrow
          obtain ⟨au, cu, rfl⟩ := hu.val
          go_wp2_with fail
          go_loopg [5, 7] row.length (fun gh s5 s7 wx => ∃ (q : Nat) (sb : Bool), q + gh = row.length ∧ s7 = .int .i64 (q : Int) ∧ s5 = .bool sb ∧ Hid (sb = usedB E i q t) ∧ wo = wx)
          case atStart => exact ⟨0, sb, by omega, rfl, rfl, hsb, rfl⟩
          case round =>
            clear hsb
            obtain ⟨q, sb, hqg, rfl, rfl, hsb, rfl⟩ := hrel
            by_cases hq : q < row.length
            · obtain ⟨be, oe, rfl, hbe, h0, h1⟩ := hu.at hq
              rw [← Below.cellB hbel (by omega)] at h0 h1
              have hst : Hid (usedB E i (q + 1) t = (usedB E i q t || (row[q].1 == (t : Int)))) := by
                have := usedB_step (E := E) (i := i) (q := q) (t := t) (by rw [hgd.out]; exact hq)
                simp only [hgd.out] at this
                exact this
              obtain ⟨z, hz⟩ : ∃ z, row[q].1 = z := ⟨_, rfl⟩
              rw [hz] at h0 hst
              clear hz
              cases sb with
              | true =>
                have Hn : Hid (true = usedB E i (q + 1) t) := by rw [hst.out, ← hsb.out]; exact rfl
                go_wp2_with fail
                go_roundg (gk - 1)
                case measure => omega
                case rel => exact ⟨q + 1, true, by omega, by go_num, rfl, Hn, rfl⟩
              | false =>
                by_cases hzt : z = (t : Int)
                · have hd : (z == (t : Int)) = true := by simpa using hzt
                  have Hn : Hid (true = usedB E i (q + 1) t) := by rw [hst.out, hd, Bool.or_true]; exact rfl
                  clear hzt
                  go_wp2_with fail
                  go_roundg (gk - 1)
                  case measure => omega
                  case rel => exact ⟨q + 1, true, by omega, by go_num, rfl, Hn, rfl⟩
                · have hd : (z == (t : Int)) = false := by simpa using hzt
                  have Hn : Hid (false = usedB E i (q + 1) t) := by rw [hst.out, hd, ← hsb.out]; exact rfl
                  clear hzt
                  go_wp2_with fail
                  go_roundg (gk - 1)
                  case measure => omega
                  case rel => exact ⟨q + 1, false, by omega, by go_num, rfl, Hn, rfl⟩
            · have hq' : decide ((q : Int) < (row.length : Int)) = false := decide_eq_false (by omega)
              have Hn : Hid (sb = usedB E (i + 1) 0 t) := by rw [hsb.out, usedB_next (q := q) hi (by rw [hgd.out]; omega)]; exact rfl
              go_wp2_with fail
              go_roundg (E.length - (i + 1))
              case measure => omega
              case rel => exact ⟨i + 1, sb, by omega, by go_num, rfl, Hn, rfl⟩
        · have hi' : decide ((i : Int) < (E.length : Int)) = false := decide_eq_false (by omega)
          have hsb2 : Hid (sb = usedB E E.length 0 t) := by rw [hsb.out, show i = E.length by omega]; exact rfl
          rw [← hsb2.out] at hsn
          cases sb with
          | true =>
            rw [if_pos rfl] at hsn
            go_wp2_with fail
            go_roundg (nt - (t + 1))
            case measure => omega
            case rel => exact ⟨t + 1, by omega, by go_num, by rw [hsn.out]; exact hO, hbel⟩
          | false =>
            rw [if_neg (by simp)] at hsn
            have hx3 := (Below.refl wo.heap.size wo).alloc (Nat.le_refl _) (.cells #[.int .i64 (t : Int)] 3)
            have hT4 := hO.kept hx3 (Nat.le_refl _)
            have HX := Lib.hid (hbel.trans (hx3.mono hbel.size))
            have hws := hbel.size
            clear hx3
            go_wp2_with (at_builtin; refine wpList_append_own_at _ rfl _ _ 26 rfl w.heap.size 3 i0 (.int .i64 0) 1 8 Tryd.underlying26 hti hz0 hz1 hz2 rfl (by decide) _ _ _ rfl hT4 ⟨wo.heap.size, 0, none⟩ 1 1 [.int .i64 (t : Int)] rfl rfl (cell_one_new _ _ _) (by intro u hu; simp at hu; subst hu; rfl) (by unfold maxLen; omega) (by omega) (by simp; omega) ?_; intro v6 w6 hown6 hg6 _ hat6)
            go_roundg (nt - (t + 1))
            case measure => omega
            case rel => exact ⟨t + 1, by omega, by go_num, by rw [hsn.out]; unfold OwnI; simpa using hown6, HX.out.grown hg6 HX.out.size (fun k hk => (World.ownsRow.lt hT4 k hk).1)⟩
    · have ht' : decide ((t : Int) < (nt : Int)) = false := decide_eq_false (by omega)
      obtain rfl : t = nt := by omega
      go_wp2_with fail
      go_ret
      exact ⟨_, rfl, hO, hbel⟩

end Go.Proofs.YtapnkkoplnhleaaDoor

/- To: who leads to a marking, by going over all edges until nothing is added; on lists; no program here. -/
namespace Go.Proofs.YtapnkkoplnhleaaDoor

def falses (T : List Bool) : Nat := (T.filter (fun b => !b)).length
theorem falses_set : ∀ {T : List Bool} {k : Nat} (hk : k < T.length), T[k] = false → falses (T.set k true) + 1 = falses T
  | b :: T, 0, _, h => by
    simp only [List.getElem_cons_zero] at h
    subst h
    simp [falses]
  | b :: T, k + 1, hk, h => by
    have := falses_set (T := T) (k := k) (by simpa using hk) (by simpa using h)
    unfold falses at this ⊢
    rw [List.set_cons_succ, List.filter_cons, List.filter_cons]
    cases b
    · show (false :: _).length + 1 = (false :: _).length
      rw [List.length_cons, List.length_cons]; omega
    · exact this
/-- Who has been found leads there. -/
structure ToOk (E : List (List (Int × Int))) (i : Nat) (T : List Bool) : Prop where
  len : T.length = E.length
  root : T.getD i false = true
  sound : ∀ k, T.getD k false = true → Leads E k i
/-- Of whom has not been found no edge leads to one that has, from a number on. -/
def ToCl (E : List (List (Int × Int))) (T : List Bool) (k : Int) : Prop := ∀ j : Nat, k < (j : Int) → T.getD j false = false → ∀ l, Edg E j l → T.getD l false = false
theorem ToOk.start {E : List (List (Int × Int))} {i : Nat} (hi : i < E.length) : ToOk E i ((List.replicate E.length false).set i true) := by
  have hl : i < (List.replicate E.length false).length := by simpa using hi
  refine ⟨by simp, by rw [getD_set _ _ _ _ hl, if_pos rfl], fun k hk => ?_⟩
  rw [getD_set _ _ _ _ hl] at hk
  by_cases e : i = k
  · subst e; exact Leads.refl _
  · rw [if_neg e] at hk
    simp [List.getD_eq_getElem?_getD, List.getElem?_replicate] at hk
    split at hk <;> simp at hk
theorem ToOk.set {E : List (List (Int × Int))} {i k j : Nat} {T : List Bool} (h : ToOk E i T) (hk : k < T.length) (he : Edg E k j) (hj : T.getD j false = true) : ToOk E i (T.set k true) := by
  refine ⟨by rw [List.length_set]; exact h.len, ?_, fun m hm => ?_⟩
  · rw [getD_set _ _ _ _ hk]; split
    · rfl
    · exact h.root
  · rw [getD_set _ _ _ _ hk] at hm
    by_cases e : k = m
    · subst e; exact Leads.head he (h.sound j hj)
    · rw [if_neg e] at hm; exact h.sound m hm
theorem to_done {E : List (List (Int × Int))} {i : Nat} {T : List Bool} (h : ToOk E i T) (hc : ToCl E T (-1)) : T = (List.range E.length).map (fun k => leadsB E k i) := by
  have hall : ∀ k, T.getD k false = leadsB E k i := by
    intro k
    cases e : T.getD k false with
    | true => exact (leadsB_iff.2 (h.sound k e)).symm
    | false =>
      cases e2 : leadsB E k i with
      | false => rfl
      | true =>
        have hl := leadsB_iff.1 e2
        have : ∀ {m}, Leads E k m → T.getD m false = false := by
          intro m hm
          induction hm with
          | refl => exact e
          | step _ he ih => exact hc _ (by omega) ih _ he
        have h1 := h.root
        rw [this hl] at h1
        cases h1
  refine List.ext_getElem (by simp [h.len]) ?_
  intro k h1 h2
  have := hall k
  rw [List.getElem_map, List.getElem_range, ← this]
  simp [h1]
theorem home_all {E : List (List (Int × Int))} {i : Nat} : ((List.range E.length).map (fun k => leadsB E k i)).all id = homeB E i := by
  rw [Bool.eq_iff_iff, homeB_iff, List.all_eq_true]
  constructor
  · intro h k hk
    have := h (leadsB E k i) (List.mem_map.2 ⟨k, List.mem_range.2 hk, rfl⟩)
    exact leadsB_iff.1 this
  · intro h b hb
    obtain ⟨k, hk, rfl⟩ := List.mem_map.1 hb
    exact leadsB_iff.2 (h k (List.mem_range.1 hk))

end Go.Proofs.YtapnkkoplnhleaaDoor

/- (*tollgateref17.Graph).To, .Homes: who leads to a marking; homes. -/
namespace Go.Proofs.YtapnkkoplnhleaaDoor
open Go.RowKit

def Bts (w : World) (base : Nat) (v : Value) (T : List Bool) : Prop := OwnF cellB 4 1 w base v T
theorem Bts.at {w : World} {base g n cap : Nat} {T : List Bool} (h : Bts w base (.slice (some ⟨g, 0, none⟩) n cap) T) {k : Nat} (hk : k < T.length) : w.cell? ⟨g, k, none⟩ = some (.bool T[k]) ∧ w.frozen? ⟨g, k, none⟩ = false := by
  have hsc := OwnF.at cellB_len h hk (j := 0) (by omega)
  rw [Nat.mul_one, Nat.add_zero] at hsc
  exact ⟨hsc, OwnF.free h k⟩
theorem Bts.set {w : World} {base g n cap : Nat} {T : List Bool} (h : Bts w base (.slice (some ⟨g, 0, none⟩) n cap) T) {k : Nat} (hk : k < T.length) (b : Bool) : Bts (w.setCell ⟨g, k, none⟩ (.bool b)) base (.slice (some ⟨g, 0, none⟩) n cap) (T.set k b) := by
  have hset := OwnF.set cellB_len h hk (j := 0) (by omega) (.bool b) b rfl
  rw [Nat.mul_one, Nat.add_zero] at hset
  exact hset
theorem getD_at {T : List Bool} {k : Nat} (h : k < T.length) : T.getD k false = T[k] := by simp [h]

set_option maxHeartbeats 4000000 in
theorem refto_any (w : World) (B p nt : Nat) (g : Gr) (h : RgR w B p nt g) (hB : B ≤ w.heap.size) (hE : EOk g.edges) (hME : g.marks.length = g.edges.length) (i : Nat) (hi : i < g.edges.length) :
    Calls Tryd.prog 50 #[.pointer (some ⟨p, 0, none⟩), .int .i64 (i : Int)] w fun e w' => ∃ v, e = .returned v ∧ Bts w' w.heap.size v ((List.range g.edges.length).map (fun k => leadsB g.edges k i)) ∧ Below w.heap.size w w' := by
  obtain ⟨v0, a1, c1, x, y, vM, vE, vF, h1, h2, h3, h4, h5, h6⟩ := h
  obtain ⟨k1, k4, k5, k6⟩ := hbox h1
  obtain ⟨aE, cE, rfl⟩ := h4.val
  obtain ⟨aM, cM, rfl⟩ := h3.val
  have hl := hE.len
  have HV := Lib.hid h4
  have hpw : p < w.heap.size := by omega
  rw [hME] at k4
  obtain ⟨E, hEE⟩ : ∃ E, g.edges = E := ⟨_, rfl⟩
  rw [hEE] at hl HV hE k4 k5 hi ⊢
  clear h1 h3 h4 h5 h6 hEE hME k1 k6
  have hmk := run_make_row' (P := Tryd.prog) 62 4 (.bool false) 1 Tryd.underlying62 info_bool rfl .i64 .i64 E.length (by omega) (by omega)
  have hL0 := made_row' w E.length (by omega)
  have hb0 : Below w.heap.size w (w.alloc (.cells (madeCells #[Value.bool false] E.length) 4)) := (Below.refl _ _).alloc (Nat.le_refl _) _
  obtain ⟨W1, hW1⟩ : ∃ W1, w.alloc (.cells (madeCells #[Value.bool false] E.length) 4) = W1 := ⟨_, rfl⟩
  rw [hW1] at hL0 hb0
  have hL1 : Bts W1 w.heap.size (.slice (some ⟨w.heap.size, 0, none⟩) E.length E.length) (List.replicate E.length false) := hL0
  obtain ⟨hc1, hf1⟩ := hL1.at (k := i) (by simpa using hi)
  have hL2 := hL1.set (k := i) (by simpa using hi) true
  have hb2 : Below w.heap.size w (W1.setCell ⟨w.heap.size, i, none⟩ (.bool true)) := hb0.setCell (Nat.le_refl _) _
  have HK := Lib.hid (And.intro k4 k5)
  have HT0 : Hid (ToOk E i ((List.replicate E.length false).set i true)) := ToOk.start hi
  have HL2 := Lib.hid hL2
  have hfl : falses ((List.replicate E.length false).set i true) ≤ E.length := by
    unfold falses
    refine Nat.le_trans (List.length_filter_le _ _) (by simp)
  have hii : (i : Int) < (E.length : Int) := by omega
  have k4' := k4
  rw [← Below.cellB hb0 hpw] at k4'
  clear hL0 hL1 hL2
  go_enter Tryd.func50, Tryd.ntmps50
  go_wp2_with fail
  clear hW1 hc1 hf1 k4 k4' k5
  go_loopg [6] (E.length + 1) (fun gh s6 wr => ∃ (more : Bool) (T : List Bool), s6 = .bool more ∧ falses T + (if more then 1 else 0) ≤ gh ∧ Hid (ToOk E i T) ∧ Hid (more = false → ToCl E T (-1)) ∧ Hid (Bts wr w.heap.size (.slice (some ⟨w.heap.size, 0, none⟩) E.length E.length) T) ∧ Below w.heap.size w wr)
  case atStart => exact ⟨true, _, rfl, by simp; omega, HT0, (fun e => by cases e), HL2, hb2⟩
  case round =>
    clear HT0 HL2 hb2 hfl
    obtain ⟨more, T, rfl, hgk, hT, hCl, hL, hbel⟩ := hrel
    cases more with
    | false =>
      have hdone := Lib.hid (to_done hT.out (hCl.out rfl))
      go_wp2_with fail
      go_ret
      exact ⟨_, rfl, by rw [← hdone.out]; exact hL.out, hbel⟩
    | true =>
      have hgk' : falses T + 1 ≤ gk := by simpa using hgk
      obtain ⟨k4, k5⟩ := HK.out
      rw [← Below.cellB hbel hpw] at k4 k5
      clear hgk hCl
      go_wp2_with fail
      obtain ⟨F, hF⟩ : ∃ F, falses T = F := ⟨_, rfl⟩
      rw [hF] at hgk'
      go_loopg [6, 7] E.length (fun gh s6 s7 wx => ∃ (k : Int) (more : Bool) (T : List Bool), gh = (k + 1).toNat ∧ -1 ≤ k ∧ k < (E.length : Int) ∧ s7 = .int .i64 k ∧ s6 = .bool more ∧ falses T + (if more then 1 else 0) ≤ F ∧ Hid (ToOk E i T) ∧ Hid (more = false → ToCl E T k) ∧ Hid (Bts wx w.heap.size (.slice (some ⟨w.heap.size, 0, none⟩) E.length E.length) T) ∧ Below w.heap.size w wx)
      case atStart =>
        refine ⟨(E.length : Int) - 1, false, T, by omega, by omega, by omega, rfl, rfl, by simp; omega, hT, Lib.hid (fun _ j hj hjf l hl => ?_), hL, hbel⟩
        have := (hl.lt hE.to_).1
        omega
      case round =>
        clear hF hT hL hbel k4 k5
        obtain ⟨k, more, T, rfl, hk0, hk1, rfl, rfl, hFT, hT, hCl, hL, hbel⟩ := hrel
        obtain ⟨k4, k5⟩ := HK.out
        rw [← Below.cellB hbel hpw] at k4 k5
        by_cases hk : 0 ≤ k
        · obtain ⟨q, rfl⟩ := Int.eq_ofNat_of_zero_le hk
          have hqE : q < E.length := by omega
          obtain ⟨b, o, u, hab, hb, hc, hu⟩ := HV.out.at q hqE
          have hcw := hc
          have hrl := hE.row _ (List.getElem_mem hqE)
          obtain ⟨row, hrow, hdst, hedg⟩ : ∃ row, E[q] = row ∧ Hid (∀ n (hn : n < row.length), ∃ j : Nat, row[n].2 = (j : Int) ∧ j < E.length ∧ Edg E q j) ∧ Hid (∀ l : Nat, Edg E q l → ∃ n, ∃ hn : n < row.length, row[n].2 = (l : Int)) := by
            refine ⟨E[q], rfl, Lib.hid fun n hn => ?_, Lib.hid fun l hl => ?_⟩
            · have h1 := hE.to_ _ (List.getElem_mem hqE) _ (List.getElem_mem hn)
              obtain ⟨j, hj⟩ := Int.eq_ofNat_of_zero_le h1.1
              exact ⟨j, hj, by omega, _, by simp [hqE], hj⟩
            · obtain ⟨e, he, h2⟩ := hl
              have : E.getD q [] = E[q] := by simp [hqE]
              rw [this] at he
              obtain ⟨n, hn, rfl⟩ := List.getElem_of_mem he
              exact ⟨n, hn, h2⟩
          rw [hrow] at hu hrl
          clear hrow hk
          obtain ⟨au, cu, rfl⟩ := hu.val
          subst hab
          go_wp2_with fail
          go_loopg [6, 8] row.length (fun gh s6 s8 wx => ∃ (n : Nat) (more : Bool) (T : List Bool), n + gh = row.length ∧ s8 = .int .i64 (n : Int) ∧ s6 = .bool more ∧ falses T + (if more then 1 else 0) ≤ F ∧ Hid (ToOk E i T) ∧ Hid (more = false → ToCl E T (q : Int)) ∧ Hid (T.getD q false = false → ∀ m (hm : m < row.length), m < n → T.getD row[m].2.toNat false = false) ∧ Hid (Bts wx w.heap.size (.slice (some ⟨w.heap.size, 0, none⟩) E.length E.length) T) ∧ Below w.heap.size w wx)
          case atStart => exact ⟨0, more, T, by omega, rfl, rfl, hFT, hT, hCl, Lib.hid (fun _ m _ h => by omega), hL, hbel⟩
          case round =>
            clear hFT hT hCl hL hbel k4 k5 hc
            obtain ⟨n, more, T, hng, rfl, rfl, hFT, hT, hCl, hNo, hL, hbel⟩ := hrel
            obtain ⟨k4, k5⟩ := HK.out
            rw [← Below.cellB hbel hpw] at k4 k5
            have hc := hcw
            rw [← Below.cellB hbel (by omega)] at hc
            have hTl := hT.out.len
            have hqT : q < T.length := by omega
            obtain ⟨htc, htf⟩ := hL.out.at hqT
            have hqI : (q : Int) < (E.length : Int) := by omega
            have hgq := getD_at hqT
            obtain ⟨tq, htq⟩ : ∃ tq, T[q] = tq := ⟨_, rfl⟩
            rw [htq] at htc hgq
            have HTQ := Lib.hid htq
            have HGQ := Lib.hid hgq
            clear htq hgq
            have HTL := Lib.hid hTl
            clear hTl
            by_cases hn : n < row.length
            · have hnI : decide ((n : Int) < (row.length : Int)) = true := decide_eq_true (by omega)
              cases tq with
              | true =>
                go_wp2_with fail
                go_roundg q
                case measure => omega
                case rel =>
                  refine ⟨(q : Int) - 1, more, T, by omega, by omega, by omega, rfl, rfl, hFT, hT, Lib.hid (fun hm j hj hjf => ?_), hL, hbel⟩
                  by_cases e : (q : Int) < (j : Int)
                  · exact hCl.out hm j e hjf
                  · obtain rfl : j = q := by omega
                    rw [HGQ.out] at hjf; cases hjf
              | false =>
                obtain ⟨be, oe, rfl, hbe, h0, h1⟩ := hu.at hn
                rw [← Below.cellB hbel (by omega)] at h0 h1
                obtain ⟨j, hj, hjE, hje⟩ := hdst.out n hn
                rw [hj] at h1
                have hjT : j < T.length := by have := HTL.out; omega
                obtain ⟨hjc, -⟩ := hL.out.at hjT
                have hgj := getD_at hjT
                obtain ⟨tj, htj⟩ : ∃ tj, T[j] = tj := ⟨_, rfl⟩
                rw [htj] at hjc hgj
                have HJ := Lib.hid hj
                have HGJ := Lib.hid hgj
                have hjI : (j : Int) < (E.length : Int) := by omega
                clear htj hgj hj
                cases tj with
                | true =>
                  have hset := Lib.hid (hL.out.set hqT true)
                  have hTs := Lib.hid (hT.out.set hqT hje HGJ.out)
                  have hfs := falses_set hqT HTQ.out
                  have hF2 : falses (T.set q true) + 1 ≤ F := by split at hFT <;> omega
                  have hgs : Hid ((T.set q true).getD q false = true) := by rw [getD_set _ _ _ _ hqT, if_pos rfl]; exact rfl
                  clear hfs
                  go_wp2_with fail
                  go_roundg (gk - 1)
                  case measure => omega
                  case rel => exact ⟨n + 1, true, T.set q true, by omega, by go_num, rfl, by simpa using hF2, hTs, Lib.hid (fun e => by cases e), Lib.hid (fun e => by rw [hgs.out] at e; cases e), hset, hbel.setCell (Nat.le_refl _) _⟩
                | false =>
                  go_wp2_with fail
                  go_roundg (gk - 1)
                  case measure => omega
                  case rel =>
                    refine ⟨n + 1, more, T, by omega, by go_num, rfl, hFT, hT, hCl, Lib.hid (fun e m hm hmn => ?_), hL, hbel⟩
                    by_cases e2 : m < n
                    · exact hNo.out e m hm e2
                    · obtain rfl : m = n := by omega
                      rw [HJ.out]; exact HGJ.out
            · have hnI : decide ((n : Int) < (row.length : Int)) = false := decide_eq_false (by omega)
              go_wp2_with fail
              go_roundg q
              case measure => omega
              case rel =>
                refine ⟨(q : Int) - 1, more, T, by omega, by omega, by omega, rfl, rfl, hFT, hT, Lib.hid (fun hm j hj hjf l hl => ?_), hL, hbel⟩
                by_cases e : (q : Int) < (j : Int)
                · exact hCl.out hm j e hjf l hl
                · obtain rfl : j = q := by omega
                  obtain ⟨m, hm2, h2⟩ := hedg.out l hl
                  have := hNo.out hjf m hm2 (by omega)
                  rw [h2] at this
                  exact this
        · have hkm : k = -1 := by omega
          subst hkm
          go_wp2_with fail
          go_roundg (falses T + (if more then 1 else 0))
          case measure => omega
          case rel => exact ⟨more, T, rfl, Nat.le_refl _, hT, hCl, hL, hbel⟩

end Go.Proofs.YtapnkkoplnhleaaDoor

/- (*tollgateref17.Graph).Homes. -/
namespace Go.Proofs.YtapnkkoplnhleaaDoor
open Go.RowKit

noncomputable def homesTo (E : List (List (Int × Int))) (k : Nat) : List Int := ((List.range k).filter (homeB E)).map (fun k : Nat => (k : Int))
theorem homesTo_all (E : List (List (Int × Int))) : homesTo E E.length = homesE E := rfl
theorem homesTo_len (E : List (List (Int × Int))) (k : Nat) : (homesTo E k).length ≤ k := by
  have := List.length_filter_le (homeB E) (List.range k)
  unfold homesTo
  simpa using this
theorem homesTo_succ {E : List (List (Int × Int))} {k : Nat} : homesTo E (k + 1) = if homeB E k then homesTo E k ++ [(k : Int)] else homesTo E k := by
  unfold homesTo
  rw [List.range_succ, List.filter_append, List.map_append, List.filter_cons, List.filter_nil]
  cases homeB E k <;> simp
set_option maxHeartbeats 2000000 in
theorem refhomes_any (w : World) (B p nt : Nat) (g : Gr) (h : RgR w B p nt g) (hB : B ≤ w.heap.size) (hE : EOk g.edges) (hME : g.marks.length = g.edges.length) :
    Calls Tryd.prog 25 #[.pointer (some ⟨p, 0, none⟩)] w fun e w' => ∃ v, e = .returned v ∧ OwnI w' w.heap.size v (homesE g.edges) ∧ Below w.heap.size w w' := by
  have HR := Lib.hid h
  have HME := Lib.hid hME
  have HEO := Lib.hid hE
  obtain ⟨v0, a1, c1, x, y, vM, vE, vF, h1, h2, h3, h4, h5, h6⟩ := h
  obtain ⟨k1, k4, k5, k6⟩ := hbox h1
  obtain ⟨aM, cM, rfl⟩ := h3.val
  obtain ⟨i0, hti, hz0, hz1, hz2⟩ := info_parts info_int
  have hl := hE.len
  have hpw : p < w.heap.size := by omega
  rw [hME] at k4
  rw [← homesTo_all]
  have hTo := fun (u : World) (hb : Below w.heap.size w u) (i : Nat) (hi : i < g.edges.length) => refto_any u B p nt g (HR.out.mono (hb.mono hB) (Nat.le_refl _)) (Nat.le_trans hB hb.size) HEO.out HME.out i hi
  obtain ⟨E, hEE⟩ : ∃ E, g.edges = E := ⟨_, rfl⟩
  rw [hEE] at hl hE k4 ⊢
  simp only [hEE] at hTo
  have HTo := Lib.hid hTo
  have HK := Lib.hid k4
  clear h1 h3 h4 h5 h6 hEE hME k1 k5 k6 hTo HR HME HEO
  go_enter Tryd.func25, Tryd.ntmps25
  go_wp2_with fail
  go_loopg [3, 4] E.length (fun gh s3 s4 wr => ∃ i : Nat, i + gh = E.length ∧ s4 = .int .i64 (i : Int) ∧ OwnI wr w.heap.size s3 (homesTo E i) ∧ Below w.heap.size w wr)
  case atStart => exact ⟨0, by omega, rfl, OwnI.nil _ _, Below.refl _ _⟩
  case round =>
    clear k4
    obtain ⟨i, hig, rfl, hO, hbel⟩ := hrel
    have k4 := HK.out
    rw [← Below.cellB hbel hpw] at k4
    by_cases hi : i < E.length
    · have hsn := Lib.hid (homesTo_succ (E := E) (k := i))
      have hdl := homesTo_len E i
      obtain ⟨l, hll⟩ : ∃ l, homesTo E i = l := ⟨_, rfl⟩
      rw [hll] at hO hsn hdl
      clear hll
      obtain ⟨a3, c3, rfl⟩ := hO.shape
      have HC := Lib.hid (HTo.out wr hbel i hi)
      have HTL : Hid (((List.range E.length).map (fun k => leadsB E k i)).length = E.length) := by refine Lib.hid ?_; simp
      have HTA := Lib.hid (home_all (E := E) (i := i))
      obtain ⟨T, hT⟩ : ∃ T, (List.range E.length).map (fun k => leadsB E k i) = T := ⟨_, rfl⟩
      rw [hT] at HC HTL HTA
      clear hT
      have HOO := Lib.hid hO
      have HBE := Lib.hid hbel
      go_wp2_with (first | (go_at_call 50; refine HC.out.mono ?_; rintro e w5 ⟨v5, rfl, hT5, hb5⟩; refine Hid.out ?_))
      refine Lib.hid ?_
      have hTl : T.length = E.length := HTL.out
      have hO5 := HOO.out.kept hb5 (Nat.le_refl _)
      have hB5 := HBE.out.trans (hb5.mono HBE.out.size)
      obtain ⟨a5, c5, rfl⟩ := OwnF.shape hT5
      obtain ⟨g5, rfl, -, -, -⟩ := OwnF.some hT5 (by omega)
      have HT5 := Lib.hid hT5
      have HTl := Lib.hid hTl
      have hTm : T.length ≤ 1024 := by omega
      clear hO hbel hb5 hT5 hTl k4 HOO HBE HC
      go_wp2_with fail
      go_loopg [6, 7] T.length (fun gh s6 s7 wx => ∃ (k : Nat) (al : Bool), k + gh = T.length ∧ s7 = .int .i64 (k : Int) ∧ s6 = .bool al ∧ Hid (al = (T.take k).all id) ∧ w5 = wx)
      case atStart => exact ⟨0, true, by omega, rfl, rfl, rfl, rfl⟩
      case round =>
        obtain ⟨k, al, hkg, rfl, rfl, hal, rfl⟩ := hrel
        by_cases hk : k < T.length
        · obtain ⟨hc, -⟩ := Bts.at HT5.out hk
          have hst : Hid ((T.take (k + 1)).all id = ((T.take k).all id && T[k])) := by refine Lib.hid ?_; rw [List.take_succ_eq_append_getElem hk, List.all_append]; simp
          obtain ⟨b, hb⟩ : ∃ b, T[k] = b := ⟨_, rfl⟩
          rw [hb] at hc hst
          clear hb
          have hkI : (k : Int) < (T.length : Int) := by omega
          cases al with
          | false =>
            have Hn : Hid (false = (T.take (k + 1)).all id) := by rw [hst.out, ← hal.out]; exact rfl
            go_wp2_with fail
            go_roundg (gk - 1)
            case measure => omega
            case rel => exact ⟨k + 1, false, by omega, by go_num, rfl, Hn, rfl⟩
          | true =>
            have Hn : Hid (b = (T.take (k + 1)).all id) := by rw [hst.out, ← hal.out]; cases b <;> exact rfl
            go_wp2_with fail
            go_roundg (gk - 1)
            case measure => omega
            case rel => exact ⟨k + 1, b, by omega, by go_num, rfl, Hn, rfl⟩
        · have hk' : decide ((k : Int) < (T.length : Int)) = false := decide_eq_false (by omega)
          have hal2 : Hid (al = homeB E i) := by rw [hal.out, List.take_of_length_le (by omega), HTA.out]; exact rfl
          rw [← hal2.out] at hsn
          cases al with
          | false =>
            rw [if_neg (by simp)] at hsn
            go_wp2_with fail
            go_roundg (E.length - (i + 1))
            case measure => omega
            case rel => exact ⟨i + 1, by omega, by go_num, by rw [hsn.out]; exact hO5, hB5⟩
          | true =>
            rw [if_pos rfl] at hsn
            have hx3 := (Below.refl w5.heap.size w5).alloc (Nat.le_refl _) (.cells #[.int .i64 (i : Int)] 3)
            have hT4 := hO5.kept hx3 (Nat.le_refl _)
            have HX := Lib.hid (hB5.trans (hx3.mono hB5.size))
            have hws := hB5.size
            clear hx3
            go_wp2_with (at_builtin; refine wpList_append_own_at _ rfl _ _ 26 rfl w.heap.size 3 i0 (.int .i64 0) 1 8 Tryd.underlying26 hti hz0 hz1 hz2 rfl (by decide) _ _ _ rfl hT4 ⟨w5.heap.size, 0, none⟩ 1 1 [.int .i64 (i : Int)] rfl rfl (cell_one_new _ _ _) (by intro u hu; simp at hu; subst hu; rfl) (by unfold maxLen; omega) (by omega) (by simp; omega) ?_; intro v6 w6 hown6 hg6 _ hat6)
            go_roundg (E.length - (i + 1))
            case measure => omega
            case rel => exact ⟨i + 1, by omega, by go_num, by rw [hsn.out]; unfold OwnI; simpa using hown6, HX.out.grown hg6 HX.out.size (fun k hk => (World.ownsRow.lt hT4 k hk).1)⟩
    · have hi' : decide ((i : Int) < (E.length : Int)) = false := decide_eq_false (by omega)
      obtain rfl : i = E.length := by omega
      go_wp2_with fail
      go_ret
      exact ⟨_, rfl, hO, hbel⟩

end Go.Proofs.YtapnkkoplnhleaaDoor
