/- The walk of the law NetRows. -/
import Derived.Test.YtopgakpggnkkmaaNetShares
namespace Go.Proofs.Ytopgakpggnkkmaa
open Go.RowKit

theorem box_all {w w' : World} {N : Nat} {o : Obj} (h : w.heap[N]? = some o) (hb : Below w.heap.size w w') : w'.heap[N]? = some o := (hb.block N (lt_of_block h)).trans h

theorem u64_wrap_nn (x : Int) : ∃ u : Nat, IntKind.u64.wrap x = (u : Int) := by
  have h : 0 ≤ IntKind.u64.wrap x := by
    simp only [IntKind.wrap, IntKind.bits, IntKind.signed]
    simp
    exact Int.emod_nonneg _ (by decide)
  exact Int.eq_ofNat_of_zero_le h

theorem tmod_nat (u k : Nat) : ((u : Int)).tmod ((k : Int) + 1) = ((u % (k + 1) : Nat) : Int) := by
  rw [show ((k : Int) + 1) = ((k + 1 : Nat) : Int) by omega]
  exact Int.ofNat_tmod u (k + 1)

theorem take_col {α : Type} {mk : α → Value} {L : Nat} {w : World} {B : Nat} {a : Option Addr} {cap c : Nat} {l : List α} (h : ColV mk L w B (.slice a l.length cap) l) (hc : c ≤ l.length) : ColV mk L w B (.slice a c cap) (l.take c) := by
  refine ⟨a, cap, by rw [List.length_take, Nat.min_eq_left hc], by rw [List.length_take]; have := h.len; omega, by rw [List.length_take]; have := h.cap; omega, fun i hi => ?_⟩
  have hi' : i < l.length := by rw [List.length_take] at hi; omega
  obtain ⟨b, o, ha, hb, hcell⟩ := h.col i hi'
  exact ⟨b, o, ha, hb, by rw [hcell, List.getElem_take]⟩

/-- x[c:], whatever the address. -/
theorem run_slice_from {P : Program} (t e : TypeId) (ht : P.underlying t = some (.slice e)) (hs : ∀ w, (sizeOf e).run P w = .ok 1 w) (a : Option Addr) (len cap c : Nat) (h1 : c ≤ len) (w : World) :
    (Instr.slice t (.slice a len cap) (some (.int .i64 (c : Int))) none none).run P w = .ok (.slice (if cap = c then a else a.map (·.add c)) (len - c) (cap - c)) w := by
  have h0 : (0 : Int) ≤ (c : Int) := by omega
  have h2 : (c : Int) ≤ (len : Int) := by omega
  simp [Instr.slice, run_underlying ht, Instr.sliceBounds, run_sliceBound, h0, h2, hs]

theorem drop_col {α : Type} {mk : α → Value} {L : Nat} {w : World} {B cap c : Nat} {a : Option Addr} {l : List α} (h : ColV mk L w B (.slice a l.length cap) l) (hc : c ≤ l.length) : ColV mk L w B (.slice (if cap = c then a else a.map (·.add c)) (l.length - c) (cap - c)) (l.drop c) := by
  refine ⟨_, cap - c, by rw [List.length_drop], by rw [List.length_drop]; have := h.len; omega, by rw [List.length_drop]; have := h.cap; omega, fun i hi => ?_⟩
  rw [List.length_drop] at hi
  have hi' : c + i < l.length := by omega
  have := h.cap
  obtain ⟨b, o, rfl, hb, hcell⟩ := h.col (c + i) hi'
  rw [if_neg (by omega)]
  exact ⟨b, o + c, by simp [add_addr], hb, by rw [show o + c + i = o + (c + i) by omega, hcell, List.getElem_drop]⟩

theorem rising_ge : ∀ {l : List Int} {lo : Int}, Rising l → (∀ x ∈ l, lo ≤ x) → ∀ hi : Int, (∀ x ∈ l, x < hi) → lo ≤ hi → (l.length : Int) ≤ hi - lo
  | [], lo, _, _, hi, _, h => by simp; omega
  | x :: l, lo, h, hlo, hi, hhi, _ => by
    have h1 := h.head
    have hx := hlo x (by simp)
    have hxh := hhi x (by simp)
    have := rising_ge (l := l) (lo := x + 1) h.tail (fun y hy => by have := h1 y hy; omega) hi (fun y hy => hhi y (by simp [hy])) (by omega)
    simp only [List.length_cons]
    omega
theorem rising_len {l : List Int} {many : Nat} (h : Rising l) (hp : PlacesOk many l) : l.length ≤ many := by
  have := rising_ge h (fun x hx => (hp x hx).1) many (fun x hx => (hp x hx).2) (by omega)
  omega

theorem rowGo_len (n : Nt) : ∀ (row m : List Int) (k : Int), m.length = n.places.length → (rowGo n m row k).1.length ≤ n.places.length
  | [], m, k, h => by simp [rowGo, h]
  | t :: row, m, k, h => by
    simp only [rowGo]
    split
    · exact rowGo_len n row _ _ (by rw [len_fire]; exact h)
    · simp

theorem tail_len {n : Nt} {head row tail : List Int} {j g : Int} (h : n.Mark head) (e : n.rowE head row = (tail, j, g)) : tail.length ≤ 17592186044416 := by
  have hm := h.ok.many
  have key : (n.rowE head row).1.length ≤ n.places.length := by
    unfold Nt.rowE
    split
    · split
      · simp
      · exact rowGo_len n row head 0 h.len
    · simp
  rw [e] at key
  simp only at key
  omega

set_option maxRecDepth 100000 in
set_option maxHeartbeats 4000000 in
theorem netRows_walk (W : World) (vp vt : Value) (n : Nt) (hn : NtR W W.heap.size vp vt n) (_gn : NtI n) (vm : Value) (m : List Int) (hm : Ints W W.heap.size vm m) (_gm : I64s m) (vr : Value) (row : List Int) (hr : Ints W W.heap.size vr row) (_gr : I64s row)
    (cut : Int) (_gc : (Lit.int .i64 cut).wf = true) (s : Int) (_gs : (Lit.int .i64 s).wf = true) (t : Int) (_gt : (Lit.int .i64 t).wf = true) :
    Calls Try.prog 6 #[.agg #[vp, vt, .int .i64 n.init, .int .i64 n.final], vm, vr, .int .i64 cut, .int .i64 s, .int .i64 t] W fun e w' => e = .returned (.bool true) ∧ Below W.heap.size W w' := by
  have hbA := (Below.refl W.heap.size W).alloc (Nat.le_refl _) (.cells #[vp, vt, .int .i64 n.init, .int .i64 n.final] 28)
  have hboxA := heap_alloc_new W (.cells #[vp, vt, .int .i64 n.init, .int .i64 n.final] 28)
  have hlm := hm.len
  have hlr := hr.len
  obtain ⟨ap, cp, rfl⟩ := hn.1.val
  obtain ⟨at_, ct, rfl⟩ := hn.2.val
  obtain ⟨am, cm, rfl⟩ := hm.val
  obtain ⟨ar, cr, rfl⟩ := hr.val
  obtain ⟨u, hu⟩ := u64_wrap_nn cut
  obtain ⟨c, hc⟩ : ∃ c, u % (row.length + 1) = c := ⟨_, rfl⟩
  have hcl : c ≤ row.length := by have := Nat.mod_lt u (show 0 < row.length + 1 by omega); omega
  have hmod : ((u : Int)).tmod ((row.length : Int) + 1) = (c : Int) := by rw [tmod_nat, hc]
  clear hc
  have key := Lib.hid (rows_core (n := n) (m := m) (row := row) c hcl)
  have hcc : c ≤ cr := Nat.le_trans hcl hr.cap
  go_enter Try.func6, Try.ntmps6
  go_wp2_with fail
  refine (works_any _).mono ?_
  rintro e w1 ⟨rfl, hb1⟩
  have B1 := hbA.trans (hb1.mono (by simp))
  have hz1' := B1.size
  have hn1 := hn.mono B1 (show W.heap.size ≤ w1.heap.size by omega)
  have hm1 := hm.mono B1 (show W.heap.size ≤ w1.heap.size by omega)
  have hr1 := hr.mono B1 (show W.heap.size ≤ w1.heap.size by omega)
  have hbox1 := (hb1.block W.heap.size (by simp)).trans hboxA
  obtain ⟨c0, c1, c2, c3⟩ := box4 hbox1
  go_wp2_with fail
  refine (row_any _ _ _ _ _ n m row _ (Nat.le_refl _) hn1 hm1 hr1).mono ?_
  rintro e w2 ⟨vo, rfl, how2, hb2⟩
  have B2 := B1.trans (hb2.mono B1.size)
  have hz2' := hb2.size
  have hn2 := hn1.mono hb2 hz2'
  have hm2 := hm1.mono hb2 hz2'
  have hr2 := hr1.mono hb2 hz2'
  have hbox2 := box_all hbox1 hb2
  clear c0 c1 c2 c3
  obtain ⟨c0, c1, c2, c3⟩ := box4 hbox2
  obtain ⟨ao, co, rfl⟩ := how2.shape
  go_wp2_with fail
  have hN : W.heap.size < w2.heap.size := by have := lt_of_block hbox2; omega
  have hccI : (c : Int) ≤ (cr : Int) := by omega
  have hcI : (0 : Int) ≤ (c : Int) := by omega
  have hrt : Ints w2 w2.heap.size (.slice ar c cr) (row.take c) := take_col hr2 hcl
  have hD2 : Below w2.heap.size w2 w2.drew := (Below.refl _ _).drew
  have hn2d := hn2.mono hD2 (Nat.le_refl _)
  have hm2d := hm2.mono hD2 (Nat.le_refl _)
  have hrtd := hrt.mono hD2 (Nat.le_refl _)
  go_cut [17, 18, 19] (fun s17 s18 s19 wx => ∃ vh, s17 = vh ∧ OwnI wx w2.heap.size vh (n.rowE m (row.take c)).1 ∧ s18 = .int .i64 (n.rowE m (row.take c)).2.1 ∧ s19 = .int .i64 (n.rowE m (row.take c)).2.2 ∧ Below w2.heap.size w2 wx)
  case first =>
    go_region_held3 (fun w' => w'.cell? ⟨W.heap.size, 0, none⟩ = some (.slice ap n.places.length cp) ∧ w'.cell? ⟨W.heap.size, 1, none⟩ = some (.slice at_ n.trans.length ct) ∧ w'.cell? ⟨W.heap.size, 2, none⟩ = some (.int .i64 n.init) ∧ w'.cell? ⟨W.heap.size, 3, none⟩ = some (.int .i64 n.final))
      (first | go_keep | (refine ⟨?_, ?_, ?_, ?_⟩ <;> (rw [Below.cellB HB3 hN]; assumption)))
      (first | (go_at_call 16; refine (row_any w2.drew _ _ _ _ n m (row.take c) w2.heap.size (Nat.le_refl _) hn2d hm2d hrtd).mono ?_; rintro e w3 ⟨vh, rfl, how3, hb3⟩; have HB3 : Below w2.heap.size w2 w3 := hD2.trans hb3))
    go_wp2_with fail
    go_meet
    case rel => exact ⟨_, rfl, how3, rfl, rfl, HB3⟩
  case rest =>
    obtain ⟨vh, rfl, how3, rfl, rfl, hb3⟩ := hcut
    have B3 := B2.trans (hb3.mono B2.size)
    have hz3 := hb3.size
    have hn3 := hn2.mono hb3 hz3
    have hm3 := hm2.mono hb3 hz3
    have hr3 := hr2.mono hb3 hz3
    have hbox3 := box_all hbox2 hb3
    clear c0 c1 c2 c3 hn2d hm2d hrtd hrt
    obtain ⟨c0, c1, c2, c3⟩ := box4 hbox3
    obtain ⟨ah, ch, rfl⟩ := how3.shape
    rcases key.out with k1 | ⟨hM, hokB, k2, k3, ⟨i, f, eT, hf, eR⟩ | ⟨head, eT, hMh, tail, j, g, eD, eR, hj0, hj1⟩⟩
    · rw [k1]
      clear key k1
      go_wp2_with fail
      go_ret
      exact ⟨rfl, B3⟩
    · rw [eR] at k2 k3
      rw [eT, eR]
      have hz : (f != 0) = true := by simp [hf]
      have hff : (f == f) = true := by simp
      have hii : (i == i) = true := by simp
      have k3' : (f == 1) = false := k3
      clear key eT eR hf k2 k3 hokB
      go_wp2_with fail
      go_ret
      exact ⟨rfl, B3⟩
    · rw [eR] at k2 k3 how2
      rw [eT] at how3
      rw [eT, eR]
      have k3' : (g == 1) = false := k3
      have hgg : (g != g) = false := by simp
      have hcc2 : ((c : Int) != (c : Int)) = false := by simp
      have hcj : ((c : Int) + j != (c : Int) + j) = false := by simp
      have HMh := Lib.hid hMh
      have HM := Lib.hid hM
      have HOK := Lib.hid hokB
      have ED := Lib.hid eD
      have hlh := Lib.hid hMh.len
      have htl : tail.length ≤ 17592186044416 := tail_len hMh eD
      have hallI := (how2.col htl (Nat.le_refl _)).mono hb3 hz3
      have hhI := how3.col (by have := hlh.out; have := hMh.ok.many; simp; omega) (Nat.le_refl _)
      have hsl := fun w => run_slice_from (P := Try.prog) 22 3 Try.underlying22 (fun w => by kernel_rfl) ar row.length cr c hcl w
      have hrd := drop_col hr3 hcl
      obtain ⟨ad, had⟩ : ∃ ad, (if cr = c then ar else ar.map (·.add c)) = ad := ⟨_, rfl⟩
      rw [had] at hrd
      simp only [had] at hsl
      clear key eT eR k2 k3 hMh hM hokB eD had how2 how3
      go_wp2_with fail
      have hN3 : W.heap.size < wc.heap.size := by have := lt_of_block hbox3; omega
      have hD3 : Below wc.heap.size wc wc.drew := (Below.refl _ _).drew
      have hn3d := hn3.mono hD3 (Nat.le_refl _)
      have hh3d := hhI.mono hD3 (Nat.le_refl _)
      have hr3d := hrd.mono hD3 (Nat.le_refl _)
      have hrow := Lib.hid (row_any wc.drew _ _ _ _ n head (row.drop c) wc.heap.size (Nat.le_refl _) hn3d hh3d hr3d)
      rw [ED.out] at hrow
      go_cut [20, 21, 22] (fun s20 s21 s22 wx => ∃ vt, s20 = vt ∧ OwnI wx wc.heap.size vt tail ∧ s21 = .int .i64 j ∧ s22 = .int .i64 g ∧ Below wc.heap.size wc wx)
      case first =>
        go_region_held3 (fun w' => w'.cell? ⟨W.heap.size, 0, none⟩ = some (.slice ap n.places.length cp) ∧ w'.cell? ⟨W.heap.size, 1, none⟩ = some (.slice at_ n.trans.length ct) ∧ w'.cell? ⟨W.heap.size, 2, none⟩ = some (.int .i64 n.init) ∧ w'.cell? ⟨W.heap.size, 3, none⟩ = some (.int .i64 n.final))
          (first | go_keep | (refine ⟨?_, ?_, ?_, ?_⟩ <;> (rw [Below.cellB HB3 hN3]; assumption)))
          (first | (go_at_call 16; refine hrow.out.mono ?_; rintro e w3 ⟨vt, rfl, how3, hb3⟩; have HB3 : Below wc.heap.size wc w3 := hD3.trans hb3))
        go_wp2_with fail
        go_meet
        case rel => exact ⟨_, rfl, how3, rfl, rfl, HB3⟩
      case rest =>
        obtain ⟨vt, rfl, how5, rfl, rfl, hb5⟩ := hcut
        obtain ⟨wd, rfl⟩ : ∃ wd, wd = wc := ⟨_, rfl⟩
        have B5 := B3.trans (hb5.mono B3.size)
        have hz5 := hb5.size
        have hn5 := hn3.mono hb5 hz5
        have hm5 := hm3.mono hb5 hz5
        have hall5 := hallI.mono hb5 hz5
        have htl5 := how5.col htl (Nat.le_refl _)
        have hbox5 := box_all hbox3 hb5
        clear c0 c1 c2 c3 hn3d hh3d hr3d hrow
        obtain ⟨c0, c1, c2, c3⟩ := box4 hbox5
        obtain ⟨atl, ctl, rfl⟩ := how5.shape
        have HC := Lib.hid (cmp_is _ _ _ _ _ _ htl5 hall5 (cmpL_self tail))
        clear how5
        go_upto_region 13 with (go_at_call 13; go_must (refine HC.out.mono ?_; rintro e w6 ⟨rfl, rfl⟩))
        have BD : ∀ j, Below W.heap.size W (wd.drewN j) := fun j => below_drewN B5 j
        by_cases hs0 : s < 0
        · have hd1 : decide (s < 0) = true := decide_eq_true hs0
          go_quiet (fail)
          go_wp2_with fail
          go_ret
          exact ⟨rfl, below_drewN B5 _⟩
        have hd1 : decide (s < 0) = false := decide_eq_false hs0
        by_cases ht0 : t < 0
        · have hd2 : decide (t < 0) = true := decide_eq_true ht0
          go_quiet (fail)
          go_wp2_with fail
          go_ret
          exact ⟨rfl, below_drewN B5 _⟩
        have hd2 : decide (t < 0) = false := decide_eq_false ht0
        by_cases hs1 : (n.trans.length : Int) ≤ s
        · have hd3 : decide ((n.trans.length : Int) ≤ s) = true := decide_eq_true hs1
          go_quiet (fail)
          go_wp2_with fail
          go_ret
          exact ⟨rfl, below_drewN B5 _⟩
        have hd3 : decide ((n.trans.length : Int) ≤ s) = false := decide_eq_false hs1
        by_cases ht1 : (n.trans.length : Int) ≤ t
        · have hd4 : decide ((n.trans.length : Int) ≤ t) = true := decide_eq_true ht1
          go_quiet (fail)
          go_wp2_with fail
          go_ret
          exact ⟨rfl, below_drewN B5 _⟩
        have hd4 : decide ((n.trans.length : Int) ≤ t) = false := decide_eq_false ht1
        obtain ⟨s, rfl⟩ := Int.eq_ofNat_of_zero_le (by omega : 0 ≤ s)
        obtain ⟨t, rfl⟩ := Int.eq_ofNat_of_zero_le (by omega : 0 ≤ t)
        have hsl2 : s < n.trans.length := by omega
        have htl2 : t < n.trans.length := by omega
        have hd3n : decide (n.trans.length ≤ s) = false := decide_eq_false (by omega)
        have hd4n : decide (n.trans.length ≤ t) = false := decide_eq_false (by omega)
        have hsI : (s : Int) < (n.trans.length : Int) := by omega
        have htI : (t : Int) < (n.trans.length : Int) := by omega
        obtain ⟨bt, ot, vi, vo, hat, hbt2, h0, h1, h2, hi, ho⟩ := hn5.2.col s hsl2
        obtain ⟨bt', ot', wi, wo, hat', hbt2', g0, g1, g2, ki, ko⟩ := hn5.2.col t htl2
        subst hat
        cases hat'
        have ms := HM.out.ok.inn _ (List.getElem_mem hsl2)
        have ms2 := HM.out.ok.out _ (List.getElem_mem hsl2)
        have hle := HM.out.ok.many
        have li := rising_len ms.2 ms.1
        have lo := rising_len ms2.2 ms2.1
        obtain ⟨a, ha⟩ : ∃ a, n.trans[s] = a := ⟨_, rfl⟩
        obtain ⟨b, hb⟩ : ∃ b, n.trans[t] = b := ⟨_, rfl⟩
        rw [ha] at h0 hi ho li lo
        rw [hb] at g0 ki ko
        have HAB := Lib.hid (And.intro ha hb)
        clear ms ms2 ha hb hs0 ht0 hs1 ht1
        have hN5 : W.heap.size < wd.heap.size := by have := lt_of_block hbox5; omega
        have hD5 : Below wd.heap.size wd wd.drew := (Below.refl _ _).drew
        obtain ⟨ai, ci, rfl⟩ := hi.val
        obtain ⟨ao2, co2, rfl⟩ := ho.val
        obtain ⟨bi, di, rfl⟩ := ki.val
        obtain ⟨bo, do_, rfl⟩ := ko.val
        have hsh := Lib.hid (shares_any wd.drew wd.heap.size (Nat.le_refl _) a b _ _ _ _ (hi.mono hD5 (Nat.le_refl _)) (ho.mono hD5 (Nat.le_refl _)) (ki.mono hD5 (Nat.le_refl _)) (ko.mono hD5 (Nat.le_refl _)) (by omega) (by omega))
        go_cut [137] (fun s137 wx => s137 = .bool (sharesB a b) ∧ Below wd.heap.size wd wx)
        case first =>
          go_region_held3 (fun w' => w'.cell? ⟨W.heap.size, 1, none⟩ = some (.slice (some ⟨bt, ot, none⟩) n.trans.length ct) ∧ w'.cell? ⟨bt, ot + s * 3, none⟩ = some (.string a.label) ∧ w'.cell? ⟨bt, ot + s * 3 + 1, none⟩ = some (.slice ai a.inn.length ci) ∧ w'.cell? ⟨bt, ot + s * 3 + 2, none⟩ = some (.slice ao2 a.out.length co2) ∧
              w'.cell? ⟨bt, ot + t * 3, none⟩ = some (.string b.label) ∧ w'.cell? ⟨bt, ot + t * 3 + 1, none⟩ = some (.slice bi b.inn.length di) ∧ w'.cell? ⟨bt, ot + t * 3 + 2, none⟩ = some (.slice bo b.out.length do_))
            (first | go_keep | (refine ⟨?_, ?_, ?_, ?_, ?_, ?_, ?_⟩ <;> (rw [Below.cellB HB3 (by omega)]; assumption)))
            (first | (go_at_call 18; refine hsh.out.mono ?_; rintro e w3 ⟨rfl, hb3⟩; have HB3 : Below wd.heap.size wd w3 := hD5.trans hb3))
          go_wp2_with fail
          go_meet
          case rel => exact ⟨rfl, HB3⟩
        case rest =>
          obtain ⟨rfl, hb6⟩ := hcut
          obtain ⟨we, hwe⟩ : ∃ we, we = wc := ⟨_, rfl⟩
          have B6 := B5.trans (hb6.mono B5.size)
          have hz6 := hb6.size
          have hn6 := hn5.mono hb6 hz6
          have hm6 := hm5.mono hb6 hz6
          have hbox6 := box_all hbox5 hb6
          clear c0 c1 c2 c3 hwe
          obtain ⟨c0, c1, c2, c3⟩ := box4 hbox6
          clear hn5 hm5 hall5 htl5 hr3 hn3 hm3 hrd hhI hallI h0 h1 h2 hi ho g0 g1 g2 ki ko hsh HC
          cases hsb : sharesB a b with
          | true =>
            go_wp2_with fail
            go_ret
            exact ⟨rfl, B6⟩
          | false =>
            have hap : Apart n.trans[s] n.trans[t] := by rw [HAB.out.1, HAB.out.2]; exact sharesB_no hsb
            obtain ⟨x, xa, xb, y, ya, yb, e1, e2, e3, e4, e5⟩ := swap_core HM.out HOK.out hsl2 htl2 hap
            have hx := HM.out.ok.many
            have E2 := Lib.hid e2
            have E3 := Lib.hid e3
            have E4 := Lib.hid e4
            have hlx : x.length ≤ 4096 := by omega
            have hA := (Below.refl wc.heap.size wc).alloc (Nat.le_refl _) (.cells #[.int .i64 s, .int .i64 t] 3)
            have hr6 : Ints (wc.alloc (.cells #[.int .i64 s, .int .i64 t] 3)) (wc.heap.size + 1) (.slice (some ⟨wc.heap.size, 0, none⟩) 2 2) [(s : Int), (t : Int)] := ints_lit (l := [(s : Int), (t : Int)]) (heap_alloc_new _ _) (by simp) (by omega)
            have hn7 := hn6.mono hA (Nat.le_succ _)
            have hm7 := hm6.mono hA (Nat.le_succ _)
            have hrow := row_any _ _ _ _ _ n m [(s : Int), (t : Int)] (wc.heap.size + 1) (by simp) hn7 hm7 hr6
            rw [e1] at hrow
            have Hrow := Lib.hid hrow
            clear hrow e1 e2 e3 e4 e5 hap hx hn7 hm7 hr6
            go_wp2_with fail
            refine Hrow.out.mono ?_
            rintro e w8 ⟨vx, rfl, how8, hb8⟩
            have A8 := hA.trans (hb8.mono (by simp))
            have B8 := B6.trans (A8.mono B6.size)
            have hz8 := A8.size
            have hn8 := hn6.mono A8 hz8
            have hm8 := hm6.mono A8 hz8
            have hbox8 := box_all hbox6 A8
            clear c0 c1 c2 c3
            obtain ⟨c0, c1, c2, c3⟩ := box4 hbox8
            have hx8 := how8.col (by simp; omega) (Nat.le_refl _)
            obtain ⟨ax, cx, rfl⟩ := how8.shape
            have hA2 := (Below.refl w8.heap.size w8).alloc (Nat.le_refl _) (.cells #[.int .i64 t, .int .i64 s] 3)
            have hr9 : Ints (w8.alloc (.cells #[.int .i64 t, .int .i64 s] 3)) (w8.heap.size + 1) (.slice (some ⟨w8.heap.size, 0, none⟩) 2 2) [(t : Int), (s : Int)] := ints_lit (l := [(t : Int), (s : Int)]) (heap_alloc_new _ _) (by simp) (by omega)
            have hrow2 := row_any _ _ _ _ _ n m [(t : Int), (s : Int)] (w8.heap.size + 1) (by simp) (hn8.mono hA2 (Nat.le_succ _)) (hm8.mono hA2 (Nat.le_succ _)) hr9
            rw [E2.out] at hrow2
            have Hrow2 := Lib.hid hrow2
            clear hrow2 hr9 how8
            go_wp2_with fail
            refine Hrow2.out.mono ?_
            rintro e w9 ⟨vy, rfl, how9, hb9⟩
            have A9 := hA2.trans (hb9.mono (by simp))
            have B9 := B8.trans (A9.mono B8.size)
            have hx9 := hx8.mono A9 A9.size
            have hy9 := how9.col (by have := E4.out; show y.length ≤ 17592186044416; rw [← this]; omega) (Nat.le_refl _)
            obtain ⟨ay, cy, rfl⟩ := how9.shape
            have HC := Lib.hid (cmp_is (x := 0) _ _ _ _ _ _ hx9 hy9 (by have := E4.out; rw [this]; exact cmpL_self y))
            have hbb : ((xb == 0) == (yb == 0)) = true := by rw [E3.out]; simp
            clear how9 hx9 hy9
            go_wp2_with (go_at_call 13; go_must (refine HC.out.mono ?_; rintro e w10 ⟨rfl, rfl⟩))
            go_ret
            exact ⟨rfl, B9⟩
end Go.Proofs.Ytopgakpggnkkmaa
