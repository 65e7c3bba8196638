/- pumps: the row of the way's rest is fired again and again. -/
import Derived.Test.YtgahlonimaeicaaDoorCoverPumpsP
import Derived.Test.YtgahlonimaeicaaDoorNetRow
import Derived.Test.YtgahlonimaeicaaDoorNetCmp
import Derived.Test.YtgahlonimaeicaaDoorNetOne
import Derived.Test.YtgahlonimaeicaaDoorCoverGrow
set_option maxRecDepth 100000
namespace Go.Proofs.YtgahlonimaeicaaDoor
open Go.RowKit

/-- What pumps is handed. -/
structure PumpIn (n : Nt) (P : List Nd) (ms : List Int) : Prop where
  ok : n.okB = true
  two : 2 ≤ P.length
  le : P.length ≤ 4096
  bad : ((P.map Nd.tr).drop 1).any n.badT = false
  step : ∀ c, c + 1 < P.length → ∀ d, P[c]? = some d → (rowGo n d.mark ((P.map Nd.tr).drop (c + 1)) 0).2.2 = 0 ∧ (rowGo n d.mark ((P.map Nd.tr).drop (c + 1)) 0).1 = ms ∧ n.Mark d.mark ∧ ∀ x ∈ d.mark, x ≤ 33554433
  some : ∃ c d, c + 1 < P.length ∧ P[c]? = some d ∧ coversB ms d.mark = true ∧ ms ≠ d.mark

theorem box_up' {w w' : World} {N : Nat} {o : Obj} (h : w.heap[N]? = some o) (hb : Below w.heap.size w w') : w'.heap[N]? = some o := (hb.block N (lt_of_block h)).trans h
theorem take_tr {P : List Nd} {k : Nat} (h : k < P.length) : (P.map Nd.tr).take (k + 1) = (P.map Nd.tr).take k ++ [P[k].tr] := by
  rw [List.take_succ_eq_append_getElem (by simpa using h)]; simp

/-- x[c:], whatever the address. -/
theorem run_slice_from {P : Program} (t e : TypeId) (ht : P.underlying t = some (.slice e)) (hs : ∀ w, (sizeOf e).run P w = .ok 1 w) (a : Option Addr) (len cap c : Nat) (h1 : c ≤ len) (w : World) :
    (Instr.slice t (.slice a len cap) (some (.int .i64 (c : Int))) none none).run P w = .ok (.slice (if cap = c then a else a.map (·.add c)) (len - c) (cap - c)) w := by
  have h0 : (0 : Int) ≤ (c : Int) := by omega
  have h2 : (c : Int) ≤ (len : Int) := by omega
  simp [Instr.slice, run_underlying ht, Instr.sliceBounds, run_sliceBound, h0, h2, hs]

theorem drop_col {α : Type} {mk : α → Value} {L : Nat} {w : World} {B cap c : Nat} {a : Option Addr} {l : List α} (h : ColV mk L w B (.slice a l.length cap) l) (hc : c ≤ l.length) : ColV mk L w B (.slice (if cap = c then a else a.map (·.add c)) (l.length - c) (cap - c)) (l.drop c) := by
  refine ⟨_, cap - c, by rw [List.length_drop], by rw [List.length_drop]; have := h.len; omega, by rw [List.length_drop]; have := h.cap; omega, fun i hi => ?_⟩
  rw [List.length_drop] at hi
  have hi' : c + i < l.length := by omega
  have := h.cap
  obtain ⟨b, o, rfl, hb, hcell⟩ := h.col (c + i) hi'
  rw [if_neg (by omega)]
  exact ⟨b, o + c, by simp [add_addr], hb, by rw [show o + c + i = o + (c + i) by omega, hcell, List.getElem_drop]⟩

set_option maxHeartbeats 4000000 in
theorem pumps_any (w : World) (B : Nat) (hB : B ≤ w.heap.size) (vp vt : Value) (n : Nt) (hn : NtR w B vp vt n) (a : Option Addr) (cap : Nat) (P : List Nd) (hP : NdsC w B a P) (ms : List Int) (H : PumpIn n P ms) (times : Nat) (ht : times ≤ 4) :
    Calls Tryd.prog 33 #[.agg #[vp, vt, .int .i64 n.init, .int .i64 n.final], .slice a P.length cap, .int .i64 (times : Int)] w fun e w' => e = .returned (.bool true) ∧ Below w.heap.size w w' := by
  obtain ⟨i0, hti, hz0, hz1, hz2⟩ := info_parts info_int
  have hbA := (Below.refl w.heap.size w).alloc (Nat.le_refl _) (.cells #[vp, vt, .int .i64 n.init, .int .i64 n.final] 25)
  have hboxA := heap_alloc_new w (.cells #[vp, vt, .int .i64 n.init, .int .i64 n.final] 25)
  obtain ⟨W1, hW1⟩ : ∃ W1, w.alloc (.cells #[vp, vt, .int .i64 n.init, .int .i64 n.final] 25) = W1 := ⟨_, rfl⟩
  have hs1 : W1.heap.size = w.heap.size + 1 := by rw [← hW1]; exact World.size_alloc _ _
  rw [hW1] at hbA hboxA
  obtain ⟨ap, cp, rfl⟩ := hn.1.val
  obtain ⟨at_, ct, rfl⟩ := hn.2.val
  have htwo := H.two
  have hle := H.le
  obtain ⟨b0, o0, v0, ha0, _⟩ := hP 0 (by omega)
  subst ha0
  have HH := Lib.hid H
  have hs1a : w.heap.size + 1 ≤ W1.heap.size := by omega
  have hs1b : W1.heap.size ≤ w.heap.size + 1 := by omega
  clear hs1 H
  go_enter Tryd.func33, Tryd.ntmps33
  go_wp2_with fail
  go_loopg [8, 9] P.length (fun gh s8 s9 wr => ∃ (k : Nat) (L : List Int), k + gh = P.length + 1 ∧ 1 ≤ k ∧ k ≤ P.length ∧ s9 = .int .i64 (k : Int) ∧ Hid (L = ((P.map Nd.tr).take k).drop 1) ∧ L.length ≤ k ∧ OwnI wr W1.heap.size s8 L ∧ Below W1.heap.size W1 wr)
  case atStart => exact ⟨1, [], by omega, by omega, by omega, rfl, by rw [List.drop_eq_nil_of_le (by simp; omega)]; exact rfl, by simp, OwnI.nil _ _, Below.refl _ _⟩
  case round =>
    obtain ⟨k, L, hkg, hk1, hk2, rfl, hL, hLk, how, hbr⟩ := hrel
    have hzr := hbr.size
    have hbrw := hbA.trans (hbr.mono (by omega))
    by_cases hk : k < P.length
    · obtain ⟨b, o, v, hbo, hb, h0, h1, h2, h3, hm⟩ := hP k hk
      cases hbo
      rw [← Below.cellB hbrw (by omega)] at h1
      have hst := Lib.hid (take_tr hk)
      have hd1 : decide ((k : Int) ≤ (P.length : Int) - 1) = true := decide_eq_true (by omega)
      obtain ⟨x, hx⟩ : ∃ x, P[k].tr = x := ⟨_, rfl⟩
      rw [hx] at h1 hst
      have hL2 : Hid (L ++ [x] = ((P.map Nd.tr).take (k + 1)).drop 1) := by
        rw [hst.out, List.drop_append_of_le_length (by simp; omega), hL.out]; exact rfl
      clear hx
      obtain ⟨aa, cc, rfl⟩ := how.shape
      go_wp2_with (at_builtin; go_must (refine wpList_append_own _ rfl _ _ 33 rfl W1.heap.size 3 i0 (.int .i64 0) 1 8 Tryd.underlying33 hti hz0 hz1 hz2 rfl (by decide) _ L.length (L.map (Value.int .i64)) rfl (how.kept ((Below.refl _ _).alloc (Nat.le_refl _) _) (Nat.le_refl _)) ⟨wr.heap.size, 0, none⟩ 1 1 [.int .i64 x] rfl rfl (cell_one_new _ _ _) (ints_oneCell' [x]) (by unfold maxLen; omega) (by omega) (by simp; omega) ?_; intro v' w4 hown hg4 _))
      go_roundg (gk - 1)
      case measure => omega
      case rel => exact ⟨k + 1, L ++ [x], by omega, by omega, by omega, by go_num, hL2, by simp; omega, by unfold OwnI; simpa using hown, (hbr.alloc hzr _).grown hg4 (by simp; omega) (fun j hj => (World.ownsRow.lt how j hj).1)⟩
    · have hLe : Hid (L = (P.map Nd.tr).drop 1) := by rw [hL.out, List.take_of_length_le (by simp; omega)]; exact rfl
      have hd1 : decide ((k : Int) ≤ (P.length : Int) - 1) = false := decide_eq_false (by omega)
      have hLl : Hid (L.length = P.length - 1) := by rw [hLe.out]; simp [Hid]
      obtain ⟨w5, rfl⟩ : ∃ w5, w5 = wr := ⟨_, rfl⟩
      obtain ⟨aa, cc, rfl⟩ := how.shape
      have hcap5 := how.cap
      have hLI : Ints w5 w5.heap.size (.slice aa L.length cc) L := how.col (by omega) (Nat.le_refl _)
      have hx5 := (hbr.block w.heap.size (by omega)).trans hboxA
      have hn5 := hn.mono (hbrw.mono hB) (show B ≤ w5.heap.size by omega)
      have hP5 := hP.mono (hbrw.mono hB) (show B ≤ w5.heap.size by omega)
      have hl5 : L.length ≤ 4096 := by have := hLl.out; omega
      have hl6 : (L.length : Int) = (P.length : Int) - 1 := by have := hLl.out; omega
      have HL6 := Lib.hid hl6
      clear hl6 how hd1
      go_wp2_with fail
      go_loopg [10] P.length (fun gh s10 wr => ∃ c : Nat, c + gh = P.length ∧ s10 = .int .i64 (c : Int) ∧ Hid (∀ c', c' < c → ∀ d, P[c']? = some d → ¬ (coversB ms d.mark = true ∧ ms ≠ d.mark)) ∧ c + 1 ≤ P.length ∧ Below w5.heap.size w5 wr)
      case atStart => exact ⟨0, by omega, rfl, fun c' h => by omega, by omega, Below.refl _ _⟩
      case round =>
        obtain ⟨c, hcg, rfl, hNo, hc1, hbx⟩ := hrel
        have hzx := hbx.size
        have hxr := box_up' hx5 hbx
        obtain ⟨c0, c1, c2, c3⟩ := box4' hxr
        by_cases hc : c + 1 < P.length
        · have hd2 : decide ((c : Int) < (P.length : Int) - 1) = true := decide_eq_true (by omega)
          obtain ⟨b, o, v, hbo, hb, h0, h1, h2, h3, hm⟩ := hP5 c (by omega)
          cases hbo
          rw [← Below.cellB hbx (by omega)] at h2
          have hst := HH.out.step c hc P[c] (by rw [List.getElem?_eq_getElem])
          obtain ⟨d, hd⟩ : ∃ d, P[c] = d := ⟨_, rfl⟩
          rw [hd] at hst hm
          have HD := Lib.hid hd
          clear hd
          obtain ⟨av, cv, rfl⟩ := hm.val
          have hcL : c ≤ L.length := by have := hLl.out; omega
          have hsl := fun w => run_slice_from (P := Tryd.prog) 33 3 Tryd.underlying33 (fun w => by kernel_rfl) aa L.length cc c hcL w
          have hrd := (drop_col hLI hcL).mono hbx hzx
          obtain ⟨ad, had⟩ : ∃ ad, (if cc = c then aa else aa.map (·.add c)) = ad := ⟨_, rfl⟩
          rw [had] at hrd
          simp only [had] at hsl
          have hLd : L.drop c = (P.map Nd.tr).drop (c + 1) := by rw [hLe.out, List.drop_drop]; congr 1; omega
          have hbd : (L.drop c).any n.badT = false := by
            rw [List.any_eq_false]
            intro x hx
            have hb1 := HH.out.bad
            rw [← hLe.out, List.any_eq_false] at hb1
            exact hb1 x (List.mem_of_mem_drop hx)
          rw [← hLd] at hst
          obtain ⟨st1, st2, st3, st4⟩ := hst
          have hre := rowE_of HH.out.ok st3 hbd st1
          rw [st2] at hre
          have hD : Below wr.heap.size wr wr.drew := (Below.refl _ _).drew
          have hnx := hn5.mono hbx hzx
          have hmx := hm.mono hbx hzx
          have HR := row_any wr.drew _ _ _ _ n d.mark (L.drop c) wr.heap.size (Nat.le_refl _) (hnx.mono hD (Nat.le_refl _)) (hmx.mono hD (Nat.le_refl _)) (hrd.mono hD (Nat.le_refl _))
          rw [hre, List.length_drop] at HR
          have HR' := Lib.hid HR
          have HST := Lib.hid (And.intro st1 (And.intro st2 (And.intro st3 st4)))
          have HBD := Lib.hid hbd
          have hccI : (c : Int) ≤ (cc : Int) := by omega
          have hcP : c < P.length := by omega
          have hcI : (0 : Int) ≤ (c : Int) := by omega
          have hcPI : (c : Int) < (P.length : Int) := by omega
          have f0 : w.heap.size < wr.heap.size := lt_of_block hxr
          have f1 : b0 < wr.heap.size := by omega
          clear HR hre st1 st2 st3 st4 hbd hLd had
          go_wp2_with fail
          go_cut [11, 12, 13] (fun s11 s12 s13 wx => ∃ w7, w7 = wx ∧ ∃ v, s11 = v ∧ OwnI w7 wr.heap.size v ms ∧ s12 = .int .i64 ((L.length - c : Nat) : Int) ∧ s13 = .int .i64 0 ∧ Below wr.heap.size wr w7)
          case first =>
            go_region_held3 (fun w' => w'.cell? ⟨w.heap.size, 0, none⟩ = some (.slice ap n.places.length cp) ∧ w'.cell? ⟨w.heap.size, 1, none⟩ = some (.slice at_ n.trans.length ct) ∧ w'.cell? ⟨w.heap.size, 2, none⟩ = some (.int .i64 n.init) ∧ w'.cell? ⟨w.heap.size, 3, none⟩ = some (.int .i64 n.final) ∧ w'.cell? ⟨b0, o0 + c * 4 + 2, none⟩ = some (.slice av d.mark.length cv))
              (first | go_keep | (refine ⟨?_, ?_, ?_, ?_, ?_⟩ <;> (first | (rw [Below.cellB HB7 f0]; assumption) | (rw [Below.cellB HB7 f1]; assumption))))
              (first | (go_at_call 31; refine HR'.out.mono ?_; rintro e w7 ⟨v7, rfl, how7, hb7⟩; have HB7 : Below wr.heap.size wr w7 := hD.trans hb7))
            go_wp2_with fail
            go_meet
            case rel => exact ⟨_, rfl, _, rfl, how7, rfl, rfl, HB7⟩
          case rest =>
            obtain ⟨w7, rfl, v7, rfl, how7, rfl, rfl, hb7⟩ := hcut
            have hz7 := hb7.size
            obtain ⟨a7, c7, rfl⟩ := how7.shape
            have hms : n.Mark ms := by
              have := rowGo_mark n (L.drop c) d.mark 0 HST.out.2.2.1 HBD.out HST.out.1
              rwa [HST.out.2.1] at this
            have hmsl := hms.len
            have hpl := hms.ok.many
            have hI7 : Ints w7 w7.heap.size (.slice a7 ms.length c7) ms := how7.col (by omega) (Nat.le_refl _)
            have hm7 := hmx.mono hb7 hz7
            have hx7 := box_up' hxr hb7
            have HMS := Lib.hid hms
            rw [← Below.cellB hb7 f1] at h2
            clear c0 c1 c2 c3 hmsl hms
            cases hcv : coversB ms d.mark with
            | false =>
              have HCv := Lib.hid (covers_any _ _ _ _ ms d.mark hI7 hm7)
              rw [hcv] at HCv
              have hNo2 : Hid (∀ c', c' < c + 1 → ∀ d, P[c']? = some d → ¬ (coversB ms d.mark = true ∧ ms ≠ d.mark)) := fun c' h1 d' h2' h3 => by
                by_cases e : c' = c
                · subst e
                  rw [List.getElem?_eq_getElem hcP, HD.out] at h2'
                  cases h2'
                  rw [hcv] at h3
                  cases h3.1
                · exact hNo.out c' (by omega) d' h2' h3
              have hNo3 := Lib.hid hNo2
              clear hcv hNo2
              go_wp2_with (first | (go_at_call 60; refine HCv.out.mono ?_; rintro e w8 ⟨rfl, rfl⟩; refine Hid.out ?_))
              refine Lib.hid ?_
              go_wp2_with fail
              go_roundg (gk - 1)
              case measure => omega
              case rel => exact ⟨c + 1, by omega, by go_num, hNo3.out, by omega, hbx.trans (hb7.mono hzx)⟩
            | true =>
              have HCv := covers_any _ _ _ _ ms d.mark hI7 hm7
              rw [hcv] at HCv
              have HCv' := Lib.hid HCv
              clear HCv
              have HCm := Lib.hid (cmp_any _ _ _ _ ms d.mark hI7 hm7)
              by_cases hz : cmpL ms d.mark = 0
              · have hmd : ms = d.mark := cmpL_zero _ _ hz
                have hNo2 : ∀ c', c' < c + 1 → ∀ d, P[c']? = some d → ¬ (coversB ms d.mark = true ∧ ms ≠ d.mark) := fun c' h1 d' h2' h3 => by
                  by_cases e : c' = c
                  · subst e
                    rw [List.getElem?_eq_getElem hcP, HD.out] at h2'
                    cases h2'
                    exact h3.2 hmd
                  · exact hNo.out c' (by omega) d' h2' h3
                have hNo3 := Lib.hid hNo2
                rw [hz] at HCm
                clear hcv hNo2 hmd hz
                go_wp2_with (first | (go_at_call 60; refine HCv'.out.mono ?_; rintro e w8 ⟨rfl, rfl⟩; refine Hid.out ?_))
                refine Lib.hid ?_
                go_wp2_with (first | (go_at_call 29; refine HCm.out.mono ?_; rintro e w8 ⟨rfl, rfl⟩; refine Hid.out ?_))
                refine Lib.hid ?_
                go_wp2_with fail
                go_roundg (gk - 1)
                case measure => omega
                case rel => exact ⟨c + 1, by omega, by go_num, hNo3.out, by omega, hbx.trans (hb7.mono hzx)⟩
              · have hne : ms ≠ d.mark := fun e => hz (by rw [e]; exact cmpL_self _)
                have hst := Pump.start HST.out.2.2.1 HST.out.2.2.2 HST.out.1 (by rw [HST.out.2.1]; exact hcv) (by rw [HST.out.2.1]; exact hne)
                obtain ⟨dl, hdl⟩ : ∃ dl, subL (rowGo n d.mark (L.drop c) 0).1 d.mark = dl := ⟨_, rfl⟩
                rw [hdl] at hst
                have HP0 := Lib.hid hst.1
                have HDL := Lib.hid hst.2
                obtain ⟨cm, hcm⟩ : ∃ cm, cmpL ms d.mark = cm := ⟨_, rfl⟩
                have hcm0 : (cm == 0) = false := by rw [beq_eq_false_iff_ne, ← hcm]; exact hz
                rw [hcm] at HCm
                clear hst hdl hcv hne hz hcm
                go_wp2_with (first | (go_at_call 60; refine HCv'.out.mono ?_; rintro e w8 ⟨rfl, rfl⟩; refine Hid.out ?_))
                refine Lib.hid ?_
                go_wp2_with (first | (go_at_call 29; refine HCm.out.mono ?_; rintro e w8 ⟨rfl, rfl⟩; refine Hid.out ?_))
                refine Lib.hid ?_
                go_wp2_with fail
                have hrd7 := hrd.mono hb7 hz7
                obtain ⟨R, hR⟩ : ∃ R, L.drop c = R := ⟨_, rfl⟩
                rw [hR] at HP0 HBD hrd7
                have hRl : R.length ≤ 4096 := by rw [← hR, List.length_drop]; omega
                have hRn : Hid (L.length - c = R.length) := by rw [← hR, List.length_drop]; exact rfl
                clear hR HCm HCv' HR' hrd
                go_loopg [14, 15] times (fun gh s14 s15 wy => ∃ (k : Nat) (now : List Int) (v : Value), k + gh = times ∧ s15 = .int .i64 (k : Int) ∧ s14 = v ∧ Hid (Pump n R dl now (33554433 + 4096 * (k : Int))) ∧ Ints wy wy.heap.size v now ∧ Below w7.heap.size w7 wy)
                case atStart => exact ⟨0, d.mark, _, by omega, rfl, rfl, HP0.out, hm7, Below.refl _ _⟩
                case round =>
                  obtain ⟨k, now, v, hkg, rfl, rfl, hPm, hIn, hby⟩ := hrel
                  have hzy := hby.size
                  by_cases hkt : k < times
                  · have hxy := box_up' hx7 hby
                    obtain ⟨c0, c1, c2, c3⟩ := box4' hxy
                    obtain ⟨an, cn, rfl⟩ := hIn.val
                    have hre := rowE_of HH.out.ok hPm.out.mark HBD.out hPm.out.ok
                    obtain ⟨hcv1, hne1⟩ := hPm.out.more HDL.out
                    have hnext : Pump n R dl (rowGo n now R 0).1 (33554433 + 4096 * ((k + 1 : Nat) : Int)) := by
                      have := hPm.out.next HBD.out (by omega)
                      exact ⟨this.mark, fun x hx => by have := this.le x hx; omega, this.ok, this.sh⟩
                    obtain ⟨nx, hnx'⟩ : ∃ nx, (rowGo n now R 0).1 = nx := ⟨_, rfl⟩
                    rw [hnx'] at hre hcv1 hne1 hnext
                    have hD : Below wr.heap.size wr wr.drew := (Below.refl _ _).drew
                    have hnw := (hnx.mono hb7 hz7).mono hby hzy
                    have HR := row_any wr.drew _ _ _ _ n now R wr.heap.size (Nat.le_refl _) (hnw.mono hD (Nat.le_refl _)) (hIn.mono hD (Nat.le_refl _)) ((hrd7.mono hby hzy).mono hD (Nat.le_refl _))
                    rw [hre] at HR
                    have HR' := Lib.hid HR
                    have HNX := Lib.hid hnext
                    have hnl : nx.length ≤ 4096 := by rw [hnext.mark.len]; exact hnext.mark.ok.many
                    have g0 : w.heap.size < wr.heap.size := lt_of_block hxy
                    obtain ⟨cm2, hcm2⟩ : ∃ cm2, cmpL nx now = cm2 := ⟨_, rfl⟩
                    have hcm20 : (cm2 == 0) = false := by rw [beq_eq_false_iff_ne, ← hcm2]; exact fun e => hne1 (cmpL_zero _ _ e)
                    have HC2 := Lib.hid (And.intro hcm2 hcv1)
                    clear HR hre hnx' hcm2 hcv1 hne1 hnext
                    go_wp2_with fail
                    go_cut [16, 17, 18] (fun s16 s17 s18 wx => ∃ w9, w9 = wx ∧ ∃ v, s16 = v ∧ OwnI w9 wr.heap.size v nx ∧ s17 = .int .i64 (R.length : Int) ∧ s18 = .int .i64 0 ∧ Below wr.heap.size wr w9)
                    case first =>
                      go_region_held3 (fun w' => w'.cell? ⟨w.heap.size, 0, none⟩ = some (.slice ap n.places.length cp) ∧ w'.cell? ⟨w.heap.size, 1, none⟩ = some (.slice at_ n.trans.length ct) ∧ w'.cell? ⟨w.heap.size, 2, none⟩ = some (.int .i64 n.init) ∧ w'.cell? ⟨w.heap.size, 3, none⟩ = some (.int .i64 n.final))
                        (first | go_keep | (refine ⟨?_, ?_, ?_, ?_⟩ <;> (rw [Below.cellB HB9 g0]; assumption)))
                        (first | (go_at_call 31; refine HR'.out.mono ?_; rintro e w9 ⟨v9, rfl, how9, hb9⟩; have HB9 : Below wr.heap.size wr w9 := hD.trans hb9))
                      go_wp2_with fail
                      go_meet
                      case rel => exact ⟨_, rfl, _, rfl, how9, rfl, rfl, HB9⟩
                    case rest =>
                      obtain ⟨w9, rfl, v9, rfl, how9, rfl, rfl, hb9⟩ := hcut
                      have hz9 := hb9.size
                      obtain ⟨a9, c9, rfl⟩ := how9.shape
                      have hI9 : Ints w9 w9.heap.size (.slice a9 nx.length c9) nx := how9.col (by omega) (Nat.le_refl _)
                      have hN9 := hIn.mono hb9 hz9
                      have K1 := covers_any _ _ _ _ nx now hI9 hN9
                      rw [HC2.out.2] at K1
                      have K1' := Lib.hid K1
                      have K2 := cmp_any _ _ _ _ nx now hI9 hN9
                      rw [HC2.out.1] at K2
                      have K2' := Lib.hid K2
                      clear K1 K2 c0 c1 c2 c3
                      go_wp2_with (first | (go_at_call 60; refine K1'.out.mono ?_; rintro e w10 ⟨rfl, rfl⟩; refine Hid.out ?_))
                      refine Lib.hid ?_
                      go_wp2_with (first | (go_at_call 29; refine K2'.out.mono ?_; rintro e w10 ⟨rfl, rfl⟩; refine Hid.out ?_))
                      refine Lib.hid ?_
                      go_wp2_with fail
                      go_roundg (gk - 1)
                      case measure => omega
                      case rel => exact ⟨k + 1, nx, _, by omega, by go_num, rfl, HNX, hI9, hby.trans (hb9.mono hzy)⟩
                  · have hkt' : ¬ ((k : Int) < (times : Int)) := by omega
                    go_wp2_with fail
                    go_ret
                    exact ⟨rfl, hbrw.trans ((hbx.trans ((hb7.trans (hby.mono hz7)).mono hzx)).mono hbrw.size)⟩
        · have hd2 : decide ((c : Int) < (P.length : Int) - 1) = false := decide_eq_false (by omega)
          obtain ⟨c', d', h1, h2, h3, h4⟩ := HH.out.some
          exact absurd ⟨h3, h4⟩ (hNo.out c' (by omega) d' h2)

end Go.Proofs.YtgahlonimaeicaaDoor
