/- The document's Same at instances that are the same. -/
import Derived.Test.YtggnheekkbideaaInsO
import Derived.Test.YtggnheekkbideaaJobTwin2
import Derived.Laws.StructEq
import Derived.Deep.DeepCutAuto
set_option maxRecDepth 100000
namespace Go.Proofs.Ytggnheekkbideaa
open Go.RowKit

theorem two_boxes (w : World) {p : Nat} (hp : w.heap.size = p) (A B : Obj) : ((w.alloc A).alloc B).drew.heap[p]? = some A ∧ ((w.alloc A).alloc B).drew.heap[p + 1]? = some B ∧ Below p w ((w.alloc A).alloc B).drew := by
  have h1 : (w.alloc A).heap[p]? = some A := by rw [← hp]; exact heap_alloc_new w A
  have s1 : (w.alloc A).heap.size = p + 1 := by rw [World.size_alloc, hp]
  have h2 : ((w.alloc A).alloc B).heap[p + 1]? = some B := by rw [← s1]; exact heap_alloc_new _ B
  exact ⟨(Below.heap_alloc _ B p (by omega)).trans h1, h2, (((Below.refl p w).alloc (by omega) A).alloc (by omega) B).drew⟩

set_option maxHeartbeats 8000000 in
theorem same_any (w : World) (va vb : Value) (l : List Ins) (ha : InsR w w.heap.size va l) (hb : InsR w w.heap.size vb l) :
    Calls Try.prog 25 #[va, vb] w fun e w' => e = .returned (.bool true) ∧ Below w.heap.size w w' := by
  obtain ⟨aa, ca, rfl⟩ := ha.val
  obtain ⟨ab, cb, rfl⟩ := hb.val
  have hll := ha.len
  have HA := Lib.hid ha
  have HBb := Lib.hid hb
  have d0 : ((l.length : Int) != (l.length : Int)) = false := by simp
  clear ha hb
  go_enter Try.func25, Try.ntmps25
  go_wp2_with fail
  go_loopg [5] l.length (fun gh s5 wx => ∃ i : Nat, i + gh = l.length ∧ s5 = .int .i64 (i : Int) ∧ Below w.heap.size w wx)
  case atStart => exact ⟨0, by omega, rfl, Below.refl _ _⟩
  case round =>
    obtain ⟨i, hig, rfl, hB⟩ := hrel
    obtain ⟨wo, rfl⟩ : ∃ wo : World, wo = wr := ⟨_, rfl⟩
    have HB := Lib.hid hB
    have hzB := hB.size
    by_cases hi : i < l.length
    · have hA := HA.out.mono hB (Nat.le_refl _)
      have hBb := HBb.out.mono hB (Nat.le_refl _)
      obtain ⟨b1, o1, rfl, _⟩ := hA.addr (by omega)
      obtain ⟨b2, o2, rfl, _⟩ := hBb.addr (by omega)
      obtain ⟨x, hx⟩ : ∃ x, l[i] = x := ⟨_, rfl⟩
      obtain ⟨av, cv, at_, ct, q0, q1, q2, q3, q4, qV, qT⟩ := hA.at hi hx
      obtain ⟨av', cv', at', ct', r0, r1, r2, r3, r4, rV, rT⟩ := hBb.at hi hx
      obtain ⟨p0, hp0⟩ : ∃ p0, wo.heap.size = p0 := ⟨_, rfl⟩
      have di : decide ((i : Int) < (l.length : Int)) = true := decide_eq_true (by omega)
      have i1 : (0 : Int) ≤ (i : Int) := by omega
      have i2 : (i : Int) < (l.length : Int) := by omega
      have HqV := Lib.hid qV
      have HqT := Lib.hid qT
      have HrV := Lib.hid rV
      have HrT := Lib.hid rT
      clear hx hA hBb qV qT rV rT hB
      go_wp2_with fail
      go_cut [6, 7] (fun s6 s7 wx => ∃ (p6 p7 : Nat) (w8 : World), w8 = wx ∧ s6 = .pointer (some ⟨p6, 0, none⟩) ∧ s7 = .pointer (some ⟨p7, 0, none⟩) ∧ Hid (w8.heap[p6]? = some (.cells #[.int .i64 x.id, .string x.model, .int .u8 x.state, .slice av x.vars.length cv, .slice at_ x.toks.length ct] 45)) ∧
        Hid (w8.heap[p7]? = some (.cells #[.int .i64 x.id, .string x.model, .int .u8 x.state, .slice av' x.vars.length cv', .slice at' x.toks.length ct'] 45)) ∧ Hid (Below p0 wo w8))
      case first =>
        go_region_held3 (fun w' => w'.cell? ⟨b1, o1 + i * 5, none⟩ = some (.int .i64 x.id) ∧ w'.cell? ⟨b1, o1 + i * 5 + 1, none⟩ = some (.string x.model) ∧ w'.cell? ⟨b1, o1 + i * 5 + 2, none⟩ = some (.int .u8 x.state) ∧ w'.cell? ⟨b1, o1 + i * 5 + 3, none⟩ = some (.slice av x.vars.length cv) ∧ w'.cell? ⟨b1, o1 + i * 5 + 4, none⟩ = some (.slice at_ x.toks.length ct) ∧
          w'.cell? ⟨b2, o2 + i * 5, none⟩ = some (.int .i64 x.id) ∧ w'.cell? ⟨b2, o2 + i * 5 + 1, none⟩ = some (.string x.model) ∧ w'.cell? ⟨b2, o2 + i * 5 + 2, none⟩ = some (.int .u8 x.state) ∧ w'.cell? ⟨b2, o2 + i * 5 + 3, none⟩ = some (.slice av' x.vars.length cv') ∧ w'.cell? ⟨b2, o2 + i * 5 + 4, none⟩ = some (.slice at' x.toks.length ct')) (go_keep) (fail)
        all_goals go_wp2_with fail
        all_goals go_meet
        · obtain ⟨h1, h2, h3⟩ := two_boxes wo hp0 (.cells #[.int .i64 x.id, .string x.model, .int .u8 x.state, .slice av x.vars.length cv, .slice at_ x.toks.length ct] 45) (.cells #[.int .i64 x.id, .string x.model, .int .u8 x.state, .slice av' x.vars.length cv', .slice at' x.toks.length ct'] 45)
          exact ⟨_, _, _, rfl, rfl, rfl, Lib.hid h1, Lib.hid h2, Lib.hid h3⟩
        · obtain ⟨h1, h2, h3⟩ := two_boxes wo hp0 (.cells #[.int .i64 x.id, .string x.model, .int .u8 x.state, .slice av' x.vars.length cv', .slice at' x.toks.length ct'] 45) (.cells #[.int .i64 x.id, .string x.model, .int .u8 x.state, .slice av x.vars.length cv, .slice at_ x.toks.length ct] 45)
          exact ⟨_, _, _, rfl, rfl, rfl, Lib.hid h2, Lib.hid h1, Lib.hid h3⟩
      case rest =>
        obtain ⟨p6, p7, w8, rfl, rfl, rfl, HA8, HB8, HBel⟩ := hcut
        have m0 : w8.cell? ⟨p6, 0, none⟩ = some (.int .i64 x.id) := (cell_of_block HA8.out 0).trans rfl
        have m1 : w8.cell? ⟨p6, 1, none⟩ = some (.string x.model) := (cell_of_block HA8.out 1).trans rfl
        have m2 : w8.cell? ⟨p6, 2, none⟩ = some (.int .u8 x.state) := (cell_of_block HA8.out 2).trans rfl
        have m3 : w8.cell? ⟨p6, 3, none⟩ = some (.slice av x.vars.length cv) := (cell_of_block HA8.out 3).trans rfl
        have m4 : w8.cell? ⟨p6, 4, none⟩ = some (.slice at_ x.toks.length ct) := (cell_of_block HA8.out 4).trans rfl
        have n0 : w8.cell? ⟨p7, 0, none⟩ = some (.int .i64 x.id) := (cell_of_block HB8.out 0).trans rfl
        have n1 : w8.cell? ⟨p7, 1, none⟩ = some (.string x.model) := (cell_of_block HB8.out 1).trans rfl
        have n2 : w8.cell? ⟨p7, 2, none⟩ = some (.int .u8 x.state) := (cell_of_block HB8.out 2).trans rfl
        have n3 : w8.cell? ⟨p7, 3, none⟩ = some (.slice av' x.vars.length cv') := (cell_of_block HB8.out 3).trans rfl
        have n4 : w8.cell? ⟨p7, 4, none⟩ = some (.slice at' x.toks.length ct') := (cell_of_block HB8.out 4).trans rfl
        have hbel : Below w.heap.size wo w8 := HBel.out.mono (by omega)
        have HV1 := Lib.hid (HqV.out.mono hbel (Nat.le_refl _))
        have HV2 := Lib.hid (HrV.out.mono hbel (Nat.le_refl _))
        have HT1 := Lib.hid (HqT.out.mono hbel (Nat.le_refl _))
        have HT2 := Lib.hid (HrT.out.mono hbel (Nat.le_refl _))
        have HBW := Lib.hid (HB.out.trans hbel)
        obtain ⟨V, hV⟩ : ∃ V, x.vars = V := ⟨_, rfl⟩
        obtain ⟨T, hT⟩ : ∃ T, x.toks = T := ⟨_, rfl⟩
        rw [hV] at m3 n3 HV1 HV2
        rw [hT] at m4 n4 HT1 HT2
        have hVl := HV1.out.len
        have hTl := HT1.out.len
        have dv : ((V.length : Int) != (V.length : Int)) = false := by simp
        have dt : ((T.length : Int) != (T.length : Int)) = false := by simp
        clear q0 q1 q2 q3 q4 r0 r1 r2 r3 r4 hbel hV hT
        go_wp2_with fail
        go_loopg [8] V.length (fun gh s8 wx => ∃ j : Nat, j + gh = V.length ∧ s8 = .int .i64 (j : Int) ∧ ∃ k, wx = w8.drewN k)
        case atStart => exact ⟨0, by omega, rfl, 0, rfl⟩
        case round =>
          obtain ⟨j, hjg, rfl, nd, rfl⟩ := hrel
          by_cases hj : j < V.length
          · obtain ⟨bv, ov, rfl, _⟩ := HV1.out.addr (by omega)
            obtain ⟨bu, ou, rfl, _⟩ := HV2.out.addr (by omega)
            obtain ⟨y, hy⟩ : ∃ y, V[j] = y := ⟨_, rfl⟩
            obtain ⟨s0, s1, s2, s3, s4⟩ := bsR_at HV1.out hj hy
            obtain ⟨z0, z1, z2, z3, z4⟩ := bsR_at HV2.out hj hy
            have dj : decide ((j : Int) < (V.length : Int)) = true := decide_eq_true (by omega)
            have j1 : (0 : Int) ≤ (j : Int) := by omega
            have j2 : (j : Int) < (V.length : Int) := by omega
            clear hy m0 m1 m2 m4 n0 n1 n2 n4
            go_wp2_with fail
            go_quiet (fail)
            go_wp2_with fail
            go_roundg (V.length - (j + 1))
            case measure => omega
            case rel => exact ⟨j + 1, by omega, by go_num, _, rfl⟩
          · have dj : decide ((j : Int) < (V.length : Int)) = false := decide_eq_false (by omega)
            go_wp2_with fail
            go_loopg [9] T.length (fun gh s9 wx => ∃ j : Nat, j + gh = T.length ∧ s9 = .int .i64 (j : Int) ∧ ∃ k, wx = w8.drewN k)
            case atStart => exact ⟨0, by omega, rfl, nd, rfl⟩
            case round =>
              obtain ⟨k, hkg, rfl, ne, rfl⟩ := hrel
              by_cases hk : k < T.length
              · obtain ⟨bv, ov, rfl, _⟩ := HT1.out.addr (by omega)
                obtain ⟨bu, ou, rfl, _⟩ := HT2.out.addr (by omega)
                obtain ⟨y, hy⟩ : ∃ y, T[k] = y := ⟨_, rfl⟩
                obtain ⟨s0, s1, s2, s3, s4, s5, s6, s7, s8⟩ := tsR_at HT1.out hk hy
                obtain ⟨z0, z1, z2, z3, z4, z5, z6, z7, z8⟩ := tsR_at HT2.out hk hy
                have dk : decide ((k : Int) < (T.length : Int)) = true := decide_eq_true (by omega)
                have j1 : (0 : Int) ≤ (k : Int) := by omega
                have j2 : (k : Int) < (T.length : Int) := by omega
                clear hy m0 m1 m2 m3 n0 n1 n2 n3
                go_wp2_with fail
                go_quiet (fail)
                go_wp2_with fail
                go_roundg (T.length - (k + 1))
                case measure => omega
                case rel => exact ⟨k + 1, by omega, by go_num, _, rfl⟩
              · have dk : decide ((k : Int) < (T.length : Int)) = false := decide_eq_false (by omega)
                go_wp2_with fail
                go_roundg (l.length - (i + 1))
                case measure => omega
                case rel => exact ⟨i + 1, by omega, by go_num, below_drewN HBW.out _⟩
    · have di : decide ((i : Int) < (l.length : Int)) = false := decide_eq_false (by omega)
      go_wp2_with fail
      go_ret
      exact ⟨ret_bool rfl, HB.out⟩

end Go.Proofs.Ytggnheekkbideaa
