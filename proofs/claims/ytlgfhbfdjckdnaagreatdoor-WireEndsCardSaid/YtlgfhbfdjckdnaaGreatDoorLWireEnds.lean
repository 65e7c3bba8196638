/- The law 'WireEnds' (seat wire). -/
import Derived.Test.YtlgfhbfdjckdnaaGreatDoorWireEndsQ
import Derived.Test.YtlgfhbfdjckdnaaGreatDoorWireWorks
set_option maxRecDepth 100000
namespace Go.Proofs.YtlgfhbfdjckdnaaGreatDoor
open Go.RowKit

theorem writeB_pos (m p k b : ByteArray) : (writeB m p k b).toList.isEmpty = false := by
  rw [isEmpty_size, decide_eq_false]
  unfold writeB
  simp only [ByteArray.size_append]
  have : (ByteArray.mk #[13, 10, 13, 10]).size = 4 := rfl
  omega
set_option maxHeartbeats 4000000 in
theorem wireEnds_walk (W : World) (hg : Gnd W) (s : ByteArray) (hs : s.size ≤ 140737488355328) (more : ByteArray) (hm : more.size ≤ 140737488355328) :
    Calls Tryz.prog 5 #[.string s, .string more] W fun e w' => e = .returned (.bool true) ∧ Below W.heap.size W w' := by
  have HWk : Hid (∀ W', Below W.heap.size W W' → Calls Tryz.prog 14 #[] W' fun e w' => e = .returned (.bool true) ∧ Below W'.heap.size W' w') := Lib.hid (fun W' h => works_any W' (hg.up h))
  have HWr : Hid (∀ W' m p k b, Below W.heap.size W W' → mayB m p k b = true → m.size ≤ 16 → p.size ≤ 1024 → k.size ≤ 32 → b.size ≤ 65536 → Calls Tryz.prog 15 #[.agg #[.string m, .string p, .string k, .string b]] W' fun e w' => e = .returned (.tuple #[.string (writeB m p k b), .int .i64 0]) ∧ Below W'.heap.size W' w') :=
    Lib.hid (fun W' m p k b h hb h1 h2 h3 h4 => (write_any W' (hg.up h) m p k b (by omega) (by omega) (by omega) (by omega)).mono (by rintro e w' ⟨rfl, hb5⟩; rw [hb]; exact ⟨rfl, hb5⟩))
  have cur : Below W.heap.size W W := Below.refl _ _
  have HG := Lib.hid hg.toB
  clear hg
  have hmx : s.size ≤ 9223372036854775807 := by omega
  have t0 : wrap64 ((s.size : Int) + (more.size : Int)) = (s.size : Int) + (more.size : Int) := by unfold wrap64; omega
  by_cases hbig : 100000 < s.size + more.size
  · have e1 : decide ((100000 : Int) < (s.size : Int) + (more.size : Int)) = true := decide_eq_true (by omega)
    go_enter Tryz.func5, Tryz.ntmps5
    go_wp2_with (go_at_call 14; refine (HWk.out _ cur).mono ?_; rintro e w2 ⟨rfl, hb2⟩; have cur := cur.trans (hb2.mono cur.size))
    go_ret
    exact ⟨rfl, cur⟩
  · have e1 : decide ((100000 : Int) < (s.size : Int) + (more.size : Int)) = false := decide_eq_false (by omega)
    obtain ⟨A, L, cl, hFS⟩ : ∃ A L cl, feedS s.data.toList = (A, L, cl) := ⟨_, _, _, rfl⟩
    obtain ⟨hat, hcl, hop, hclo, hln1, hln2⟩ := ends_all hFS
    rw [len_list] at hln1 hln2
    have HFS := Lib.hid hFS
    clear hFS
    go_enter Tryz.func5, Tryz.ntmps5
    go_upto_region 5 with (first
      | (go_at_call 14; refine (HWk.out _ cur).mono ?_; rintro e w2 ⟨rfl, hb2⟩; have cur := cur.trans (hb2.mono cur.size))
      | (go_at_call 8; refine (new_any _).mono ?_; rintro e w3 ⟨p1, rfl, hR1, hp1, hb3⟩; have cur3 := cur.trans (hb3.mono cur.size); have hcv := Lib.run_convert_string_bytes (P := Tryz.prog) w3 9 27 5 s Tryz.underlying9 Tryz.underlying27 Tryz.underlying5; have hl1 : p1 < w3.heap.size := (by obtain ⟨_, q, _⟩ := hR1; exact lt_of_block q); have HF := Lib.hid (fun cap => feed_two W.heap.size w3 (HG.out.up cur3) p1 (p1 + 1) (by have := cur.size; omega) (by omega) hl1 [] false hR1 (by simp) s (by omega) cap); have HP1 := Lib.hid hp1; have cur3s := cur3.size; have HC3 := Lib.hid cur3; clear hR1 hp1 hb3 cur3)
      | (go_at_call 9; refine (HF.out _).mono ?_; rintro e w4 ⟨v1, rfl, hO1, hR4, hF4⟩; have hO1 : OwnF fG 39 5 w4 w3.heap.size v1 (feedS s.data.toList).1 := hO1; have hR4 : RdR w4 (p1 + 1) p1 (feedS s.data.toList).2.1 (feedS s.data.toList).2.2 := hR4; rw [HFS.out] at hO1 hR4; obtain ⟨a1, c1, rfl⟩ := hO1.shape))
    have cur4 : Below W.heap.size W w4 := HC3.out.trans (hF4.toBelow cur3s (by intro r hr j hj; simp only [List.mem_singleton] at hr; subst hr; injection hj with hj; have := HP1.out; have := cur.size; omega))
    have HF4 := Lib.hid hF4
    have HR4 := Lib.hid hR4
    have HO1 := Lib.hid hO1
    have HAT := Lib.hid hat
    have CUR4 := Lib.hid cur4
    have hA1z : A.length ≤ 200001 := by omega
    have hcvm := fun W' => Lib.run_convert_string_bytes (P := Tryz.prog) W' 9 27 5 more Tryz.underlying9 Tryz.underlying27 Tryz.underlying5
    have HCV := Lib.hid hcvm
    clear hF4 hR4 hO1 hcv HF hat cur cur4 hcvm e1 t0 hb2
    go_wp2_with fail
    go_loopg [7] (A.length) (fun gh s7 wr => ∃ i : Nat, i + gh = A.length ∧ s7 = .int .i64 (i : Int) ∧ Below w4.heap.size w4 wr)
    case atStart => exact ⟨0, by omega, rfl, Below.refl _ _⟩
    case round =>
      obtain ⟨i, hig, rfl, hwr⟩ := hrel
      have HO := Lib.hid (HO1.out.kept hwr)
      have HR := Lib.hid (rdR_below HR4.out hwr)
      have CUR := Lib.hid (CUR4.out.trans (hwr.mono CUR4.out.size))
      have HWR := Lib.hid hwr
      have hwrs := hwr.size
      clear hwr
      by_cases hi : i < A.length
      · have u1 : decide ((i : Int) < (A.length : Int)) = true := decide_eq_true (by omega)
        have u1' : decide (i < A.length) = true := decide_eq_true hi
        obtain ⟨g1, rfl, -, -, -⟩ := HO.out.some (by omega)
        obtain ⟨gg, hgi⟩ : ∃ g, A[i] = g := ⟨_, rfl⟩
        have hat := HAT.out i hi
        rw [hgi] at hat
        obtain ⟨gm, gp, gk, gb, gs⟩ := gg
        have at1 := fun j (hj : j < 5) => OwnF.at fG_len HO.out (i := i) (j := j) hi hj
        rw [hgi] at at1
        have c0 : wr.cell? ⟨g1, i * 5, none⟩ = some (.string gm) := at1 0 (by omega)
        have c1' : wr.cell? ⟨g1, i * 5 + 1, none⟩ = some (.string gp) := at1 1 (by omega)
        have c2 : wr.cell? ⟨g1, i * 5 + 2, none⟩ = some (.string gk) := at1 2 (by omega)
        have c3 : wr.cell? ⟨g1, i * 5 + 3, none⟩ = some (.string gb) := at1 3 (by omega)
        have c4 : wr.cell? ⟨g1, i * 5 + 4, none⟩ = some (.int .i64 gs) := at1 4 (by omega)
        have HGI := Lib.hid hgi
        clear at1 hgi
        rcases hat with hmay | ⟨hcl1, hlast, st, he, h400, h505⟩
        · obtain ⟨hmb, z1, z2, z3, z4, rfl⟩ := mayG_may hmay
          have q1 := writeB_pos gm gp gk gb
          have HWr1 := Lib.hid (fun W' h => HWr.out W' gm gp gk gb h hmb z1 z2 z3 z4)
          obtain ⟨tx, htx⟩ : ∃ t, writeB gm gp gk gb = t := ⟨_, rfl⟩
          rw [htx] at q1 HWr1
          clear htx hmay hmb
          go_wp2_with (go_at_call 15; refine (HWr1.out _ CUR.out).mono ?_; rintro e w6 ⟨rfl, hb6⟩; have HB6 := Lib.hid hb6; clear hb6)
          go_roundg (A.length - (i + 1))
          case measure => omega
          case rel => exact ⟨i + 1, by omega, by go_num, HWR.out.trans (HB6.out.mono hwrs)⟩
        · injection he with e1 e2 e3 e4 e5
          subst e1 e2 e3 e4 e5
          subst hcl1
          have eB : bytesL [] = ⟨#[]⟩ := rfl
          rw [eB] at c0 c1' c2 c3
          clear eB
          have u2 : ((i : Int) != (A.length : Int) - 1) = false := by rw [show (A.length : Int) - 1 = (i : Int) by omega]; simp
          have hl1 : i + 1 ≤ A.length := by omega
          have hl2 : A.length ≤ i + 1 := by omega
          clear hlast
          have u3 : (gs != 0) = true := by simp; omega
          have u4 : decide (gs < 400) = false := decide_eq_false (by omega)
          have u5 : decide (505 < gs) = false := decide_eq_false (by omega)
          go_wp2_with (go_at_call 13; refine (closed_any _ _ _ _ _ HR.out).mono ?_; rintro e w8 ⟨rfl, rfl⟩)
          go_roundg (A.length - (i + 1))
          case measure => omega
          case rel => exact ⟨i + 1, by omega, by go_num, HWR.out⟩
      · have u1 : decide ((i : Int) < (A.length : Int)) = false := decide_eq_false (by omega)
        have u1' : decide (i < A.length) = false := decide_eq_false hi
        cases cl with
        | false =>
          have hop2 := hop rfl
          have v1 : decide ((L.length : Int) ≤ (s.size : Int)) = true := decide_eq_true (by omega)
          have v1' : decide (L.length ≤ s.size) = true := decide_eq_true (by omega)
          have v2 : decide ((L.length : Int) < 69632) = true := decide_eq_true (by omega)
          go_wp2_with (first
            | (go_at_call 13; refine (closed_any _ _ _ _ _ (by assumption)).mono ?_; rintro e w8 ⟨rfl, rfl⟩)
            | (go_at_call 12; refine (rest_any _ _ _ _ _ (by assumption)).mono ?_; rintro e w8 ⟨rfl, rfl⟩))
          go_ret
          exact ⟨rfl, CUR.out⟩
        | true =>
          obtain ⟨n, st, hn, hst, h400, h505⟩ := hcl rfl
          have hL0 := hclo rfl
          subst hL0
          have v0 : decide ((0 : Int) < (A.length : Int)) = true := decide_eq_true (by omega)
          have v0' : decide (0 < A.length) = true := decide_eq_true (by omega)
          obtain ⟨g1, rfl, -, -, -⟩ := HO.out.some (by omega)
          have c4 : wr.cell? ⟨g1, n * 5 + 4, none⟩ = some (.int .i64 st) := by
            have h := OwnF.at fG_len HO.out (i := n) (j := 4) (by omega) (by omega)
            rw [List.getElem?_eq_getElem (by omega)] at hst
            rw [Option.some.inj hst] at h
            exact h
          have c4' : wr.cell? ⟨g1, (A.length - 1) * 5 + 4, none⟩ = some (.int .i64 st) := by rw [show A.length - 1 = n by omega]; exact c4
          have hl1 : n + 1 ≤ A.length := by omega
          have hl2 : A.length ≤ n + 1 := by omega
          clear hn
          have u3 : (st != 0) = true := by simp; omega
          have hcv := HCV.out wr
          go_wp2_with (first
            | (go_at_call 13; refine (closed_any _ _ _ _ _ (by assumption)).mono ?_; rintro e w8 ⟨rfl, rfl⟩)
            | (go_at_call 9; refine (feed_shut _ _ _ _ (rdR_below HR.out (Lib.bytesWorld_below wr 5 more)) _ _ _).mono ?_; rintro e w9 ⟨rfl, rfl⟩)
            | (go_at_call 12; refine (rest_any _ _ _ _ _ (rdR_below HR.out (Lib.bytesWorld_below wr 5 more))).mono ?_; rintro e w8 ⟨rfl, rfl⟩))
          go_ret
          exact ⟨rfl, CUR.out.trans ((Lib.bytesWorld_below wr 5 more).mono CUR.out.size)⟩
end Go.Proofs.YtlgfhbfdjckdnaaGreatDoor
