/- The law's refused (seat wirez). -/
import Derived.Test.YtlgfhbfdjckdnaaGreatDoorWireReadsQ
set_option maxRecDepth 100000
namespace Go.Proofs.YtlgfhbfdjckdnaaGreatDoor
open Go.RowKit

set_option maxHeartbeats 4000000 in
theorem lrefused_any (w : World) (hg : Gnd w) (s : ByteArray) (hs : s.size ≤ 300000) (st : Int) (hF : feedS s.data.toList = ([refG st], [], true)) :
    Calls Tryz.prog 19 #[.string s, .int .i64 st] w fun e w' => e = .returned (.bool true) ∧ Below w.heap.size w w' := by
  have HG := Lib.hid hg.toB
  have HFS := Lib.hid hF
  clear hg hF
  go_enter Tryz.func19, Tryz.ntmps19
  go_upto_region 3 with (first
    | (go_at_call 8; refine (new_any w).mono ?_; rintro e w2 ⟨p, rfl, hR2, hp2, hb2⟩; have hcv := Lib.run_convert_string_bytes (P := Tryz.prog) w2 9 27 5 s Tryz.underlying9 Tryz.underlying27 Tryz.underlying5; have hl1 : p < w2.heap.size := (by obtain ⟨_, q, _⟩ := hR2; exact lt_of_block q); have HF := Lib.hid (fun cap => feed_three w.heap.size w2 (HG.out.below hb2) p (p + 1) (by omega) (by omega) hl1 [] false hR2 (by simp) s hs cap); have HB3 := Lib.hid (hb2.trans ((Lib.bytesWorld_below w2 5 s).mono hb2.size)); have HP := Lib.hid hp2; clear hR2 hp2 hb2)
    | (go_at_call 9; refine (HF.out _).mono ?_; rintro e w4 ⟨v, rfl, hO, hR4, hF4⟩; have HO := Lib.hid hO; have HR4 := Lib.hid hR4; have HF4 := Lib.hid hF4; clear hO hR4 hF4))
  have hO : OwnF fG 39 5 w4 w2.heap.size v (feedS s.data.toList).1 := HO.out
  have hR : RdA w4 (p + 1) p (feedS s.data.toList).2.1 (feedS s.data.toList).2.2 w2.heap.size := HR4.out
  rw [HFS.out] at hO hR
  have cur : Below w.heap.size w w4 := HB3.out.trans (HF4.out.toBelow HB3.out.size (by intro r hr j hj; simp only [List.mem_singleton] at hr; subst hr; injection hj with hj; have := HP.out; omega))
  have HCur := Lib.hid cur
  have HSh := Lib.hid (fun (W : World) (h : Below w4.heap.size w4 W) => rdR_below hR.rd h)
  obtain ⟨a, c, rfl⟩ := hO.shape
  obtain ⟨g, rfl, -, hg1, hg2⟩ := hO.some (by simp)
  have at1 := fun j (hj : j < 5) => OwnF.at fG_len hO (i := 0) (j := j) (by simp) hj
  have eB : bytesL [] = ⟨#[]⟩ := rfl
  have c0 : w4.cell? ⟨g, 0, none⟩ = some (.string ⟨#[]⟩) := at1 0 (by omega)
  have c1 : w4.cell? ⟨g, 1, none⟩ = some (.string ⟨#[]⟩) := at1 1 (by omega)
  have c2 : w4.cell? ⟨g, 2, none⟩ = some (.string ⟨#[]⟩) := at1 2 (by omega)
  have c3 : w4.cell? ⟨g, 3, none⟩ = some (.string ⟨#[]⟩) := at1 3 (by omega)
  have c4 : w4.cell? ⟨g, 4, none⟩ = some (.int .i64 st) := at1 4 (by omega)
  have s4 : (st == st) = true := beq_self_eq_true _
  have hR0 : RdR w4 (p + 1) p [] true := hR.rd
  clear at1 eB hO hR cur
  have hcc := fun C => Lib.run_convert_bytes_const (P := Tryz.prog) w4 27 5 C 27 27 Tryz.underlying27 Tryz.underlying5
  go_wp2_with (first
    | (go_at_call 13; refine (closed_any _ _ _ _ _ hR0).mono ?_; rintro e w7 ⟨rfl, rfl⟩)
    | (go_at_call 12; refine (rest_any _ _ _ _ _ hR0).mono ?_; rintro e w7 ⟨rfl, rfl⟩)
    | (go_at_call 9; refine (feed_shut _ _ _ _ (HSh.out _ ((Below.refl _ _).alloc (Nat.le_refl _) _)) _ _ _).mono ?_; rintro e w9 ⟨rfl, rfl⟩))
  go_ret
  exact ⟨rfl, HCur.out.alloc HCur.out.size _⟩
end Go.Proofs.YtlgfhbfdjckdnaaGreatDoor
