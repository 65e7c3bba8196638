/- Of XNodes: what XFAs uses (shake.py). -/
import Derived.Test.YtbephgifbghilaaGreatDoorKXRk
import Derived.BigQuiet
/- Texts fused by fuse.py: EvalNodes, EvalCheck2, EvalCheck3, EvalCheck4. -/
/- slices.IndexFunc and slices.ContainsFunc over nodes. -/
set_option maxRecDepth 100000
namespace Go.Proofs.YtbephgifbghilaaGreatDoor
open Go.RowKit
set_option maxHeartbeats 1000000 in
theorem nodesIdx_any (w : World) (v : Value) (l : List Nd) (h : KidsR w w.heap.size v l) (fid : Nat) (caps : Array Value) (p : Nd → Bool)
    (hrun : ∀ (args : Array Value) (W : World), (callFunc fid args).run Tryz.prog W = .ok (.enter fid args) W)
    (hf : ∀ i (hi : i < l.length) (vk : Value) (W : World), Below w.heap.size w W → KidsR W w.heap.size vk l[i].kids → HeadW l[i] → Calls Tryz.prog fid (#[valN l[i] vk] ++ caps) W fun e w' => e = .returned (.bool (p l[i])) ∧ Below W.heap.size W w') :
    Calls Tryz.prog 85 #[v, .func (.func fid) #[] caps] w fun e w' => e = .returned (.int .i64 (idxL p l 0)) ∧ Below w.heap.size w w' := by
  have hll := h.len
  obtain ⟨a, c, rfl, hat⟩ := kid_at h
  have HA := Lib.hid hat
  have HF := Lib.hid hf
  clear hf h hat
  go_enter Tryz.func85, Tryz.ntmps85
  go_wp2_with fail
  go_loopg [8] l.length (fun g s8 wr => ∃ k : Nat, k + g = l.length ∧ s8 = .int .i64 (k : Int) ∧ Hid (idxL p (l.drop k) (k : Int) = idxL p l 0) ∧ Below w.heap.size w wr)
  case atStart => exact ⟨0, by omega, rfl, rfl, Below.refl _ _⟩
  case round =>
    obtain ⟨k, hkg, rfl, hI, hB⟩ := hrel
    by_cases hk : k < l.length
    · obtain ⟨b, o, vk, rfl, hb, hw, hkk, hc⟩ := HA.out k hk
      have hcall := HF.out k hk vk wr hB (hkk.mono hB (Nat.le_refl _)) hw
      obtain ⟨c0, c1, c2, c3, c4, c5, c6⟩ := kid_cells hc hB hb
      obtain ⟨x, hx⟩ : ∃ x, l[k] = x := ⟨_, rfl⟩
      rw [hx] at c0 c1 c2 c3 c4 c5 hcall
      have hd : Hid (idxL p (l.drop k) (k : Int) = if p x then (k : Int) else idxL p (l.drop (k + 1)) ((k + 1 : Nat) : Int)) := Lib.hid (by rw [idxL_drop hk, hx])
      have HB := Lib.hid hB
      have dk : decide (k < l.length) = true := decide_eq_true hk
      have k1 : (0 : Int) ≤ (k : Int) := by omega
      have k2 : (k : Int) < (l.length : Int) := by omega
      clear hx hB hc hkk hw
      cases hp : p x with
      | true =>
        rw [hp] at hcall
        have Hf : Hid ((k : Int) = idxL p l 0) := by rw [← hI.out, hd.out, hp]; exact rfl
        have HC := Lib.hid hcall
        clear hcall hp
        go_wp2_with fail
        refine HC.out.mono ?_
        rintro e w2 ⟨rfl, hb2⟩
        have HB2 := Lib.hid (HB.out.trans (hb2.mono HB.out.size))
        clear hb2
        go_wp2_with fail
        go_ret
        exact ⟨ret_int Hf.out, HB2.out⟩
      | false =>
        rw [hp] at hcall
        have Hf : Hid (idxL p (l.drop (k + 1)) ((k + 1 : Nat) : Int) = idxL p l 0) := by rw [← hI.out, hd.out, hp]; exact rfl
        have HC := Lib.hid hcall
        clear hcall hp
        go_wp2_with fail
        refine HC.out.mono ?_
        rintro e w2 ⟨rfl, hb2⟩
        have HB2 := Lib.hid (HB.out.trans (hb2.mono HB.out.size))
        clear hb2
        go_wp2_with fail
        go_roundg (gk - 1)
        case measure => omega
        case rel => exact ⟨k + 1, by omega, by go_num, Hf, HB2.out⟩
    · have Hf : Hid (-1 = idxL p l 0) := by rw [← hI.out, List.drop_eq_nil_of_le (by omega)]; exact rfl
      have dk : decide (k < l.length) = false := decide_eq_false hk
      go_wp2_with fail
      go_ret
      exact ⟨ret_int Hf.out, hB⟩
theorem idxL_any {α : Type} (p : α → Bool) : ∀ (l : List α) (k : Int), 0 ≤ k → decide (0 ≤ idxL p l k) = l.any p
  | [], k, _ => by simp [idxL]
  | x :: r, k, hk => by
    unfold idxL
    cases hp : p x with
    | true => simp [hp, hk]
    | false => simpa [hp] using idxL_any p r (k + 1) (by omega)
theorem nodesHas_any (w : World) (v : Value) (l : List Nd) (h : KidsR w w.heap.size v l) (fid : Nat) (caps : Array Value) (p : Nd → Bool)
    (hrun : ∀ (args : Array Value) (W : World), (callFunc fid args).run Tryz.prog W = .ok (.enter fid args) W)
    (hf : ∀ i (hi : i < l.length) (vk : Value) (W : World), Below w.heap.size w W → KidsR W w.heap.size vk l[i].kids → HeadW l[i] → Calls Tryz.prog fid (#[valN l[i] vk] ++ caps) W fun e w' => e = .returned (.bool (p l[i])) ∧ Below W.heap.size W w') :
    Calls Tryz.prog 50 #[v, .func (.func fid) #[] caps] w fun e w' => e = .returned (.bool (l.any p)) ∧ Below w.heap.size w w' := by
  have S1 := Lib.hid (nodesIdx_any w v l h fid caps p hrun hf)
  have HI := Lib.hid (idxL_any p l 0 (by omega))
  obtain ⟨r, hr⟩ : ∃ r, l.any p = r := ⟨_, rfl⟩
  obtain ⟨j, hj⟩ : ∃ j, idxL p l 0 = j := ⟨_, rfl⟩
  rw [hr, hj] at HI
  rw [hj] at S1
  rw [hr]
  have dj := HI.out
  obtain ⟨a, c, rfl⟩ := h.val
  clear hr hj hf h
  go_enter Tryz.func50, Tryz.ntmps50
  go_wp2_with (go_at_call 85; refine S1.out.mono ?_; rintro e w2 ⟨rfl, hb2⟩; refine Hid.out ?_)
  refine Lib.hid ?_
  have HB := Lib.hid hb2
  clear hb2
  go_wp2_with fail
  go_ret
  exact ⟨rfl, HB.out⟩
end Go.Proofs.YtbephgifbghilaaGreatDoor
/- expr.Check, case by case. -/
set_option maxRecDepth 100000
namespace Go.Proofs.YtbephgifbghilaaGreatDoor
open Go.RowKit
set_option maxHeartbeats 2000000 in
theorem chk_len (w : World) (op : Int) (u : Vl) (nm : ByteArray) (a : Option Addr) (n c : Nat) (hA : (n : Int) ≠ kidsN op) :
    Calls Tryz.prog 14 #[valO op u nm (.slice a n c)] w fun e w' => e = .returned (.bool false) ∧ Below w.heap.size w w' := by
  obtain ⟨w1, p0, hp0, hw1, l1, n1, b1⟩ := box_new w (objN op u nm (.slice a n c))
  have c0 : w1.cell? ⟨p0, 0, none⟩ = some (.int .u8 op) := (cell_of_block n1 0).trans rfl
  have c6 : w1.cell? ⟨p0, 6, none⟩ = some (.slice a n c) := (cell_of_block n1 6).trans rfl
  have HB := Lib.hid b1
  have HK := Lib.hid (fun W => kids_any W op)
  have dA : ((n : Int) != kidsN op) = true := by simpa using hA
  obtain ⟨kk, hkk⟩ : ∃ kk, kidsN op = kk := ⟨_, rfl⟩
  rw [hkk] at HK dA
  clear n1 b1 hA hkk
  go_enter Tryz.func14, Tryz.ntmps14
  go_wp2_with fail
  go_quiet ((go_at_call 46; (first | exact quiet_left (HK.out _) | exact quiet_add_left (HK.out _))))
  have HE := Lib.hid (below_drewN HB.out nq)
  go_wp2_with fail
  go_ret
  exact ⟨rfl, by first | exact HE.out | (rw [hp0]; exact HE.out)⟩
theorem run_neq_val (w : World) (a b : Vl) : (binOp .neq 26 (valV a) (valV b)).run Tryz.prog w = .ok (.bool (!vlEq a b)) w := by
  have h : (Op.equalIn 10000 26 (valV a) (valV b)).run Tryz.prog w = .ok (vlEq a b) w := by
    rw [show (10000 : Nat) = 9999 + 1 from rfl, run_equalIn_struct w 9999 26 _ _ (by kernel_rfl) (by kernel_rfl)]
    simp [go_sem, Op.eqFields]
    unfold vlEq
    by_cases h1 : a.kind = b.kind <;> by_cases h2 : a.num = b.num <;> by_cases h3 : a.tr = b.tr <;> by_cases h4 : a.text.toList = b.text.toList <;> simp [h1, h2, h3, h4]
  rw [run_neq_struct, h]; rfl
set_option maxHeartbeats 2000000 in
theorem chk_val (w : World) (op : Int) (u : Vl) (nm : ByteArray) (a : Option Addr) (n c : Nat) (hA : (n : Int) = kidsN op) (h1 : op ≠ 1) (hv : vlEq u Vl.zero = false) :
    Calls Tryz.prog 14 #[valO op u nm (.slice a n c)] w fun e w' => e = .returned (.bool false) ∧ Below w.heap.size w w' := by
  obtain ⟨w1, p0, hp0, hw1, l1, n1, b1⟩ := box_new w (objN op u nm (.slice a n c))
  have c0 : w1.cell? ⟨p0, 0, none⟩ = some (.int .u8 op) := (cell_of_block n1 0).trans rfl
  have c1 : w1.cell? ⟨p0, 1, none⟩ = some (.int .u8 u.kind) := (cell_of_block n1 1).trans rfl
  have c2 : w1.cell? ⟨p0, 2, none⟩ = some (.int .i64 u.num) := (cell_of_block n1 2).trans rfl
  have c3 : w1.cell? ⟨p0, 3, none⟩ = some (.bool u.tr) := (cell_of_block n1 3).trans rfl
  have c4 : w1.cell? ⟨p0, 4, none⟩ = some (.string u.text) := (cell_of_block n1 4).trans rfl
  have c6 : w1.cell? ⟨p0, 6, none⟩ = some (.slice a n c) := (cell_of_block n1 6).trans rfl
  have HB := Lib.hid b1
  have HK := Lib.hid (fun W => kids_any W op)
  have dA : ((n : Int) != kidsN op) = false := by simpa using hA
  have d1 : (op != 1) = true := by simpa using h1
  obtain ⟨kk, hkk⟩ : ∃ kk, kidsN op = kk := ⟨_, rfl⟩
  rw [hkk] at HK dA
  have hq : ∀ W, (binOp .neq 26 (.agg #[.int .u8 u.kind, .int .i64 u.num, .bool u.tr, .string u.text]) (.agg #[.int .u8 0, .int .i64 0, .bool false, .string ⟨#[]⟩])).run Tryz.prog W = .ok (.bool true) W := fun W => by
    have := run_neq_val W u Vl.zero
    rw [hv] at this
    exact this
  clear n1 b1 hA h1 hkk hv
  go_enter Tryz.func14, Tryz.ntmps14
  go_wp2_with fail
  go_quiet ((go_at_call 46; (first | exact quiet_left (HK.out _) | exact quiet_add_left (HK.out _))))
  have HE := Lib.hid (below_drewN HB.out nq)
  go_wp2_with fail
  go_ret
  exact ⟨rfl, by first | exact HE.out | (rw [hp0]; exact HE.out)⟩
set_option maxHeartbeats 2000000 in
theorem chk_nm0 (w : World) (op : Int) (u : Vl) (nm : ByteArray) (a : Option Addr) (n c : Nat) (hA : (n : Int) = kidsN op) (h1 : op ≠ 1) (hv : vlEq u Vl.zero = true) (h2 : op ≠ 2) (hn : nm.toList.isEmpty = false) :
    Calls Tryz.prog 14 #[valO op u nm (.slice a n c)] w fun e w' => e = .returned (.bool false) ∧ Below w.heap.size w w' := by
  obtain ⟨w1, p0, hp0, hw1, l1, n1, b1⟩ := box_new w (objN op u nm (.slice a n c))
  have c0 : w1.cell? ⟨p0, 0, none⟩ = some (.int .u8 op) := (cell_of_block n1 0).trans rfl
  have c1 : w1.cell? ⟨p0, 1, none⟩ = some (.int .u8 u.kind) := (cell_of_block n1 1).trans rfl
  have c2 : w1.cell? ⟨p0, 2, none⟩ = some (.int .i64 u.num) := (cell_of_block n1 2).trans rfl
  have c3 : w1.cell? ⟨p0, 3, none⟩ = some (.bool u.tr) := (cell_of_block n1 3).trans rfl
  have c4 : w1.cell? ⟨p0, 4, none⟩ = some (.string u.text) := (cell_of_block n1 4).trans rfl
  have c6 : w1.cell? ⟨p0, 6, none⟩ = some (.slice a n c) := (cell_of_block n1 6).trans rfl
  have HB := Lib.hid b1
  have HK := Lib.hid (fun W => kids_any W op)
  have dA : ((n : Int) != kidsN op) = false := by simpa using hA
  have d1 : (op != 1) = true := by simpa using h1
  obtain ⟨kk, hkk⟩ : ∃ kk, kidsN op = kk := ⟨_, rfl⟩
  rw [hkk] at HK dA
  have hq : ∀ W, (binOp .neq 26 (.agg #[.int .u8 u.kind, .int .i64 u.num, .bool u.tr, .string u.text]) (.agg #[.int .u8 0, .int .i64 0, .bool false, .string ⟨#[]⟩])).run Tryz.prog W = .ok (.bool false) W := fun W => by
    have := run_neq_val W u Vl.zero
    rw [hv] at this
    exact this
  have d2 : (op != 2) = true := by simpa using h2
  have c5 : w1.cell? ⟨p0, 5, none⟩ = some (.string nm) := (cell_of_block n1 5).trans rfl
  have dn : (!nm.toList.isEmpty) = true := by rw [hn]; rfl
  clear h2 n1 b1 hA h1 hkk hv
  go_enter Tryz.func14, Tryz.ntmps14
  go_wp2_with fail
  go_quiet ((go_at_call 46; (first | exact quiet_left (HK.out _) | exact quiet_add_left (HK.out _))))
  have HE := Lib.hid (below_drewN HB.out nq)
  go_wp2_with fail
  go_ret
  exact ⟨rfl, by first | exact HE.out | (rw [hp0]; exact HE.out)⟩
set_option maxHeartbeats 2000000 in
theorem chk_nm1 (w : World) (op : Int) (u : Vl) (nm : ByteArray) (a : Option Addr) (n c : Nat) (hA : (n : Int) = kidsN op) (h1 : op = 1) (hn : nm.toList.isEmpty = false) :
    Calls Tryz.prog 14 #[valO op u nm (.slice a n c)] w fun e w' => e = .returned (.bool false) ∧ Below w.heap.size w w' := by
  obtain ⟨w1, p0, hp0, hw1, l1, n1, b1⟩ := box_new w (objN op u nm (.slice a n c))
  have c0 : w1.cell? ⟨p0, 0, none⟩ = some (.int .u8 op) := (cell_of_block n1 0).trans rfl
  have c1 : w1.cell? ⟨p0, 1, none⟩ = some (.int .u8 u.kind) := (cell_of_block n1 1).trans rfl
  have c2 : w1.cell? ⟨p0, 2, none⟩ = some (.int .i64 u.num) := (cell_of_block n1 2).trans rfl
  have c3 : w1.cell? ⟨p0, 3, none⟩ = some (.bool u.tr) := (cell_of_block n1 3).trans rfl
  have c4 : w1.cell? ⟨p0, 4, none⟩ = some (.string u.text) := (cell_of_block n1 4).trans rfl
  have c6 : w1.cell? ⟨p0, 6, none⟩ = some (.slice a n c) := (cell_of_block n1 6).trans rfl
  have HB := Lib.hid b1
  have HK := Lib.hid (fun W => kids_any W op)
  have dA : ((n : Int) != kidsN op) = false := by simpa using hA
  have d1 : (op != 1) = false := by rw [h1]; rfl
  obtain ⟨kk, hkk⟩ : ∃ kk, kidsN op = kk := ⟨_, rfl⟩
  rw [hkk] at HK dA
  have d2 : (op != 2) = true := by rw [h1]; rfl
  have c5 : w1.cell? ⟨p0, 5, none⟩ = some (.string nm) := (cell_of_block n1 5).trans rfl
  have dn : (!nm.toList.isEmpty) = true := by rw [hn]; rfl
  clear n1 b1 hA h1 hkk
  go_enter Tryz.func14, Tryz.ntmps14
  go_wp2_with fail
  go_quiet ((go_at_call 46; (first | exact quiet_left (HK.out _) | exact quiet_add_left (HK.out _))))
  have HE := Lib.hid (below_drewN HB.out nq)
  go_wp2_with fail
  go_ret
  exact ⟨rfl, by first | exact HE.out | (rw [hp0]; exact HE.out)⟩
set_option maxHeartbeats 2000000 in
theorem chk_lit0 (w : World) (op : Int) (u : Vl) (nm : ByteArray) (a : Option Addr) (n c : Nat) (hA : (n : Int) = kidsN op) (h1 : op = 1) (hn : nm.toList.isEmpty = true) (hu : VlW u) (hT : Tabs8 w) (hc : checkB u = false) :
    Calls Tryz.prog 14 #[valO op u nm (.slice a n c)] w fun e w' => e = .returned (.bool false) ∧ Below w.heap.size w w' := by
  obtain ⟨w1, p0, hp0, hw1, l1, n1, b1⟩ := box_new w (objN op u nm (.slice a n c))
  have c0 : w1.cell? ⟨p0, 0, none⟩ = some (.int .u8 op) := (cell_of_block n1 0).trans rfl
  have c1 : w1.cell? ⟨p0, 1, none⟩ = some (.int .u8 u.kind) := (cell_of_block n1 1).trans rfl
  have c2 : w1.cell? ⟨p0, 2, none⟩ = some (.int .i64 u.num) := (cell_of_block n1 2).trans rfl
  have c3 : w1.cell? ⟨p0, 3, none⟩ = some (.bool u.tr) := (cell_of_block n1 3).trans rfl
  have c4 : w1.cell? ⟨p0, 4, none⟩ = some (.string u.text) := (cell_of_block n1 4).trans rfl
  have c6 : w1.cell? ⟨p0, 6, none⟩ = some (.slice a n c) := (cell_of_block n1 6).trans rfl
  have HB := Lib.hid b1
  have HK := Lib.hid (fun W => kids_any W op)
  have dA : ((n : Int) != kidsN op) = false := by simpa using hA
  have d1 : (op != 1) = false := by rw [h1]; rfl
  have q1 : (op == 1) = true := by rw [h1]; rfl
  have HV := Lib.hid (show ∀ W, Below w.heap.size w W → Calls Tryz.prog 47 #[valV u] W fun e w' => e = .returned (.int .i64 1) ∧ Below W.heap.size W w' from fun W h => by
    have := vcheck_any W u hu (Utf8Tabs_below hT h)
    rw [show checkE u = 1 by unfold checkE; rw [hc]; rfl] at this
    exact this)
  clear hu hT hc
  obtain ⟨kk, hkk⟩ : ∃ kk, kidsN op = kk := ⟨_, rfl⟩
  rw [hkk] at HK dA
  have d2 : (op != 2) = true := by rw [h1]; rfl
  have c5 : w1.cell? ⟨p0, 5, none⟩ = some (.string nm) := (cell_of_block n1 5).trans rfl
  have dn : (!nm.toList.isEmpty) = false := by rw [hn]; rfl
  clear n1 b1 hA h1 hkk
  go_enter Tryz.func14, Tryz.ntmps14
  go_wp2_with fail
  go_quiet ((go_at_call 46; (first | exact quiet_left (HK.out _) | exact quiet_add_left (HK.out _))))
  have HE := Lib.hid (below_drewN HB.out nq)
  go_wp2_with (go_at_call 47; refine (HV.out _ HE.out).mono ?_; rintro e w5 ⟨rfl, hb5⟩; refine Hid.out ?_)
  refine Lib.hid ?_
  have HF := Lib.hid (HE.out.trans (hb5.mono HE.out.size))
  clear hb5
  go_wp2_with fail
  go_ret
  exact ⟨rfl, by first | exact HF.out | (rw [hp0]; exact HF.out)⟩
set_option maxHeartbeats 2000000 in
theorem chk_lit1 (w : World) (op : Int) (u : Vl) (nm : ByteArray) (a : Option Addr) (n c : Nat) (hA : (n : Int) = kidsN op) (h1 : op = 1) (hn : nm.toList.isEmpty = true) (hu : VlW u) (hT : Tabs8 w) (hc : checkB u = true) (hneg : u.num < 0) :
    Calls Tryz.prog 14 #[valO op u nm (.slice a n c)] w fun e w' => e = .returned (.bool false) ∧ Below w.heap.size w w' := by
  obtain ⟨w1, p0, hp0, hw1, l1, n1, b1⟩ := box_new w (objN op u nm (.slice a n c))
  have c0 : w1.cell? ⟨p0, 0, none⟩ = some (.int .u8 op) := (cell_of_block n1 0).trans rfl
  have c1 : w1.cell? ⟨p0, 1, none⟩ = some (.int .u8 u.kind) := (cell_of_block n1 1).trans rfl
  have c2 : w1.cell? ⟨p0, 2, none⟩ = some (.int .i64 u.num) := (cell_of_block n1 2).trans rfl
  have c3 : w1.cell? ⟨p0, 3, none⟩ = some (.bool u.tr) := (cell_of_block n1 3).trans rfl
  have c4 : w1.cell? ⟨p0, 4, none⟩ = some (.string u.text) := (cell_of_block n1 4).trans rfl
  have c6 : w1.cell? ⟨p0, 6, none⟩ = some (.slice a n c) := (cell_of_block n1 6).trans rfl
  have HB := Lib.hid b1
  have HK := Lib.hid (fun W => kids_any W op)
  have dA : ((n : Int) != kidsN op) = false := by simpa using hA
  have d1 : (op != 1) = false := by rw [h1]; rfl
  have q1 : (op == 1) = true := by rw [h1]; rfl
  have HV := Lib.hid (show ∀ W, Below w.heap.size w W → Calls Tryz.prog 47 #[valV u] W fun e w' => e = .returned (.int .i64 0) ∧ Below W.heap.size W w' from fun W h => by
    have := vcheck_any W u hu (Utf8Tabs_below hT h)
    rw [show checkE u = 0 by unfold checkE; rw [hc]; rfl] at this
    exact this)
  have dneg : decide (u.num < 0) = true := decide_eq_true hneg
  clear hu hT hc hneg
  obtain ⟨kk, hkk⟩ : ∃ kk, kidsN op = kk := ⟨_, rfl⟩
  rw [hkk] at HK dA
  have d2 : (op != 2) = true := by rw [h1]; rfl
  have c5 : w1.cell? ⟨p0, 5, none⟩ = some (.string nm) := (cell_of_block n1 5).trans rfl
  have dn : (!nm.toList.isEmpty) = false := by rw [hn]; rfl
  clear n1 b1 hA h1 hkk
  go_enter Tryz.func14, Tryz.ntmps14
  go_wp2_with fail
  go_quiet ((go_at_call 46; (first | exact quiet_left (HK.out _) | exact quiet_add_left (HK.out _))))
  have HE := Lib.hid (below_drewN HB.out nq)
  go_wp2_with (go_at_call 47; refine (HV.out _ HE.out).mono ?_; rintro e w5 ⟨rfl, hb5⟩; refine Hid.out ?_)
  refine Lib.hid ?_
  have c2' : w5.cell? ⟨p0, 2, none⟩ = some (.int .i64 u.num) := (Below.cellB hb5 (show p0 < (w1.drewN nq).heap.size from l1)).trans c2
  have c0' : w5.cell? ⟨p0, 0, none⟩ = some (.int .u8 op) := (Below.cellB hb5 (show p0 < (w1.drewN nq).heap.size from l1)).trans c0
  have HF := Lib.hid (HE.out.trans (hb5.mono HE.out.size))
  clear hb5
  go_wp2_with fail
  go_ret
  exact ⟨rfl, by first | exact HF.out | (rw [hp0]; exact HF.out)⟩
set_option maxHeartbeats 2000000 in
theorem chk_var0 (w : World) (op : Int) (u : Vl) (nm : ByteArray) (a : Option Addr) (n c : Nat) (hA : (n : Int) = kidsN op) (h1 : op = 2) (hv : vlEq u Vl.zero = true) (hc : nameB nm = false) :
    Calls Tryz.prog 14 #[valO op u nm (.slice a n c)] w fun e w' => e = .returned (.bool false) ∧ Below w.heap.size w w' := by
  obtain ⟨w1, p0, hp0, hw1, l1, n1, b1⟩ := box_new w (objN op u nm (.slice a n c))
  have c0 : w1.cell? ⟨p0, 0, none⟩ = some (.int .u8 op) := (cell_of_block n1 0).trans rfl
  have c1 : w1.cell? ⟨p0, 1, none⟩ = some (.int .u8 u.kind) := (cell_of_block n1 1).trans rfl
  have c2 : w1.cell? ⟨p0, 2, none⟩ = some (.int .i64 u.num) := (cell_of_block n1 2).trans rfl
  have c3 : w1.cell? ⟨p0, 3, none⟩ = some (.bool u.tr) := (cell_of_block n1 3).trans rfl
  have c4 : w1.cell? ⟨p0, 4, none⟩ = some (.string u.text) := (cell_of_block n1 4).trans rfl
  have c6 : w1.cell? ⟨p0, 6, none⟩ = some (.slice a n c) := (cell_of_block n1 6).trans rfl
  have HB := Lib.hid b1
  have HK := Lib.hid (fun W => kids_any W op)
  have dA : ((n : Int) != kidsN op) = false := by simpa using hA
  have d1 : (op != 1) = true := by rw [h1]; rfl
  have q1 : (op == 1) = false := by rw [h1]; rfl
  have q2 : (op == 2) = true := by rw [h1]; rfl
  have HV := Lib.hid (show ∀ W, Calls Tryz.prog 48 #[.string nm] W fun e w' => e = .returned (.bool false) ∧ Below W.heap.size W w' from fun W => by rw [← hc]; exact name_any W nm)
  have hq : ∀ W, (binOp .neq 26 (.agg #[.int .u8 u.kind, .int .i64 u.num, .bool u.tr, .string u.text]) (.agg #[.int .u8 0, .int .i64 0, .bool false, .string ⟨#[]⟩])).run Tryz.prog W = .ok (.bool false) W := fun W => by
    have := run_neq_val W u Vl.zero
    rw [hv] at this
    exact this
  clear hc hv
  obtain ⟨kk, hkk⟩ : ∃ kk, kidsN op = kk := ⟨_, rfl⟩
  rw [hkk] at HK dA
  have d2 : (op != 2) = false := by rw [h1]; rfl
  have c5 : w1.cell? ⟨p0, 5, none⟩ = some (.string nm) := (cell_of_block n1 5).trans rfl
  clear n1 b1 hA h1 hkk
  go_enter Tryz.func14, Tryz.ntmps14
  go_wp2_with fail
  go_quiet ((go_at_call 46; (first | exact quiet_left (HK.out _) | exact quiet_add_left (HK.out _))))
  have HE := Lib.hid (below_drewN HB.out nq)
  go_wp2_with (go_at_call 48; refine (HV.out _).mono ?_; rintro e w5 ⟨rfl, hb5⟩; refine Hid.out ?_)
  refine Lib.hid ?_
  have HF := Lib.hid (HE.out.trans (hb5.mono HE.out.size))
  clear hb5
  go_wp2_with fail
  go_ret
  exact ⟨rfl, by first | exact HF.out | (rw [hp0]; exact HF.out)⟩
set_option maxHeartbeats 2000000 in
theorem chk_var1 (w : World) (op : Int) (u : Vl) (nm : ByteArray) (a : Option Addr) (n c : Nat) (hA : (n : Int) = kidsN op) (h1 : op = 2) (hv : vlEq u Vl.zero = true) (hc : nameB nm = true) (hkw : keyWord nm = true) :
    Calls Tryz.prog 14 #[valO op u nm (.slice a n c)] w fun e w' => e = .returned (.bool false) ∧ Below w.heap.size w w' := by
  obtain ⟨w1, p0, hp0, hw1, l1, n1, b1⟩ := box_new w (objN op u nm (.slice a n c))
  have c0 : w1.cell? ⟨p0, 0, none⟩ = some (.int .u8 op) := (cell_of_block n1 0).trans rfl
  have c1 : w1.cell? ⟨p0, 1, none⟩ = some (.int .u8 u.kind) := (cell_of_block n1 1).trans rfl
  have c2 : w1.cell? ⟨p0, 2, none⟩ = some (.int .i64 u.num) := (cell_of_block n1 2).trans rfl
  have c3 : w1.cell? ⟨p0, 3, none⟩ = some (.bool u.tr) := (cell_of_block n1 3).trans rfl
  have c4 : w1.cell? ⟨p0, 4, none⟩ = some (.string u.text) := (cell_of_block n1 4).trans rfl
  have c6 : w1.cell? ⟨p0, 6, none⟩ = some (.slice a n c) := (cell_of_block n1 6).trans rfl
  have HB := Lib.hid b1
  have HK := Lib.hid (fun W => kids_any W op)
  have dA : ((n : Int) != kidsN op) = false := by simpa using hA
  have d1 : (op != 1) = true := by rw [h1]; rfl
  have q1 : (op == 1) = false := by rw [h1]; rfl
  have q2 : (op == 2) = true := by rw [h1]; rfl
  have HV := Lib.hid (show ∀ W, Calls Tryz.prog 48 #[.string nm] W fun e w' => e = .returned (.bool true) ∧ Below W.heap.size W w' from fun W => by rw [← hc]; exact name_any W nm)
  have HW := Lib.hid (show ∀ W, Calls Tryz.prog 49 #[.string nm] W fun e w' => e = .returned (.bool true) ∧ Below W.heap.size W w' from fun W => by rw [← hkw]; exact keyword_any W nm)
  have hq : ∀ W, (binOp .neq 26 (.agg #[.int .u8 u.kind, .int .i64 u.num, .bool u.tr, .string u.text]) (.agg #[.int .u8 0, .int .i64 0, .bool false, .string ⟨#[]⟩])).run Tryz.prog W = .ok (.bool false) W := fun W => by
    have := run_neq_val W u Vl.zero
    rw [hv] at this
    exact this
  clear hc hv hkw
  obtain ⟨kk, hkk⟩ : ∃ kk, kidsN op = kk := ⟨_, rfl⟩
  rw [hkk] at HK dA
  have d2 : (op != 2) = false := by rw [h1]; rfl
  have c5 : w1.cell? ⟨p0, 5, none⟩ = some (.string nm) := (cell_of_block n1 5).trans rfl
  clear n1 b1 hA h1 hkk
  go_enter Tryz.func14, Tryz.ntmps14
  go_wp2_with fail
  go_quiet ((go_at_call 46; (first | exact quiet_left (HK.out _) | exact quiet_add_left (HK.out _))))
  have HE := Lib.hid (below_drewN HB.out nq)
  go_wp2_with (go_at_call 48; refine (HV.out _).mono ?_; rintro e w5 ⟨rfl, hb5⟩; refine Hid.out ?_)
  refine Lib.hid ?_
  have c5' : w5.cell? ⟨p0, 5, none⟩ = some (.string nm) := (Below.cellB hb5 (show p0 < (w1.drewN nq).heap.size from l1)).trans c5
  have HF := Lib.hid (HE.out.trans (hb5.mono HE.out.size))
  clear hb5
  go_wp2_with (go_at_call 49; refine (HW.out _).mono ?_; rintro e w6 ⟨rfl, hb6⟩; refine Hid.out ?_)
  refine Lib.hid ?_
  have HG := Lib.hid (HF.out.trans (hb6.mono HF.out.size))
  clear hb6
  go_wp2_with fail
  go_ret
  exact ⟨rfl, by first | exact HG.out | (rw [hp0]; exact HG.out)⟩
end Go.Proofs.YtbephgifbghilaaGreatDoor
/- expr.Check: the ways that come to the kids. -/
set_option maxRecDepth 100000
namespace Go.Proofs.YtbephgifbghilaaGreatDoor
open Go.RowKit
set_option maxHeartbeats 2000000 in
theorem chk_op (w : World) (op : Int) (u : Vl) (nm : ByteArray) (a : Option Addr) (n c : Nat) (r : Bool) (hA : (n : Int) = kidsN op) (h1 : op ≠ 1) (h2 : op ≠ 2) (hv : vlEq u Vl.zero = true) (hn : nm.toList.isEmpty = true)
    (hk : ∀ W, Below w.heap.size w W → Calls Tryz.prog 50 #[.slice a n c, .func (.func 51) #[] #[]] W fun e w' => e = .returned (.bool r) ∧ Below W.heap.size W w') :
    Calls Tryz.prog 14 #[valO op u nm (.slice a n c)] w fun e w' => e = .returned (.bool (!r)) ∧ Below w.heap.size w w' := by
  obtain ⟨w1, p0, hp0, hw1, l1, n1, b1⟩ := box_new w (objN op u nm (.slice a n c))
  have c0 : w1.cell? ⟨p0, 0, none⟩ = some (.int .u8 op) := (cell_of_block n1 0).trans rfl
  have c1 : w1.cell? ⟨p0, 1, none⟩ = some (.int .u8 u.kind) := (cell_of_block n1 1).trans rfl
  have c2 : w1.cell? ⟨p0, 2, none⟩ = some (.int .i64 u.num) := (cell_of_block n1 2).trans rfl
  have c3 : w1.cell? ⟨p0, 3, none⟩ = some (.bool u.tr) := (cell_of_block n1 3).trans rfl
  have c4 : w1.cell? ⟨p0, 4, none⟩ = some (.string u.text) := (cell_of_block n1 4).trans rfl
  have c5 : w1.cell? ⟨p0, 5, none⟩ = some (.string nm) := (cell_of_block n1 5).trans rfl
  have c6 : w1.cell? ⟨p0, 6, none⟩ = some (.slice a n c) := (cell_of_block n1 6).trans rfl
  have HB := Lib.hid b1
  have HK := Lib.hid (fun W => kids_any W op)
  have HC := Lib.hid hk
  have dA : ((n : Int) != kidsN op) = false := by simpa using hA
  have d1 : (op != 1) = true := by simpa using h1
  have d2 : (op != 2) = true := by simpa using h2
  have q1 : (op == 1) = false := by simpa using h1
  have q2 : (op == 2) = false := by simpa using h2
  have dn : (!nm.toList.isEmpty) = false := by rw [hn]; rfl
  obtain ⟨kk, hkk⟩ : ∃ kk, kidsN op = kk := ⟨_, rfl⟩
  rw [hkk] at HK dA
  have hq : ∀ W, (binOp .neq 26 (.agg #[.int .u8 u.kind, .int .i64 u.num, .bool u.tr, .string u.text]) (.agg #[.int .u8 0, .int .i64 0, .bool false, .string ⟨#[]⟩])).run Tryz.prog W = .ok (.bool false) W := fun W => by
    have := run_neq_val W u Vl.zero
    rw [hv] at this
    exact this
  clear n1 b1 hA h1 h2 hkk hv hk
  go_enter Tryz.func14, Tryz.ntmps14
  go_wp2_with fail
  go_quiet ((go_at_call 46; (first | exact quiet_left (HK.out _) | exact quiet_add_left (HK.out _))))
  have HE := Lib.hid (below_drewN HB.out nq)
  go_wp2_with (go_at_call 50; refine (HC.out _ HE.out).mono ?_; rintro e w5 ⟨rfl, hb5⟩; refine Hid.out ?_)
  refine Lib.hid ?_
  have HF := Lib.hid (HE.out.trans (hb5.mono HE.out.size))
  clear hb5
  go_wp2_with fail
  go_ret
  exact ⟨rfl, by first | exact HF.out | (rw [hp0]; exact HF.out)⟩
set_option maxHeartbeats 2000000 in
theorem chk_var (w : World) (op : Int) (u : Vl) (nm : ByteArray) (a : Option Addr) (n c : Nat) (r : Bool) (hA : (n : Int) = kidsN op) (h2 : op = 2) (hv : vlEq u Vl.zero = true) (hc : nameB nm = true) (hkw : keyWord nm = false)
    (hk : ∀ W, Below w.heap.size w W → Calls Tryz.prog 50 #[.slice a n c, .func (.func 51) #[] #[]] W fun e w' => e = .returned (.bool r) ∧ Below W.heap.size W w') :
    Calls Tryz.prog 14 #[valO op u nm (.slice a n c)] w fun e w' => e = .returned (.bool (!r)) ∧ Below w.heap.size w w' := by
  obtain ⟨w1, p0, hp0, hw1, l1, n1, b1⟩ := box_new w (objN op u nm (.slice a n c))
  have c0 : w1.cell? ⟨p0, 0, none⟩ = some (.int .u8 op) := (cell_of_block n1 0).trans rfl
  have c1 : w1.cell? ⟨p0, 1, none⟩ = some (.int .u8 u.kind) := (cell_of_block n1 1).trans rfl
  have c2 : w1.cell? ⟨p0, 2, none⟩ = some (.int .i64 u.num) := (cell_of_block n1 2).trans rfl
  have c3 : w1.cell? ⟨p0, 3, none⟩ = some (.bool u.tr) := (cell_of_block n1 3).trans rfl
  have c4 : w1.cell? ⟨p0, 4, none⟩ = some (.string u.text) := (cell_of_block n1 4).trans rfl
  have c5 : w1.cell? ⟨p0, 5, none⟩ = some (.string nm) := (cell_of_block n1 5).trans rfl
  have c6 : w1.cell? ⟨p0, 6, none⟩ = some (.slice a n c) := (cell_of_block n1 6).trans rfl
  have HB := Lib.hid b1
  have HK := Lib.hid (fun W => kids_any W op)
  have HC := Lib.hid hk
  have dA : ((n : Int) != kidsN op) = false := by simpa using hA
  have d1 : (op != 1) = true := by rw [h2]; rfl
  have d2 : (op != 2) = false := by rw [h2]; rfl
  have q1 : (op == 1) = false := by rw [h2]; rfl
  have q2 : (op == 2) = true := by rw [h2]; rfl
  have HV := Lib.hid (show ∀ W, Calls Tryz.prog 48 #[.string nm] W fun e w' => e = .returned (.bool true) ∧ Below W.heap.size W w' from fun W => by rw [← hc]; exact name_any W nm)
  have HW := Lib.hid (show ∀ W, Calls Tryz.prog 49 #[.string nm] W fun e w' => e = .returned (.bool false) ∧ Below W.heap.size W w' from fun W => by rw [← hkw]; exact keyword_any W nm)
  obtain ⟨kk, hkk⟩ : ∃ kk, kidsN op = kk := ⟨_, rfl⟩
  rw [hkk] at HK dA
  have hq : ∀ W, (binOp .neq 26 (.agg #[.int .u8 u.kind, .int .i64 u.num, .bool u.tr, .string u.text]) (.agg #[.int .u8 0, .int .i64 0, .bool false, .string ⟨#[]⟩])).run Tryz.prog W = .ok (.bool false) W := fun W => by
    have := run_neq_val W u Vl.zero
    rw [hv] at this
    exact this
  clear n1 b1 hA h2 hkk hv hk hc hkw
  go_enter Tryz.func14, Tryz.ntmps14
  go_wp2_with fail
  go_quiet ((go_at_call 46; (first | exact quiet_left (HK.out _) | exact quiet_add_left (HK.out _))))
  have HE := Lib.hid (below_drewN HB.out nq)
  go_wp2_with (go_at_call 48; refine (HV.out _).mono ?_; rintro e w3 ⟨rfl, hb3⟩; refine Hid.out ?_)
  refine Lib.hid ?_
  have k5 : w3.cell? ⟨p0, 5, none⟩ = some (.string nm) := (Below.cellB hb3 (show p0 < (w1.drewN nq).heap.size from l1)).trans c5
  have k6 : w3.cell? ⟨p0, 6, none⟩ = some (.slice a n c) := (Below.cellB hb3 (show p0 < (w1.drewN nq).heap.size from l1)).trans c6
  have l3 : p0 < w3.heap.size := Nat.lt_of_lt_of_le (show p0 < (w1.drewN nq).heap.size from l1) hb3.size
  have HE := Lib.hid (HE.out.trans (hb3.mono HE.out.size))
  clear hb3
  go_wp2_with (go_at_call 49; refine (HW.out _).mono ?_; rintro e w4 ⟨rfl, hb4⟩; refine Hid.out ?_)
  refine Lib.hid ?_
  have j6 : w4.cell? ⟨p0, 6, none⟩ = some (.slice a n c) := (Below.cellB hb4 l3).trans k6
  have HE := Lib.hid (HE.out.trans (hb4.mono HE.out.size))
  clear hb4
  go_wp2_with (go_at_call 50; refine (HC.out _ HE.out).mono ?_; rintro e w5 ⟨rfl, hb5⟩; refine Hid.out ?_)
  refine Lib.hid ?_
  have HF := Lib.hid (HE.out.trans (hb5.mono HE.out.size))
  clear hb5
  go_wp2_with fail
  go_ret
  exact ⟨rfl, by first | exact HF.out | (rw [hp0]; exact HF.out)⟩
set_option maxHeartbeats 2000000 in
theorem chk_lit (w : World) (op : Int) (u : Vl) (nm : ByteArray) (a : Option Addr) (n c : Nat) (r : Bool) (hA : (n : Int) = kidsN op) (h2 : op = 1) (hn : nm.toList.isEmpty = true) (hu : VlW u) (hT : Tabs8 w) (hc : checkB u = true) (hpos : 0 ≤ u.num)
    (hk : ∀ W, Below w.heap.size w W → Calls Tryz.prog 50 #[.slice a n c, .func (.func 51) #[] #[]] W fun e w' => e = .returned (.bool r) ∧ Below W.heap.size W w') :
    Calls Tryz.prog 14 #[valO op u nm (.slice a n c)] w fun e w' => e = .returned (.bool (!r)) ∧ Below w.heap.size w w' := by
  obtain ⟨w1, p0, hp0, hw1, l1, n1, b1⟩ := box_new w (objN op u nm (.slice a n c))
  have c0 : w1.cell? ⟨p0, 0, none⟩ = some (.int .u8 op) := (cell_of_block n1 0).trans rfl
  have c1 : w1.cell? ⟨p0, 1, none⟩ = some (.int .u8 u.kind) := (cell_of_block n1 1).trans rfl
  have c2 : w1.cell? ⟨p0, 2, none⟩ = some (.int .i64 u.num) := (cell_of_block n1 2).trans rfl
  have c3 : w1.cell? ⟨p0, 3, none⟩ = some (.bool u.tr) := (cell_of_block n1 3).trans rfl
  have c4 : w1.cell? ⟨p0, 4, none⟩ = some (.string u.text) := (cell_of_block n1 4).trans rfl
  have c5 : w1.cell? ⟨p0, 5, none⟩ = some (.string nm) := (cell_of_block n1 5).trans rfl
  have c6 : w1.cell? ⟨p0, 6, none⟩ = some (.slice a n c) := (cell_of_block n1 6).trans rfl
  have HB := Lib.hid b1
  have HK := Lib.hid (fun W => kids_any W op)
  have HC := Lib.hid hk
  have dA : ((n : Int) != kidsN op) = false := by simpa using hA
  have d1 : (op != 1) = false := by rw [h2]; rfl
  have d2 : (op != 2) = true := by rw [h2]; rfl
  have q1 : (op == 1) = true := by rw [h2]; rfl
  have q2 : (op == 2) = false := by rw [h2]; rfl
  have dn : (!nm.toList.isEmpty) = false := by rw [hn]; rfl
  have dneg : decide (u.num < 0) = false := decide_eq_false (by omega)
  have HV := Lib.hid (show ∀ W, Below w.heap.size w W → Calls Tryz.prog 47 #[valV u] W fun e w' => e = .returned (.int .i64 0) ∧ Below W.heap.size W w' from fun W h => by
    have := vcheck_any W u hu (Utf8Tabs_below hT h)
    rw [show checkE u = 0 by unfold checkE; rw [hc]; rfl] at this
    exact this)
  obtain ⟨kk, hkk⟩ : ∃ kk, kidsN op = kk := ⟨_, rfl⟩
  rw [hkk] at HK dA
  clear n1 b1 hA h2 hkk hk hc hu hT hpos
  go_enter Tryz.func14, Tryz.ntmps14
  go_wp2_with fail
  go_quiet ((go_at_call 46; (first | exact quiet_left (HK.out _) | exact quiet_add_left (HK.out _))))
  have HE := Lib.hid (below_drewN HB.out nq)
  go_wp2_with (go_at_call 47; refine (HV.out _ HE.out).mono ?_; rintro e w3 ⟨rfl, hb3⟩; refine Hid.out ?_)
  refine Lib.hid ?_
  have k0 : w3.cell? ⟨p0, 0, none⟩ = some (.int .u8 op) := (Below.cellB hb3 (show p0 < (w1.drewN nq).heap.size from l1)).trans c0
  have k2 : w3.cell? ⟨p0, 2, none⟩ = some (.int .i64 u.num) := (Below.cellB hb3 (show p0 < (w1.drewN nq).heap.size from l1)).trans c2
  have k6 : w3.cell? ⟨p0, 6, none⟩ = some (.slice a n c) := (Below.cellB hb3 (show p0 < (w1.drewN nq).heap.size from l1)).trans c6
  have HE := Lib.hid (HE.out.trans (hb3.mono HE.out.size))
  clear hb3
  go_wp2_with (go_at_call 50; refine (HC.out _ HE.out).mono ?_; rintro e w5 ⟨rfl, hb5⟩; refine Hid.out ?_)
  refine Lib.hid ?_
  have HF := Lib.hid (HE.out.trans (hb5.mono HE.out.size))
  clear hb5
  go_wp2_with fail
  go_ret
  exact ⟨rfl, by first | exact HF.out | (rw [hp0]; exact HF.out)⟩
end Go.Proofs.YtbephgifbghilaaGreatDoor
/- expr.Check is checkN. -/
set_option maxRecDepth 100000
namespace Go.Proofs.YtbephgifbghilaaGreatDoor
open Go.RowKit
theorem check1_any (w : World) (op : Int) (u : Vl) (nm : ByteArray) (vk : Value) (r : Bool)
    (hk : ∀ W, Below w.heap.size w W → Calls Tryz.prog 14 #[valO op u nm vk] W fun e w' => e = .returned (.bool r) ∧ Below W.heap.size W w') :
    Calls Tryz.prog 51 #[valO op u nm vk] w fun e w' => e = .returned (.bool (!r)) ∧ Below w.heap.size w w' := by
  obtain ⟨w1, p0, hp0, hw1, l1, n1, b1⟩ := box_new w (objN op u nm vk)
  have c0 := (show w1.cell? ⟨p0, 0, none⟩ = some (.int .u8 op) from (cell_of_block n1 0).trans rfl)
  have c1 := (show w1.cell? ⟨p0, 1, none⟩ = some (.int .u8 u.kind) from (cell_of_block n1 1).trans rfl)
  have c2 := (show w1.cell? ⟨p0, 2, none⟩ = some (.int .i64 u.num) from (cell_of_block n1 2).trans rfl)
  have c3 := (show w1.cell? ⟨p0, 3, none⟩ = some (.bool u.tr) from (cell_of_block n1 3).trans rfl)
  have c4 := (show w1.cell? ⟨p0, 4, none⟩ = some (.string u.text) from (cell_of_block n1 4).trans rfl)
  have c5 := (show w1.cell? ⟨p0, 5, none⟩ = some (.string nm) from (cell_of_block n1 5).trans rfl)
  have c6 := (show w1.cell? ⟨p0, 6, none⟩ = some vk from (cell_of_block n1 6).trans rfl)
  have HB := Lib.hid b1
  have HC := Lib.hid (hk w1 b1)
  clear n1 b1 hk
  go_enter Tryz.func51, Tryz.ntmps51
  go_wp2_with (go_at_call 14; refine HC.out.mono ?_; rintro e w5 ⟨rfl, hb5⟩; refine Hid.out ?_)
  refine Lib.hid ?_
  have HF := Lib.hid (HB.out.trans (hb5.mono HB.out.size))
  clear hb5
  go_wp2_with fail
  go_ret
  exact ⟨rfl, by first | exact HF.out | (rw [hp0]; exact HF.out)⟩
theorem any_check : ∀ l : List Nd, l.any (fun n => !checkN n) = !checkL l
  | [] => rfl
  | a :: r => by
    show (!checkN a || r.any (fun n => !checkN n)) = !(checkN a && checkL r)
    rw [any_check r, Bool.not_and]
/-- What Check answers of a node whose kids are known. -/
theorem chk_head (W : World) (op : Int) (v : Vl) (nm : ByteArray) (ks : List Nd) (hw : HeadW (.mk op v nm ks)) (hT : Tabs8 W) (vk : Value) (hk : KidsR W W.heap.size vk ks)
    (hC : ∀ V, Below W.heap.size W V → Calls Tryz.prog 50 #[vk, .func (.func 51) #[] #[]] V fun e w' => e = .returned (.bool (!checkL ks)) ∧ Below V.heap.size V w') :
    Calls Tryz.prog 14 #[valO op v nm vk] W fun e w' => e = .returned (.bool (headB op v nm ks.length && checkL ks)) ∧ Below W.heap.size W w' := by
  obtain ⟨a, c, rfl⟩ := hk.val
  have hu := hw.v
  have no : ∀ b, headB op v nm ks.length = b → (b && checkL ks) = (headB op v nm ks.length && checkL ks) := fun b h => by rw [h]
  have yes : headB op v nm ks.length = true → (headB op v nm ks.length && checkL ks) = !(!checkL ks) := fun h => by rw [h, Bool.true_and, Bool.not_not]
  by_cases hA : (ks.length : Int) = kidsN op
  · have hA' : ((ks.length : Int) == kidsN op) = true := by simpa using hA
    by_cases h1 : op = 1
    · have q1 : (op == 1) = true := by simpa using h1
      have q2 : (op == 2) = false := by rw [h1]; rfl
      cases hn : nm.toList.isEmpty with
      | false =>
        rw [← no false (by unfold headB; rw [q1, q2, hn]; simp), Bool.false_and]
        exact chk_nm1 W op v nm a ks.length c hA h1 hn
      | true =>
        cases hc : checkB v with
        | false =>
          rw [← no false (by unfold headB; rw [q1, q2, hn, hc]; simp), Bool.false_and]
          exact chk_lit0 W op v nm a ks.length c hA h1 hn hu hT hc
        | true =>
          by_cases hneg : v.num < 0
          · rw [← no false (by unfold headB; rw [q1, q2, hn, hc, decide_eq_false (show ¬ (0 ≤ v.num) by omega)]; simp), Bool.false_and]
            exact chk_lit1 W op v nm a ks.length c hA h1 hn hu hT hc hneg
          · rw [yes (by unfold headB; rw [hA', q1, q2, hn, hc, decide_eq_true (show 0 ≤ v.num by omega)]; simp)]
            exact chk_lit W op v nm a ks.length c _ hA h1 hn hu hT hc (by omega) hC
    · have q1 : (op == 1) = false := by simpa using h1
      cases hv : vlEq v Vl.zero with
      | false =>
        rw [← no false (by unfold headB; rw [q1, hv]; simp), Bool.false_and]
        exact chk_val W op v nm a ks.length c hA h1 hv
      | true =>
        by_cases h2 : op = 2
        · have q2 : (op == 2) = true := by simpa using h2
          cases hc : nameB nm with
          | false =>
            rw [← no false (by unfold headB; rw [q1, q2, hv, hc]; simp), Bool.false_and]
            exact chk_var0 W op v nm a ks.length c hA h2 hv hc
          | true =>
            cases hw' : keyWord nm with
            | true =>
              rw [← no false (by unfold headB; rw [q1, q2, hv, hc, hw']; simp), Bool.false_and]
              exact chk_var1 W op v nm a ks.length c hA h2 hv hc hw'
            | false =>
              rw [yes (by unfold headB; rw [hA', q1, q2, hv, hc, hw']; simp)]
              exact chk_var W op v nm a ks.length c _ hA h2 hv hc hw' hC
        · have q2 : (op == 2) = false := by simpa using h2
          cases hn : nm.toList.isEmpty with
          | false =>
            rw [← no false (by unfold headB; rw [q1, q2, hv, hn]; simp), Bool.false_and]
            exact chk_nm0 W op v nm a ks.length c hA h1 hv h2 hn
          | true =>
            rw [yes (by unfold headB; rw [hA', q1, q2, hv, hn]; simp)]
            exact chk_op W op v nm a ks.length c _ hA h1 h2 hv hn hC
  · have hA' : ((ks.length : Int) == kidsN op) = false := by simpa using hA
    rw [← no false (by unfold headB; rw [hA']; simp), Bool.false_and]
    exact chk_len W op v nm a ks.length c hA
mutual
theorem check_N : ∀ n : Nd, HeadW n → ∀ (W : World) (vk : Value), Tabs8 W → KidsR W W.heap.size vk n.kids → Calls Tryz.prog 14 #[valN n vk] W fun e w' => e = .returned (.bool (checkN n)) ∧ Below W.heap.size W w'
  | .mk op v nm ks, hw, W, vk, hT, hk => by
    have hL := check_L ks
    refine chk_head W op v nm ks hw hT vk hk (fun V hV => ?_)
    rw [← any_check]
    refine nodesHas_any V vk ks (hk.mono hV hV.size) 51 #[] (fun n => !checkN n) (fun args W => by kernel_rfl) (fun i hi vk' W' hb hk' hw' => ?_)
    exact check1_any W' ks[i].op ks[i].v ks[i].name vk' (checkN ks[i]) (fun W2 h2 => hL i hi hw' W2 vk' (Utf8Tabs_below (Utf8Tabs_below hT hV) (hb.trans (h2.mono hb.size))) (hk'.mono (h2.mono hb.size) (Nat.le_trans hb.size h2.size)))
theorem check_L : ∀ ks : List Nd, ∀ i (hi : i < ks.length), HeadW ks[i] → ∀ (W : World) (vk : Value), Tabs8 W → KidsR W W.heap.size vk ks[i].kids → Calls Tryz.prog 14 #[valO ks[i].op ks[i].v ks[i].name vk] W fun e w' => e = .returned (.bool (checkN ks[i])) ∧ Below W.heap.size W w'
  | [], i, hi, _, _, _, _, _ => absurd hi (by simp)
  | a :: r, 0, _, hw, W, vk, hT, hk => check_N a hw W vk hT hk
  | a :: r, i + 1, hi, hw, W, vk, hT, hk => check_L r i (by simp at hi; omega) hw W vk hT hk
end
end Go.Proofs.YtbephgifbghilaaGreatDoor
