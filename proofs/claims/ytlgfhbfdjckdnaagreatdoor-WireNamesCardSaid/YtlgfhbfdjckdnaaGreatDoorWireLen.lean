/- (*wire.head).length; what the library's variables hold, over a base (seat wire). -/
import Derived.Test.YtlgfhbfdjckdnaaGreatDoorWireName
import Derived.Test.YtlgfhbfdjckdnaaGreatDoorWireGnd
set_option maxRecDepth 100000
namespace Go.Proofs.YtlgfhbfdjckdnaaGreatDoor
open Go.RowKit

/-- What the library's own variables hold, whatever is done above a base. -/
structure GndB (B : Nat) (w : World) : Prop where
  le : B ≤ w.heap.size
  tab : Lib.TabBelow Tryz.prog B w "internal/strconv.uint64pow10" .u64 Lib.pow10Tab
  errS : ∃ t p, ∀ W, Below B w W → W.cell? ⟨1, 0, none⟩ = some (.iface t p)
  errR : ∃ t p, ∀ W, Below B w W → W.cell? ⟨2, 0, none⟩ = some (.iface t p)
  maxl : ∃ m, ∀ W, Below B w W → W.cell? ⟨0, 0, none⟩ = some (.int .i64 m)
theorem GndB.up {B : Nat} {w w' : World} (h : GndB B w) (hb : Below B w w') : GndB B w' where
  le := Nat.le_trans h.le hb.size
  tab := fun W hW => h.tab W (hb.trans hW)
  errS := by obtain ⟨t, p, h⟩ := h.errS; exact ⟨t, p, fun W hW => h W (hb.trans hW)⟩
  errR := by obtain ⟨t, p, h⟩ := h.errR; exact ⟨t, p, fun W hW => h W (hb.trans hW)⟩
  maxl := by obtain ⟨m, h⟩ := h.maxl; exact ⟨m, fun W hW => h W (hb.trans hW)⟩
theorem GndB.gnd {B : Nat} {w : World} (h : GndB B w) : Gnd w where
  tab := fun W hW => h.tab W (hW.mono h.le)
  errS := by obtain ⟨t, p, hh⟩ := h.errS; exact ⟨t, p, fun W hW => hh W (hW.mono h.le)⟩
  errR := by obtain ⟨t, p, hh⟩ := h.errR; exact ⟨t, p, fun W hW => hh W (hW.mono h.le)⟩
  maxl := by obtain ⟨m, hh⟩ := h.maxl; exact ⟨m, fun W hW => hh W (hW.mono h.le)⟩
theorem Gnd.toB {w : World} (h : Gnd w) : GndB w.heap.size w := ⟨Nat.le_refl _, h.tab, h.errS, h.errR, h.maxl⟩
theorem GndB.below {B : Nat} {w w' : World} (h : GndB B w) (hb : Below w.heap.size w w') : GndB B w' := h.up (hb.mono h.le)
theorem GndB.frm {B : Nat} {S : List (Option Nat)} {w w' : World} (h : GndB B w) (hf : Frm S w w') (hS : ∀ r ∈ S, ∀ k, r = some k → B ≤ k) : GndB B w' := h.up (hf.toBelow h.le hS)

theorem pu10_ok : ∀ (l : List UInt8) (a u : Nat), Lib.parseUint10 a l = .ok u → u = l.foldl stepD a
  | [], a, u, h => by simp only [Lib.parseUint10] at h; injection h with h; exact h.symm
  | c :: r, a, u, h => by
    simp only [Lib.parseUint10] at h
    split at h
    · split at h
      · cases h
      · split at h
        · cases h
        · exact pu10_ok r _ u h
    · cases h
theorem atoi_digs {l : List UInt8} (hne : l ≠ []) (hd : allL digC l = true) : (∀ v, Lib.atoiAll l = .ok v → v = (valD l : Int)) ∧ ((∀ v, Lib.atoiAll l ≠ .ok v) → 65536 < valD l) := by
  have hdd : ∀ c ∈ l, isDig c := fun c hc => by
    have := List.all_eq_true.1 hd c hc
    unfold digC at this
    simp only [Bool.and_eq_true, decide_eq_true_eq] at this
    exact this
  cases l with
  | nil => exact absurd rfl hne
  | cons c r =>
    have hc := hdd c List.mem_cons_self
    unfold isDig at hc
    have e := Lib.atoiAll_plain c r (by omega) (by omega)
    have em : Lib.parseMag (c :: r) = Lib.parseUint10 0 (c :: r) := by unfold Lib.parseMag; rw [if_neg (by simp)]
    rw [e, em]
    refine ⟨fun v hv => ?_, fun hv => ?_⟩
    · unfold Lib.signless at hv
      split at hv
      · cases hv
      · cases hv
      · next u hu =>
        split at hv
        · cases hv
        · injection hv with hv
          rw [← hv, pu10_ok _ _ _ hu]; rfl
    · rcases Nat.lt_or_ge 65536 (valD (c :: r)) with h | h
      · exact h
      · exfalso
        have hlt : (c :: r).foldl stepD 0 < 18446744073709551616 := by
          have : valD (c :: r) = (c :: r).foldl stepD 0 := rfl
          omega
        refine hv (valD (c :: r) : Int) ?_
        rw [parseUint10_val _ 0 hdd hlt]
        unfold Lib.signless
        simp only
        rw [if_neg (by have : valD (c :: r) = (c :: r).foldl stepD 0 := rfl; omega)]
        rfl

theorem hd_size {W : World} {ph bm : Nat} {m0 p0 k0 b0 : ByteArray} {sz : Int} (h : HdB W ph m0 p0 k0 b0 sz bm) (n : Int) : HdB (W.setCell ⟨ph, 4, none⟩ (.int .i64 n)) ph m0 p0 k0 b0 n bm := set_selfH _ h

set_option maxHeartbeats 4000000 in
theorem length_any (w : World) (hg : Gnd w) (s : ByteArray) (hs : s.size ≤ 300000) (ph bm : Nat) (m0 p0 k0 b0 : ByteArray) (sz : Int) (hb : HdB w ph m0 p0 k0 b0 sz bm) :
    Calls Tryz.prog 75 #[.pointer (some ⟨ph, 0, none⟩), .string s] w fun e w' => e = .returned (.int .i64 (lengthS s.data.toList).1) ∧ Frm [some ph] w w' ∧
      ((lengthS s.data.toList).1 = 0 → HdB w' ph m0 p0 k0 b0 ((lengthS s.data.toList).2 : Int) bm) := by
  have HA := Lib.hid (wall_any w s (by omega) _ digC eg_lg1_any lg1_any)
  have hz0 := isEmpty_size s
  obtain ⟨dg, hdg⟩ : ∃ b, allB digC s = b := ⟨_, rfl⟩
  rw [hdg] at HA
  have hdl : allL digC s.data.toList = dg := hdg
  clear hdg

  by_cases h0 : s.size = 0
  · rw [decide_eq_true h0] at hz0
    have hf : Hid (lengthS s.data.toList = (400, 0)) := by
      refine Lib.hid ?_
      unfold lengthS
      rw [if_pos (.inl (List.eq_nil_of_length_eq_zero (by simpa using h0)))]
    clear h0
    go_enter Tryz.func75, Tryz.ntmps75
    go_wp2_with fail
    go_ret
    rw [hf.out]
    exact ⟨rfl, .refl _ _, fun h => by cases h⟩
  · rw [decide_eq_false h0] at hz0
    have hne : s.data.toList ≠ [] := fun e => h0 (by have := congrArg List.length e; simpa using this)

    cases dg with
    | false =>
      have hf : Hid (lengthS s.data.toList = (400, 0)) := by
        refine Lib.hid ?_
        unfold lengthS
        rw [if_pos (.inr (.inl hdl))]
      clear h0
      go_enter Tryz.func75, Tryz.ntmps75
      go_wp2_with (go_at_call 38; refine HA.out.mono ?_; rintro e w7 ⟨rfl, rfl⟩)
      go_ret
      rw [hf.out]
      exact ⟨rfl, .refl _ _, fun h => by cases h⟩
    | true =>
      have hpos : 0 < s.size := by omega
      have hel : s.data.toList.getD 0 0 = s[0] := by
        rw [List.getD_eq_getElem?_getD, List.getElem?_eq_getElem (by simpa using hpos)]; simp; rfl
      have hs48 : (s.toList == [48]) = decide (s.data.toList = [48]) := by
        rw [ByteArray.toList_eq]
        exact Bool.eq_iff_iff.2 ⟨fun h => decide_eq_true (beq_iff_eq.1 h), fun h => beq_iff_eq.2 (of_decide_eq_true h)⟩
      have hs48n : (s.toList != [48]) = !(s.toList == [48]) := rfl
      rw [hs48] at hs48n
      by_cases hz : s[0].toNat = 48 ∧ s.data.toList ≠ [48]
      · have e1 : ((s[0].toNat : Int) == 48) = true := beq_iff_eq.2 (by omega)
        have e1' : (s[0].toNat == 48) = true := beq_iff_eq.2 hz.1
        rw [decide_eq_false hz.2] at hs48 hs48n
        have hf : Hid (lengthS s.data.toList = (400, 0)) := by
          refine Lib.hid ?_
          unfold lengthS
          rw [if_pos (.inr (.inr ⟨by rw [hel]; exact hz.1, hz.2⟩))]
        clear h0 hz hel
        go_enter Tryz.func75, Tryz.ntmps75
        go_wp2_with (go_at_call 38; refine HA.out.mono ?_; rintro e w7 ⟨rfl, rfl⟩)
        go_ret
        rw [hf.out]
        exact ⟨rfl, .refl _ _, fun h => by cases h⟩
      · have hl : lengthS s.data.toList = if 65536 < valD s.data.toList then (413, 0) else (0, valD s.data.toList) := by
          unfold lengthS
          rw [if_neg (by
            rintro (h | h | h)
            · exact hne h
            · rw [hdl] at h; cases h
            · rw [hel] at h; exact hz h)]
        obtain ⟨a1, a2⟩ := atoi_digs hne hdl
        have hor : (s[0].toNat == 48) = false ∨ ((s[0].toNat == 48) = true ∧ s.data.toList = [48]) := by
          by_cases h : s[0].toNat = 48
          · by_cases h2 : s.data.toList = [48]
            · exact .inr ⟨beq_iff_eq.2 h, h2⟩
            · exact absurd ⟨h, h2⟩ hz
          · exact .inl (beq_eq_false_iff_ne.2 h)
        have e1 : ((s[0].toNat : Int) == 48) = (s[0].toNat == 48) := Bool.eq_iff_iff.2 ⟨fun h => beq_iff_eq.2 (by have := beq_iff_eq.1 h; omega), fun h => beq_iff_eq.2 (by have := beq_iff_eq.1 h; omega)⟩
        have hpl := lt_of_block hb
        by_cases hok : ∃ v, Lib.atoiAll s.data.toList = .ok v
        · obtain ⟨v, hv⟩ := hok
          obtain rfl := a1 v hv
          have HC : Hid (Calls Tryz.prog 101 #[.string s] w fun e w' => e = .returned (.tuple #[.int .i64 (valD s.data.toList : Int), .nilIface]) ∧ Below w.heap.size w w') := Lib.hid ((Tryz.strconv_Atoi_ok s (by omega) _ hv w).mono (by rintro e w' ⟨rfl, hw⟩; exact ⟨rfl, below_bytes hw⟩))
          obtain ⟨n, hn⟩ : ∃ n, valD s.data.toList = n := ⟨_, rfl⟩
          rw [hn] at HC hl
          clear hn hv a1 a2 hel hz h0
          by_cases hbig : 65536 < n
          · rw [if_pos hbig] at hl
            have e5 : decide ((65536 : Int) < (n : Int)) = true := decide_eq_true (by omega)
            have HL := Lib.hid hl
            clear hl hdl hne
            rcases hor with h48 | ⟨h48, h49⟩
            · rw [h48] at e1
              go_enter Tryz.func75, Tryz.ntmps75
              go_wp2_with (first
                | (go_at_call 38; refine HA.out.mono ?_; rintro e w7 ⟨rfl, rfl⟩)
                | (go_at_call 101; refine HC.out.mono ?_; rintro e w7 ⟨rfl, hb7⟩))
              go_ret
              rw [HL.out]
              exact ⟨rfl, .ofBelow hb7, fun h => by cases h⟩
            · rw [h48] at e1
              rw [decide_eq_true h49] at hs48 hs48n
              clear h49
              go_enter Tryz.func75, Tryz.ntmps75
              go_wp2_with (first
                | (go_at_call 38; refine HA.out.mono ?_; rintro e w7 ⟨rfl, rfl⟩)
                | (go_at_call 101; refine HC.out.mono ?_; rintro e w7 ⟨rfl, hb7⟩))
              go_ret
              rw [HL.out]
              exact ⟨rfl, .ofBelow hb7, fun h => by cases h⟩
          · rw [if_neg hbig] at hl
            have e5 : decide ((65536 : Int) < (n : Int)) = false := decide_eq_false (by omega)
            have HL := Lib.hid hl
            have HBk := Lib.hid hb
            clear hl hdl hne hb
            have e4 : w.cell? ⟨ph, 4, none⟩ = some (.int .i64 sz) := cell_of_block HBk.out 4
            rcases hor with h48 | ⟨h48, h49⟩
            · rw [h48] at e1
              go_enter Tryz.func75, Tryz.ntmps75
              go_wp2_with (first
                | (go_at_call 38; refine HA.out.mono ?_; rintro e w7 ⟨rfl, rfl⟩)
                | (go_at_call 101; refine HC.out.mono ?_; rintro e w7 ⟨rfl, hb7⟩; have q := (hb7.block _ hpl).trans HBk.out; have q4 : w7.cell? ⟨ph, 4, none⟩ = some (.int .i64 sz) := cell_of_block q 4; have f4 := free_of_block q 4; have HQ := Lib.hid q; clear q))
              go_ret
              rw [HL.out]
              exact ⟨rfl, (Frm.ofBelow hb7).set _ (by simp), fun _ => hd_size HQ.out _⟩
            · rw [h48] at e1
              rw [decide_eq_true h49] at hs48 hs48n
              clear h49
              go_enter Tryz.func75, Tryz.ntmps75
              go_wp2_with (first
                | (go_at_call 38; refine HA.out.mono ?_; rintro e w7 ⟨rfl, rfl⟩)
                | (go_at_call 101; refine HC.out.mono ?_; rintro e w7 ⟨rfl, hb7⟩; have q := (hb7.block _ hpl).trans HBk.out; have q4 : w7.cell? ⟨ph, 4, none⟩ = some (.int .i64 sz) := cell_of_block q 4; have f4 := free_of_block q 4; have HQ := Lib.hid q; clear q))
              go_ret
              rw [HL.out]
              exact ⟨rfl, (Frm.ofBelow hb7).set _ (by simp), fun _ => hd_size HQ.out _⟩
        · have hbig := a2 (fun v hv => hok ⟨v, hv⟩)
          rw [if_pos hbig] at hl
          have HL := Lib.hid hl
          obtain ⟨t1, p1, g1⟩ := hg.errS
          obtain ⟨t2, p2, g2⟩ := hg.errR
          have HC : Hid (Calls Tryz.prog 101 #[.string s] w fun e w' => ∃ (v : Int) (N : Nat), e = .returned (.tuple #[.int .i64 v, .iface 110 (.pointer (some ⟨N, 0, none⟩))]) ∧ Below w.heap.size w w') := by
            refine Lib.hid ?_
            rcases h : Lib.atoiAll s.data.toList with v | _ | _
            · exact absurd ⟨v, h⟩ hok
            · exact (Tryz.strconv_Atoi_syntax s (by omega) h _ w (g1 w (Below.refl _ _)) (Or.inr ⟨_, _, rfl⟩)).mono (by rintro e w2 ⟨N, rfl, _, _, hb⟩; exact ⟨_, N, rfl, hb⟩)
            · exact (Tryz.strconv_Atoi_range s (by omega) h _ w (g2 w (Below.refl _ _)) (Or.inr ⟨_, _, rfl⟩)).mono (by rintro e w2 ⟨N, rfl, _, _, hb⟩; exact ⟨_, N, rfl, hb⟩)
          clear hl hdl hne a1 a2 hok hbig hel hz h0 g1 g2
          rcases hor with h48 | ⟨h48, h49⟩
          · rw [h48] at e1
            go_enter Tryz.func75, Tryz.ntmps75
            go_wp2_with (first
              | (go_at_call 38; refine HA.out.mono ?_; rintro e w7 ⟨rfl, rfl⟩)
              | (go_at_call 101; refine HC.out.mono ?_; rintro e w7 ⟨v, N, rfl, hb7⟩))
            go_ret
            rw [HL.out]
            exact ⟨rfl, .ofBelow hb7, fun h => by cases h⟩
          · rw [h48] at e1
            rw [decide_eq_true h49] at hs48 hs48n
            clear h49
            go_enter Tryz.func75, Tryz.ntmps75
            go_wp2_with (first
              | (go_at_call 38; refine HA.out.mono ?_; rintro e w7 ⟨rfl, rfl⟩)
              | (go_at_call 101; refine HC.out.mono ?_; rintro e w7 ⟨v, N, rfl, hb7⟩))
            go_ret
            rw [HL.out]
            exact ⟨rfl, .ofBelow hb7, fun h => by cases h⟩
end Go.Proofs.YtlgfhbfdjckdnaaGreatDoor
