/- Texts fused by fuse.py: KStubBuild, KExprBuild, KExprText, KExprSpanP. -/
import Derived.Test.YtjcaaahbfkjipaaGreatDoorKZ00
import Derived.Shelf.Strings.Builder1
import Derived.Test.YtjcaaahbfkjipaaGreatDoorKZ23
import Derived.Test.YtjcaaahbfkjipaaGreatDoorKZ03
import Derived.Shelf.Strings.BuilderF
import Derived.Test.YtjcaaahbfkjipaaGreatDoorKZ01
import Derived.Shelf.GgClosure.StringsIndexFunc
/- Of StubBuild: what FRuleNames uses (shake.py). -/
set_option maxRecDepth 100000
/- strings.Builder's copyCheck and WriteString at this program's own bodies (turned from the shelf's walks: the shelf's laying falls, for the dump leaves out a type that the panic's text names). -/
namespace Go.Proofs.YtjcaaahbfkjipaaGreatDoor
open Go.RowKit
theorem bu_size : (Tryz.prog.info? 167).map (·.size) = some 2 := by kernel_rfl
theorem bu_lies : liesAt Tryz.prog Tryz.prog.depth 167 (2 / Tryz.prog.cellsOf 167) 0 167 1 = true := by kernel_rfl
theorem bu_byte : (Tryz.prog.info? 5).map (fun i => (i.zero, i.size, i.bytes)) = some (some (.int .u8 0), 1, 1) := by kernel_rfl
theorem bu_used (b : Nat) (w : World) (h0 : w.cell? ⟨b, 0, none⟩ = some (.pointer (some ⟨b, 0, none⟩))) :
    Calls Tryz.prog 179 #[.pointer (some ⟨b, 0, none⟩)] w fun e w' => e = .returned (.tuple #[]) ∧ w' = w := by
  obtain ⟨j, hj, _⟩ := Option.map_eq_some_iff.1 bu_size
  go_enter Tryz.func179, Tryz.ntmps179
  go_wp2
  rw [Lib.run_neq_ptr_same w _ Tryz.underlying165 hj]
  go_wp2
  go_end0
  exact ⟨rfl, rfl⟩
theorem bu_fresh (b : Nat) (w : World) (h0 : w.cell? ⟨b, 0, none⟩ = some (.pointer none)) (hsh : w.shape? b = some (167, 2)) (hfz : w.frozen? ⟨b, 0, none⟩ = false) :
    Calls Tryz.prog 179 #[.pointer (some ⟨b, 0, none⟩)] w fun e w' => e = .returned (.tuple #[]) ∧ w' = w.setCell ⟨b, 0, none⟩ (.pointer (some ⟨b, 0, none⟩)) := by
  obtain ⟨j, hj, hjs⟩ := Option.map_eq_some_iff.1 bu_size
  go_enter Tryz.func179, Tryz.ntmps179
  go_wp2
  rw [Lib.run_to_unsafe w ⟨b, 0, none⟩ Tryz.underlying165 Tryz.underlying185 hj (by rw [hjs]; decide) hsh (Nat.zero_lt_succ 1)]
  simp only [Result.andThen]
  rw [Oper.upon_value]
  go_wp2
  rw [run_callFunc_extern Tryz.func188 (by kernel_rfl) (by kernel_rfl) (by kernel_rfl) (e := Extern.AbiNoEscape.same) (by kernel_rfl)]
  rw [Lib.run_noEscape]
  simp only [Result.andThen]
  rw [Oper.upon_value]
  go_wp2
  rw [Lib.run_from_unsafe w ⟨b, 0, none⟩ Tryz.underlying185 Tryz.underlying165 hj hsh bu_lies]
  simp only [Result.andThen]
  rw [Oper.upon_value]
  go_wp2
  go_end0
  exact ⟨rfl, rfl⟩
abbrev BuAt (B b : Nat) (p : Value) (bs : List Value) (w : World) : Prop := Lib.BuilderAt 167 5 B b p bs w
abbrev Bu (B b : Nat) (bs : List Value) (w : World) : Prop := Lib.IsBuilder 167 5 B b bs w
theorem bu_check (B b : Nat) (bs : List Value) (w : World) (h : Bu B b bs w) :
    Calls Tryz.prog 179 #[.pointer (some ⟨b, 0, none⟩)] w fun e w' => e = .returned (.tuple #[]) ∧ (BuAt B b (.pointer (some ⟨b, 0, none⟩)) bs w' ∧ Below B w w') := by
  rcases h with h | h
  · refine (bu_fresh b w h.cell0 h.shape h.frozen0).mono ?_
    rintro e w' ⟨rfl, rfl⟩
    exact ⟨rfl, h.used _, (Below.refl B w).setCell (p := ⟨b, 0, none⟩) h.1 _⟩
  · refine (bu_used b w h.cell0).mono ?_
    rintro e w' ⟨rfl, rfl⟩
    exact ⟨rfl, h, Below.refl B _⟩
end Go.Proofs.YtjcaaahbfkjipaaGreatDoor

/- Of ExprBuild: what FRuleNames uses (shake.py). -/
set_option maxRecDepth 100000
/- strings.Builder's WriteByte at this program's own bodies (turned from the shelf's walk). -/
namespace Go.Proofs.YtjcaaahbfkjipaaGreatDoor
open Go.RowKit
theorem bu_new (w : World) : Bu w.heap.size w.heap.size [] (w.alloc (.cells #[.pointer none, .slice none 0 0] 167)) :=
  .inl ⟨Nat.le_refl _, .slice none 0 0, heap_alloc_new _ _, World.ownsRow_nil _ _ _ _, by intro h; cases h⟩
theorem BuAt.kept {w w' : World} {B b : Nat} {p : Value} {bs : List Value} (h : BuAt B b p bs w) (hb : Below w.heap.size w w') : BuAt B b p bs w' := by
  obtain ⟨h1, v, h2, h3, h4⟩ := h
  exact ⟨h1, v, (hb.block b (lt_of_block h2)).trans h2, World.ownsRow.kept (row := none) h3 ⟨hb.os, hb.tape, hb.output, hb.size, fun k hk _ => hb.block k hk⟩ (Classical.em _), h4⟩
theorem Bu.kept {w w' : World} {B b : Nat} {bs : List Value} (h : Bu B b bs w) (hb : Below w.heap.size w w') : Bu B b bs w' :=
  h.elim (fun h => .inl (BuAt.kept h hb)) (fun h => .inr (BuAt.kept h hb))
set_option maxHeartbeats 2000000 in
theorem bu_putb (B b : Nat) (bs : List Value) (c : Int) (w : World) (h : Bu B b bs w) (hlen : bs.length + 1 ≤ 140737488355328) (hBw : B ≤ w.heap.size) :
    Calls Tryz.prog 169 #[.pointer (some ⟨b, 0, none⟩), .int .u8 c] w fun e w' => e = .returned .nilIface ∧ (BuAt B b (.pointer (some ⟨b, 0, none⟩)) (bs ++ [.int .u8 c]) w' ∧ Below B w w') := by
  obtain ⟨i0, hi, hz0, hz1, hz2⟩ := info_parts bu_byte
  go_enter Tryz.func169, Tryz.ntmps169
  go_wp2_with (go_at_call 179; refine (bu_check B b bs _ h).mono ?_)
  rintro e w1 ⟨rfl, h1, hb1⟩
  obtain ⟨hB, v, hbk, hown, hne⟩ := h1
  have c0 : w1.cell? ⟨b, 0, none⟩ = some (.pointer (some ⟨b, 0, none⟩)) := by rw [Lib.cell_of_heap hbk]; rfl
  have c1 : w1.cell? ⟨b, 1, none⟩ = some v := by rw [Lib.cell_of_heap hbk]; rfl
  go_wp2_with (at_builtin; refine wpList_append_own _ rfl _ _ 149 rfl B 5 i0 (.int .u8 0) 1 1 Tryz.underlying149 hi hz0 hz1 hz2 rfl (by decide) _ _ _ rfl (hown.alloc _) ⟨w1.heap.size, 0, none⟩ 1 1 [.int .u8 c] rfl rfl ?c1 ?c2 ?c3 ?c4 ?c5 ?_)
  case c1 =>
    intro j u hj
    match j, hj with
    | 0, hj => simp at hj; subst hj; simp [Addr.add]
  case c2 => intro u hu; simp at hu; subst hu; rfl
  case c3 => unfold maxLen; omega
  case c4 => omega
  case c5 => have := hb1.size; simp; omega
  intro v' w2 hown' hgrow _
  have hlt : b < w1.heap.size := by
    rcases Nat.lt_or_ge b w1.heap.size with h' | h'
    · exact h'
    · simp [Array.getElem?_eq_none h'] at hbk
  have hb2 : w2.heap[b]? = some (.cells #[.pointer (some ⟨b, 0, none⟩), v] 167 (0, 0)) := by
    rw [hgrow.block b (by simp; omega) (fun e => hne e.symm), Lib.alloc_old w1 _ b hlt]
    exact hbk
  have d0 : w2.cell? ⟨b, 0, none⟩ = some (.pointer (some ⟨b, 0, none⟩)) := by rw [Lib.cell_of_heap hb2]; rfl
  have d1 : w2.cell? ⟨b, 1, none⟩ = some v := by rw [Lib.cell_of_heap hb2]; rfl
  have f1 : w2.frozen? ⟨b, 1, none⟩ = false := Lib.frozen_of_heap hb2 1
  obtain ⟨g, cap, rfl⟩ : ∃ g cap, v' = .slice (some ⟨g, 0, none⟩) (bs.length + 1) cap := by
    rcases hown'.2 with ⟨_, h0⟩ | ⟨g, cap, cur, hv, _⟩
    · omega
    · exact ⟨g, cap, hv⟩
  go_wp2
  go_ret
  refine ⟨rfl, ?_, ?_⟩
  · exact Lib.BuilderAt.put (T := 167) (e := 5) hB hb2 (bs' := bs ++ [.int .u8 c]) (by simpa using hown') (by decide)
  · exact ((hb1.alloc (by have := hb1.size; omega) _).grown hgrow (by have := hb1.size; simp; omega) (fun k hk => (hown.lt k hk).1)).setCell (p := ⟨b, 1, none⟩) hB _
end Go.Proofs.YtjcaaahbfkjipaaGreatDoor

/- Of ExprText: what FRuleNames uses (shake.py). -/
set_option maxRecDepth 100000
/- (*lexer).text (seat expr). -/
namespace Go.Proofs.YtjcaaahbfkjipaaGreatDoor
open Go.RowKit
def textR (w : World) (px : Nat) (s : ByteArray) (at_ : Int) (ta : Int) (r : List UInt8) : Prop :=
  match textE 1 [] r with
  | none => LxF w px s at_ ⟨#[]⟩ 4 at_
  | some (t, n) => if Lib.validD t then LxN w px s (at_ + ((n : Nat) : Int)) (litN (txV ⟨t.toArray⟩)) ⟨#[]⟩ ta false 0 0 else LxF w px s at_ ⟨#[]⟩ 4 at_
theorem textE_other {c : UInt8} (h : c ≠ 39) (i : Nat) (acc r : List UInt8) : textE i acc (c :: r) = textE (i + 1) (acc ++ [c]) r := by
  rw [textE] <;> intros <;> contradiction
theorem textE_stop {c : UInt8} (h : c ≠ 39) (i : Nat) (acc r : List UInt8) : textE i acc (39 :: c :: r) = some (acc, i + 1) := by
  rw [textE] <;> intros <;> contradiction
abbrev BuF (B b : Nat) (bs : List Value) (w : World) : Prop := Lib.IsBuilderF 167 5 B b bs w
theorem BuF.kept {w w' : World} {B b : Nat} {bs : List Value} (h : BuF B b bs w) (hb : Below w.heap.size w w') : BuF B b bs w' := by
  rcases h with h | h
  · obtain ⟨h1, v, h2, h3, h4⟩ := h
    exact .inl ⟨h1, v, (hb.block b (lt_of_block h2)).trans h2, World.ownsRowF.kept (row := none) h3 ⟨hb.os, hb.tape, hb.output, hb.size, fun k hk _ => hb.block k hk⟩ (Classical.em _), h4⟩
  · obtain ⟨h1, v, h2, h3, h4⟩ := h
    exact .inr ⟨h1, v, (hb.block b (lt_of_block h2)).trans h2, World.ownsRowF.kept (row := none) h3 ⟨hb.os, hb.tape, hb.output, hb.size, fun k hk _ => hb.block k hk⟩ (Classical.em _), h4⟩
theorem byte39 {c : UInt8} : c = 39 ↔ c.toNat = 39 := ⟨fun h => by rw [h]; rfl, fun h => UInt8.toNat_inj.1 h⟩
set_option maxHeartbeats 4000000 in
/-- A text's token; or the first error. -/
theorem lxtext_any (w : World) (hT : Tabs8 w) (px : Nat) (s : ByteArray) (at_ : Int) (ha0 : 0 ≤ at_) (ta : Int) (hb : LxB w px s at_ 0 0 0 false ⟨#[]⟩ ⟨#[]⟩ (.slice none 0 0) ⟨#[]⟩ ta false 0 0) (d : ByteArray) (hd : at_ + (d.size : Int) ≤ 1000) (h0 : 1 ≤ d.size) :
    Calls Tryz.prog 151 #[.pointer (some ⟨px, 0, none⟩), .string d] w fun r w' => r = .returned (.tuple #[]) ∧ Frm [some px] w w' ∧ textR w' px s at_ ta (d.data.toList.drop 1) := by
  have hl := lt_of_block hb
  have HK := Lib.hid (fun (W : World) (h : Below w.heap.size w W) => show LxB W px s at_ 0 0 0 false ⟨#[]⟩ ⟨#[]⟩ (.slice none 0 0) ⟨#[]⟩ ta false 0 0 from (h.block _ hl).trans hb)
  have HF2 := Lib.hid (fun (W : World) (h : Below w.heap.size w W) => xfail_any W px s at_ 0 0 0 false ⟨#[]⟩ ⟨#[]⟩ (.slice none 0 0) ⟨#[]⟩ ta false 0 0 (HK.out W h))
  have hlen : d.data.toList.length = d.size := by rw [Array.length_toList]; rfl
  have HL := Lib.hid hlen
  have HB0 := Lib.hid (bu_new w)
  have hb0 := (Below.refl w.heap.size w).alloc (Nat.le_refl _) (.cells #[.pointer none, .slice none 0 0] 167)
  obtain ⟨R, hR⟩ : ∃ R, textE 1 [] (d.data.toList.drop 1) = R := ⟨_, rfl⟩
  have HW : Hid (∀ W, (match R with
      | none => LxF W px s at_ ⟨#[]⟩ 4 at_
      | some (t, n) => if Lib.validD t then LxN W px s (at_ + ((n : Nat) : Int)) (litN (txV ⟨t.toArray⟩)) ⟨#[]⟩ ta false 0 0 else LxF W px s at_ ⟨#[]⟩ 4 at_) → textR W px s at_ ta (d.data.toList.drop 1)) := Lib.hid (fun W h => by unfold textR; rw [hR]; exact h)
  have HR0 := Lib.hid hR
  have HT := Lib.hid hT
  clear hlen hb hR hT
  go_enter Tryz.func151, Tryz.ntmps151
  go_wp2_with fail
  go_loopg [5] d.size (fun gh s5 wr => ∃ (k : Nat) (acc : List UInt8), 1 ≤ k ∧ k ≤ d.size ∧ d.size ≤ k + gh ∧ s5 = .int .i64 (k : Int) ∧ Hid (Bu w.heap.size w.heap.size (Lib.byteCells acc) wr) ∧ Hid (textE k acc (d.data.toList.drop k) = R) ∧ Below w.heap.size w wr ∧ acc.length ≤ k)
  case atStart => exact ⟨1, [], by omega, by omega, by omega, rfl, HB0, HR0, hb0, by simp⟩
  case round =>
    clear HB0 hb0 HR0
    obtain ⟨k, acc, hk1, hkd, hkg, rfl, hbu, hRk, hbel, hacc⟩ := hrel
    have hsz := hbel.size
    have hbl : (Lib.byteCells acc).length ≤ k := by simp [Lib.byteCells]; omega
    have HKr := Lib.hid (HK.out wr hbel)
    have HFr := Lib.hid (HF2.out wr hbel)
    have hc1 : wr.cell? ⟨px, 1, none⟩ = some (.int .i64 at_) := cell_of_block HKr.out 1
    by_cases hk : k < d.size
    · have hdr : d.data.toList.drop k = d[k] :: d.data.toList.drop (k + 1) := by
        rw [List.drop_eq_getElem_cons (by rw [HL.out]; exact hk)]; rfl
      obtain ⟨c, hc⟩ : ∃ c, d[k] = c := ⟨_, rfl⟩
      have e0 : decide (k < d.size) = true := decide_eq_true hk
      have e0' : decide ((k : Int) < (d.size : Int)) = true := decide_eq_true (by omega)
      rw [hdr, hc] at hRk
      clear hdr
      by_cases h39 : c.toNat = 39
      · have g1 : ((c.toNat : Int) == 39) = true := beq_iff_eq.2 (by omega)
        have g1' : (c.toNat == 39) = true := beq_iff_eq.2 h39
        have hc39 := byte39.2 h39
        rw [hc39] at hRk
        have HC := Lib.hid hc39
        clear hc39 h39
        by_cases hpair : ∃ h : k + 1 < d.size, (d[k + 1]).toNat = 39
        · obtain ⟨hk2, h392⟩ := hpair
          have hdr : d.data.toList.drop (k + 1) = d[k + 1] :: d.data.toList.drop (k + 2) := by
            rw [List.drop_eq_getElem_cons (by rw [HL.out]; exact hk2)]; rfl
          obtain ⟨c2, hc2⟩ : ∃ c2, d[k + 1] = c2 := ⟨_, rfl⟩
          rw [hdr, hc2] at hRk
          rw [hc2] at h392
          clear hdr
          have e2 : ((k : Int) + 1 == (d.size : Int)) = false := beq_eq_false_iff_ne.2 (by omega)
          have e2' : (k + 1 == d.size) = false := beq_eq_false_iff_ne.2 (by omega)
          have e3 : decide ((k : Int) + 1 < (d.size : Int)) = true := decide_eq_true (by omega)
          have e3' : decide (k + 1 < d.size) = true := decide_eq_true hk2
          have g2 : ((c2.toNat : Int) != 39) = false := by rw [bne_eq_false_iff_eq]; omega
          have g2' : (c2.toNat != 39) = false := by rw [bne_eq_false_iff_eq]; omega
          have hc39 := byte39.2 h392
          rw [hc39] at hRk
          have hRn : Hid (textE (k + 2) (acc ++ [39]) (d.data.toList.drop (k + 2)) = R) := Lib.hid (by have := hRk.out; rw [textE] at this; exact this)
          have hval : Hid ((c2.toNat : Int) = 39) := Lib.hid (by omega)
          clear hc39 h392 hRk
          have HBU := Lib.hid (fun (v : Int) => bu_putb w.heap.size w.heap.size _ v wr hbu.out (by omega) hsz)
          go_wp2_with (go_at_call 169; refine (HBU.out _).mono ?_; rintro e w2 ⟨rfl, hbu2, hb2⟩)
          go_roundg (gk - 1)
          case measure => omega
          case rel =>
            refine ⟨k + 2, acc ++ [39], by omega, by omega, by omega, by go_num, ?_, hRn, hbel.trans hb2, by simp; omega⟩
            refine Lib.hid (Or.inr ?_)
            rw [Lib.byteCells_append]
            rw [hval.out] at hbu2
            exact hbu2
        · have hRn : Hid (some (acc, k + 1) = R) := Lib.hid (by
            have := hRk.out
            by_cases hk2 : k + 1 < d.size
            · have hdr : d.data.toList.drop (k + 1) = d[k + 1] :: d.data.toList.drop (k + 2) := by
                rw [List.drop_eq_getElem_cons (by rw [HL.out]; exact hk2)]; rfl
              rw [hdr, textE_stop (fun e => hpair ⟨hk2, byte39.1 e⟩)] at this
              exact this
            · rw [List.drop_eq_nil_of_le (by rw [HL.out]; omega), textE] at this
              exact this)
          have hor : (((k : Int) + 1 == (d.size : Int)) = true ∧ (k + 1 == d.size) = true) ∨ (((k : Int) + 1 == (d.size : Int)) = false ∧ (k + 1 == d.size) = false ∧ decide ((k : Int) + 1 < (d.size : Int)) = true ∧ decide (k + 1 < d.size) = true ∧ ∃ (h : k + 1 < d.size) (c2 : UInt8), d[k + 1] = c2 ∧ ((c2.toNat : Int) != 39) = true ∧ (c2.toNat != 39) = true) := by
            by_cases hk2 : k + 1 < d.size
            · refine .inr ⟨beq_eq_false_iff_ne.2 (by omega), beq_eq_false_iff_ne.2 (by omega), decide_eq_true (by omega), decide_eq_true hk2, hk2, _, rfl, ?_, ?_⟩
              · rw [bne_iff_ne]; intro e; exact hpair ⟨hk2, by omega⟩
              · rw [bne_iff_ne]; intro e; exact hpair ⟨hk2, e⟩
            · exact .inl ⟨beq_iff_eq.2 (by omega), beq_iff_eq.2 (by omega)⟩
          clear hpair hRk
          have HS := Lib.hid (fun (W : World) (h : BuF w.heap.size w.heap.size (Lib.byteCells acc) W ∧ Below w.heap.size w W) => Any.Builder_String_any_f Tryz.lays169 Tryz.Builder_Extra_169 w.heap.size w.heap.size acc W h.1 h.2.size)
          have HU : Hid (∀ W : World, Below w.heap.size w W → Calls Tryz.prog 102 #[.string ⟨acc.toArray⟩] W fun e w' => e = .returned (.bool (Lib.validD acc)) ∧ Below W.heap.size W w') := Lib.hid (fun W h => by
            have := utf8_any W ⟨acc.toArray⟩ (by show acc.toArray.size ≤ _; simp; omega) (Utf8Tabs_below HT.out h)
            simpa using this)
          have cur : Hid (BuF w.heap.size w.heap.size (Lib.byteCells acc) wr ∧ Below w.heap.size w wr) := Lib.hid ⟨Lib.IsBuilderF.of hbu.out, hbel⟩
          cases hv : Lib.validD acc with
          | true =>
            have HW2 : Hid (∀ W, LxN W px s (at_ + ((k + 1 : Nat) : Int)) (litN (txV ⟨acc.toArray⟩)) ⟨#[]⟩ ta false 0 0 → textR W px s at_ ta (d.data.toList.drop 1)) := Lib.hid (fun W h => HW.out W (by rw [← hRn.out]; simp only; rw [if_pos hv]; exact h))
            rw [hv] at HU
            clear hv hRn
            rcases hor with ⟨e2, e2'⟩ | ⟨e2, e2', e3, e3', hk2, c2, hc2, g2, g2'⟩
            all_goals
              go_wp2_with (first
                | (go_at_call 168; refine (HS.out _ cur.out).mono ?_; rintro e w1 ⟨rfl, hbf1, hb1⟩; have cur := Lib.hid (And.intro hbf1 (cur.out.2.trans hb1)); clear hbf1 hb1; have hb5 := HK.out _ cur.out.2; have f5 := free_of_block hb5; have k1 : w1.cell? ⟨px, 1, none⟩ = some (.int .i64 at_) := cell_of_block hb5 1; have k2 : w1.cell? ⟨px, 2, none⟩ = some (.int .u8 0) := cell_of_block hb5 2; have k3 : w1.cell? ⟨px, 3, none⟩ = some (.int .u8 0) := cell_of_block hb5 3; have k4 : w1.cell? ⟨px, 4, none⟩ = some (.int .i64 0) := cell_of_block hb5 4; have k5 : w1.cell? ⟨px, 5, none⟩ = some (.bool false) := cell_of_block hb5 5; have k6 : w1.cell? ⟨px, 6, none⟩ = some (.string ⟨#[]⟩) := cell_of_block hb5 6; have k7 : w1.cell? ⟨px, 7, none⟩ = some (.string ⟨#[]⟩) := cell_of_block hb5 7; have k8 : w1.cell? ⟨px, 8, none⟩ = some (.slice none 0 0) := cell_of_block hb5 8; have HB5 := Lib.hid hb5; have HF5 : Hid (Frm [some px] w w1) := Lib.hid (Frm.ofBelow cur.out.2); clear hb5)
                | (go_at_call 102; refine (HU.out _ cur.out.2).mono ?_; rintro e w3 ⟨rfl, hb3⟩; have cur := Lib.hid (And.intro (BuF.kept cur.out.1 hb3) (cur.out.2.trans (hb3.mono cur.out.2.size))); clear hb3))
              refine bodyPost_ret (results_none rfl _ _ _) rfl ?_
              have hz := lx_s1 (lx_node HB5.out 1 3 0 false ⟨acc.toArray⟩ ⟨#[]⟩ (.slice none 0 0)) (at_ + ((k : Int) + 1))
              refine ⟨rfl, ((((((((HF5.out.setL _ (by simp)).setL _ (by simp)).setL _ (by simp)).setL _ (by simp)).setL _ (by simp)).setL _ (by simp)).setL _ (by simp)).setL _ (by simp)), HW2.out _ ?_⟩
              have en : (at_ + ((k + 1 : Nat) : Int)) = at_ + ((k : Int) + 1) := by omega
              rw [en]
              exact hz
          | false =>
            have HW2 : Hid (∀ W, LxF W px s at_ ⟨#[]⟩ 4 at_ → textR W px s at_ ta (d.data.toList.drop 1)) := Lib.hid (fun W h => HW.out W (by rw [← hRn.out]; simp only; rw [if_neg (by rw [hv]; decide)]; exact h))
            rw [hv] at HU
            clear hv hRn
            rcases hor with ⟨e2, e2'⟩ | ⟨e2, e2', e3, e3', hk2, c2, hc2, g2, g2'⟩
            all_goals
              go_wp2_with (first
                | (go_at_call 168; refine (HS.out _ cur.out).mono ?_; rintro e w1 ⟨rfl, hbf1, hb1⟩; have cur := Lib.hid (And.intro hbf1 (cur.out.2.trans hb1)); clear hbf1 hb1)
                | (go_at_call 102; refine (HU.out _ cur.out.2).mono ?_; rintro e w3 ⟨rfl, hb3⟩; have hbw := cur.out.2.trans (hb3.mono cur.out.2.size); clear hb3; have HF3 := Lib.hid (HF2.out _ hbw); have hb5 := HK.out _ hbw; have c1 : w3.cell? ⟨px, 1, none⟩ = some (.int .i64 at_) := cell_of_block hb5 1; have HF5 : Hid (Frm [some px] w w3) := Lib.hid (Frm.ofBelow hbw); clear hb5)
                | (go_at_call 128; refine (HF3.out _ _).mono ?_; rintro e w4 ⟨rfl, hF4, hb4⟩; have HB4 := Lib.hid (And.intro hF4 hb4); clear hF4 hb4))
              refine bodyPost_end (results_none rfl _ _ _) rfl ?_
              refine ⟨rfl, HF5.out.trans HB4.out.1 (by intro r hr; exact .inl hr), HW2.out _ ?_⟩
              have hb5 : LxB w4 px s at_ 0 0 0 false ⟨#[]⟩ ⟨#[]⟩ (.slice none 0 0) ⟨#[]⟩ ta false 4 at_ := by simpa using HB4.out.2
              exact ⟨_, _, _, _, _, _, _, _, _, hb5⟩
      · have g1 : ((c.toNat : Int) == 39) = false := beq_eq_false_iff_ne.2 (by omega)
        have g1' : (c.toNat == 39) = false := beq_eq_false_iff_ne.2 h39
        have hRn : Hid (textE (k + 1) (acc ++ [c]) (d.data.toList.drop (k + 1)) = R) := Lib.hid (by have := hRk.out; rw [textE_other (fun e => h39 (byte39.1 e))] at this; exact this)
        clear hRk h39
        have HBU := Lib.hid (fun (v : Int) => bu_putb w.heap.size w.heap.size _ v wr hbu.out (by omega) hsz)
        go_wp2_with (go_at_call 169; refine (HBU.out _).mono ?_; rintro e w2 ⟨rfl, hbu2, hb2⟩)
        go_roundg (gk - 1)
        case measure => omega
        case rel =>
          refine ⟨k + 1, acc ++ [c], by omega, by omega, by omega, by go_num, ?_, hRn, hbel.trans hb2, by simp; omega⟩
          refine Lib.hid (Or.inr ?_)
          rw [Lib.byteCells_append]
          exact hbu2
    · have e0 : decide (k < d.size) = false := decide_eq_false hk
      have e0' : decide ((k : Int) < (d.size : Int)) = false := decide_eq_false (by omega)
      have HW2 : Hid (∀ W, LxF W px s at_ ⟨#[]⟩ 4 at_ → textR W px s at_ ta (d.data.toList.drop 1)) := Lib.hid (fun W h => HW.out W (by
        have := hRk.out
        rw [List.drop_eq_nil_of_le (by rw [HL.out]; omega), textE] at this
        rw [← this]
        exact h))
      clear hRk hk
      go_wp2_with (go_at_call 128; refine (HFr.out _ _).mono ?_; rintro e w4 ⟨rfl, hF4, hb4⟩; have HB4 := Lib.hid (And.intro hF4 hb4); clear hF4 hb4)
      refine bodyPost_end (results_none rfl _ _ _) rfl ?_
      refine ⟨rfl, (Frm.ofBelow hbel).trans HB4.out.1 (by intro r hr; exact .inl hr), HW2.out _ ?_⟩
      have hb5 : LxB w4 px s at_ 0 0 0 false ⟨#[]⟩ ⟨#[]⟩ (.slice none 0 0) ⟨#[]⟩ ta false 4 at_ := by simpa using HB4.out.2
      exact ⟨_, _, _, _, _, _, _, _, _, hb5⟩
end Go.Proofs.YtjcaaahbfkjipaaGreatDoor

/- Of ExprSpanP: what FRuleNames uses (shake.py). -/
set_option maxRecDepth 100000
/- How many bytes from the beginning are so, through strings.IndexFunc's runes (plain; seat expr). -/
namespace Go.Proofs.YtjcaaahbfkjipaaGreatDoor
open Go.Lib
theorem dec_lo (s : ByteArray) (i : Nat) (h : (s.get! i).toNat < 128) : Utf8.decode s i = ((s.get! i).toNat, 1) := by
  unfold Utf8.decode
  simp only [Nat.add_zero]
  rw [if_pos h]
theorem dec_hi (s : ByteArray) (i : Nat) (h : 128 ≤ (s.get! i).toNat) : 127 < (Utf8.decode s i).1 := by
  have hr : Utf8.runeError = 65533 := rfl
  unfold Utf8.decode
  simp only [Nat.add_zero]
  rw [if_neg (by omega)]
  split
  · split <;> simp only <;> omega
  · split
    · split
      · next h2 =>
        simp only [Bool.and_eq_true, decide_eq_true_eq] at h2
        simp only
        omega
      · simp only; omega
    · split
      · split
        · next h2 =>
          simp only [Bool.and_eq_true, decide_eq_true_eq] at h2
          simp only
          omega
        · simp only; omega
      · simp only; omega
def spanP (p : Nat → Bool) (x : Nat) : Bool := decide (127 < x) || !p x
theorem spanE_idx (p : Nat → Bool) (hp : ∀ x, 127 < x → p x = false) (s : ByteArray) : ∀ (f i : Nat), s.size ≤ i + f → i ≤ s.size →
    idxFuncFrom (spanP p) true s f i = if i + spanE p (s.data.toList.drop i) < s.size then ((i + spanE p (s.data.toList.drop i) : Nat) : Int) else -1
  | 0, i, h1, h2 => by
    have hl : s.data.toList.length = s.size := by rw [Array.length_toList]; rfl
    rw [List.drop_eq_nil_of_le (by omega)]
    rw [if_neg (by simp only [spanE]; omega)]
    rfl
  | f + 1, i, h1, h2 => by
    have hl : s.data.toList.length = s.size := by rw [Array.length_toList]; rfl
    unfold idxFuncFrom
    by_cases hi : i < s.size
    · rw [if_pos hi]
      have hg : s.get! i = s.data.toList[i]'(by omega) := by
        show s.data.get!Internal i = _
        simp [Array.get!Internal, hi]
      rw [List.drop_eq_getElem_cons (by omega : i < s.data.toList.length), ← hg]
      unfold spanE
      by_cases hlo : (s.get! i).toNat < 128
      · rw [dec_lo s i hlo]
        by_cases hq : p (s.get! i).toNat = true
        · have e : spanP p (s.get! i).toNat = false := by unfold spanP; rw [hq, decide_eq_false (by omega)]; rfl
          rw [if_neg (by rw [e]; decide), if_pos hq, spanE_idx p hp s f (i + 1) (by omega) (by omega), show i + (spanE p (List.drop (i + 1) s.data.toList) + 1) = i + 1 + spanE p (List.drop (i + 1) s.data.toList) by omega]
        · rw [Bool.not_eq_true] at hq
          have e : spanP p (s.get! i).toNat = true := by unfold spanP; rw [hq]; simp
          rw [if_pos e, hq]
          simp [hi]
      · have h3 := dec_hi s i (by omega)
        have e : spanP p (Utf8.decode s i).1 = true := by unfold spanP; rw [decide_eq_true h3]; rfl
        rw [if_pos e, hp _ (by omega)]
        simp [hi]
    · rw [if_neg hi, List.drop_eq_nil_of_le (by omega), if_neg (by simp only [spanE]; omega)]
theorem spanE_le (p : Nat → Bool) : ∀ l : List UInt8, spanE p l ≤ l.length
  | [] => Nat.le_refl _
  | c :: r => by
    unfold spanE
    split
    · have := spanE_le p r; simp only [List.length_cons]; omega
    · exact Nat.zero_le _
end Go.Proofs.YtjcaaahbfkjipaaGreatDoor
