/- The document's head, read whole (seat wirez). -/
import Derived.Test.YtlgfhbfdjckdnaaGreatDoorWireRLine
import Derived.Test.YtlgfhbfdjckdnaaGreatDoorWireRReadP
import Derived.Test.YtlgfhbfdjckdnaaGreatDoorRowsF
set_option maxRecDepth 100000
namespace Go.Proofs.YtlgfhbfdjckdnaaGreatDoor
open Go.RowKit

def fSt (s : ByteArray) : List Value := [.string s]
theorem fSt_len : ∀ x : ByteArray, (fSt x).length = 1 := fun _ => rfl
theorem info_strR : (Tryz.prog.info? 9).map (fun i => (i.zero, i.size, i.bytes)) = some (some (.string ⟨#[]⟩), 1, 16) := by kernel_rfl
/-- A row of texts stands while a head is written. -/
theorem row_other {w w' : World} {base ph : Nat} {v : Value} {A : List ByteArray} {c : Array Value} {fr : Nat × Nat} (h : OwnF fSt 9 1 w base v A) (h2 : w.heap[ph]? = some (.cells c 62 fr)) (hF : Frm [some ph] w w') : OwnF fSt 9 1 w' base v A := by
  obtain ⟨h1, h3⟩ := (show w.ownsRow base 9 1 v A.length (cellsF fSt A) from h)
  refine (show w'.ownsRow base 9 1 v A.length (cellsF fSt A) from ⟨h1, ?_⟩)
  rcases h3 with h0 | ⟨g, cap, cur, hv, hbg, hblk, r⟩
  · exact .inl h0
  · refine .inr ⟨g, cap, cur, hv, hbg, hF.block hblk (fun r hr e => ?_), r⟩
    simp only [List.mem_singleton] at hr
    subst hr
    have e2 : ph = g := by injection e
    subst e2
    rw [h2] at hblk
    injection hblk with hblk
    injection hblk with _ ht _
    exact absurd ht (by decide)
theorem dat_piece (s : ByteArray) (f i : Nat) : (s.extract f i).data.toList = (s.data.toList.drop f).take (i - f) := by
  rw [ByteArray.data_extract, Array.toList_extract, List.extract_eq_take_drop]
theorem headS_bad {l : List UInt8} (h : (Lib.split l [13, 10]).all (allL okC) = false) : headS l = (400, [], [], [], 0) := by
  unfold headS headP
  rw [if_pos h]
theorem headS_first {l : List UInt8} {a : List UInt8} {T : List (List UInt8)} (h : (Lib.split l [13, 10]).all (allL okC) = true) (hs : Lib.split l [13, 10] = a :: T) :
    headS l = if (firstS a).1 ≠ 0 then ((firstS a).1, [], [], [], 0) else if (linesS ⟨[], [], 0⟩ T).1 ≠ 0 then ((linesS ⟨[], [], 0⟩ T).1, [], [], [], 0) else
      if (linesS ⟨[], [], 0⟩ T).2.seen.contains hostK = false then (400, [], [], [], 0) else (0, (firstS a).2.1, (firstS a).2.2, (linesS ⟨[], [], 0⟩ T).2.key, (linesS ⟨[], [], 0⟩ T).2.size) := by
  unfold headS headP
  rw [h, if_neg (by decide), hs]
  rfl

/-- The head's block, whatever its marks. -/
def RhAny (w : World) (ph : Nat) (m p k b : ByteArray) (sz : Int) (M : Bool) : Prop := ∃ L K H, RhB w ph m p k b sz L K H M

set_option maxHeartbeats 8000000 in
theorem rread_any (w : World) (s : ByteArray) (hs : s.size ≤ 300000) (ph : Nat) (b : ByteArray) (M : Bool) (hb : RhB w ph ⟨#[]⟩ ⟨#[]⟩ ⟨#[]⟩ b 0 false false false M) :
    Calls Tryz.prog 22 #[.pointer (some ⟨ph, 0, none⟩), .string s] w fun e w' => e = .returned (.int .i64 (headS s.data.toList).1) ∧ Frm [some ph] w w' ∧
      ((headS s.data.toList).1 = 0 → RhAny w' ph (bytesL (headS s.data.toList).2.1) (bytesL (headS s.data.toList).2.2.1) (bytesL (headS s.data.toList).2.2.2.1) b ((headS s.data.toList).2.2.2.2 : Int) M) := by
  have hpl := lt_of_block hb
  have HB := Lib.hid hb
  obtain ⟨i0, hti, hz0, hz1, hz2⟩ := info_parts info_strR
  clear hb
  go_enter Tryz.func22, Tryz.ntmps22
  go_wp2_with fail
  go_loopg [5, 6, 7] (s.size + 2) (fun g s5 s6 s7 wr => ∃ (i f : Nat) (A : List ByteArray) (v : Value), i + g = s.size + 2 ∧ f ≤ i ∧ A.length ≤ i ∧ s7 = .int .i64 (i : Int) ∧ s6 = .int .i64 (f : Int) ∧ v = s5 ∧ OwnF fSt 9 1 wr w.heap.size v A ∧ Hid (∀ x ∈ A, x.size ≤ s.size) ∧ Below w.heap.size w wr ∧ Hid (Scan s.data.toList i f (A.map (·.data.toList))))
  case atStart => exact ⟨0, 0, [], _, by omega, Nat.le_refl _, Nat.le_refl _, rfl, rfl, rfl, OwnF.nil _ _, Lib.hid (fun x hx => by cases hx), Below.refl _ _, Lib.hid (scan_start _)⟩
  case round =>
    obtain ⟨i, f, A, v, hig, hfi, hAi, rfl, rfl, rfl, hO, hAz, hbel, hS⟩ := hrel
    have hbz := hbel.size
    by_cases hi : i ≤ s.size
    · have u1 : decide ((i : Int) ≤ (s.size : Int)) = true := decide_eq_true (by omega)
      have u1' : decide (i ≤ s.size) = true := decide_eq_true hi
      obtain ⟨sp, hsp⟩ : ∃ x, s.extract f i = x := ⟨_, rfl⟩
      have hspz : sp.size ≤ s.size := by rw [← hsp, ByteArray.size_extract]; omega
      have hspd : sp.data.toList = (s.data.toList.drop f).take (i - f) := by rw [← hsp, dat_piece]
      have HSP := Lib.hid hspd
      have hAz2 : Hid (∀ x ∈ A ++ [sp], x.size ≤ s.size) := Lib.hid (fun x hx => by
        rcases List.mem_append.1 hx with h | h
        · exact hAz.out x h
        · rw [List.mem_singleton] at h; subst h; exact hspz)
      have hmap : (A ++ [sp]).map (·.data.toList) = A.map (·.data.toList) ++ [(s.data.toList.drop f).take (i - f)] := by
        rw [List.map_append, List.map_cons, List.map_nil, hspd]
      have HMap := Lib.hid hmap
      clear hspd hmap
      by_cases hie : i = s.size
      · have u2 : ((i : Int) == (s.size : Int)) = true := beq_iff_eq.2 (by omega)
        have u2' : (i == s.size) = true := beq_iff_eq.2 hie
        have HS2 : Hid (Scan s.data.toList (i + 2) (i + 2) ((A ++ [sp]).map (·.data.toList))) := by
          refine Lib.hid ?_
          rw [HMap.out]
          have := hS.out
          have hl := dat_len s
          rw [hie, ← hl] at this ⊢
          exact scan_end this
        have hie1 : i ≤ s.size := hi
        have hie2 : s.size ≤ i := by omega
        clear hie
        go_wp2_with (at_builtin; refine wpList_append_own _ rfl _ _ 81 rfl w.heap.size 9 i0 _ 1 16 Tryz.underlying81 hti hz0 hz1 hz2 rfl (by decide) _ A.length (cellsF fSt A) rfl (World.ownsRow.alloc (show wr.ownsRow w.heap.size 9 1 _ A.length (cellsF fSt A) from hO) _) ⟨wr.heap.size, 0, none⟩ 1 1 [.string sp] rfl rfl (cells_new _ _ _) (by simp [Value.oneCell']) (by unfold maxLen; omega) (by omega) (by simp; omega) ?_; refine Hid.out ?_)
        refine Lib.hid ?_
        intro v2 w2 hown2 hg2 _
        have hb2 := (hbel.alloc hbel.size _).grown hg2 (by have := hbel.size; simp; omega) (fun k hk => (World.ownsRow.lt (show wr.ownsRow w.heap.size 9 1 _ A.length (cellsF fSt A) from hO) k hk).1)
        have hO2 : OwnF fSt 9 1 w2 w.heap.size v2 (A ++ [sp]) := by
          have e : cellsF fSt (A ++ [sp]) = cellsF fSt A ++ [.string sp] := by simp [cellsF, fSt]
          show w2.ownsRow w.heap.size 9 1 v2 (A ++ [sp]).length (cellsF fSt (A ++ [sp]))
          rw [e, List.length_append]
          exact hown2
        go_wp2_with fail
        go_roundg (gk - 2)
        case measure => omega
        case rel => exact ⟨i + 2, i + 2, A ++ [sp], _, by omega, Nat.le_refl _, by rw [List.length_append, List.length_singleton]; omega, by go_num, by go_num, rfl, hO2, hAz2, hb2, HS2⟩
      · have hlt : i < s.size := by omega
        have u2 : ((i : Int) == (s.size : Int)) = false := beq_eq_false_iff_ne.2 (by omega)
        have u2' : (i == s.size) = false := beq_eq_false_iff_ne.2 hie
        have hx : s[i].toNat < 256 := s[i].toNat_lt
        clear hie
        by_cases hsep : ∃ h : i + 1 < s.size, s[i].toNat = 13 ∧ s[i + 1].toNat = 10
        · obtain ⟨h1, h13, h10⟩ := hsep
          have u3 : decide ((i : Int) + 1 < (s.size : Int)) = true := decide_eq_true (by omega)
          have u3' : decide (i + 1 < s.size) = true := decide_eq_true h1
          have u4 : ((s[i].toNat : Int) == 13) = true := beq_iff_eq.2 (by omega)
          have u4' : (s[i].toNat == 13) = true := beq_iff_eq.2 h13
          have u5 : ((s[i + 1].toNat : Int) == 10) = true := beq_iff_eq.2 (by omega)
          have u5' : (s[i + 1].toNat == 10) = true := beq_iff_eq.2 h10
          have HS2 : Hid (Scan s.data.toList (i + 2) (i + 2) ((A ++ [sp]).map (·.data.toList))) := by
            refine Lib.hid ?_
            rw [HMap.out]
            exact scan_sep hS.out (by rw [dat_len]; exact h1) (by rw [dat_at s hlt]; exact byte_eq h13) (by rw [dat_at s h1]; exact byte_eq h10)
          clear h13 h10
          go_wp2_with (at_builtin; refine wpList_append_own _ rfl _ _ 81 rfl w.heap.size 9 i0 _ 1 16 Tryz.underlying81 hti hz0 hz1 hz2 rfl (by decide) _ A.length (cellsF fSt A) rfl (World.ownsRow.alloc (show wr.ownsRow w.heap.size 9 1 _ A.length (cellsF fSt A) from hO) _) ⟨wr.heap.size, 0, none⟩ 1 1 [.string sp] rfl rfl (cells_new _ _ _) (by simp [Value.oneCell']) (by unfold maxLen; omega) (by omega) (by simp; omega) ?_; refine Hid.out ?_)
          refine Lib.hid ?_
          intro v2 w2 hown2 hg2 _
          have hb2 := (hbel.alloc hbel.size _).grown hg2 (by have := hbel.size; simp; omega) (fun k hk => (World.ownsRow.lt (show wr.ownsRow w.heap.size 9 1 _ A.length (cellsF fSt A) from hO) k hk).1)
          have hO2 : OwnF fSt 9 1 w2 w.heap.size v2 (A ++ [sp]) := by
            have e : cellsF fSt (A ++ [sp]) = cellsF fSt A ++ [.string sp] := by simp [cellsF, fSt]
            show w2.ownsRow w.heap.size 9 1 v2 (A ++ [sp]).length (cellsF fSt (A ++ [sp]))
            rw [e, List.length_append]
            exact hown2
          go_wp2_with fail
          go_roundg (gk - 2)
          case measure => omega
          case rel => exact ⟨i + 2, i + 2, A ++ [sp], _, by omega, Nat.le_refl _, by rw [List.length_append, List.length_singleton]; omega, by go_num, by go_num, rfl, hO2, hAz2, hb2, HS2⟩
        · have hns : ∀ h2 : i + 1 < s.data.toList.length, s.data.toList[i]'(by omega) = 13 → s.data.toList[i + 1] ≠ 10 := by
            intro h2 e1 e2
            rw [dat_len] at h2
            rw [dat_at s hlt] at e1
            rw [dat_at s h2] at e2
            exact hsep ⟨h2, by rw [e1]; rfl, by rw [e2]; rfl⟩
          have HNS := Lib.hid hns
          have hor : (decide ((i : Int) + 1 < (s.size : Int)) = false ∧ decide (i + 1 < s.size) = false) ∨ (decide ((i : Int) + 1 < (s.size : Int)) = true ∧ decide (i + 1 < s.size) = true ∧ ((s[i].toNat : Int) == 13) = false ∧ (s[i].toNat == 13) = false) ∨
              (∃ h1 : i + 1 < s.size, decide ((i : Int) + 1 < (s.size : Int)) = true ∧ decide (i + 1 < s.size) = true ∧ ((s[i].toNat : Int) == 13) = true ∧ (s[i].toNat == 13) = true ∧ ((s[i + 1].toNat : Int) == 10) = false ∧ (s[i + 1].toNat == 10) = false) := by
            rcases Nat.lt_or_ge (i + 1) s.size with h1 | h1
            · by_cases h13 : s[i].toNat = 13
              · have h10 : s[i + 1].toNat ≠ 10 := fun e => hsep ⟨h1, h13, e⟩
                exact .inr (.inr ⟨h1, decide_eq_true (by omega), decide_eq_true h1, beq_iff_eq.2 (by omega), beq_iff_eq.2 h13, beq_eq_false_iff_ne.2 (by omega), beq_eq_false_iff_ne.2 h10⟩)
              · exact .inr (.inl ⟨decide_eq_true (by omega), decide_eq_true h1, beq_eq_false_iff_ne.2 (by omega), beq_eq_false_iff_ne.2 h13⟩)
            · exact .inl ⟨decide_eq_false (by omega), decide_eq_false (by omega)⟩
          clear hsep hns
          by_cases hok : s[i].toNat = 9 ∨ (32 ≤ s[i].toNat ∧ s[i].toNat ≤ 126)
          · have HS2 : Hid (Scan s.data.toList (i + 1) f (A.map (·.data.toList))) := by
              refine Lib.hid ?_
              refine scan_ok hS.out (by rw [dat_len]; exact hlt) ?_
              rw [dat_at s hlt]
              unfold okC
              simp only [Bool.or_eq_true, Bool.and_eq_true, decide_eq_true_eq]
              rcases hok with h | h
              · exact .inr h
              · exact .inl h
            have hv : (((s[i].toNat : Int) != 9) = false ∧ (s[i].toNat != 9) = false) ∨ (((s[i].toNat : Int) != 9) = true ∧ (s[i].toNat != 9) = true ∧ decide ((s[i].toNat : Int) < 32) = false ∧ decide (s[i].toNat < 32) = false ∧ decide (126 < (s[i].toNat : Int)) = false ∧ decide (126 < s[i].toNat) = false) := by
              by_cases h9 : s[i].toNat = 9
              · exact .inl ⟨by rw [h9]; rfl, by rw [h9]; rfl⟩
              · exact .inr ⟨bne_iff_ne.2 (by omega), bne_iff_ne.2 h9, decide_eq_false (by omega), decide_eq_false (by omega), decide_eq_false (by omega), decide_eq_false (by omega)⟩
            clear hok
            rcases hor with ⟨u3, u3'⟩ | ⟨u3, u3', u4, u4'⟩ | ⟨h1, u3, u3', u4, u4', u5, u5'⟩ <;> rcases hv with ⟨y1, y1'⟩ | ⟨y1, y1', y2, y2', y3, y3'⟩
            all_goals
              go_wp2_with fail
              go_roundg (gk - 1)
              case measure => omega
              case rel => exact ⟨i + 1, f, A, _, by omega, by omega, by omega, by go_num, rfl, rfl, hO, hAz, hbel, HS2⟩
          · have hbad := scan_bad hS.out (by rw [dat_len]; exact hlt) (by
              rw [dat_at s hlt]
              cases hq : okC s[i].toNat with
              | false => rfl
              | true =>
                exfalso
                unfold okC at hq
                simp only [Bool.or_eq_true, Bool.and_eq_true, decide_eq_true_eq] at hq
                rcases hq with h | h
                · exact hok (.inr h)
                · exact hok (.inl h)) HNS.out
            have HF := Lib.hid (headS_bad hbad)
            have y1 : ((s[i].toNat : Int) != 9) = true := bne_iff_ne.2 (by omega)
            have y1' : (s[i].toNat != 9) = true := bne_iff_ne.2 (by omega)
            have hv : (decide ((s[i].toNat : Int) < 32) = true ∧ decide (s[i].toNat < 32) = true) ∨ (decide ((s[i].toNat : Int) < 32) = false ∧ decide (s[i].toNat < 32) = false ∧ decide (126 < (s[i].toNat : Int)) = true ∧ decide (126 < s[i].toNat) = true) := by
              rcases Nat.lt_or_ge s[i].toNat 32 with h | h
              · exact .inl ⟨decide_eq_true (by omega), decide_eq_true h⟩
              · exact .inr ⟨decide_eq_false (by omega), decide_eq_false (by omega), decide_eq_true (by omega), decide_eq_true (by omega)⟩
            clear hok hbad
            rcases hor with ⟨u3, u3'⟩ | ⟨u3, u3', u4, u4'⟩ | ⟨h1, u3, u3', u4, u4', u5, u5'⟩ <;> rcases hv with ⟨y2, y2'⟩ | ⟨y2, y2', y3, y3'⟩
            all_goals
              go_wp2_with fail
              go_ret
              rw [HF.out]
              exact ⟨rfl, .ofBelow hbel, fun h => by cases h⟩
    · have u1 : decide ((i : Int) ≤ (s.size : Int)) = false := decide_eq_false (by omega)
      have u1' : decide (i ≤ s.size) = false := decide_eq_false hi
      obtain ⟨hsp, hall⟩ := scan_done hS.out (by rw [dat_len]; omega)
      have hne : A ≠ [] := fun e => by subst e; exact split_ne _ hsp.symm
      obtain ⟨av, cv, rfl⟩ := hO.shape
      have hpos : 0 < A.length := List.length_pos_iff.2 hne
      obtain ⟨g, rfl, -, hgb, hgl⟩ := hO.some hpos
      have hAl : A.length ≤ 300002 := by omega
      obtain ⟨a, ha⟩ : ∃ a, A[0] = a := ⟨_, rfl⟩
      have haz : a.size ≤ s.size := hAz.out a (by rw [← ha]; exact List.getElem_mem hpos)
      have hsp2 : Lib.split s.data.toList [13, 10] = a.data.toList :: (A.drop 1).map (·.data.toList) := by
        rw [← hsp, ← ha]
        cases A with
        | nil => exact absurd rfl hne
        | cons x r => rfl
      have hH := headS_first hall hsp2
      have hb1 : RhB wr ph ⟨#[]⟩ ⟨#[]⟩ ⟨#[]⟩ b 0 false false false M := (hbel.block _ hpl).trans HB.out
      have k0 : wr.cell? ⟨g, 0, none⟩ = some (.string a) := by rw [← ha]; exact OwnF.at fSt_len hO (i := 0) (j := 0) hpos (by omega)
      have HFi := Lib.hid (rfirst_any wr a (by omega) ph _ _ _ b 0 false false false M hb1)
      have HO := Lib.hid hO
      have HB1 := Lib.hid hb1
      have HH := Lib.hid hH
      have v1 : decide ((0 : Int) < (A.length : Int)) = true := decide_eq_true (by omega)
      have v1' : decide (0 < A.length) = true := decide_eq_true hpos
      clear hH hall hsp hsp2 hO hb1 ha hS hne hti hz0 hz1 hz2
      go_wp2_with (go_at_call 36; refine HFi.out.mono ?_; rintro e w3 ⟨rfl, hF3, hR3⟩; refine Hid.out ?_)
      refine Lib.hid ?_
      have HF3 := Lib.hid ((Frm.ofBelow hbel).trans hF3 (by intro r hr; exact .inl hr))
      have HO3 := Lib.hid (row_other HO.out HB1.out hF3)
      have HR3 := Lib.hid hR3
      obtain ⟨st, hst⟩ : ∃ st, (firstS a.data.toList).1 = st := ⟨_, rfl⟩
      have HST := Lib.hid hst
      rw [hst]
      clear hF3 hR3 hst k0
      by_cases h0 : st = 0
      · subst h0
        have hR := HR3.out HST.out
        have HS0 : Hid (RhS w3 ph (bytesL (firstS a.data.toList).2.1) (bytesL (firstS a.data.toList).2.2) b ⟨[], [], 0⟩ M) := Lib.hid hR
        obtain ⟨fm, hfm⟩ : ∃ x, bytesL (firstS a.data.toList).2.1 = x := ⟨_, rfl⟩
        obtain ⟨fp, hfp⟩ : ∃ x, bytesL (firstS a.data.toList).2.2 = x := ⟨_, rfl⟩
        rw [hfm, hfp] at HS0
        have HMP := Lib.hid (And.intro hfm hfp)
        have hH2 := HH.out
        rw [HST.out, if_neg (by decide)] at hH2
        have HH2 := Lib.hid hH2
        clear hR hfm hfp hH2 HH
        go_wp2_with fail
        go_loopg [8, 9] (A.length - 1) (fun gh s8 s9 wx => ∃ (k : Nat) (st : Int) (h : HS), 1 ≤ k ∧ k + gh = A.length ∧ s8 = .int .i64 st ∧ s9 = .int .i64 (k : Int) ∧ Frm [some ph] w wx ∧ OwnF fSt 9 1 wx w.heap.size (.slice (some ⟨g, 0, none⟩) A.length cv) A ∧
          Hid ((st = 0 ∧ RhS wx ph fm fp b h M ∧ h.seen.contains tencK = false ∧ linesS ⟨[], [], 0⟩ ((A.drop 1).map (·.data.toList)) = linesS h ((A.drop k).map (·.data.toList))) ∨ (st ≠ 0 ∧ (linesS ⟨[], [], 0⟩ ((A.drop 1).map (·.data.toList))).1 = st)))
        case atStart => exact ⟨1, 0, ⟨[], [], 0⟩, Nat.le_refl _, by omega, rfl, rfl, HF3.out, HO3.out, Lib.hid (.inl ⟨rfl, HS0.out, rfl, rfl⟩)⟩
        case round =>
          obtain ⟨k, st, h, hk1, hkg, rfl, rfl, hFx, hOx, hI⟩ := hrel
          rcases hI.out with ⟨rfl, hRx, hTx, hLx⟩ | ⟨hst0, hLx⟩
          · have HRx := Lib.hid hRx
            have HTx := Lib.hid hTx
            have HLx := Lib.hid hLx
            have HFx := Lib.hid hFx
            have HOx := Lib.hid hOx
            clear hRx hTx hLx hFx hOx
            by_cases hk : k < A.length
            · have y1 : decide ((k : Int) < (A.length : Int)) = true := decide_eq_true (by omega)
              have y1' : decide (k < A.length) = true := decide_eq_true hk
              obtain ⟨x, hx⟩ : ∃ x, A[k] = x := ⟨_, rfl⟩
              have hxz : x.size ≤ s.size := hAz.out x (by rw [← hx]; exact List.getElem_mem hk)
              have kx : wr.cell? ⟨g, k, none⟩ = some (.string x) := by
                have := OwnF.at fSt_len HOx.out (i := k) (j := 0) hk (by omega)
                rw [Nat.mul_one, Nat.add_zero, hx] at this
                exact this
              have hdrop : (A.drop k).map (·.data.toList) = x.data.toList :: (A.drop (k + 1)).map (·.data.toList) := by
                rw [List.drop_eq_getElem_cons hk, hx, List.map_cons]
              have HD := Lib.hid hdrop
              have HLi := Lib.hid (rline_any wr x (by omega) ph fm fp b h M HTx.out HRx.out)
              have y2 : ((0 : Int) == 0) = true := rfl
              clear hx hdrop
              go_wp2_with (go_at_call 37; refine HLi.out.mono ?_; rintro e w5 ⟨rfl, hF5, hR5⟩; refine Hid.out ?_)
              refine Lib.hid ?_
              have HF5 := Lib.hid (HFx.out.trans hF5 (by intro r hr; exact .inl hr))
              have HO5 := Lib.hid (row_other HOx.out HRx.out hF5)
              have HT5 := Lib.hid (lineS_tenc (h := h) (l := x.data.toList) HTx.out)
              have HR5 := Lib.hid hR5
              have hstep : linesS ⟨[], [], 0⟩ ((A.drop 1).map (·.data.toList)) = if (lineS h x.data.toList).1 ≠ 0 then ((lineS h x.data.toList).1, h) else linesS (lineS h x.data.toList).2 ((A.drop (k + 1)).map (·.data.toList)) := by
                rw [HLx.out, HD.out]; rfl
              have HStep := Lib.hid hstep
              obtain ⟨st2, hst2⟩ : ∃ q, (lineS h x.data.toList).1 = q := ⟨_, rfl⟩
              rw [hst2]
              have HST2 := Lib.hid hst2
              clear hF5 hR5 hstep hst2
              go_wp2_with fail
              go_roundg (A.length - (k + 1))
              case measure => omega
              case rel =>
                refine ⟨k + 1, st2, (lineS h x.data.toList).2, by omega, by omega, rfl, by go_num, HF5.out, HO5.out, Lib.hid ?_⟩
                by_cases h2 : st2 = 0
                · have e0 : (lineS h x.data.toList).1 = 0 := HST2.out.trans h2
                  refine .inl ⟨h2, HR5.out e0, HT5.out e0, ?_⟩
                  rw [HStep.out, if_neg (by rw [e0]; decide)]
                · refine .inr ⟨h2, ?_⟩
                  rw [HStep.out, if_pos (by rw [HST2.out]; exact h2)]
                  exact HST2.out
            · have y1 : decide ((k : Int) < (A.length : Int)) = false := decide_eq_false (by omega)
              have y1' : decide (k < A.length) = false := decide_eq_false hk
              have hnil : (A.drop k).map (·.data.toList) = [] := by rw [List.drop_eq_nil_of_le (by omega)]; rfl
              have hL2 : linesS ⟨[], [], 0⟩ ((A.drop 1).map (·.data.toList)) = (0, h) := by rw [HLx.out, hnil]; rfl
              have hH3 := HH2.out
              rw [hL2, if_neg (show ¬ ((0 : Int) ≠ 0) by decide)] at hH3
              obtain ⟨bH, hbH⟩ : ∃ q, h.seen.contains hostK = q := ⟨_, rfl⟩
              have d7 : wr.cell? ⟨ph, 7, none⟩ = some (.bool (h.seen.contains hostK)) := cell_of_block HRx.out 7
              rw [hbH] at d7
              have HHo := Lib.hid hbH
              have y2 : ((0 : Int) == 0) = true := rfl
              clear hnil hL2 hbH
              cases bH with
              | false =>
                have hH4 := hH3
                simp only [HHo.out, if_true] at hH4
                have HX := Lib.hid hH4
                clear hH3 hH4
                go_wp2_with fail
                go_ret
                rw [HX.out]
                exact ⟨rfl, HFx.out, fun h => by cases h⟩
              | true =>
                have hH4 := hH3
                simp only [HHo.out, Bool.true_eq_false, if_false] at hH4
                have HX := Lib.hid hH4
                clear hH3 hH4
                go_wp2_with fail
                go_ret
                rw [HX.out]
                refine ⟨rfl, HFx.out, fun _ => ⟨h.seen.contains clenK, h.seen.contains ikeyK, h.seen.contains hostK, ?_⟩⟩
                rw [HMP.out.1, HMP.out.2]
                exact HRx.out
          · have y2 : (st == 0) = false := beq_eq_false_iff_ne.2 hst0
            have hH3 := HH2.out
            rw [hLx, if_pos hst0] at hH3
            have HX := Lib.hid hH3
            have HFx := Lib.hid hFx
            clear hH3 hLx hFx
            have hor : decide ((k : Int) < (A.length : Int)) = true ∨ decide ((k : Int) < (A.length : Int)) = false := by cases decide ((k : Int) < (A.length : Int)) <;> simp
            have hor' : decide ((k : Int) < (A.length : Int)) = decide (k < A.length) := decide_eq_decide.2 (by omega)
            rcases hor with y1 | y1
            · have y1' := hor'.symm.trans y1
              clear hor'
              go_wp2_with fail
              go_ret
              rw [HX.out]
              exact ⟨rfl, HFx.out, fun h => absurd h hst0⟩
            · have y1' := hor'.symm.trans y1
              clear hor'
              go_wp2_with fail
              go_ret
              rw [HX.out]
              exact ⟨rfl, HFx.out, fun h => absurd h hst0⟩
      · have hX := HH.out
        rw [HST.out, if_pos h0] at hX
        have HX := Lib.hid hX
        have y2 : (st == 0) = false := beq_eq_false_iff_ne.2 h0
        have hor : decide ((1 : Int) < (A.length : Int)) = true ∨ decide ((1 : Int) < (A.length : Int)) = false := by cases decide ((1 : Int) < (A.length : Int)) <;> simp
        have hor' : decide ((1 : Int) < (A.length : Int)) = decide (1 < A.length) := decide_eq_decide.2 (by omega)
        clear hX
        go_wp2_with fail
        go_loopg [8, 9] 0 (fun _ s8 s9 wx => s8 = .int .i64 st ∧ s9 = .int .i64 1 ∧ w3 = wx)
        case atStart => exact ⟨rfl, rfl, rfl⟩
        case round =>
          obtain ⟨rfl, rfl, rfl⟩ := hrel
          rcases hor with y1 | y1
          · have y1' := hor'.symm.trans y1
            clear hor'
            go_wp2_with fail
            go_ret
            rw [HX.out]
            exact ⟨rfl, HF3.out, fun h => absurd h h0⟩
          · have y1' := hor'.symm.trans y1
            clear hor'
            go_wp2_with fail
            go_ret
            rw [HX.out]
            exact ⟨rfl, HF3.out, fun h => absurd h h0⟩
end Go.Proofs.YtlgfhbfdjckdnaaGreatDoor
