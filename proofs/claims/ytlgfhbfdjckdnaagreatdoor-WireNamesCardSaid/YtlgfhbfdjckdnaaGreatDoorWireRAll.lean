/- The document's Read: of all bytes that came (seat wirez). -/
import Derived.Test.YtlgfhbfdjckdnaaGreatDoorWireRRead
import Derived.Test.YtlgfhbfdjckdnaaGreatDoorWireFeed
import Derived.Test.YtlgfhbfdjckdnaaGreatDoorWireEndsP
set_option maxRecDepth 100000
namespace Go.Proofs.YtlgfhbfdjckdnaaGreatDoor
open Go.RowKit

theorem info_rgot : (Tryz.prog.info? 59).map (fun i => (i.zero, i.size, i.bytes)) = some (some (.agg #[.string ⟨#[]⟩, .string ⟨#[]⟩, .string ⟨#[]⟩, .string ⟨#[]⟩, .int .i64 0]), 5, 72) := by kernel_rfl
theorem occ_four (s : ByteArray) {j : Nat} (hj : j + 4 ≤ s.size) (hj2 : j + 4 ≤ 4096) : Lib.occAt (s.data.toList.take 4096) ends4 j = ((s.extract j (j + 4)).toList == [13, 10, 13, 10]) := by
  rw [Lib.occAt_iff_take _ _ _ (by rw [List.length_take, dat_len, show ends4.length = 4 from rfl]; omega), ByteArray.toList_eq, dat_piece, show ends4.length = 4 from rfl, show j + 4 - j = 4 by omega, List.drop_take, List.take_take, show min 4 (4096 - j) = 4 by omega]
  rfl
/-- Where the head ends, if it does, as far as was looked. -/
def EndAt (l : List UInt8) (i : Nat) (E : Int) : Prop := (E = -1 ∧ Lib.NoOcc (l.take 4096) ends4 i) ∨ (0 ≤ E ∧ Lib.index (l.take 4096) ends4 = E)
theorem endAt_miss {s : ByteArray} {i : Nat} {E : Int} (h : EndAt s.data.toList i E) (hi : s.size < i + 4 ∨ 4096 < i + 4) : Lib.index (s.data.toList.take 4096) ends4 = E := by
  rcases h with ⟨rfl, h⟩ | ⟨_, h⟩
  · exact Lib.index_past (by decide) h (by rw [List.length_take, dat_len, show ends4.length = 4 from rfl]; omega)
  · exact h
theorem endAt_hit {l : List UInt8} {i : Nat} {E : Int} (h : EndAt l i E) (hE : 0 ≤ E) : Lib.index (l.take 4096) ends4 = E := by
  rcases h with ⟨rfl, _⟩ | ⟨_, h⟩
  · omega
  · exact h
theorem endAt_ge {l : List UInt8} {i : Nat} {E : Int} (h : EndAt l i E) : -1 ≤ E := by
  rcases h with ⟨rfl, _⟩ | ⟨h, _⟩ <;> omega
theorem feed_wait431 {l : List UInt8} (h : Lib.index (l.take 4096) ends4 < 0) (hl : 4096 ≤ l.length) : feedS l = ([refG 431], [], true) := by
  have e : nextS l = .refuse 431 := by unfold nextS; rw [if_pos h, if_pos hl]
  rw [feedS_eq, e]
theorem feed_wait0 {l : List UInt8} (h : Lib.index (l.take 4096) ends4 < 0) (hl : ¬ 4096 ≤ l.length) : feedS l = ([], l, false) := by
  have e : nextS l = .wait := by unfold nextS; rw [if_pos h, if_neg hl]
  rw [feedS_eq, e]
theorem feed_at {l : List UInt8} {e : Nat} (h : Lib.index (l.take 4096) ends4 = (e : Int)) : feedS l = if (headS (l.take e)).1 ≠ 0 then ([refG (headS (l.take e)).1], [], true) else if l.length < e + 4 + (headS (l.take e)).2.2.2.2 then ([], l, false) else
    (⟨bytesL (headS (l.take e)).2.1, bytesL (headS (l.take e)).2.2.1, bytesL (headS (l.take e)).2.2.2.1, bytesL ((l.drop (e + 4)).take (headS (l.take e)).2.2.2.2), 0⟩ :: (feedS (l.drop (e + 4 + (headS (l.take e)).2.2.2.2))).1, (feedS (l.drop (e + 4 + (headS (l.take e)).2.2.2.2))).2) := by
  have n1 : nextS l = if (headS (l.take e)).1 ≠ 0 then .refuse (headS (l.take e)).1 else if l.length < e + 4 + (headS (l.take e)).2.2.2.2 then .wait else
      .got ⟨bytesL (headS (l.take e)).2.1, bytesL (headS (l.take e)).2.2.1, bytesL (headS (l.take e)).2.2.2.1, bytesL ((l.drop (e + 4)).take (headS (l.take e)).2.2.2.2), 0⟩ (l.drop (e + 4 + (headS (l.take e)).2.2.2.2)) := by
    unfold nextS
    rw [if_neg (by omega)]
    simp only [h, Int.toNat_natCast]
  by_cases h0 : (headS (l.take e)).1 ≠ 0
  · rw [if_pos h0] at n1
    rw [feedS_eq, n1, if_pos h0]
  · rw [if_neg h0] at n1
    by_cases h1 : l.length < e + 4 + (headS (l.take e)).2.2.2.2
    · rw [if_pos h1] at n1
      rw [feedS_eq, n1, if_neg h0, if_pos h1]
    · rw [if_neg h1] at n1
      rw [feedS_eq, n1, if_neg h0, if_neg h1]
theorem own_type {w : World} {base ph : Nat} {v : Value} {A : List Gp} {c : Array Value} {fr : Nat × Nat} (h : OwnF fG 59 5 w base v A) (h2 : w.heap[ph]? = some (.cells c 62 fr)) : some ph ≠ v.ownBlock := by
  rcases h.val with ⟨rfl, _⟩ | ⟨g2, cap, rfl, h3, _⟩
  · simp [Value.ownBlock]
  · intro e
    have e2 : ph = g2 := by injection e
    subst e2
    obtain ⟨cur, hcur, _⟩ := h.block
    rw [hcur] at h2
    injection h2 with h2
    injection h2 with _ ht _
    exact absurd ht (by decide)
/-- What the document's Read answers. -/
def ReadR (base : Nat) (L : List UInt8) (e : Ending) (w' : World) : Prop :=
  ∃ v, e = .returned (.tuple #[v, .int .i64 ((feedS L).2.1.length : Int), .bool (feedS L).2.2]) ∧ OwnF fG 59 5 w' base v (feedS L).1

set_option maxHeartbeats 8000000 in
theorem rall_any (w : World) (s0 : ByteArray) (hs : s0.size ≤ 300000) :
    Calls Tryz.prog 10 #[.string s0] w fun e w' => ReadR w.heap.size s0.data.toList e w' ∧ Below w.heap.size w w' := by
  obtain ⟨i0, hti, hz0, hz1, hz2⟩ := info_parts info_rgot
  go_enter Tryz.func10, Tryz.ntmps10
  go_wp2_with fail
  go_loopg [0, 5] (s0.size + 1) (fun g s0' s5 wr => ∃ (s : ByteArray) (A : List Gp) (v : Value), s.size < g ∧ s.size ≤ s0.size ∧ s0' = .string s ∧ v = s5 ∧ OwnF fG 59 5 wr w.heap.size v A ∧ A.length + s.size ≤ 300001 ∧ Below w.heap.size w wr ∧ Hid (feedS s0.data.toList = (A ++ (feedS s.data.toList).1, (feedS s.data.toList).2)))
  case atStart => exact ⟨s0, [], _, by omega, Nat.le_refl _, rfl, rfl, OwnF.nil _ _, by simp; omega, Below.refl _ _, Lib.hid (by simp)⟩
  case round =>
    obtain ⟨s, A, v, hsg, hsz, rfl, rfl, hO, hAz, hbel, hFS⟩ := hrel
    have hbz := hbel.size
    have HO := Lib.hid hO
    have HBel := Lib.hid hbel
    obtain ⟨av, cv, rfl⟩ := hO.shape
    clear hO hbel
    go_wp2_with fail
    go_loopg [6, 7] (s.size + 1) (fun g2 s6 s7 wx => ∃ (i : Nat) (E : Int), i + g2 = s.size + 1 ∧ s6 = .int .i64 E ∧ s7 = .int .i64 (i : Int) ∧ E ≤ 4096 ∧ -1 ≤ E ∧ Hid (EndAt s.data.toList i E) ∧ wr = wx)
    case atStart => exact ⟨0, -1, by omega, rfl, rfl, by omega, by omega, Lib.hid (.inl ⟨rfl, Lib.NoOcc.zero _ _⟩), rfl⟩
    case round =>
      obtain ⟨i, E, hig, rfl, rfl, hE1, hE2, hEnd, rfl⟩ := hrel
      by_cases hgo : i + 4 ≤ s.size ∧ i + 4 ≤ 4096 ∧ E < 0
      · obtain ⟨g1, g2, g3⟩ := hgo
        obtain rfl : E = -1 := by omega
        have u1 : decide ((i : Int) + 4 ≤ (s.size : Int)) = true := decide_eq_true (by omega)
        have u1' : decide (i + 4 ≤ s.size) = true := decide_eq_true g1
        have u2 : decide ((i : Int) + 4 ≤ 4096) = true := decide_eq_true (by omega)
        have u2' : decide (i + 4 ≤ 4096) = true := decide_eq_true g2
        have hocc := occ_four s g1 g2
        obtain ⟨hb, hhb⟩ : ∃ q, ((s.extract i (i + 4)).toList == [13, 10, 13, 10]) = q := ⟨_, rfl⟩
        rw [hhb] at hocc
        have hno : Lib.NoOcc (s.data.toList.take 4096) ends4 i := by
          rcases hEnd.out with ⟨_, h⟩ | ⟨h, _⟩
          · exact h
          · omega
        cases hb with
        | true =>
          have hn : Hid (EndAt s.data.toList (i + 1) (i : Int)) := Lib.hid (.inr ⟨by omega, Lib.index_hit hno (by rw [List.length_take, dat_len]; omega) hocc⟩)
          clear hno hocc
          go_wp2_with fail
          go_roundg (s.size + 1 - (i + 1))
          case measure => omega
          case rel => exact ⟨i + 1, (i : Int), by omega, rfl, by go_num, by omega, by omega, hn, rfl⟩
        | false =>
          have hn : Hid (EndAt s.data.toList (i + 1) (-1)) := Lib.hid (.inl ⟨rfl, hno.succ hocc⟩)
          clear hno hocc
          go_wp2_with fail
          go_roundg (s.size + 1 - (i + 1))
          case measure => omega
          case rel => exact ⟨i + 1, -1, by omega, rfl, by go_num, by omega, by omega, hn, rfl⟩
      · have hidx : Lib.index (s.data.toList.take 4096) ends4 = E := by
          by_cases g1 : i + 4 ≤ s.size
          · by_cases g2 : i + 4 ≤ 4096
            · exact endAt_hit hEnd.out (by omega)
            · exact endAt_miss hEnd.out (by omega)
          · exact endAt_miss hEnd.out (by omega)
        have hor : (decide ((i : Int) + 4 ≤ (s.size : Int)) = false ∧ decide (i + 4 ≤ s.size) = false) ∨ (decide ((i : Int) + 4 ≤ (s.size : Int)) = true ∧ decide (i + 4 ≤ s.size) = true ∧ decide ((i : Int) + 4 ≤ 4096) = false ∧ decide (i + 4 ≤ 4096) = false) ∨
            (decide ((i : Int) + 4 ≤ (s.size : Int)) = true ∧ decide (i + 4 ≤ s.size) = true ∧ decide ((i : Int) + 4 ≤ 4096) = true ∧ decide (i + 4 ≤ 4096) = true ∧ decide (E < 0) = false) := by
          by_cases g1 : i + 4 ≤ s.size
          · by_cases g2 : i + 4 ≤ 4096
            · exact .inr (.inr ⟨decide_eq_true (by omega), decide_eq_true g1, decide_eq_true (by omega), decide_eq_true g2, decide_eq_false (by omega)⟩)
            · exact .inr (.inl ⟨decide_eq_true (by omega), decide_eq_true g1, decide_eq_false (by omega), decide_eq_false g2⟩)
          · exact .inl ⟨decide_eq_false (by omega), decide_eq_false g1⟩
        have hi0 : i ≤ s.size + 1 := by omega
        clear hgo hig hEnd
        have hl := dat_len s
        rcases Int.lt_or_le E 0 with hneg | hpos
        · have e1 : decide (E < 0) = true := decide_eq_true hneg
          by_cases hfull : 4096 ≤ s.size
          · have e2 : decide ((4096 : Int) ≤ (s.size : Int)) = true := decide_eq_true (by omega)
            have e2' : decide (4096 ≤ s.size) = true := decide_eq_true hfull
            have HE : Hid (feedS s0.data.toList = (A ++ [refG 431], [], true)) := Lib.hid (by rw [hFS.out, feed_wait431 (by rw [hidx]; exact hneg) (by rw [hl]; exact hfull)])
            clear hidx hl hFS
            rcases hor with ⟨u1, u1'⟩ | ⟨u1, u1', u2, u2'⟩ | ⟨u1, u1', u2, u2', u3⟩
            case inr.inr => exact absurd (of_decide_eq_false u3) (by simp; omega)
            all_goals
              go_wp2_with (at_builtin; refine wpList_append_own _ rfl _ _ 29 rfl w.heap.size 59 i0 _ 5 72 Tryz.underlying29 hti hz0 hz1 hz2 rfl (by decide) _ A.length (cellsF fG A) rfl (World.ownsRow.alloc (show wr.ownsRow w.heap.size 59 5 _ A.length (cellsF fG A) from HO.out) _) ⟨wr.heap.size, 0, none⟩ 1 1 (fG (refG 431)) rfl rfl (cells_new _ _ _) (fG_one _) (by unfold maxLen; omega) (by omega) (by simp; omega) ?_; refine Hid.out ?_)
              refine Lib.hid ?_
              intro v2 w2 hown2 hg2 _
              have hb2 := (HBel.out.alloc HBel.out.size _).grown hg2 (by have := HBel.out.size; simp; omega) (fun k hk => (World.ownsRow.lt (show wr.ownsRow w.heap.size 59 5 _ A.length (cellsF fG A) from HO.out) k hk).1)
              have hO2 : OwnF fG 59 5 w2 w.heap.size v2 (A ++ [refG 431]) := by unfold OwnF; rw [List.length_append, cellsG_app]; exact hown2
              go_wp2_with fail
              go_ret3
              refine ⟨⟨v2, ?_, ?_⟩, hb2⟩
              · rw [HE.out]; rfl
              · rw [HE.out]; exact hO2
          · have e2 : decide ((4096 : Int) ≤ (s.size : Int)) = false := decide_eq_false (by omega)
            have e2' : decide (4096 ≤ s.size) = false := decide_eq_false hfull
            have HE : Hid (feedS s0.data.toList = (A, s.data.toList, false)) := Lib.hid (by rw [hFS.out, feed_wait0 (by rw [hidx]; exact hneg) (by rw [hl]; exact hfull)]; simp)
            clear hidx hl hFS
            rcases hor with ⟨u1, u1'⟩ | ⟨u1, u1', u2, u2'⟩ | ⟨u1, u1', u2, u2', u3⟩
            case inr.inr => exact absurd (of_decide_eq_false u3) (by simp; omega)
            all_goals
              go_wp2_with fail
              go_ret3
              refine ⟨⟨.slice av A.length cv, ?_, ?_⟩, HBel.out⟩
              · rw [HE.out, dat_len]; rfl
              · rw [HE.out]; exact HO.out
        · obtain ⟨e, rfl⟩ : ∃ e : Nat, E = (e : Int) := ⟨E.toNat, by omega⟩
          have e1 : decide ((e : Int) < 0) = false := decide_eq_false (by omega)
          have hroom := Lib.index_room (s.data.toList.take 4096) ends4 (by omega)
          rw [hidx, List.length_take, hl, show ends4.length = 4 from rfl] at hroom
          have he4 : e + 4 ≤ s.size := by omega
          have hF := feed_at hidx
          obtain ⟨se, hse⟩ : ∃ x, s.extract 0 e = x := ⟨_, rfl⟩
          have hsez : se.size ≤ 300000 := by rw [← hse, ByteArray.size_extract]; omega
          have hsed : s.data.toList.take e = se.data.toList := by rw [← hse, dat_take]
          rw [hsed] at hF
          have hph := (MapKept.heap_alloc wr (.cells #[.string ⟨#[]⟩, .string ⟨#[]⟩, .string ⟨#[]⟩, .string ⟨#[]⟩, .int .i64 0, .bool false, .bool false, .bool false, .bool false] 62)).1
          have HRd := Lib.hid (rread_any _ se hsez wr.heap.size ⟨#[]⟩ false hph)
          obtain ⟨st, hst⟩ : ∃ q, (headS se.data.toList).1 = q := ⟨_, rfl⟩
          obtain ⟨n, hn⟩ : ∃ q, (headS se.data.toList).2.2.2.2 = q := ⟨_, rfl⟩
          obtain ⟨gm, hgm⟩ : ∃ q, bytesL (headS se.data.toList).2.1 = q := ⟨_, rfl⟩
          obtain ⟨gp, hgp⟩ : ∃ q, bytesL (headS se.data.toList).2.2.1 = q := ⟨_, rfl⟩
          obtain ⟨gk, hgk⟩ : ∃ q, bytesL (headS se.data.toList).2.2.2.1 = q := ⟨_, rfl⟩
          have hn65 := (headS_facts se.data.toList).2
          rw [hst, hn] at hn65
          rw [hst, hn, hgm, hgp, hgk] at HRd hF
          have HF := Lib.hid hF
          have HSe := Lib.hid hsed
          clear hst hn hgm hgp hgk hF hsed hidx hroom hph
          by_cases h0 : st = 0
          · subst h0
            have hn6 := (hn65 rfl).2.2.2
            clear hn65
            have y0 : ((0 : Int) != 0) = false := rfl
            by_cases hsh : s.size < e + 4 + n
            · have y1 : decide ((s.size : Int) < (e : Int) + 4 + (n : Int)) = true := decide_eq_true (by omega)
              have y1' : decide (s.size < e + 4 + n) = true := decide_eq_true hsh
              have HE : Hid (feedS s0.data.toList = (A, s.data.toList, false)) := Lib.hid (by rw [hFS.out, HF.out, if_neg (by decide), if_pos (by rw [hl]; exact hsh)]; simp)
              clear hl hFS hsh
              rcases hor with ⟨u1, u1'⟩ | ⟨u1, u1', u2, u2'⟩ | ⟨u1, u1', u2, u2', u3⟩
              all_goals
                go_wp2_with (go_at_call 22; refine HRd.out.mono ?_; rintro e w5 ⟨rfl, hF5, hR5⟩; obtain ⟨fL, fK, fH, hb5⟩ := hR5 rfl; have d0 : w5.cell? ⟨wr.heap.size, 0, none⟩ = some (.string gm) := cell_of_block hb5 0; have d1 : w5.cell? ⟨wr.heap.size, 1, none⟩ = some (.string gp) := cell_of_block hb5 1; have d2 : w5.cell? ⟨wr.heap.size, 2, none⟩ = some (.string gk) := cell_of_block hb5 2; have d3 : w5.cell? ⟨wr.heap.size, 3, none⟩ = some (.string ⟨#[]⟩) := cell_of_block hb5 3; have d4 : w5.cell? ⟨wr.heap.size, 4, none⟩ = some (.int .i64 (n : Int)) := cell_of_block hb5 4; have fr := free_of_block hb5; have HB5 := Lib.hid hb5; have HF5 := Lib.hid hF5; clear hF5 hb5 hR5)
                have h1 : Below wr.heap.size wr (wr.alloc (.cells #[.string ⟨#[]⟩, .string ⟨#[]⟩, .string ⟨#[]⟩, .string ⟨#[]⟩, .int .i64 0, .bool false, .bool false, .bool false, .bool false] 62)) := (Below.refl _ _).alloc (Nat.le_refl _) _
                have hb5 : Below wr.heap.size wr w5 := h1.trans (HF5.out.toBelow h1.size (by intro r hr j hj; simp only [List.mem_singleton] at hr; subst hr; injection hj with hj; omega))
                go_ret3
                refine ⟨⟨.slice av A.length cv, ?_, ?_⟩, HBel.out.trans (hb5.mono HBel.out.size)⟩
                · rw [HE.out, dat_len]; rfl
                · rw [HE.out]; exact HO.out.kept hb5
            · have y1 : decide ((s.size : Int) < (e : Int) + 4 + (n : Int)) = false := decide_eq_false (by omega)
              have y1' : decide (s.size < e + 4 + n) = false := decide_eq_false hsh
              obtain ⟨sb, hsb⟩ : ∃ x, s.extract (e + 4) (e + 4 + n) = x := ⟨_, rfl⟩
              obtain ⟨s2, hs2⟩ : ∃ x, s.extract (e + 4 + n) s.size = x := ⟨_, rfl⟩
              have hsbz : sb.size ≤ 300000 := by rw [← hsb, ByteArray.size_extract]; omega
              have hs2z : s2.size + 4 ≤ s.size := by rw [← hs2, ByteArray.size_extract]; omega
              have HE : Hid (feedS s0.data.toList = ((A ++ [⟨gm, gp, gk, sb, 0⟩]) ++ (feedS s2.data.toList).1, (feedS s2.data.toList).2)) := Lib.hid (by
                rw [hFS.out, HF.out, if_neg (by decide), if_neg (by rw [hl]; exact hsh)]
                have q1 : (s.data.toList.drop (e + 4)).take n = sb.data.toList := by rw [← hsb, dat_piece, show e + 4 + n - (e + 4) = n by omega]
                have q2 : s.data.toList.drop (e + 4 + n) = s2.data.toList := by rw [← hs2, dat_drop]
                rw [q1, q2, bytesL_data]
                simp)
              clear hl hFS
              rcases hor with ⟨u1, u1'⟩ | ⟨u1, u1', u2, u2'⟩ | ⟨u1, u1', u2, u2', u3⟩
              all_goals
                go_upto_region 18 with (go_at_call 22; refine HRd.out.mono ?_; rintro e w5 ⟨rfl, hF5, hR5⟩; obtain ⟨fL, fK, fH, hb5⟩ := hR5 rfl; have d0 : w5.cell? ⟨wr.heap.size, 0, none⟩ = some (.string gm) := cell_of_block hb5 0; have d1 : w5.cell? ⟨wr.heap.size, 1, none⟩ = some (.string gp) := cell_of_block hb5 1; have d2 : w5.cell? ⟨wr.heap.size, 2, none⟩ = some (.string gk) := cell_of_block hb5 2; have d3 : w5.cell? ⟨wr.heap.size, 3, none⟩ = some (.string ⟨#[]⟩) := cell_of_block hb5 3; have d4 : w5.cell? ⟨wr.heap.size, 4, none⟩ = some (.int .i64 (n : Int)) := cell_of_block hb5 4; have fr := free_of_block hb5; have HB5 := Lib.hid hb5; have HF5 := Lib.hid hF5; clear hF5 hb5 hR5)
                have h1 : Below wr.heap.size wr (wr.alloc (.cells #[.string ⟨#[]⟩, .string ⟨#[]⟩, .string ⟨#[]⟩, .string ⟨#[]⟩, .int .i64 0, .bool false, .bool false, .bool false, .bool false] 62)) := (Below.refl _ _).alloc (Nat.le_refl _) _
                have hb5 : Below wr.heap.size wr w5 := h1.trans (HF5.out.toBelow h1.size (by intro r hr j hj; simp only [List.mem_singleton] at hr; subst hr; injection hj with hj; omega))
                have HB6 := Lib.hid (rh_set HB5.out 3 (.string sb))
                have hF6 := (Frm.refl [some wr.heap.size] w5).set (b := wr.heap.size) (i := 3) (.string sb) (by simp)
                have hb6 : Below wr.heap.size wr (w5.setCell ⟨wr.heap.size, 3, none⟩ (.string sb)) := hb5.trans (hF6.toBelow hb5.size (by intro r hr j hj; simp only [List.mem_singleton] at hr; subst hr; injection hj with hj; omega))
                go_upto_region 19 with fail
                obtain ⟨w6, hw6⟩ : ∃ w6, w5.setCell ⟨wr.heap.size, 3, none⟩ (.string sb) = w6 := ⟨_, rfl⟩
                rw [hw6] at HB6 hb6 ⊢
                have HO6 := Lib.hid (HO.out.kept hb6)
                have HBe6 := Lib.hid (HBel.out.trans (hb6.mono HBel.out.size))
                have hb6z := HBe6.out.size
                have d0 : w6.cell? ⟨wr.heap.size, 0, none⟩ = some (.string gm) := cell_of_block HB6.out 0
                have d1 : w6.cell? ⟨wr.heap.size, 1, none⟩ = some (.string gp) := cell_of_block HB6.out 1
                have d2 : w6.cell? ⟨wr.heap.size, 2, none⟩ = some (.string gk) := cell_of_block HB6.out 2
                have d3 : w6.cell? ⟨wr.heap.size, 3, none⟩ = some (.string sb) := cell_of_block HB6.out 3
                have d4 : w6.cell? ⟨wr.heap.size, 4, none⟩ = some (.int .i64 (n : Int)) := cell_of_block HB6.out 4
                have hwz : wr.heap.size < w6.heap.size := lt_of_block HB6.out
                clear hw6 hF6 hb5 hb6 h1 fr
                go_wp2_with (at_builtin; refine wpList_append_own _ rfl _ _ 29 rfl w.heap.size 59 i0 _ 5 72 Tryz.underlying29 hti hz0 hz1 hz2 rfl (by decide) _ A.length (cellsF fG A) rfl (World.ownsRow.alloc (show w6.ownsRow w.heap.size 59 5 _ A.length (cellsF fG A) from HO6.out) _) ⟨w6.heap.size, 0, none⟩ 1 1 (fG ⟨gm, gp, gk, sb, 0⟩) rfl rfl (cells_new _ _ _) (fG_one _) (by unfold maxLen; omega) (by omega) (by simp; omega) ?_; refine Hid.out ?_)
                refine Lib.hid ?_
                intro v2 w2 hown2 hg2 _
                have hb2 := (HBe6.out.alloc HBe6.out.size _).grown hg2 (by have := HBe6.out.size; simp; omega) (fun k hk => (World.ownsRow.lt (show w6.ownsRow w.heap.size 59 5 _ A.length (cellsF fG A) from HO6.out) k hk).1)
                have hO2 : OwnF fG 59 5 w2 w.heap.size v2 (A ++ [⟨gm, gp, gk, sb, 0⟩]) := by unfold OwnF; rw [List.length_append, cellsG_app]; exact hown2
                have hblk2 := (hg2.block wr.heap.size (by simp; omega) (own_type HO6.out HB6.out)).trans ((Below.block ((Below.refl _ _).alloc (Nat.le_refl _) _) _ hwz).trans HB6.out)
                have d4 : w2.cell? ⟨wr.heap.size, 4, none⟩ = some (.int .i64 (n : Int)) := cell_of_block hblk2 4
                clear hblk2 hg2 hown2
                go_wp2_with fail
                go_roundg (s2.size + 1)
                case measure => omega
                case rel => exact ⟨s2, A ++ [⟨gm, gp, gk, sb, 0⟩], _, by omega, by omega, congrArg Value.string hs2, rfl, hO2, by rw [List.length_append, List.length_singleton]; omega, hb2, HE⟩
          · have y0 : (st != 0) = true := bne_iff_ne.2 h0
            have HE : Hid (feedS s0.data.toList = (A ++ [refG st], [], true)) := Lib.hid (by rw [hFS.out, HF.out, if_pos h0])
            clear hl hFS hn65
            rcases hor with ⟨u1, u1'⟩ | ⟨u1, u1', u2, u2'⟩ | ⟨u1, u1', u2, u2', u3⟩
            all_goals
              go_wp2_with (go_at_call 22; refine HRd.out.mono ?_; rintro e w5 ⟨rfl, hF5, -⟩; refine Hid.out ?_)
              refine Lib.hid ?_
              have hb5 : Below wr.heap.size wr w5 := by
                have h1 : Below wr.heap.size wr (wr.alloc (.cells #[.string ⟨#[]⟩, .string ⟨#[]⟩, .string ⟨#[]⟩, .string ⟨#[]⟩, .int .i64 0, .bool false, .bool false, .bool false, .bool false] 62)) := (Below.refl _ _).alloc (Nat.le_refl _) _
                exact h1.trans (hF5.toBelow h1.size (by intro r hr j hj; simp only [List.mem_singleton] at hr; subst hr; injection hj with hj; omega))
              have HO5 := Lib.hid (HO.out.kept hb5)
              have HB5 := Lib.hid (HBel.out.trans (hb5.mono HBel.out.size))
              have hb5z := HB5.out.size
              clear hF5 hb5
              go_wp2_with (at_builtin; refine wpList_append_own _ rfl _ _ 29 rfl w.heap.size 59 i0 _ 5 72 Tryz.underlying29 hti hz0 hz1 hz2 rfl (by decide) _ A.length (cellsF fG A) rfl (World.ownsRow.alloc (show w5.ownsRow w.heap.size 59 5 _ A.length (cellsF fG A) from HO5.out) _) ⟨w5.heap.size, 0, none⟩ 1 1 (fG (refG st)) rfl rfl (cells_new _ _ _) (fG_one _) (by unfold maxLen; omega) (by omega) (by simp; omega) ?_; refine Hid.out ?_)
              refine Lib.hid ?_
              intro v2 w2 hown2 hg2 _
              have hb2 := (HB5.out.alloc HB5.out.size _).grown hg2 (by have := HB5.out.size; simp; omega) (fun k hk => (World.ownsRow.lt (show w5.ownsRow w.heap.size 59 5 _ A.length (cellsF fG A) from HO5.out) k hk).1)
              have hO2 : OwnF fG 59 5 w2 w.heap.size v2 (A ++ [refG st]) := by unfold OwnF; rw [List.length_append, cellsG_app]; exact hown2
              go_wp2_with fail
              go_ret3
              refine ⟨⟨v2, ?_, ?_⟩, hb2⟩
              · rw [HE.out]; rfl
              · rw [HE.out]; exact hO2
end Go.Proofs.YtlgfhbfdjckdnaaGreatDoor
