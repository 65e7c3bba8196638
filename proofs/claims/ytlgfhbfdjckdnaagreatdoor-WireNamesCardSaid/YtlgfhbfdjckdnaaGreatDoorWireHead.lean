/- (*wire.head).read (seat wire). -/
import Derived.Test.YtlgfhbfdjckdnaaGreatDoorWireLine
set_option maxRecDepth 100000
namespace Go.Proofs.YtlgfhbfdjckdnaaGreatDoor
open Go.RowKit

theorem line_any (B : Nat) (w : World) (s : ByteArray) (ph bm N : Nat) (m0 p0 b0 : ByteArray) (h : HS) (hg : GndB B w) (hs : s.size ≤ 300000) (hb : HdB w ph m0 p0 (bytesL h.key) b0 (h.size : Int) bm) (hS : SeenK w bm N h.seen) (hN : N ≤ 1000000) (h1 : B ≤ ph) (h2 : B ≤ bm) (h3 : ph ≠ bm) :
    Calls Tryz.prog 54 #[.pointer (some ⟨ph, 0, none⟩), .string s] w (LineP w ph bm N m0 p0 b0 (lineS h s.data.toList)) := by
  by_cases hbad : (Lib.cut s.data.toList [58]).2.2 = false ∨ (Lib.cut s.data.toList [58]).1 = [] ∨ allL nmC (Lib.cut s.data.toList [58]).1 = false
  · exact line_bad w hg.gnd s hs ph bm N m0 p0 b0 h hbad
  · have hok : (Lib.cut s.data.toList [58]).2.2 = true := by
      cases e : (Lib.cut s.data.toList [58]).2.2
      · exact absurd (.inl e) hbad
      · rfl
    have hn1 : (Lib.cut s.data.toList [58]).1 ≠ [] := fun e => hbad (.inr (.inl e))
    have hn2 : allL nmC (Lib.cut s.data.toList [58]).1 = true := by
      cases e : allL nmC (Lib.cut s.data.toList [58]).1
      · exact absurd (.inr (.inr e)) hbad
      · rfl
    have L : LnK B w s ph bm N m0 p0 b0 h := ⟨hg, hs, hb, hS, hN, h1, h2, h3, hok, hn1, hn2⟩
    by_cases k1 : Lib.toLowerA (Lib.cut s.data.toList [58]).1 = clenK
    · cases ha : h.seen.contains (Lib.toLowerA (Lib.cut s.data.toList [58]).1)
      · exact line_clen1 B w s ph bm N m0 p0 b0 h L k1 ha
      · exact line_clen2 B w s ph bm N m0 p0 b0 h L k1 ha
    by_cases k2 : Lib.toLowerA (Lib.cut s.data.toList [58]).1 = ikeyK
    · cases ha : h.seen.contains (Lib.toLowerA (Lib.cut s.data.toList [58]).1)
      · exact line_ikey1 B w s ph bm N m0 p0 b0 h L k2 ha
      · exact line_ikey2 B w s ph bm N m0 p0 b0 h L k2 ha
    by_cases k3 : Lib.toLowerA (Lib.cut s.data.toList [58]).1 = hostK
    · cases ha : h.seen.contains (Lib.toLowerA (Lib.cut s.data.toList [58]).1)
      · exact line_host1 B w s ph bm N m0 p0 b0 h L k3 ha
      · exact line_host2 B w s ph bm N m0 p0 b0 h L k3 ha
    by_cases k4 : Lib.toLowerA (Lib.cut s.data.toList [58]).1 = tencK
    · cases ha : h.seen.contains (Lib.toLowerA (Lib.cut s.data.toList [58]).1)
      · exact line_tenc1 B w s ph bm N m0 p0 b0 h L k4 ha
      · exact line_tenc2 B w s ph bm N m0 p0 b0 h L k4 ha
    exact line_other B w s ph bm N m0 p0 b0 h L k1 k2 k3 k4

theorem linesS_cons (h : HS) (l : List UInt8) (r : List (List UInt8)) : linesS h (l :: r) = if (lineS h l).1 ≠ 0 then ((lineS h l).1, h) else linesS (lineS h l).2 r := rfl

/-- What reading a head leaves. -/
def HeadR (w : World) (ph bm : Nat) (b0 : ByteArray) (r : Int × List UInt8 × List UInt8 × List UInt8 × Nat) (e : Ending) (w' : World) : Prop :=
  e = .returned (.int .i64 r.1) ∧ Frm [some ph, some bm] w w' ∧ (r.1 = 0 → HdB w' ph (bytesL r.2.1) (bytesL r.2.2.1) (bytesL r.2.2.2.1) b0 (r.2.2.2.2 : Int) bm)

set_option maxHeartbeats 4000000 in
theorem read_any (B : Nat) (w : World) (hg : GndB B w) (s : ByteArray) (hs : s.size ≤ 300000) (ph bm : Nat) (b0 : ByteArray) (hb : HdB w ph (bytesL []) (bytesL []) (bytesL []) b0 0 bm) (hS : SeenK w bm 0 []) (h1 : B ≤ ph) (h2 : B ≤ bm) (h3 : ph ≠ bm) :
    Calls Tryz.prog 35 #[.pointer (some ⟨ph, 0, none⟩), .string s] w (HeadR w ph bm b0 (headS s.data.toList)) := by
  obtain ⟨mx, hmx⟩ := hg.gnd.maxl
  have HSp := Lib.hid (split_run s ⟨#[13, 10]⟩ mx w (by omega) (hmx w (Below.refl _ _)) (by decide))
  have hd : (pcsB s ⟨#[13, 10]⟩).map (·.data.toList) = Lib.split s.data.toList [13, 10] := pcsB_data s ⟨#[13, 10]⟩
  have hlen := pcsB_len s ⟨#[13, 10]⟩ (by decide)
  have hsz := fun x => pcsB_size (s := s) (sep := ⟨#[13, 10]⟩) (x := x)
  have hcl := Lib.countB_le ⟨#[13, 10]⟩ (by decide) s.size s (Nat.le_refl _)
  unfold headS
  rw [← hd]
  obtain ⟨P, hP⟩ : ∃ P, pcsB s ⟨#[13, 10]⟩ = P := ⟨_, rfl⟩
  rw [hP] at HSp hsz hlen
  rw [hP]
  obtain ⟨n, hn⟩ : ∃ n, P.length = n := ⟨_, rfl⟩
  rw [hn] at HSp hlen
  have hn1 : 1 ≤ n := by omega
  have hn2 : n ≤ 300001 := by omega
  obtain ⟨W1, hW1⟩ : ∃ W1, w.alloc (.cells (P.map Value.string).toArray 9) = W1 := ⟨_, rfl⟩
  rw [hW1] at HSp
  have hblk : W1.heap[w.heap.size]? = some (.cells (P.map Value.string).toArray 9) := by rw [← hW1]; exact (MapKept.heap_alloc w _).1
  have BW : Hid (Below w.heap.size w W1) := by refine Lib.hid ?_; rw [← hW1]; exact (Below.refl _ _).alloc (Nat.le_refl _) _
  have hpl := lt_of_block hb
  have hml := hS.lt
  have hlt := lt_of_block hblk
  have HB1 : Hid (HdB W1 ph (bytesL []) (bytesL []) (bytesL []) b0 0 bm) := Lib.hid ((BW.out.block _ hpl).trans hb)
  have HS1 : Hid (SeenK W1 bm 0 []) := Lib.hid (hS.below BW.out)
  have HG1 : Hid (GndB B W1) := Lib.hid (hg.below BW.out)
  -- the pieces' cells, in whatever world
  have HCell : Hid (∀ W k, Frm [some ph, some bm] W1 W → k < n → ∃ x : ByteArray, P[k]? = some x ∧ x.size ≤ 300000 ∧ W.cell? ⟨w.heap.size, k, none⟩ = some (.string x)) := by
    refine Lib.hid (fun W k hF hk => ?_)
    have hk' : k < P.length := by omega
    refine ⟨P[k], List.getElem?_eq_getElem hk', Nat.le_trans (hsz _ (List.getElem_mem hk')) hs, ?_⟩
    have hbW := hF.block hblk (by
      intro r hr
      simp only [List.mem_cons, List.not_mem_nil, or_false] at hr
      rcases hr with rfl | rfl <;> (intro e; injection e with e; omega))
    rw [cell_of_block hbW, List.getElem?_toArray, List.getElem?_map, List.getElem?_eq_getElem hk']
    rfl
  have HLn := Lib.hid hn
  clear hmx hd hlen hsz hcl hP hW1 hblk hb hS hg hn
  go_enter Tryz.func35, Tryz.ntmps35
  go_wp2_with (go_at_call 51; refine HSp.out.mono ?_; rintro e w2 ⟨rfl, hw2⟩; subst w2)
  go_loopg [16] n (fun gh s16 wr => ∃ i : Nat, i + gh = n ∧ s16 = .int .i64 (i : Int) ∧ wr = W1 ∧ Hid (∀ (j : Nat) (x : ByteArray), j < i → P[j]? = some x → allL okC x.data.toList = true))
  case atStart => exact ⟨0, by omega, rfl, rfl, Lib.hid (fun j x hj => by omega)⟩
  case round =>
    obtain ⟨i, hig, rfl, hwr, hok⟩ := hrel
    subst wr
    by_cases hi : i < n
    · obtain ⟨x, hx, hxz, hxc⟩ := HCell.out W1 i (.refl _ _) hi
      have HX := Lib.hid hx
      have HA := Lib.hid (wall_any W1 x (by omega) _ okC eg_rd1_any rd1_any)
      obtain ⟨ab, hab⟩ : ∃ b, allB okC x = b := ⟨_, rfl⟩
      rw [hab] at HA
      have d1 : decide ((i : Int) < (n : Int)) = true := decide_eq_true (by omega)
      have d1' : decide (i < n) = true := decide_eq_true hi
      cases ab with
      | true =>
        have hn' : Hid (∀ (j : Nat) (x : ByteArray), j < i + 1 → P[j]? = some x → allL okC x.data.toList = true) := Lib.hid (fun j y hj hy => by
          by_cases e : j = i
          · subst e
            rw [HX.out] at hy
            injection hy with hy
            rw [← hy]; exact hab
          · exact hok.out j y (by omega) hy)
        clear hx hab
        go_wp2_with (go_at_call 38; refine HA.out.mono ?_; rintro e w7 ⟨rfl, rfl⟩)
        go_roundg (n - (i + 1))
        case measure => omega
        case rel => exact ⟨i + 1, by omega, by go_num, rfl, hn'⟩
      | false =>
        have hr : Hid (headP (P.map (·.data.toList)) = (400, [], [], [], 0)) := by
          refine Lib.hid ?_
          unfold headP
          rw [if_pos]
          rw [List.all_eq_false]
          exact ⟨x.data.toList, List.mem_map_of_mem (List.mem_of_getElem? HX.out), by rw [show allL okC x.data.toList = false from hab]; decide⟩
        clear hx hab
        go_wp2_with (go_at_call 38; refine HA.out.mono ?_; rintro e w7 ⟨rfl, rfl⟩)
        go_ret
        rw [hr.out]
        exact ⟨rfl, .ofBelow BW.out, fun h => by cases h⟩
    · have d1 : decide ((i : Int) < (n : Int)) = false := decide_eq_false (by omega)
      have d1' : decide (i < n) = false := decide_eq_false hi
      have hall : Hid ((P.map (·.data.toList)).all (allL okC) = true) := by
        refine Lib.hid (List.all_eq_true.2 (fun y hy => ?_))
        obtain ⟨x, hx, rfl⟩ := List.mem_map.1 hy
        obtain ⟨j, hj, rfl⟩ := List.getElem_of_mem hx
        exact hok.out j _ (by have := HLn.out; omega) (List.getElem?_eq_getElem hj)
      obtain ⟨x0, hx0, hx0z, hx0c⟩ := HCell.out W1 0 (.refl _ _) (by omega)
      have hhd : Hid ((P.map (·.data.toList)).headD [] = x0.data.toList) := by
        refine Lib.hid ?_
        cases P with
        | nil => cases hx0
        | cons y r =>
          injection hx0 with hx0
          rw [← hx0]; rfl
      obtain ⟨mx, hmx⟩ := HG1.out.gnd.maxl
      have HF := Lib.hid (first_any W1 mx (hmx W1 (Below.refl _ _)) x0 hx0z ph bm _ _ _ _ _ HB1.out)
      obtain ⟨fs, hfs⟩ : ∃ f, firstS x0.data.toList = f := ⟨_, rfl⟩
      rw [hfs] at HF
      have HFS := Lib.hid hfs
      clear hx0 hmx hfs hok
      by_cases hf0 : fs.1 = 0
      · obtain ⟨f1, m, p⟩ := fs
        obtain rfl : f1 = 0 := hf0
        -- the rest's value
        have hrest : Hid (∀ r : Int × HS, linesS ⟨[], [], 0⟩ (P.map (·.data.toList)).tail = r → headP (P.map (·.data.toList)) = if r.1 ≠ 0 then (r.1, [], [], [], 0) else if r.2.seen.contains hostK = false then (400, [], [], [], 0) else (0, m, p, r.2.key, r.2.size)) := by
          refine Lib.hid (fun r hr => ?_)
          unfold headP
          rw [hall.out, hhd.out, HFS.out, if_neg (by decide), if_neg (by simp), hr]
        have HLk : Hid (∀ (W : World) (N : Nat) (S : List (List UInt8)), SeenK W bm N S → (Instr.lookup 78 (.map (some bm)) (.string ⟨#[104, 111, 115, 116]⟩) false).run Tryz.prog W = .ok (.bool (S.contains hostK)) W) := Lib.hid (fun W N S h => h.look (zero_bool W) _ (by decide))
        have hF3S : Hid (∀ W, Frm [some ph] W1 W → SeenK W bm 0 [] ∧ Frm [some ph, some bm] W1 W) := Lib.hid (fun W hF => ⟨HS1.out.sameB (hF.keep bm HS1.out.lt (by intro r hr; simp only [List.mem_singleton] at hr; subst hr; intro e; injection e with e; exact h3 e)), hF.mono (by intro r hr; simp only [List.mem_singleton] at hr; subst hr; simp)⟩)
        by_cases hone : n = 1
        · subst hone
          have hr : Hid (headP (P.map (·.data.toList)) = (400, [], [], [], 0)) := by
            refine Lib.hid ?_
            rw [hrest.out (0, ⟨[], [], 0⟩) (by
              have := HLn.out
              match P, this with
              | [_], _ => rfl)]
            rfl
          go_upto_region 12 with (go_at_call 53; refine HF.out.mono ?_; rintro e w3 ⟨rfl, hF3, hH3⟩; have hHd := hH3 rfl; clear hH3)
          obtain ⟨hS3, hF3'⟩ := hF3S.out _ hF3
          have hlk := HLk.out w3 0 [] hS3
          have c5 : w3.cell? ⟨ph, 5, none⟩ = some (.map (some bm)) := cell_of_block hHd 5
          have hlk2 : (Instr.lookup 78 (.map (some bm)) (.string ⟨#[104, 111, 115, 116]⟩) false).run Tryz.prog w3 = .ok (.bool false) w3 := hlk
          clear hlk
          go_loopg [35] 0 (fun gh s35 wx => s35 = .int .i64 0 ∧ wx = w3)
          case atStart => exact ⟨rfl, rfl⟩
          case round =>
            obtain ⟨rfl, hwr⟩ := hrel
            subst wr
            go_wp2_with fail
            go_ret
            rw [hr.out]
            exact ⟨rfl, (Frm.ofBelow BW.out).trans hF3' (by intro r hr; exact .inl hr), fun h => by cases h⟩
        · obtain ⟨q, rfl⟩ : ∃ q, n = q + 1 := ⟨n - 1, by omega⟩
          have hq1 : 1 ≤ q := by omega
          have hq2 : q ≤ 300000 := by omega
          have hqI : (1 : Int) ≤ (q : Int) := by omega
          have hone' : Hid (¬ q + 1 = 1) := Lib.hid hone
          have dq : decide (q = 0) = false := decide_eq_false (by omega)
          have dq2 : (q == 0) = false := beq_eq_false_iff_ne.2 (by omega)
          clear hone
          go_upto_region 12 with (go_at_call 53; refine HF.out.mono ?_; rintro e w3 ⟨rfl, hF3, hH3⟩; have hHd := hH3 rfl; clear hH3)
          obtain ⟨hS3, hF3'⟩ := hF3S.out _ hF3
          go_loopg [35] q (fun gh s35 wx => ∃ (i : Nat) (h : HS), i + gh = q ∧ s35 = .int .i64 (i : Int) ∧ Frm [some ph, some bm] W1 wx ∧ Hid (HdB wx ph (bytesL m) (bytesL p) (bytesL h.key) b0 (h.size : Int) bm ∧ SeenK wx bm i h.seen ∧ linesS ⟨[], [], 0⟩ (P.map (·.data.toList)).tail = linesS h (((P.map (·.data.toList)).tail).drop i)))
          case atStart => exact ⟨0, ⟨[], [], 0⟩, by omega, rfl, hF3', Lib.hid ⟨hHd, hS3, rfl⟩⟩
          case round =>
            obtain ⟨i, h, hig, rfl, hFw, hst⟩ := hrel
            by_cases hi : i < q
            · obtain ⟨x, hx, hxz, hxc⟩ := HCell.out wr (i + 1) hFw (by omega)
              have hxc2 : wr.cell? ⟨w.heap.size, 1 + i, none⟩ = some (.string x) := by rw [Nat.add_comm]; exact hxc
              have hG : GndB B wr := HG1.out.frm hFw (by
                intro r hr k hk
                simp only [List.mem_cons, List.not_mem_nil, or_false] at hr
                rcases hr with rfl | rfl <;> (injection hk with hk; omega))
              have HL := Lib.hid (line_any B wr x ph bm i (bytesL m) (bytesL p) b0 h hG hxz hst.out.1 hst.out.2.1 (by omega) h1 h2 h3)
              have hstep : Hid (linesS ⟨[], [], 0⟩ (P.map (·.data.toList)).tail = if (lineS h x.data.toList).1 ≠ 0 then ((lineS h x.data.toList).1, h) else linesS (lineS h x.data.toList).2 (((P.map (·.data.toList)).tail).drop (i + 1))) := by
                refine Lib.hid ?_
                rw [hst.out.2.2, ← linesS_cons]
                congr 1
                have hlt' : i < ((P.map (·.data.toList)).tail).length := by
                  rw [List.length_tail, List.length_map]; have := HLn.out; omega
                rw [List.drop_eq_getElem_cons hlt']
                congr 1
                rw [List.getElem_tail, List.getElem_map]
                rw [List.getElem?_eq_getElem (by have := HLn.out; omega)] at hx
                injection hx with hx
                rw [hx]
              have d3 : decide ((i : Int) < (q : Int)) = true := decide_eq_true (by omega)
              have d3' : decide (i < q) = true := decide_eq_true hi
              obtain ⟨ls, hls⟩ : ∃ r, lineS h x.data.toList = r := ⟨_, rfl⟩
              rw [hls] at HL hstep
              obtain ⟨l1, h'⟩ := ls
              have HFw := Lib.hid hFw
              clear hx hxc hls hG hst
              by_cases hl0 : l1 = 0
              · subst hl0
                go_wp2_with (go_at_call 54; refine HL.out.mono ?_; rintro e w5 ⟨rfl, hF5, hP5⟩; have hP := hP5 rfl; clear hP5)
                go_roundg (q - (i + 1))
                case measure => omega
                case rel => exact ⟨i + 1, h', by omega, by go_num, HFw.out.trans hF5 (by intro r hr; exact .inl hr), Lib.hid ⟨hP.1, hP.2, by rw [hstep.out, if_neg (by simp)]⟩⟩
              · have hr : Hid (headP (P.map (·.data.toList)) = (l1, [], [], [], 0)) := by
                  refine Lib.hid ?_
                  rw [hrest.out (l1, h) (by rw [hstep.out, if_pos hl0]), if_pos hl0]
                have e3 : (l1 == 0) = false := beq_eq_false_iff_ne.2 hl0
                have HL0 := Lib.hid hl0
                clear hl0
                go_wp2_with (go_at_call 54; refine HL.out.mono ?_; rintro e w5 ⟨rfl, hF5, -⟩)
                go_ret
                rw [hr.out]
                exact ⟨rfl, (Frm.ofBelow BW.out).trans (HFw.out.trans hF5 (by intro r hr; exact .inl hr)) (by intro r hr; exact .inl hr), fun h => absurd h HL0.out⟩
            · obtain rfl : i = q := by omega
              have hend : linesS ⟨[], [], 0⟩ (P.map (·.data.toList)).tail = (0, h) := by
                rw [hst.out.2.2, List.drop_of_length_le (by rw [List.length_tail, List.length_map]; have := HLn.out; omega)]
                rfl
              have hr := hrest.out _ hend
              have HR := Lib.hid hr
              have hlk := HLk.out wr i h.seen hst.out.2.1
              have c5 : wr.cell? ⟨ph, 5, none⟩ = some (.map (some bm)) := cell_of_block hst.out.1 5
              have d3 : decide ((i : Int) < (i : Int)) = false := decide_eq_false (by omega)
              obtain ⟨hb', hhb⟩ : ∃ b, h.seen.contains hostK = b := ⟨_, rfl⟩
              rw [hhb] at hlk HR
              have HFw := Lib.hid hFw
              clear hr hend
              cases hb'
              · go_wp2_with fail
                go_ret
                rw [HR.out]
                exact ⟨rfl, (Frm.ofBelow BW.out).trans HFw.out (by intro r hr; exact .inl hr), fun h => by cases h⟩
              · go_wp2_with fail
                go_ret
                rw [HR.out]
                exact ⟨rfl, (Frm.ofBelow BW.out).trans HFw.out (by intro r hr; exact .inl hr), fun _ => hst.out.1⟩
      · have hr : Hid (headP (P.map (·.data.toList)) = (fs.1, [], [], [], 0)) := by
          refine Lib.hid ?_
          unfold headP
          rw [hall.out, hhd.out, HFS.out, if_neg (by decide), if_pos hf0]
        have e1 : (fs.1 == 0) = false := beq_eq_false_iff_ne.2 hf0
        obtain ⟨f1, hf1⟩ : ∃ f, fs.1 = f := ⟨_, rfl⟩
        rw [hf1] at HF e1 hf0 hr
        have HF0 := Lib.hid hf0
        clear hf1
        go_wp2_with (go_at_call 53; refine HF.out.mono ?_; rintro e w3 ⟨rfl, hF3, -⟩)
        go_ret
        rw [hr.out]
        exact ⟨rfl, (Frm.ofBelow BW.out).trans hF3 (by intro r hr; simp only [List.mem_singleton] at hr; subst hr; simp), fun h => absurd h HF0.out⟩
end Go.Proofs.YtlgfhbfdjckdnaaGreatDoor
