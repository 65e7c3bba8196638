/- Texts fused by fuse.py: KExprPars. -/
import Derived.Test.YtjcaaahbfkjipaaGreatDoorKZ34
import Derived.Laws.EntriesVeiled
import Derived.BigRegion
/- Of ExprPars: what FRuleNames uses (shake.py). -/
set_option maxRecDepth 100000
/- expr.Parse (seat expr). -/
namespace Go.Proofs.YtjcaaahbfkjipaaGreatDoor
open Go.RowKit
theorem from_all {s : ByteArray} (hs : s.size ≤ 256) {B px cx cf c7 c8 c9 c10 : Nat} : ∀ f, FromC s B px cx cf c7 c8 c9 c10 f := by
  intro f
  induction f using Nat.strongRecOn with
  | _ f ih =>
    cases f with
    | zero => intro w line st _ _ _ _ hmu; omega
    | succ k => exact from_step hs (fun j hj => ih j (by omega))
def parseR (w : World) (n : Nd) (vk : Value) (pos err : Int) (r : Rs Nd) : Prop := match r with
  | .ok m => n = m ∧ pos = 0 ∧ err = 0 ∧ HeadW m ∧ KidsR w w.heap.size vk m.kids
  | .error (x, p) => n = nilN ∧ vk = .slice none 0 0 ∧ pos = (p : Int) ∧ err = x ∧ x ≠ 0
def ParseC (w : World) (r : Rs Nd) (e : Ending) (w' : World) : Prop :=
  ∃ n a c d pos err, e = .returned (.tuple #[valN n (.slice a c d), .int .i64 pos, .int .i64 err]) ∧ Below w.heap.size w w' ∧ parseR w' n (.slice a c d) pos err r
theorem parseE_long {s : List UInt8} (h : 256 < s.length) : parseE s = .error (3, 0) := by unfold parseE; rw [if_pos h]
def endE (r : Nd × (Tk × Nat)) : Rs Nd := match r.2.1 with
  | .fin _ => .ok r.1
  | t => .error (4, t.at_)
theorem parseE_is {s : List UInt8} (h : s.length ≤ 256) : parseE s = ((nextE s 0 >>= fun st => prsE s (2 * s.length + 10) none 1 st) >>= endE) := by
  unfold parseE
  rw [if_neg (by omega), bind_assoc']
  rfl
theorem LxE.c11 {w : World} {px : Nat} {s : ByteArray} {x a : Int} (h : LxE w px s x a) : ∃ (en : Bool) (ta : Int), w.cell? ⟨px, 11, none⟩ = some (.bool en) ∧ w.cell? ⟨px, 10, none⟩ = some (.int .i64 ta) := by
  obtain ⟨i, say, h1, h2, op, kind, num, tr, text, name, vk, ta, en, hb⟩ := h
  exact ⟨en, ta, cell_of_block hb 11, cell_of_block hb 10⟩
theorem LxE.c13 {w : World} {px : Nat} {s : ByteArray} {x a : Int} (h : LxE w px s x a) : w.cell? ⟨px, 13, none⟩ = some (.int .i64 a) := by
  obtain ⟨i, say, h1, h2, op, kind, num, tr, text, name, vk, ta, en, hb⟩ := h
  exact cell_of_block hb 13
theorem endE_fin {n : Nd} {st : Tk × Nat} (h : isFin st.1 = true) : endE (n, st) = .ok n := by
  obtain ⟨tk, i⟩ := st
  cases tk with
  | fin a => rfl
  | nd m a => cases h
  | say u a => cases h
theorem endE_no {n : Nd} {st : Tk × Nat} (h : isFin st.1 = false) : endE (n, st) = .error (4, st.1.at_) := by
  obtain ⟨tk, i⟩ := st
  cases tk with
  | fin a => cases h
  | nd m a => rfl
  | say u a => rfl
theorem drew_cell (X : World) (a : Addr) : X.drew.cell? a = X.cell? a := rfl
theorem set7_cell {W : World} {p : Nat} {v0 v1 v2 v3 v4 v5 v6 : Value} {k j : Nat} (hk : k ≠ p) : (set7 W p v0 v1 v2 v3 v4 v5 v6).cell? ⟨k, j, none⟩ = W.cell? ⟨k, j, none⟩ := by
  unfold World.cell?
  simp only [set7_keep W p v0 v1 v2 v3 v4 v5 v6 hk]
set_option maxHeartbeats 8000000 in
theorem parse_any (w : World) (hG : GA w.heap.size w) (s : ByteArray) (hsz : s.size ≤ 140737488355328) : Calls Tryz.prog 115 #[.string s] w (ParseC w (parseE s.data.toList)) := by
  have hsl := sl_len s
  obtain ⟨w1, p0, hp0, hw1, l0, n0, b0⟩ := box_new w nilObj
  obtain ⟨d0, d1, d2, d3, d4, d5, d6, df⟩ := n7_cells n0
  have HB := Lib.hid b0
  have HN0 := Lib.hid n0
  have HP0 := Lib.hid hp0
  by_cases hs : s.size ≤ 256
  · have e1 : decide ((256 : Int) < (s.size : Int)) = false := decide_eq_false (by omega)
    have e1' : decide (256 < s.size) = false := decide_eq_false (by omega)
    obtain ⟨w2, px, hpx, hw2, l2, n2, b2⟩ := box_new w1 (.cells #[.string s, .int .i64 0, .int .u8 0, .int .u8 0, .int .i64 0, .bool false, .string ⟨#[]⟩, .string ⟨#[]⟩, .slice none 0 0, .string ⟨#[]⟩, .int .i64 0, .bool false, .int .i64 0, .int .i64 0] 125)
    obtain ⟨w3, cx, hcx, hw3, l3, n3, b3⟩ := box_new w2 (.cells #[.pointer (some ⟨px, 0, none⟩)] 121)
    have k0 : w3.cell? ⟨cx, 0, none⟩ = some (.pointer (some ⟨px, 0, none⟩)) := cell_of_block n3 0
    have hlx : LxB w3 px s ((0 : Nat) : Int) 0 0 0 false ⟨#[]⟩ ⟨#[]⟩ (.slice none 0 0) ⟨#[]⟩ 0 false 0 0 := (b3.block px l2).trans n2
    have hb13 : Below w.heap.size w w3 := b0.trans ((b2.trans (b3.mono b2.size)).mono b0.size)
    have hG3 := hG.step hb13
    have hz1 := b0.size
    have hz2 := b2.size
    have hz3 := b3.size
    have HNX := Lib.hid (next_any w.heap.size w3 hG3 px (by omega) hb13.size s (by omega) 0 (by omega) _ _ _ _ _ _ _ _ _ _ hlx)
    have HB13 := Lib.hid hb13
    have HG3 := Lib.hid hG3
    have HN3 := Lib.hid n3
    have HL3 := Lib.hid hlx
    have HN03 := Lib.hid (((b2.trans (b3.mono b2.size)).block p0 l0).trans n0)
    clear hG n0 b0 n2 b2 n3 b3 hlx hb13 hG3
    go_enter Tryz.func115, Tryz.ntmps115
    go_upto_region 4 with fail
    go_cut [] (fun wx => ∃ w4, w4 = wx ∧ Hid (Frm [some px] w3 w4) ∧ Hid (nextR w4 px s (nextE s.data.toList 0)))
    case first =>
      go_wp2_with (go_at_call 125; refine HNX.out.mono ?_; rintro e w4 ⟨rfl, hF4, hn4⟩; have H4 := Lib.hid (And.intro hF4 hn4); clear hF4 hn4)
      go_meet
      exact ⟨_, rfl, Lib.hid H4.out.1, Lib.hid H4.out.2⟩
    case rest =>
      obtain ⟨w4, rfl, hF4, hn4⟩ := hcut
      obtain ⟨wa, cf, hcf, hwa, la, na, ba⟩ := box_new w4 (.cells #[.nilFunc] 126)
      obtain ⟨wb, c7, hc7, hwb, lb, nb, bb⟩ := box_new wa (.cells #[.func (.func 126) #[] #[.pointer (some ⟨cx, 0, none⟩), .pointer (some ⟨cf, 0, none⟩)]] 127)
      obtain ⟨wc, c8, hc8, hwc, lc, nc, bc⟩ := box_new wb (.cells #[.func (.func 127) #[] #[.pointer (some ⟨cx, 0, none⟩)]] 128)
      obtain ⟨wd, c9, hc9, hwd, ld, nd, bd⟩ := box_new wc (.cells #[.func (.func 129) #[] #[.pointer (some ⟨cx, 0, none⟩), .pointer (some ⟨cf, 0, none⟩)]] 128)
      obtain ⟨we, c10, hc10, hwe, le, ne, be⟩ := box_new wd (.cells #[.func (.func 130) #[] #[.pointer (some ⟨cx, 0, none⟩), .pointer (some ⟨c7, 0, none⟩), .pointer (some ⟨c9, 0, none⟩), .pointer (some ⟨c8, 0, none⟩)]] 126)
      have hz4 := hF4.out.size
      have hza := ba.size
      have hzb := bb.size
      have hzc := bc.size
      have hzd := bd.size
      have hze := be.size
      have be4 : Below w4.heap.size w4 we := ba.trans ((bb.trans ((bc.trans ((bd.trans (be.mono bd.size)).mono bc.size)).mono bb.size)).mono ba.size)
      have beb : Below wb.heap.size wb we := bc.trans ((bd.trans (be.mono bd.size)).mono bc.size)
      have bec : Below wc.heap.size wc we := bd.trans (be.mono bd.size)
      have bea : Below wa.heap.size wa we := bb.trans (beb.mono bb.size)
      obtain ⟨w5, hw5⟩ : ∃ w5, we.setCell ⟨cf, 0, none⟩ (.func (.func 131) #[] #[.pointer (some ⟨cx, 0, none⟩), .pointer (some ⟨c10, 0, none⟩), .pointer (some ⟨cf, 0, none⟩)]) = w5 := ⟨_, rfl⟩
      have hcell : we.cell? ⟨cf, 0, none⟩ = some .nilFunc := cell_of_block ((bea.block cf la).trans na) 0
      have hfz : we.frozen? ⟨cf, 0, none⟩ = false := free_of_block ((bea.block cf la).trans na) 0
      have h5f : w5.heap[cf]? = some (.cells #[.func (.func 131) #[] #[.pointer (some ⟨cx, 0, none⟩), .pointer (some ⟨c10, 0, none⟩), .pointer (some ⟨cf, 0, none⟩)]] 126 (0, 0)) := by rw [← hw5]; exact set_selfL _ ((bea.block cf la).trans na)
      have h5o : ∀ k, k ≠ cf → w5.heap[k]? = we.heap[k]? := fun k hk => by rw [← hw5]; exact heap_setCell_other _ ⟨cf, 0, none⟩ k _ hk
      have h5F : Frm [some px] w4 w5 := by
        rw [← hw5]
        have h1 : Frm [some cf] w4 (we.setCell ⟨cf, 0, none⟩ (.func (.func 131) #[] #[.pointer (some ⟨cx, 0, none⟩), .pointer (some ⟨c10, 0, none⟩), .pointer (some ⟨cf, 0, none⟩)])) := (Frm.ofBelow be4).setL _ (by simp)
        exact (Frm.refl [some px] w4).trans h1 (by intro r hr; simp only [List.mem_singleton] at hr; subst hr; exact .inr ⟨cf, rfl, by omega⟩)
      have hz5 : w5.heap.size = we.heap.size := by rw [← hw5]; simp
      have hlex4 : ∃ c, w4.heap[px]? = some (.cells c 125 (0, 0)) := by
        have := hn4.out
        cases hne : nextE s.data.toList 0 with
        | error x => rw [hne] at this; exact LxE.lex this
        | ok st1 => rw [hne] at this; exact LxT.lex this
      have hpx5 : w5.heap[px]? = w4.heap[px]? := (h5o px (by omega)).trans (be4.block px (by omega))
      have hn3' := hF4.out.block HN3.out (by intro r hr e; simp only [List.mem_singleton] at hr; rw [hr] at e; injection e with e; omega)
      have hPW : PW w5 w.heap.size px cx cf c7 c8 c9 c10 := by
        obtain ⟨c, hc⟩ := hlex4
        exact ⟨by omega, by omega, (h5o cx (by omega)).trans ((be4.block cx (by omega)).trans hn3'), h5f, (h5o c7 (by omega)).trans ((beb.block c7 lb).trans nb), (h5o c8 (by omega)).trans ((bec.block c8 lc).trans nc), (h5o c9 (by omega)).trans ((be.block c9 ld).trans nd), (h5o c10 (by omega)).trans ne, c, hpx5.trans hc⟩
      have hF35 := hF4.out.trans h5F (by intro r hr; exact .inl hr)
      have hG5 := HG3.out.frm (by omega : w.heap.size ≤ px) HB13.out.size hF35
      have hPX : PX w5 w.heap.size px cx cf c7 c8 c9 c10 := ⟨hPW, hG5⟩
      have hn05 := hF35.block HN03.out (by intro r hr e; simp only [List.mem_singleton] at hr; rw [hr] at e; injection e with e; omega)
      have kf5 : w5.cell? ⟨cf, 0, none⟩ = some (.func (.func 131) #[] #[.pointer (some ⟨cx, 0, none⟩), .pointer (some ⟨c10, 0, none⟩), .pointer (some ⟨cf, 0, none⟩)]) := cell_of_block h5f 0
      have HCF : Hid (Calls Tryz.prog 131 #[.int .i64 1, .pointer (some ⟨cx, 0, none⟩), .pointer (some ⟨c10, 0, none⟩), .pointer (some ⟨cf, 0, none⟩)] w5 (PartC w5 px s (nextE s.data.toList 0 >>= fun st => prsE s.data.toList (2 * s.data.toList.length + 10) none 1 st))) := Lib.hid (by
        have hn := hn4.out
        cases hne : nextE s.data.toList 0 with
        | error x =>
          rw [hne] at hn
          obtain ⟨x, y⟩ := x
          have hx0 : x ≠ 0 := by have := (nextE_err hne).1; omega
          rw [bind_no rfl]
          refine (fromerr_any hPX hx0 (LxE.kept hn hpx5) _).mono ?_
          rintro e w' ⟨rfl, hb'⟩
          exact ⟨nilN, none, 0, 0, rfl, Frm.ofBelow hb', LxE.kept (LxE.kept hn hpx5) (hb'.block px (by omega)), hx0⟩
        | ok st1 =>
          rw [hne] at hn
          rw [bind_is rfl]
          have hst1 := next_stw (by omega : s.data.toList.length ≤ 1000) (Nat.zero_le _) hne
          exact from_all hs _ w5 1 st1 hPX (LxT.kept hn hpx5) hst1 (by omega) (by have := mu_le s.data.toList st1; omega))
      have HPX := Lib.hid hPX
      have HF35 := Lib.hid hF35
      have HN05 := Lib.hid hn05
      clear na nb nc nd ne ba bb bc bd be be4 beb bec bea h5f h5o h5F hpx5 hn3' hPW hG5 hPX hF35 hn05 hlex4 hn4 d0 d1 d2 d3 d4 d5 d6 df
      obtain ⟨RR, hRR⟩ : ∃ RR, (nextE s.data.toList 0 >>= fun st => prsE s.data.toList (2 * s.data.toList.length + 10) none 1 st) = RR := ⟨_, rfl⟩
      have HPE : Hid (parseE s.data.toList = (RR >>= endE)) := Lib.hid (by rw [parseE_is (by omega), hRR])
      rw [hRR] at HCF
      clear hRR
      go_upto_region 11 with fail
      go_cut [11] (fun s11 wx => ∃ w6 p11 n a c d, w6 = wx ∧ s11 = .pointer (some ⟨p11, 0, none⟩) ∧ Hid (w6.heap[p11]? = some (ndObj n a c d)) ∧ w5.heap.size ≤ p11 ∧ Hid (Frm [some px] w5 w6) ∧ Hid (partR w6 px s w5.heap.size n (.slice a c d) RR))
      case first =>
        go_wp2_with (go_at_call 131; refine HCF.out.mono ?_; rintro e w6 ⟨n, a, c, d, rfl, hF6, hr6⟩; have H6 := Lib.hid (And.intro hF6 hr6); clear hF6 hr6)
        go_meet
        have hz6 := H6.out.1.size
        have hal := (Below.refl w6.heap.size w6).alloc (Nat.le_refl _) (ndObj n a c d)
        refine ⟨_, w6.heap.size, n, a, c, d, rfl, rfl, Lib.hid (heap_alloc_new w6 _), hz6, Lib.hid (H6.out.1.below hal), Lib.hid ?_⟩
        have hr := H6.out.2
        have hpk := hal.block px (by omega)
        cases RR with
        | error x => exact ⟨hr.1.kept hpk, hr.2⟩
        | ok r => exact ⟨hr.1, hr.2.1.keptB hal, hr.2.2.1, hr.2.2.2.1.kept hpk, hr.2.2.2.2⟩
      case rest =>
        obtain ⟨w6, p11, n, a, c, d, rfl, rfl, hN6, hp11, hF6, hr6⟩ := hcut
        have hz6 := hF6.out.size
        have hX6 := HPX.out.kept hF6.out hr6.out.lex
        have kx6 : w6.cell? ⟨cx, 0, none⟩ = some (.pointer (some ⟨px, 0, none⟩)) := cell_of_block hX6.pw.hx 0
        have hn06 := hF6.out.block HN05.out (by intro r hr e; simp only [List.mem_singleton] at hr; rw [hr] at e; injection e with e; omega)
        have hpx6 : px < w6.heap.size := by omega
        obtain ⟨en, ta, k11, k10, hcase⟩ : ∃ (en : Bool) (ta : Int), w6.cell? ⟨px, 11, none⟩ = some (.bool en) ∧ w6.cell? ⟨px, 10, none⟩ = some (.int .i64 ta) ∧
            ((en = false ∧ ∃ (X : Int) (Y : Nat), X ≠ 0 ∧ parseE s.data.toList = .error (X, Y) ∧ ∀ W, Below w6.heap.size w6 W → Calls Tryz.prog 128 #[.pointer (some ⟨px, 0, none⟩), .int .i64 4, .int .i64 ta] W fun r w' => r = .returned (.tuple #[]) ∧ Frm [some px] W w' ∧ LxE w' px s X (Y : Int) ∧ w'.cell? ⟨px, 10, none⟩ = W.cell? ⟨px, 10, none⟩) ∨
             (en = true ∧ ∃ (X : Int) (Y : Nat), X ≠ 0 ∧ parseE s.data.toList = .error (X, Y) ∧ LxE w6 px s X (Y : Int)) ∨
             (en = true ∧ parseE s.data.toList = .ok n ∧ w6.cell? ⟨px, 12, none⟩ = some (.int .i64 0) ∧ MadeR w6 (fun b => w5.heap.size ≤ b) (.slice a c d) n.kids ∧ HeadW n)) := by
          have hr := hr6.out
          have hpe := HPE.out
          cases hq : RR with
          | error x =>
            rw [hq] at hr hpe
            obtain ⟨x, y⟩ := x
            obtain ⟨en, ta, q1, q2⟩ := LxE.c11 hr.1
            refine ⟨en, ta, q1, q2, ?_⟩
            cases en with
            | true => exact .inr (.inl ⟨rfl, x, y, hr.2, hpe, hr.1⟩)
            | false => exact .inl ⟨rfl, x, y, hr.2, hpe, fun W hW => failX hr.2 (hr.1.kept (hW.block _ hpx6)) _ _⟩
          | ok r =>
            obtain ⟨m, st⟩ := r
            rw [hq] at hr hpe
            obtain ⟨rfl, h2, h3, h4, h5⟩ := hr
            refine ⟨_, _, h4.c11, h4.c10, ?_⟩
            rw [bind_is rfl] at hpe
            cases hfin : isFin st.1 with
            | true => exact .inr (.inr ⟨rfl, hpe.trans (endE_fin hfin), h4.c12, h2, h3⟩)
            | false => exact .inl ⟨rfl, 4, st.1.at_, by decide, hpe.trans (endE_no hfin), fun W hW => failT (h4.kept (hW.block _ hpx6)) h5 _ _⟩
        have HX6 := Lib.hid hX6
        have HN06 := Lib.hid hn06
        have hb36 : Hid (Below w.heap.size w w6) := Lib.hid (HB13.out.trans ((HF35.out.trans hF6.out (by intro r hr; exact .inl hr)).toBelow HB13.out.size (by intro r hr k hk; simp only [List.mem_singleton] at hr; rw [hr] at hk; injection hk with hk; omega)))
        have hw0 : w.heap.size ≤ p0 := by omega
        -- the end behind an error
        have finE : Hid (∀ (W : World) (X : Int) (Y : Nat), X ≠ 0 → parseE s.data.toList = .error (X, Y) → Below w.heap.size w W → ParseC w (parseE s.data.toList) (.returned (.tuple #[valN nilN (.slice none 0 0), .int .i64 (Y : Int), .int .i64 X])) W) := Lib.hid (fun W X Y hX hpe hb => by
          rw [hpe]
          exact ⟨nilN, none, 0, 0, _, _, rfl, hb, rfl, rfl, rfl, rfl, hX⟩)
        have finB : Hid (∀ W : World, Below w.heap.size w W → Below w.heap.size w (set7 W p0 (.int .u8 0) (.int .u8 0) (.int .i64 0) (.bool false) (.string ⟨#[]⟩) (.string ⟨#[]⟩) (.slice none 0 0)).drew) := Lib.hid (fun W hb => (hb.trans ((set7_frm W p0 _ _ _ _ _ _ _).toBelow hb.size (by intro r hr k hk; simp only [List.mem_singleton] at hr; rw [hr] at hk; injection hk with hk; omega))).drew)
        clear hr6 hn06 hX6 HCF
        rcases hcase with ⟨rfl, X, Y, hX0, hpe, hfl⟩ | ⟨rfl, X, Y, hX0, hpe, hlE⟩ | ⟨rfl, hpe, k12, hmk, hhw⟩
        · have HFL := Lib.hid hfl
          have HXP := Lib.hid (And.intro hX0 hpe)
          clear hfl hX0 hpe
          go_upto_region 13 with fail
          go_cut [] (fun wx => ∃ w7, w7 = wx ∧ Hid (Frm [some px] w6 w7) ∧ Hid (LxE w7 px s X (Y : Int)))
          case first =>
            go_region_held3 (fun w' => w'.cell? ⟨cx, 0, none⟩ = some (.pointer (some ⟨px, 0, none⟩)) ∧ w'.cell? ⟨px, 10, none⟩ = some (.int .i64 ta)) (first | go_keep | exact ⟨qcx, q10⟩) (first | (go_at_call 128; refine (HFL.out _ (Below.drew (Below.refl _ _))).mono ?_; rintro e w5 ⟨rfl, hF5, hb5, he5⟩; have q10 : w5.cell? ⟨px, 10, none⟩ = some (.int .i64 ta) := he5.trans k10; have qcx : w5.cell? ⟨cx, 0, none⟩ = some (.pointer (some ⟨px, 0, none⟩)) := cell_of_block ((HX6.out.below (Below.drew (Below.refl _ _))).kept hF5 hb5.lex).pw.hx 0; have H5 := Lib.hid (And.intro hF5 hb5); clear hF5 hb5 he5))
            all_goals
              go_wp2_with fail
              go_meet
              exact ⟨_, rfl, Lib.hid ((Frm.ofBelow (Below.drew (Below.refl _ _))).trans H5.out.1 (by intro r hr; exact .inl hr)), Lib.hid H5.out.2⟩
          case rest =>
            obtain ⟨w7, rfl, hF7, hl7⟩ := hcut
            have hX7 := HX6.out.kept hF7.out hl7.out.lex
            have kx7 : w7.cell? ⟨cx, 0, none⟩ = some (.pointer (some ⟨px, 0, none⟩)) := cell_of_block hX7.pw.hx 0
            have k12 := hl7.out.c12
            have k13 := hl7.out.c13
            have eX : (X != 0) = true := by rw [bne_iff_ne]; exact HXP.out.1
            have hn07 := hF7.out.block HN06.out (by intro r hr e; simp only [List.mem_singleton] at hr; rw [hr] at e; injection e with e; omega)
            obtain ⟨d0, d1, d2, d3, d4, d5, d6, df⟩ := n7_cells hn07
            have hb37 := Lib.hid (hb36.out.trans (hF7.out.toBelow hb36.out.size (by intro r hr k hk; simp only [List.mem_singleton] at hr; rw [hr] at hk; injection hk with hk; omega)))
            clear hX7 HFL hn07
            go_upto_region 15 with fail
            have Qa : Hid ((set7 w7 p0 (.int .u8 0) (.int .u8 0) (.int .i64 0) (.bool false) (.string ⟨#[]⟩) (.string ⟨#[]⟩) (.slice none 0 0)).drew.cell? ⟨cx, 0, none⟩ = some (.pointer (some ⟨px, 0, none⟩))) := Lib.hid ((drew_cell _ _).trans ((set7_cell (by omega)).trans kx7))
            have Qb : Hid ((set7 w7 p0 (.int .u8 0) (.int .u8 0) (.int .i64 0) (.bool false) (.string ⟨#[]⟩) (.string ⟨#[]⟩) (.slice none 0 0)).drew.cell? ⟨px, 12, none⟩ = some (.int .i64 X)) := Lib.hid ((drew_cell _ _).trans ((set7_cell (by omega)).trans k12))
            have Qc : Hid ((set7 w7 p0 (.int .u8 0) (.int .u8 0) (.int .i64 0) (.bool false) (.string ⟨#[]⟩) (.string ⟨#[]⟩) (.slice none 0 0)).drew.cell? ⟨px, 13, none⟩ = some (.int .i64 (Y : Int))) := Lib.hid ((drew_cell _ _).trans ((set7_cell (by omega)).trans k13))
            go_big_region
            all_goals
              go_wp2_with fail
              refine bodyPost_ret (v := .tuple #[valN nilN (.slice none 0 0), .int .i64 (Y : Int), .int .i64 X]) (by simp [results, Tryz.results115, go_sem, d0, d1, d2, d3, d4, d5, d6, Nd.op, Nd.v, Nd.name, Vl.zero]) rfl ?_
              exact finE.out _ X Y HXP.out.1 HXP.out.2 (finB.out w7 hb37.out)
        · have HLE := Lib.hid hlE
          have HXP := Lib.hid (And.intro hX0 hpe)
          have k12 := hlE.c12
          have k13 := hlE.c13
          have eX : (X != 0) = true := by rw [bne_iff_ne]; exact hX0
          obtain ⟨d0, d1, d2, d3, d4, d5, d6, df⟩ := n7_cells HN06.out
          clear hlE hX0 hpe
          go_upto_region 15 with fail
          have Qa : Hid ((set7 w6 p0 (.int .u8 0) (.int .u8 0) (.int .i64 0) (.bool false) (.string ⟨#[]⟩) (.string ⟨#[]⟩) (.slice none 0 0)).drew.cell? ⟨cx, 0, none⟩ = some (.pointer (some ⟨px, 0, none⟩))) := Lib.hid ((drew_cell _ _).trans ((set7_cell (by omega)).trans kx6))
          have Qb : Hid ((set7 w6 p0 (.int .u8 0) (.int .u8 0) (.int .i64 0) (.bool false) (.string ⟨#[]⟩) (.string ⟨#[]⟩) (.slice none 0 0)).drew.cell? ⟨px, 12, none⟩ = some (.int .i64 X)) := Lib.hid ((drew_cell _ _).trans ((set7_cell (by omega)).trans k12))
          have Qc : Hid ((set7 w6 p0 (.int .u8 0) (.int .u8 0) (.int .i64 0) (.bool false) (.string ⟨#[]⟩) (.string ⟨#[]⟩) (.slice none 0 0)).drew.cell? ⟨px, 13, none⟩ = some (.int .i64 (Y : Int))) := Lib.hid ((drew_cell _ _).trans ((set7_cell (by omega)).trans k13))
          go_big_region
          all_goals
            go_wp2_with fail
            refine bodyPost_ret (v := .tuple #[valN nilN (.slice none 0 0), .int .i64 (Y : Int), .int .i64 X]) (by simp [results, Tryz.results115, go_sem, d0, d1, d2, d3, d4, d5, d6, Nd.op, Nd.v, Nd.name, Vl.zero]) rfl ?_
            exact finE.out _ X Y HXP.out.1 HXP.out.2 (finB.out w6 hb36.out)
        · obtain ⟨d0, d1, d2, d3, d4, d5, d6, df⟩ := n7_cells HN06.out
          obtain ⟨g0, g1, g2, g3, g4, g5, g6, gf⟩ := n7_cells hN6.out
          have HM := Lib.hid (And.intro hpe (And.intro hmk hhw))
          clear hpe hmk hhw
          go_wp2_with fail
          refine bodyPost_ret (v := .tuple #[valN n (.slice a c d), .int .i64 0, .int .i64 0]) (by simp [results, Tryz.results115, go_sem, d0, d1, d2, d3, d4, d5, d6]) rfl ?_
          have hf7 := set7_frm w6 p0 (.int .u8 n.op) (.int .u8 n.v.kind) (.int .i64 n.v.num) (.bool n.v.tr) (.string n.v.text) (.string n.name) (.slice a c d)
          rw [HM.out.1]
          exact ⟨n, a, c, d, 0, 0, rfl, hb36.out.trans (hf7.toBelow hb36.out.size (by intro r hr k hk; simp only [List.mem_singleton] at hr; rw [hr] at hk; injection hk with hk; omega)), rfl, rfl, rfl, HM.out.2.2, (HM.out.2.1.kept hf7 (fun b hb r hr => by simp only [List.mem_singleton] at hr; subst hr; intro e; injection e with e; omega)).kids⟩
  · have e1 : decide ((256 : Int) < (s.size : Int)) = true := decide_eq_true (by omega)
    have e1' : decide (256 < s.size) = true := decide_eq_true (by omega)
    have hpe : Hid (parseE s.data.toList = .error (3, 0)) := Lib.hid (parseE_long (by omega))
    clear hG n0 b0 hs
    go_enter Tryz.func115, Tryz.ntmps115
    go_wp2_with fail
    refine bodyPost_ret (v := .tuple #[valN nilN (.slice none 0 0), .int .i64 0, .int .i64 3]) (by simp [results, Tryz.results115, go_sem, d0, d1, d2, d3, d4, d5, d6, Nd.op, Nd.v, Nd.name, Vl.zero]) rfl ?_
    rw [hpe.out]
    refine ⟨nilN, none, 0, 0, 0, 3, rfl, ?_, rfl, rfl, rfl, rfl, by decide⟩
    exact HB.out.trans ((set7_frm w1 p0 _ _ _ _ _ _ _).toBelow HB.out.size (by intro r hr k hk; simp only [List.mem_singleton] at hr; rw [hr] at hk; injection hk with hk; have := HP0.out; omega))
end Go.Proofs.YtjcaaahbfkjipaaGreatDoor
