/- (*wire.Reader).Feed: the bytes are taken (seat wire). -/
import Derived.Test.YtlgfhbfdjckdnaaGreatDoorWireNil
import Derived.Test.YtlgfhbfdjckdnaaGreatDoorWireReadP
import Derived.Test.YtlgfhbfdjckdnaaGreatDoorAppF
set_option maxRecDepth 100000
namespace Go.Proofs.YtlgfhbfdjckdnaaGreatDoor
open Go.RowKit

def fU (c : UInt8) : List Value := [.int .u8 (c.toNat : Int)]
theorem fU_cells (l : List UInt8) : cellsF fU l = (u8s l).map (Value.int .u8) := by
  unfold cellsF fU u8s
  induction l with
  | nil => rfl
  | cons c r ih => rw [List.flatMap_cons, ih]; rfl
theorem fU_len : ∀ x : UInt8, (fU x).length = 1 := fun _ => rfl
theorem fU_one : ∀ x : UInt8, ∀ u ∈ fU x, u.oneCell' = true := fun x u hu => by
  unfold fU at hu
  rw [List.mem_singleton] at hu
  subst hu; rfl
/-- bytes.Clone of a reader's bytes. -/
theorem clone_byt (w : World) (b0 : Nat) (v : Value) (l : List UInt8) (h : Byt w b0 v l) :
    Calls Tryz.prog 20 #[v] w fun e w' => ∃ v', e = .returned v' ∧ w'.ownsRow w.heap.size 5 1 v' l.length (cellsF fU l) ∧ Below w.heap.size w w' := by
  rw [fU_cells]
  cases h with
  | nil =>
    refine (Tryz.bytes_Clone_nil 0 0 w).mono ?_
    rintro e w' ⟨rfl, rfl⟩
    exact ⟨_, rfl, World.ownsRow_nil _ _ _ _, Below.refl _ _⟩
  | row g o c _ hg hlt hc hz _ hat =>
    refine (Tryz.bytes_Clone_at ⟨g, o, none⟩ l.length c (u8s l) w (u8s_len l) (by omega) (fun i hi => ?_)).mono ?_
    · rw [add_addrF]; exact hat i hi
    · rintro e w' ⟨v', rfl, h1, _, h2⟩
      exact ⟨_, rfl, h1, h2⟩
theorem byt_of_row {w : World} {base : Nat} {v : Value} {l : List UInt8} (h : w.ownsRow base 5 1 v l.length (cellsF fU l)) (hz : l.length ≤ 700000) : Byt w base v l := by
  have hF : OwnF fU 5 1 w base v l := h
  rcases hF.val with ⟨rfl, rfl⟩ | ⟨g, cap, rfl, h1, h2⟩
  · exact .nil
  · obtain ⟨cur, hcur, _⟩ := hF.block
    refine .row g 0 cap l h1 h2 hF.cap hz ⟨cur, _, hcur⟩ (fun i hi => ?_)
    have e := OwnF.at (f := fU) (k := 1) (fun _ => rfl) hF (i := i) (j := 0) hi (by omega)
    rw [u8s_at hi]
    simp only [Nat.mul_one, Nat.add_zero] at e
    rw [Nat.zero_add]
    exact e

theorem info_u8F : (Tryz.prog.info? 5).map (fun i => (i.zero, i.size, i.bytes)) = some (some (.int .u8 0), 1, 1) := by kernel_rfl
theorem info_gotF : (Tryz.prog.info? 39).map (fun i => (i.zero, i.size, i.bytes)) = some (some (.agg #[.string ⟨#[]⟩, .string ⟨#[]⟩, .string ⟨#[]⟩, .string ⟨#[]⟩, .int .i64 0]), 5, 72) := by kernel_rfl
theorem cellsU_app (l l2 : List UInt8) : cellsF fU (l ++ l2) = cellsF fU l ++ cellsF fU l2 := by unfold cellsF; exact List.flatMap_append
theorem Frm.ofGrown {w w' : World} {r : Option Nat} (h : w.grownBy w' r) : Frm [r] w w' := (Frm.refl [r] w).grown h (by simp)
theorem Frm.noNone {S : List (Option Nat)} {w w' : World} (h : Frm (none :: S) w w') : Frm S w w' :=
  ⟨h.os, h.tape, h.output, h.size, fun k hk hr => h.keep k hk (fun r hr2 e => by
    rcases List.mem_cons.1 hr2 with rfl | h3
    · cases e
    · exact hr r h3 e)⟩
theorem own_new {α : Type} {f : α → List Value} {e : TypeId} {k : Nat} {w : World} {v : Value} {A : List α} {S : List (Option Nat)} {w0 : World} (h : OwnF f e k w w0.heap.size v A) : v.ownBlock ∈ (none :: S) ∨ ∃ j, v.ownBlock = some j ∧ w0.heap.size ≤ j := by
  rcases h.val with ⟨rfl, _⟩ | ⟨g, cap, rfl, h1, _⟩
  · exact .inl (by simp [Value.ownBlock])
  · exact .inr ⟨g, rfl, h1⟩
/-- A reader's row of what was told. -/
def fG (g : Gp) : List Value := [.string g.m, .string g.p, .string g.k, .string g.b, .int .i64 g.st]
theorem fG_len : ∀ x : Gp, (fG x).length = 5 := fun _ => rfl
theorem fG_one : ∀ x : Gp, ∀ u ∈ fG x, u.oneCell' = true := fun x u hu => by
  unfold fG at hu
  simp only [List.mem_cons, List.not_mem_nil, or_false] at hu
  rcases hu with rfl | rfl | rfl | rfl | rfl <;> rfl
theorem own_ne {α : Type} {f : α → List Value} {e : TypeId} {k : Nat} {w : World} {base p : Nat} {v : Value} {A : List α} (h : OwnF f e k w base v A) (hp : p < base) : some p ≠ v.ownBlock := by
  rcases h.val with ⟨rfl, _⟩ | ⟨g, cap, rfl, h1, _⟩
  · simp [Value.ownBlock]
  · simp [Value.ownBlock]; omega
theorem ownF_frm {α : Type} {f : α → List Value} {e : TypeId} {k : Nat} {w w' : World} {base p : Nat} {v : Value} {A : List α} (h : OwnF f e k w base v A) (hF : Frm [some p] w w') (hp : p < base) : OwnF f e k w' base v A := by
  obtain ⟨h1, h2⟩ := (show w.ownsRow base e k v A.length (cellsF f A) from h)
  refine (show w'.ownsRow base e k v A.length (cellsF f A) from ⟨h1, ?_⟩)
  rcases h2 with h0 | ⟨g, cap, cur, hv, hbg, hblk, r⟩
  · exact .inl h0
  · exact .inr ⟨g, cap, cur, hv, hbg, hF.block hblk (by intro r hr; simp only [List.mem_singleton] at hr; subst hr; intro e; injection e with e; omega), r⟩
/-- A row of another type grows: a reader stands. -/
theorem rdR_grown {w w' : World} {base p : Nat} {l : List UInt8} {cl : Bool} {v : Value} {A : List Gp} (h : RdR w base p l cl) (hO : OwnF fG 39 5 w base v A) (hg : w.grownBy w' v.ownBlock) (hp : p < base) : RdR w' base p l cl := by
  obtain ⟨vr, h1, h2⟩ := h
  refine ⟨vr, (hg.block p (lt_of_block h1) (own_ne hO hp)).trans h1, ?_⟩
  cases h2 with
  | nil => exact .nil
  | row g o c _ hgb hlt hc hz hty hat =>
    have hne : some g ≠ v.ownBlock := by
      rcases hO.val with ⟨rfl, _⟩ | ⟨g2, cap, rfl, h3, _⟩
      · simp [Value.ownBlock]
      · intro e
        have e2 : g = g2 := by injection e
        subst e2
        obtain ⟨cur, hcur, _⟩ := hO.block
        obtain ⟨cur', fr, hcur'⟩ := hty
        rw [hcur] at hcur'
        injection hcur' with hcur'
        injection hcur' with _ ht _
        exact absurd ht (by decide)
    have hk := hg.block g hlt hne
    refine .row g o c l hgb (Nat.lt_of_lt_of_le hlt hg.size) hc hz (by rw [hk]; exact hty) (fun i hi => ?_)
    rw [← hat i hi]
    unfold World.cell?
    rw [hk]
theorem cellsG_app (A B : List Gp) : cellsF fG (A ++ B) = cellsF fG A ++ cellsF fG B := by unfold cellsF; exact List.flatMap_append
theorem colF_one {w : World} {b : Nat} {g : Gp} (h : w.heap[b]? = some (.cells #[.string g.m, .string g.p, .string g.k, .string g.b, .int .i64 g.st] 39)) : ColF fG 5 w w.heap.size (some ⟨b, 0, none⟩) [g] := by
  intro i hi
  obtain rfl : i = 0 := by simp at hi; exact hi
  refine ⟨b, 0, rfl, lt_of_block h, fun j hj => ?_⟩
  rw [show 0 + 0 * 5 + j = j by omega, cell_of_block h]
  match j, hj with
  | 0, _ => rfl
  | 1, _ => rfl
  | 2, _ => rfl
  | 3, _ => rfl
  | 4, _ => rfl
theorem rdR_below {w w' : World} {base p : Nat} {l : List UInt8} {cl : Bool} (h : RdR w base p l cl) (hb : Below w.heap.size w w') : RdR w' base p l cl := by
  obtain ⟨v, h1, h2⟩ := h
  exact ⟨v, (hb.block _ (lt_of_block h1)).trans h1, h2.below hb⟩
theorem own_new2 {α : Type} {f : α → List Value} {e : TypeId} {k : Nat} {w : World} {v : Value} {A : List α} {S : List (Option Nat)} {w0 : World} (h : OwnF f e k w w0.heap.size v A) : v.ownBlock ∈ (none :: S) ∨ ∃ j, v.ownBlock = some j ∧ w0.heap.size ≤ j := own_new h
theorem fewF {a : Nat} {rest l' : List UInt8} {cl : Bool} (h1 : cl = true → rest = []) (h2 : cl = false → rest.length < l'.length) (h3 : 1 ≤ l'.length) (h4 : a + l'.length ≤ 600001) : a + 1 + rest.length ≤ 600001 := by
  cases cl
  · have := h2 rfl; omega
  · rw [h1 rfl]; show a + 1 + 0 ≤ 600001; omega
/-- A round that tells something. -/
def NextL (w : World) (p b0 : Nat) (g : Gp) (rest : List UInt8) (cl : Bool) (e : Ending) (w' : World) : Prop :=
  e = .returned (.tuple #[.agg #[.string g.m, .string g.p, .string g.k, .string g.b, .int .i64 g.st], .bool true]) ∧ Frm [some p] w w' ∧ RdR w' b0 p rest cl
/-- What Feed leaves. -/
def FeedR (w : World) (p : Nat) (L : List UInt8) (e : Ending) (w' : World) : Prop :=
  ∃ v, e = .returned v ∧ OwnF fG 39 5 w' w.heap.size v (feedS L).1 ∧ RdR w' w.heap.size p (feedS L).2.1 (feedS L).2.2 ∧ Frm [some p] w w'

set_option maxHeartbeats 4000000 in
theorem feed_any (B : Nat) (w : World) (hg : GndB B w) (p b0 : Nat) (hBp : B ≤ p) (_hpb : p < b0) (l : List UInt8) (hR : RdR w b0 p l false) (hz1 : l.length ≤ 300000) (ad : Option Addr) (l2 : List UInt8) (cap : Nat) (hC : ColF fU 1 w w.heap.size ad l2) (hz2 : l2.length ≤ 300000) :
    Calls Tryz.prog 9 #[.pointer (some ⟨p, 0, none⟩), .slice ad l2.length cap] w (FeedR w p (l ++ l2)) := by
  obtain ⟨v, hp, hv⟩ := hR
  have HCl := Lib.hid (clone_byt w b0 v l hv)
  obtain ⟨va, vc, rfl⟩ := hv.shape
  obtain ⟨c0, c1⟩ := box2R hp
  have hpl := lt_of_block hp
  have fp := free_of_block hp
  have HP := Lib.hid hp
  have HC := Lib.hid hC
  obtain ⟨i0, hti, hz0, hz1', hz2'⟩ := info_parts info_u8F
  clear hp hv hC
  go_enter Tryz.func9, Tryz.ntmps9
  go_upto_region 4 with (first
    | (go_at_call 20; refine HCl.out.mono ?_; rintro e w5 ⟨v5, rfl, hown5, hb5⟩; have hO5 : OwnF fU 5 1 w5 w.heap.size v5 l := hown5; obtain ⟨a5, cp5, rfl⟩ := hO5.shape; have hs5 := hb5.size; have hc5 : ColF fU 1 w5 w5.heap.size ad l2 := HC.out.mono hb5 hb5.size)
    | (at_builtin; refine wpList_append_colF _ rfl _ _ 27 rfl fU_len fU_one w.heap.size 5 i0 _ 1 Tryz.underlying27 hti hz0 hz1' hz2' rfl (by decide) _ l.length (cellsF fU l) rfl hown5 rfl hc5 (by unfold maxLen; omega) (by omega) hs5 ?_; intro v6 w6 hown6 hg6 hbl6; have hpb6 := (hg6.block p (Nat.lt_of_lt_of_le hpl hs5) (own_ne hO5 hpl)).trans ((hb5.block p hpl).trans HP.out); have hO6 : OwnF fU 5 1 w6 w.heap.size v6 (l ++ l2) := (by unfold OwnF; rw [List.length_append, cellsU_app]; exact hown6); obtain ⟨a6, cp6, rfl⟩ := hO6.shape; obtain ⟨d6, d7⟩ := box2R hpb6; have f6 := free_of_block hpb6; have HPB := Lib.hid hpb6; clear hpb6))
  have F6 : Frm [none, some p] w (w6.setCell ⟨p, 0, none⟩ (.slice a6 (l ++ l2).length cp6)) := (((Frm.ofBelow hb5).trans (Frm.ofGrown hg6) (by intro r hr; simp only [List.mem_singleton] at hr; subst hr; exact own_new hO5)).set (b := p) _ (by simp))
  have R6 : RdR (w6.setCell ⟨p, 0, none⟩ (.slice a6 (l ++ l2).length cp6)) w.heap.size p (l ++ l2) false := ⟨_, set_selfR _ HPB.out, (byt_of_row hO6 (by rw [List.length_append]; omega)).frm (S := [some p]) ((Frm.refl _ _).set _ (by simp)) (by intro r hr k hk; simp only [List.mem_singleton] at hr; subst hr; injection hk with hk; omega)⟩
  obtain ⟨W6, hW6⟩ : ∃ W6, w6.setCell ⟨p, 0, none⟩ (.slice a6 (l.length + l2.length) cp6) = W6 := ⟨_, rfl⟩
  have hW6' : w6.setCell ⟨p, 0, none⟩ (.slice a6 (l ++ l2).length cp6) = W6 := by rw [List.length_append]; exact hW6
  rw [hW6'] at F6 R6
  obtain ⟨i1, gti, gz0, gz1, gz2⟩ := info_parts info_gotF
  obtain ⟨L, hL⟩ : ∃ L, l ++ l2 = L := ⟨_, rfl⟩
  have hLz : L.length ≤ 600000 := by rw [← hL, List.length_append]; omega
  have HL := Lib.hid hL
  rw [hL] at R6
  have HF6 := Lib.hid F6
  have HR6 := Lib.hid R6
  clear F6 R6 hL hW6' hown5 hO5 hc5 hb5 hs5 hown6 hg6 hbl6 hO6 d6 d7 f6 HPB hti hz0 hz1' hz2' HCl HC
  go_wp2_with fail
  go_loopg [5] (L.length + 1) (fun gh s5 wr => ∃ (v : Value) (A : List Gp) (l' : List UInt8) (cl : Bool), gh = (if cl then 0 else l'.length + 1) ∧ s5 = v ∧ OwnF fG 39 5 wr w.heap.size v A ∧ RdR wr w.heap.size p l' cl ∧ Frm [none, some p] w wr ∧ A.length + l'.length ≤ 600001 ∧ Hid ((cl = true → l' = []) ∧ feedS L = if cl then (A, [], true) else (A ++ (feedS l').1, (feedS l').2)))
  case atStart => exact ⟨.slice none 0 0, [], L, false, rfl, rfl, OwnF.nil _ _, by rw [hW6]; exact HR6.out, by rw [hW6]; exact HF6.out, by show 0 + L.length ≤ 600001; omega, Lib.hid ⟨fun h => (by cases h), by simp⟩⟩
  case round =>
    obtain ⟨v, A, l', cl, hgh, rfl, hO, hRd, hFr, hsz, hfe⟩ := hrel
    obtain ⟨av, cv, rfl⟩ := hO.shape
    have hRd' := hRd
    obtain ⟨vr, hpr, _⟩ := hRd'
    obtain ⟨c0r, c1r⟩ := box2R hpr
    have HO := Lib.hid hO
    have HRd := Lib.hid hRd
    have HFr := Lib.hid hFr
    have hszr := hFr.size
    cases cl with
    | true =>
      have hend : Hid (feedS L = (A, [], true) ∧ l' = []) := Lib.hid ⟨hfe.out.2, hfe.out.1 rfl⟩
      clear hO hRd hFr hpr
      go_wp2_with fail
      go_ret
      refine ⟨_, rfl, ?_, ?_, HFr.out.noNone⟩
      · rw [HL.out, hend.out.1]; exact HO.out
      · rw [HL.out, hend.out.1]; have := HRd.out; rw [hend.out.2] at this; exact this
    | false =>
      have hgB : GndB B wr := hg.frm HFr.out (by intro r hr k hk; simp only [List.mem_cons, List.not_mem_nil, or_false] at hr; exact hr.elim (fun e => by rw [e] at hk; cases hk) (fun e => by rw [e] at hk; injection hk with hk; omega))
      have HN := Lib.hid (next_any B wr hgB p w.heap.size hBp hpl l' HRd.out)
      have hex : (nextS l' = .wait) ∨ (∃ g rest cl, 1 ≤ l'.length ∧ (cl = true → rest = []) ∧ rest.length + 1 ≤ l'.length + 1 ∧ (cl = false → rest.length < l'.length) ∧ feedS l' = (if cl then ([g], [], true) else (g :: (feedS rest).1, (feedS rest).2)) ∧ ∀ w2 e w', NextP w2 p w.heap.size (nextS l') e w' → NextL w2 p w.heap.size g rest cl e w') := by
        have hm := nextS_more l' []
        cases e : nextS l' with
        | wait => exact .inl rfl
        | refuse st => exact .inr ⟨refG st, [], true, (by cases l' with | nil => cases e | cons a b => simp), fun _ => rfl, by simp, fun h => (by cases h), by rw [feedS_eq, e]; rfl, fun w2 e' w' h => h⟩
        | got g rest =>
          rw [e] at hm
          have h2 : rest.length + 4 ≤ l'.length := hm.2
          exact .inr ⟨g, rest, false, by omega, fun h => (by cases h), by omega, fun _ => by omega, by rw [feedS_eq, e]; rfl, fun w2 e' w' h => h⟩
      clear hO hRd hFr hpr
      rcases hex with hw | ⟨g, rest, cl', hrl1, hcl, hrl, hrl2, hfr, hNL⟩
      · rw [hw] at HN
        have HW : Hid (feedS L = (A, l', false)) := by
          refine Lib.hid ?_
          rw [hfe.out.2, if_neg (by decide), feedS_eq, hw]; simp
        have HN2 : Hid (Calls Tryz.prog 21 #[.pointer (some ⟨p, 0, none⟩)] wr fun e w' => e = .returned (.tuple #[.agg #[.string ⟨#[]⟩, .string ⟨#[]⟩, .string ⟨#[]⟩, .string ⟨#[]⟩, .int .i64 0], .bool false]) ∧ Below wr.heap.size wr w') := HN
        clear HN
        go_wp2_with (go_at_call 21; refine HN2.out.mono ?_; rintro e w7 ⟨rfl, hb7⟩)
        go_ret
        have hb8 := hb7.alloc hb7.size (.cells #[.string ⟨#[]⟩, .string ⟨#[]⟩, .string ⟨#[]⟩, .string ⟨#[]⟩, .int .i64 0] 39)
        refine ⟨_, rfl, ?_, ?_, (HFr.out.trans (Frm.ofBelow (S := []) hb8) (by intro r hr; cases hr)).noNone⟩
        · rw [HL.out, HW.out]; exact HO.out.kept hb8
        · rw [HL.out, HW.out]
          obtain ⟨vr, q1, q2⟩ := HRd.out
          exact ⟨vr, (hb8.block _ (lt_of_block q1)).trans q1, q2.below hb8⟩
      · have HN2 : Hid (Calls Tryz.prog 21 #[.pointer (some ⟨p, 0, none⟩)] wr (NextL wr p w.heap.size g rest cl')) := Lib.hid (HN.out.mono (fun e w' h => hNL _ _ _ h))
        have HFE : Hid ((cl' = true → rest = []) ∧ feedS L = if cl' then (A ++ [g], [], true) else ((A ++ [g]) ++ (feedS rest).1, (feedS rest).2)) := by
          refine Lib.hid ⟨hcl, ?_⟩
          rw [hfe.out.2, if_neg (by decide), hfr]
          cases cl'
          · simp
          · simp
        obtain ⟨gm, gp, gk, gb, gst⟩ := g
        clear HN hfr hNL hfe
        go_wp2_with (first
          | (go_at_call 21; refine HN2.out.mono ?_; rintro e w7 ⟨rfl, hF7, hR7⟩; have hB8 : Below w7.heap.size w7 ((w7.alloc (.cells #[.string gm, .string gp, .string gk, .string gb, .int .i64 gst] 39)).alloc (.cells #[.string gm, .string gp, .string gk, .string gb, .int .i64 gst] 39)) := ((Below.refl _ _).alloc (Nat.le_refl _) _).alloc (by simp) _; have hx8 := heap_alloc2_new w7 (.cells #[.string gm, .string gp, .string gk, .string gb, .int .i64 gst] 39) (.cells #[.string gm, .string gp, .string gk, .string gb, .int .i64 gst] 39); have HO8 := Lib.hid ((ownF_frm HO.out hF7 hpl).kept hB8); have HC8 := Lib.hid (colF_one (g := ⟨gm, gp, gk, gb, gst⟩) hx8); have HS8 := Lib.hid (Nat.le_trans (Nat.le_trans hszr hF7.size) hB8.size); have HB8 := Lib.hid hB8; have HF7 := Lib.hid hF7; have HR7 := Lib.hid hR7; clear hB8 hx8 hF7 hR7)
          | (at_builtin; refine wpList_append_colF _ rfl _ _ 25 rfl fG_len fG_one w.heap.size 39 i1 _ 72 Tryz.underlying25 gti gz0 gz1 gz2 rfl (by decide) _ A.length (cellsF fG A) rfl HO8.out (l := [⟨gm, gp, gk, gb, gst⟩]) rfl HC8.out (by simp [maxLen]; omega) (by simp; omega) HS8.out ?_; intro v9 w9 hown9 hg9 hbl9; have hO9 : OwnF fG 39 5 w9 w.heap.size v9 (A ++ [⟨gm, gp, gk, gb, gst⟩]) := (by unfold OwnF; rw [List.length_append, cellsG_app]; exact hown9); have hR9 := rdR_grown (rdR_below HR7.out HB8.out) HO8.out hg9 hpl; have hF9 : Frm [none, some p] w w9 := (((HFr.out.trans HF7.out (by intro r hr; simp only [List.mem_singleton] at hr; subst hr; exact .inl (by simp))).trans (Frm.ofBelow (S := []) HB8.out) (by intro r hr; cases hr)).trans (Frm.ofGrown hg9) (by intro r hr; simp only [List.mem_singleton] at hr; subst hr; exact own_new2 HO8.out))))
        go_roundg (if cl' then 0 else rest.length + 1)
        case measure =>
          rw [hgh]
          cases cl'
          · have := hrl2 rfl
            show rest.length + 1 < l'.length + 1
            omega
          · show 0 < l'.length + 1
            omega
        case rel => exact ⟨v9, A ++ [⟨gm, gp, gk, gb, gst⟩], rest, cl', rfl, rfl, hO9, hR9, hF9, by rw [List.length_append]; show A.length + 1 + rest.length ≤ 600001; exact fewF hcl hrl2 hrl1 hsz, HFE⟩
end Go.Proofs.YtlgfhbfdjckdnaaGreatDoor
