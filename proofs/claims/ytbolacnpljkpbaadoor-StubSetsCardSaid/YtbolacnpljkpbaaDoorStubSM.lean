/- Texts merged by merge.py: StubAdd, StubOf, StubSet, StubSet2. -/
import Derived.Test.YtbolacnpljkpbaaDoorStubPM
import Derived.Test.YtbolacnpljkpbaaDoorTwoGrid
import Derived.Test.YtbolacnpljkpbaaDoorMapK
import Derived.Test.YtbolacnpljkpbaaDoorReachSpread
import Derived.Test.YtbolacnpljkpbaaDoorStubEx
import Derived.Test.YtbolacnpljkpbaaDoorReachExplore
import Derived.Sort.OwnSortedInts
set_option maxRecDepth 100000
/- of's inner functions: a place without a token; what is new of a list, noted and put on the worklist. -/
namespace Go.Proofs.YtbolacnpljkpbaaDoor
open Go.RowKit Go.Maps

set_option maxHeartbeats 400000 in
theorem zero1_any (w : World) (B : Nat) (b : Nat) (p : Int) (v : Value) (m : List Int) (hm : Ints w B v m) (hb : w.cell? ⟨b, 0, none⟩ = some v) (h0 : 0 ≤ p) (h1 : p < (m.length : Int)) :
    Calls Tryd.prog 73 #[.int .i64 p, .pointer (some ⟨b, 0, none⟩)] w fun e w' => e = .returned (.bool (zeroAt m p)) ∧ w = w' := by
  obtain ⟨q, rfl⟩ := Int.eq_ofNat_of_zero_le h0
  have hq : q < m.length := by omega
  have hz := Lib.hid (getI_eq hq)
  obtain ⟨a, c, rfl⟩ := hm.val
  obtain ⟨bm, om, rfl, _, hc⟩ := hm.col q hq
  have hl := hm.len
  go_enter Tryd.func73, Tryd.ntmps73
  go_wp2_with fail
  go_ret
  exact ⟨ret_bool (by unfold zeroAt; rw [hz.out]), rfl⟩
theorem run_zero1 (b : Nat) (x : Int) (W : World) : (callFunc 73 (#[Value.int .i64 x] ++ #[.pointer (some ⟨b, 0, none⟩)])).run Tryd.prog W = .ok (.enter 73 (#[Value.int .i64 x] ++ #[.pointer (some ⟨b, 0, none⟩)])) W := by kernel_rfl

theorem idxI_find {p : Int → Bool} : ∀ (l : List Int) (j : Nat) (x : Int), l.find? p = some x → ∃ k, ∃ h : k < l.length, idxI p l j = ((j + k : Nat) : Int) ∧ l[k] = x
  | [], _, _, h => by cases h
  | y :: l, j, x, h => by
    rw [List.find?_cons] at h
    by_cases hy : p y
    · rw [hy] at h
      obtain rfl := Option.some.inj h
      exact ⟨0, by simp, by simp [idxI, hy], rfl⟩
    · have hy' : p y = false := by simpa using hy
      rw [hy'] at h
      obtain ⟨k, hk, e1, e2⟩ := idxI_find l (j + 1) x h
      refine ⟨k + 1, by simpa using hk, ?_, by simpa using e2⟩
      rw [idxI, hy', if_neg (by simp)]
      rw [show ((j : Int) + 1) = ((j + 1 : Nat) : Int) by omega, e1]
      omega

/-- What add works on: the set and the worklist, in memory of the call's own. -/
structure AddSt (w : World) (base bi bl mb : Nat) (vL : Value) (S L : List Int) : Prop where
  box_in : w.heap[bi]? = some (.cells #[.map (some mb)] 92)
  keys : KeyM w mb S
  box_l : w.heap[bl]? = some (.cells #[vL] 26)
  row : OwnI w base vL L
  hbi : base ≤ bi
  hbl : base ≤ bl
  hmb : base ≤ mb
theorem AddSt.kept {w w' : World} {base bi bl mb : Nat} {vL : Value} {S L : List Int} (h : AddSt w base bi bl mb vL S L) (hb : Below w.heap.size w w') : AddSt w' base bi bl mb vL S L :=
  ⟨(hb.block bi (lt_of_block h.box_in)).trans h.box_in, h.keys.below hb, (hb.block bl (lt_of_block h.box_l)).trans h.box_l, h.row.kept hb (Nat.le_refl _), h.hbi, h.hbl, h.hmb⟩
/-- The worklist is another one. -/
theorem AddSt.turn {w w6 : World} {base bi bl mb : Nat} {vL v6 : Value} {S L L6 : List Int} (h : AddSt w base bi bl mb vL S L) (hg : w.grownBy w6 vL.ownBlock) (h6 : OwnI w6 base v6 L6) : AddSt (w6.setCell ⟨bl, 0, none⟩ v6) base bi bl mb v6 S L6 := by
  have hb6 := lit_other h.box_in (own_cellI.2 h.row) (by decide) hg
  have hl6 := lit_other h.box_l (own_cellI.2 h.row) (by decide) hg
  have hgs := grownBy_setCell w6 bl 0 v6
  have hm := h.keys.seen.isMap
  have hmrow : some mb ≠ vL.ownBlock := by
    intro e
    obtain ⟨es, ck, hm⟩ := hm
    obtain ⟨⟨c, hc⟩, _⟩ := OwnF.ty (own_cellI.2 h.row) e.symm
    rw [hm] at hc; cases hc
  have hmbl : some mb ≠ some bl := by
    intro e
    obtain ⟨es, ck, hm⟩ := hm
    have hbl := h.box_l
    rw [← Option.some.inj e, hm] at hbl; cases hbl
  refine ⟨(hgs.block bi (lt_of_block hb6) (fun e => type_ne hb6 hl6 (by decide) (Option.some.inj e))).trans hb6, (h.keys.kept hg hmrow).kept hgs hmbl, ?_, h6.turned hgs (fun cur e => type_ne hl6 e (by decide) rfl), h.hbi, h.hbl, h.hmb⟩
  have := heap_setCell_self (i := 0) v6 hl6
  exact this
theorem AddSt.put {w w' : World} {base bi bl mb : Nat} {vL : Value} {S L S' : List Int} (h : AddSt w base bi bl mb vL S L) (hg : w.grownBy w' (some mb)) (hk : KeyM w' mb S') : AddSt w' base bi bl mb vL S' L :=
  ⟨lit_map h.box_in h.keys.seen.isMap hg, hk, lit_map h.box_l h.keys.seen.isMap hg, own_map h.row h.keys.seen.isMap hg, h.hbi, h.hbl, h.hmb⟩

theorem zero_bool (w : World) : (zeroValue 4).run Tryd.prog w = .ok (.bool false) w := by kernel_rfl
theorem wf_small {x : Int} (h : 0 ≤ x ∧ x < 8192) : (Lit.int .i64 x).wf = true := by
  have e1 : IntKind.min .i64 = -9223372036854775808 := by decide
  have e2 : IntKind.max .i64 = 9223372036854775807 := by decide
  simp [Lit.wf, e1, e2]
  omega

def AddPost (w : World) (base bi bl mb : Nat) (S L l : List Int) (e : Ending) (w' : World) : Prop :=
  e = .returned (.tuple #[]) ∧ (∃ vL, AddSt w' base bi bl mb vL (S ++ addN S l) (L ++ addN S l)) ∧ Below base w w'

set_option maxHeartbeats 2000000 in
theorem add_any (w : World) (base bi bl mb : Nat) (vL : Value) (S L : List Int) (hst : AddSt w base bi bl mb vL S L) (B : Nat) (hB : B ≤ base) (v : Value) (l : List Int) (hl : Ints w B v l)
    (hin : ∀ x ∈ l, 0 ≤ x ∧ x < 8192) (hS : S.length + l.length ≤ 100000) (hL : L.length + l.length ≤ 100000) :
    Calls Tryd.prog 71 #[v, .pointer (some ⟨bi, 0, none⟩), .pointer (some ⟨bl, 0, none⟩)] w (AddPost w base bi bl mb S L l) := by
  obtain ⟨i0, hti, hz0, hz1, hz2⟩ := info_parts info_int
  obtain ⟨a, c, rfl⟩ := hl.val
  have HIN := Lib.hid hin
  have H0 : Hid (S ++ addN S (l.drop 0) = S ++ addN S l ∧ L ++ addN S (l.drop 0) = L ++ addN S l) := by refine Lib.hid ?_; simp
  have hst0 := hst
  have hbl0 := Below.refl base w
  obtain ⟨R, hR⟩ : ∃ R, S ++ addN S l = R := ⟨_, rfl⟩
  obtain ⟨Q, hQ⟩ : ∃ Q, L ++ addN S l = Q := ⟨_, rfl⟩
  have HR := Lib.hid hR
  have HQ := Lib.hid hQ
  rw [hR, hQ] at H0
  clear hR hQ hin
  go_enter Tryd.func71, Tryd.ntmps71
  go_wp2_with fail
  go_loopg [8] l.length (fun gh s8 wr => ∃ (k : Nat) (vL : Value) (S' L' : List Int), k + gh = l.length ∧ s8 = .int .i64 (k : Int) ∧ Hid (S' ++ addN S' (l.drop k) = R ∧ L' ++ addN S' (l.drop k) = Q) ∧ S'.length ≤ S.length + k ∧ L'.length ≤ L.length + k ∧
    Hid (AddSt wr base bi bl mb vL S' L') ∧ Below base w wr)
  case atStart => exact ⟨0, vL, S, L, by omega, rfl, H0, by omega, by omega, hst, hbl0⟩
  case round =>
    clear H0 hst hst0 hbl0
    obtain ⟨k, vL, S', L', hkg, rfl, hI, hSl, hLl, hst, hbel⟩ := hrel
    have hwr := hbel.size
    by_cases hk : k < l.length
    · obtain ⟨b, o, rfl, hbB, hc⟩ := hl.col k hk
      rw [← Below.cellB hbel (by omega)] at hc
      have hd := Lib.hid (addN_drop (S := S') hk)
      have hx := HIN.out l[k] (List.getElem_mem hk)
      obtain ⟨x, hxe⟩ : ∃ x, l[k] = x := ⟨_, rfl⟩
      rw [hxe] at hc hx hd
      clear hxe
      have hi0 := cell_of_block hst.out.box_in 0
      have hl0 := cell_of_block hst.out.box_l 0
      have hlk := hst.out.keys.look x (wf_small hx) (zero_bool wr)
      cases hcn : S'.contains x with
      | true =>
        rw [hcn] at hlk
        have HI : Hid (S' ++ addN S' (l.drop (k + 1)) = R ∧ L' ++ addN S' (l.drop (k + 1)) = Q) := by
          have := hI.out
          rw [hd.out, hcn, if_pos rfl] at this
          exact this
        clear hcn
        go_wp2_with fail
        go_roundg (gk - 1)
        case measure => omega
        case rel => exact ⟨k + 1, vL, S', L', by omega, by go_num, HI, by omega, by omega, hst, hbel⟩
      | false =>
        rw [hcn] at hlk
        have HI : Hid ((S' ++ [x]) ++ addN (S' ++ [x]) (l.drop (k + 1)) = R ∧ (L' ++ [x]) ++ addN (S' ++ [x]) (l.drop (k + 1)) = Q) := by
          have := hI.out
          rw [hd.out, hcn, if_neg (by simp)] at this
          refine ⟨by rw [← this.1]; simp, by rw [← this.2]; simp⟩
        clear hcn
        obtain ⟨w3, hput, hK3, hg3⟩ := hst.out.keys.put x (wf_small hx) (by unfold maxLen; omega)
        have hst3 := hst.out.put hg3 hK3
        have hl3 := cell_of_block hst3.box_l 0
        have hx3 := (Below.refl w3.heap.size w3).alloc (Nat.le_refl _) (.cells #[.int .i64 x] 3)
        have hst4 := hst3.kept hx3
        have hwb : base ≤ wr.heap.size := by have := hst.out.hbi; have := lt_of_block hst.out.box_in; omega
        have hb3 : Below base wr w3 := (Below.refl _ _).grown hg3 hwb (fun j hj => by cases hj; exact hst.out.hmb)
        have hb4 := hbel.trans (hb3.trans (hx3.mono (by have := hg3.size; omega)))
        have HX := Lib.hid (And.intro hst4 hb4)
        have hT4 := hst4.row
        have hz3 := hg3.size
        obtain ⟨aL, cL, rfl⟩ := hT4.shape
        clear hst hK3 hg3 hst3 hst4 hx3 hb3 hb4
        go_wp2_with (at_builtin; refine wpList_append_own_at _ rfl _ _ 26 rfl base 3 i0 (.int .i64 0) 1 8 Tryd.underlying26 hti hz0 hz1 hz2 rfl (by decide) _ _ _ rfl hT4 ⟨w3.heap.size, 0, none⟩ 1 1 [.int .i64 x] rfl rfl (cell_one_new _ _ _) (by intro u hu; simp at hu; subst hu; rfl) (by unfold maxLen; omega) (by omega) (by simp; omega) ?_; intro v6 w6 hown6 hg6 _ hat6; have hR6 : OwnI w6 base v6 (L' ++ [x]) := (by unfold OwnI; simpa using hown6); obtain ⟨a6, k6, e6⟩ := hR6.shape; rw [List.length_append, List.length_singleton] at e6; subst e6; clear hown6; have hX6 := lit_other HX.out.1.box_l (own_cellI.2 HX.out.1.row) (by decide) hg6; have c6 : w6.cell? ⟨bl, 0, none⟩ = some (.slice aL L'.length cL) := cell_of_block hX6 0; have f6 := free_of_block hX6 0)
        go_roundg (gk - 1)
        case measure => omega
        case rel =>
          refine ⟨k + 1, _, S' ++ [x], L' ++ [x], by omega, by go_num, HI, by simp; omega, by simp; omega, AddSt.turn HX.out.1 hg6 hR6, ?_⟩
          exact (HX.out.2.grown hg6 (by simp; omega) (fun j hj => (OwnF.ty (own_cellI.2 HX.out.1.row) hj).2)).setCell HX.out.1.hbl _
    · have hk' : ¬ ((k : Int) < (l.length : Int)) := by omega
      have HI : Hid (S' = R ∧ L' = Q) := Lib.hid (by
        have := hI.out
        rw [List.drop_eq_nil_of_le (by omega)] at this
        simpa [addN] using this)
      go_wp2_with fail
      refine bodyPost_end (results_none rfl _ _ _) rfl ?_
      exact ⟨rfl, ⟨vL, by rw [HR.out, HQ.out, ← HI.out.1, ← HI.out.2]; exact hst.out⟩, hbel⟩
end Go.Proofs.YtbolacnpljkpbaaDoor

/- of: the stubborn set of a transition. -/
namespace Go.Proofs.YtbolacnpljkpbaaDoor
open Go.RowKit Go.Maps

/-- A function that tells what is enabled. -/
def EnOk (w : World) (fid : Nat) (caps : Array Value) (n : Nt) (m : List Int) : Prop :=
  ∀ W, Below w.heap.size w W → ∀ t : Int, InT n t → Calls Tryd.prog fid (#[.int .i64 t] ++ caps) W fun e W' => e = .returned (.bool ((n.tr t).enB m)) ∧ Below W.heap.size W W'
theorem EnOk.mono {w w' : World} {fid : Nat} {caps : Array Value} {n : Nt} {m : List Int} (h : EnOk w fid caps n m) (hb : Below w.heap.size w w') : EnOk w' fid caps n m :=
  fun W hW => h W (hb.trans (hW.mono hb.size))

theorem AddSt.rowBlk {w : World} {base bi bl mb : Nat} {vL : Value} {S L : List Int} (h : AddSt w base bi bl mb vL S L) : base ≤ w.heap.size := by have := h.hbi; have := lt_of_block h.box_in; omega
theorem Wk.cnt {n : Nt} {m : List Int} {t : Int} {S L X : List Int} (h : Wk n m t S L X) (ht : InT n t) : ∀ a ∈ S, 0 ≤ a ∧ a < (n.trans.length : Int) := fun a ha => (h.cl a ha).inT ht

/-- What of knows all the way. -/
structure OfK (n : Nt) (m : List Int) (t : Int) : Prop where
  ok : n.Ok
  mark : n.Mark m
  tr : InT n t

def OfPost (w : World) (n : Nt) (m : List Int) (t : Int) (e : Ending) (w' : World) : Prop :=
  ∃ mb S, e = .returned (.map (some mb)) ∧ KeyM w' mb S ∧ S.Nodup ∧ (∀ a, a ∈ S ↔ Cl n m t a) ∧ w.heap.size ≤ mb ∧ Below w.heap.size w w'

theorem VCol.row {w : World} {B : Nat} {a : Option Addr} {k cap P : Nat} {F : Nat → List Int} (h : VCol Ints w B (.slice a k cap) ((List.range P).map F)) (_hk : k = P) {p : Nat} (hp : p < P) :
    ∃ b o u, a = some ⟨b, o, none⟩ ∧ b < B ∧ w.cell? ⟨b, o + p, none⟩ = some u ∧ Ints w B u (F p) := by
  obtain ⟨b, o, u, h1, h2, h3, h4⟩ := h.at p (by simpa using hp)
  exact ⟨b, o, u, h1, h2, h3, by simpa using h4⟩

theorem AddSt.new {w3 : World} {base mb : Nat} {t : Int} (hk : KeyM w3 mb [t]) (hb : base ≤ mb) (hbs : base ≤ w3.heap.size) :
    AddSt (((w3.alloc (.cells #[.map (some mb)] 92)).alloc (.cells #[.int .i64 t] 3)).alloc (.cells #[.slice (some ⟨w3.heap.size + 1, 0, none⟩) 1 1] 26)) base w3.heap.size (w3.heap.size + 2) mb (.slice (some ⟨w3.heap.size + 1, 0, none⟩) 1 1) [t] [t] := by
  have b1 := (Below.refl w3.heap.size w3).alloc (Nat.le_refl _) (.cells #[.map (some mb)] 92)
  have b2 := (Below.refl (w3.alloc (.cells #[.map (some mb)] 92)).heap.size _).alloc (Nat.le_refl _) (.cells #[.int .i64 t] 3)
  have b3 := (Below.refl ((w3.alloc (.cells #[.map (some mb)] 92)).alloc (.cells #[.int .i64 t] 3)).heap.size _).alloc (Nat.le_refl _) (.cells #[.slice (some ⟨w3.heap.size + 1, 0, none⟩) 1 1] 26)
  have h1 := heap_alloc_new w3 (.cells #[.map (some mb)] 92)
  have h2 := (b2.block _ (lt_of_block h1)).trans h1
  have h3 := (b3.block _ (lt_of_block h2)).trans h2
  have k3 := heap_alloc_new ((w3.alloc (.cells #[.map (some mb)] 92)).alloc (.cells #[.int .i64 t] 3)) (.cells #[.slice (some ⟨w3.heap.size + 1, 0, none⟩) 1 1] 26)
  rw [World.size_alloc, World.size_alloc] at k3
  have hr := World.ownsRow_lit (base := base) (e := 3) (size := 1) (w3.alloc (.cells #[.map (some mb)] 92)) #[.int .i64 t] 1 (by simp; omega) (by decide) rfl
  have hr2 : OwnI ((w3.alloc (.cells #[.map (some mb)] 92)).alloc (.cells #[.int .i64 t] 3)) base (.slice (some ⟨w3.heap.size + 1, 0, none⟩) 1 1) [t] := by unfold OwnI; rw [World.size_alloc] at hr; exact hr
  exact ⟨h3, ((hk.below b1).below b2).below b3, k3, hr2.kept b3 (Nat.le_refl _), hbs, by omega, hb⟩
theorem grownBy_self (w : World) (r : Option Nat) : w.grownBy w r := ⟨rfl, rfl, rfl, Nat.le_refl _, fun _ _ _ => rfl⟩

set_option maxHeartbeats 4000000 in
theorem of_any (w : World) (B x : Nat) (vp vt : Value) (n : Nt) (hx : ExR w B x vp vt n) (hB : B ≤ w.heap.size) (vm : Value) (m : List Int) (hm : Ints w B vm m) (t : Int) (hk : OfK n m t) (fid : Nat) (caps : Array Value)
    (hrun : ∀ (x : Value) (W : World), (callFunc fid (#[x] ++ caps)).run Tryd.prog W = .ok (.enter fid (#[x] ++ caps)) W) (hen : EnOk w fid caps n m) :
    Calls Tryd.prog 50 #[.pointer (some ⟨x, 0, none⟩), vm, .int .i64 t, .func (.func fid) #[] caps] w (OfPost w n m t) := by
  obtain ⟨vT, vG, hxb, hxB, hnr, hT, hG⟩ := hx
  obtain ⟨hok, hM, hit⟩ := hk
  obtain ⟨i0, hti, hz0, hz1, hz2⟩ := info_parts info_int
  have hmm := @run_makeMap Tryd.prog
  have hplc := hok.many
  have htrs := hok.trans
  have hTt := Lib.hid hit
  have htv : (Lit.int .i64 t).wf = true := wf_small ⟨hit.1, by have := hit.2; omega⟩
  obtain ⟨aT, cT, hvT⟩ := hT.val
  obtain ⟨aG, cG, hvG⟩ := hG.val
  rw [List.length_map, List.length_range] at hvT hvG
  subst hvT hvG
  have HEn := Lib.hid hen
  have HN := Lib.hid hnr
  have HT := Lib.hid hT
  have HG := Lib.hid hG
  have HM := Lib.hid hM
  have HOK := Lib.hid hok
  have HI := Lib.hid hm
  obtain ⟨ap, cp, hvp⟩ := hnr.1.val
  obtain ⟨at_, ct, hvt⟩ := hnr.2.val
  subst hvp hvt
  obtain ⟨am, cm, hvm⟩ := hm.val
  subst hvm
  -- the box of the marking
  have hbel1 := (Below.refl w.heap.size w).alloc (Nat.le_refl _) (.cells #[.slice am m.length cm] 26)
  have hbx1 := heap_alloc_new w (.cells #[.slice am m.length cm] 26)
  obtain ⟨W1, hW1⟩ : ∃ W1, w.alloc (.cells #[.slice am m.length cm] 26) = W1 := ⟨_, rfl⟩
  rw [hW1] at hbel1 hbx1
  have HBX := Lib.hid hbx1
  have hlt1 := lt_of_block hbx1
  have hwW := hbel1.size
  have hK0 := KeyM.made W1
  have HXB := Lib.hid hxb
  clear hen hnr hT hG hM hok hm hbx1 hit hxb
  go_enter Tryd.func50, Tryd.ntmps50
  go_wp2_with (refine wpList_insert_key _ rfl _ _ _ rfl _ [] rfl hK0 t htv (by simp [maxLen]) rfl rfl ?_; intro w3 hK3 hg3; refine Hid.out ?_)
  refine Lib.hid ?_
  have hb3 : Below W1.heap.size W1 w3 := ((Below.refl W1.heap.size W1).alloc (Nat.le_refl _) (.map #[] 0)).grown hg3 (by simp) (fun j hj => by cases hj; exact Nat.le_refl _)
  have hz3 := hb3.size
  have hst0 := AddSt.new hK3 (Nat.le_refl _) hz3
  have hb4 : Below W1.heap.size W1 (((w3.alloc (.cells #[.map (some W1.heap.size)] 92)).alloc (.cells #[.int .i64 t] 3)).alloc (.cells #[.slice (some ⟨w3.heap.size + 1, 0, none⟩) 1 1] 26)) :=
    ((hb3.alloc hz3 _).alloc (by simp; omega) _).alloc (by simp; omega) _
  obtain ⟨W4, hW4⟩ : ∃ W4, ((w3.alloc (.cells #[.map (some W1.heap.size)] 92)).alloc (.cells #[.int .i64 t] 3)).alloc (.cells #[.slice (some ⟨w3.heap.size + 1, 0, none⟩) 1 1] 26) = W4 := ⟨_, rfl⟩
  rw [hW4] at hst0 hb4
  have HS0 := Lib.hid hst0
  have HB4 := Lib.hid hb4
  have HW0 : Hid (Wk n m t [t] [t] []) := Wk.first
  have HU0 : Hid ((n.trans.length - [t].length) + [t].length = n.trans.length) := by
    have := hTt.out.2; have := hTt.out.1
    refine Lib.hid ?_
    simp only [List.length_singleton]
    omega
  clear hst0 hb4 hK3 hg3 hb3 hK0
  go_wp2_with fail
  clear hW4 hW1
  obtain ⟨bi, hbi⟩ : ∃ bi, w3.heap.size = bi := ⟨_, rfl⟩
  obtain ⟨bl, hbl⟩ : ∃ bl, bi + 2 = bl := ⟨_, rfl⟩
  rw [hbi] at HS0 ⊢
  rw [hbl] at HS0
  try rw [show bi + 1 + 1 = bl from hbl]
  go_loopg [] n.trans.length (fun gh wr => ∃ (vL : Value) (S L : List Int), Hid (Wk n m t S L []) ∧ Hid ((n.trans.length - S.length) + L.length = gh) ∧ gh ≤ n.trans.length ∧ Hid (AddSt wr W1.heap.size bi bl W1.heap.size vL S L) ∧ Below W1.heap.size W1 wr)
  case atStart => exact ⟨_, [t], [t], HW0, HU0, Nat.le_refl _, HS0, HB4.out⟩
  case round =>
    clear HW0 HU0 HS0 HB4
    obtain ⟨vL, S, L, hW, hU, hgl, hst, hbel⟩ := hrel
    have hi0 : wr.cell? ⟨bi, 0, none⟩ = some (.map (some W1.heap.size)) := cell_of_block hst.out.box_in 0
    have hwr := hbel.size
    have hbw := hbel1.trans (hbel.mono hwW)
    rcases List.eq_nil_or_concat L with rfl | ⟨L, u, hx⟩
    · obtain ⟨a7, c7, rfl⟩ := hst.out.row.shape
      have hl0 : wr.cell? ⟨bl, 0, none⟩ = some (.slice a7 0 c7) := cell_of_block hst.out.box_l 0
      go_wp2_with fail
      go_ret
      exact ⟨_, S, rfl, hst.out.keys, hW.out.nodup, fun a => hW.out.end_, hwW, hbw⟩
    · rw [List.concat_eq_append] at hx
      subst hx
      have HP := Lib.hid hW.out.pop
      have hu := (hW.out.cl u (hW.out.sub u (by simp))).inT hTt.out
      obtain ⟨k, rfl⟩ := Int.eq_ofNat_of_zero_le hu.1
      have hkn : k < n.trans.length := by have := hu.2; omega
      have HUT := Lib.hid hu
      have HU2 : Hid ((n.trans.length - S.length) + L.length + 1 = gk) := by have := hU.out; refine Lib.hid ?_; simp at this; omega
      have hLl : L.length + 1 ≤ n.trans.length := by have := HU2.out; omega
      have hrow := hst.out.row
      obtain ⟨a7, c7, rfl⟩ := hrow.shape
      have hcap := hrow.cap
      obtain ⟨g, rfl, hlen, hpop, hcx⟩ := hrow.pop
      rw [hlen] at hcap
      have hl0 : wr.cell? ⟨bl, 0, none⟩ = some (.slice (some ⟨g, 0, none⟩) (L.length + 1) c7) := by rw [← hlen]; exact cell_of_block hst.out.box_l 0
      have hlf := free_of_block hst.out.box_l 0
      have hst4 := hst.out.turn (grownBy_self wr _) hpop
      have hb4 : Below W1.heap.size W1 (wr.setCell ⟨bl, 0, none⟩ (.slice (some ⟨g, 0, none⟩) L.length c7)) := hbel.setCell hst.out.hbl _
      have hgw := hrow.lt
      obtain ⟨W4, hW4⟩ : ∃ W4, wr.setCell ⟨bl, 0, none⟩ (.slice (some ⟨g, 0, none⟩) L.length c7) = W4 := ⟨_, rfl⟩
      rw [hW4] at hst4 hb4
      have hb04 := hbel1.trans (hb4.mono hwW)
      obtain ⟨y0, y1, y2, y3, y4, y5⟩ := box6 ((hb04.block x (by omega)).trans HXB.out)
      obtain ⟨bt, ot, vi, vo, rfl, hbt2, h0, h1, h2, hii, hoo⟩ := HN.out.2.col k hkn
      rw [← Below.cellB hb04 (by omega)] at h0 h1 h2
      have hmem := List.getElem_mem hkn
      have hin := HOK.out.inn _ hmem
      have htr : Hid (n.tr (k : Int) = n.trans[k]) := by refine Lib.hid ?_; simp [Nt.tr, hkn]
      obtain ⟨tk, htk⟩ : ∃ tk, n.trans[k] = tk := ⟨_, rfl⟩
      rw [htk] at h0 hin htr hii
      have hil := hii.len
      obtain ⟨ai, ci, rfl⟩ := hii.val
      have HS4 := Lib.hid hst4
      have HB4 := Lib.hid hb4
      clear hst4 hrow hpop hW hU hst htk hmem hlen hoo hu hb4
      go_wp2_with fail
      refine (HEn.out W4 hb04 _ HUT.out).mono ?_
      rintro e w5 ⟨rfl, hb5⟩
      have hz4 := HB4.out.size
      have hz5 := hb5.size
      have hst5 := HS4.out.kept hb5
      have hB5 := HB4.out.trans (hb5.mono hz4)
      have hb05 := hbel1.trans (hB5.mono hwW)
      have HS5 := Lib.hid hst5
      have HB5 := Lib.hid hB5
      obtain ⟨N0, hN0⟩ : ∃ N0, gk = N0 := ⟨_, rfl⟩
      rw [hN0] at HU2
      have HN0 := Lib.hid hN0
      clear hst5 hB5 HS4 HB4 y0 y1 y2 y3 y4 y5 h0 h1 h2 hi0 hl0 hlf hcx hW4 hN0 hb04 hb5
      cases he : (n.tr (k : Int)).enB m with
      | true =>
        have HE := Lib.hid he
        clear he
        have HQ : Hid (∀ p ∈ tk.inn.take 0, ∀ b ∈ takesL n p, b ∈ S) := by refine Lib.hid ?_; simp
        go_wp2_with fail
        go_loopg [50] tk.inn.length (fun gh s50 wx => ∃ (q : Nat) (vL : Value) (S L : List Int), q + gh = tk.inn.length ∧ s50 = .int .i64 (q : Int) ∧ Hid (Wk n m t S L [(k : Int)]) ∧ Hid ((n.trans.length - S.length) + L.length + 1 = N0) ∧ L.length ≤ n.trans.length ∧
          Hid (∀ p ∈ tk.inn.take q, ∀ b ∈ takesL n p, b ∈ S) ∧ Hid (AddSt wx W1.heap.size bi bl W1.heap.size vL S L) ∧ Below W1.heap.size W1 wx)
        case atStart => exact ⟨0, _, S, L, by omega, rfl, HP, HU2, by omega, HQ, HS5, HB5.out⟩
        case round =>
          clear HP HU2 HQ HS5 HB5 hbel hbw hb05
          obtain ⟨q, vL, S, L, hqg, rfl, hP, hU, hLl2, hQ, hst, hbel⟩ := hrel
          have hbw := hbel1.trans (hbel.mono hwW)
          have hwr := hbel.size
          by_cases hq : q < tk.inn.length
          · obtain ⟨be, oe, rfl, hbe, hc⟩ := hii.col q hq
            rw [← Below.cellB hbw (by omega)] at hc
            have hmq := List.getElem_mem hq
            have htk2 : Hid (tk.inn.take (q + 1) = tk.inn.take q ++ [tk.inn[q]]) := Lib.hid (List.take_succ_eq_append_getElem hq)
            have hpl := hin.1 _ hmq
            obtain ⟨p, hp⟩ : ∃ p, tk.inn[q] = p := ⟨_, rfl⟩
            rw [hp] at hc hpl hmq htk2
            obtain ⟨pn, rfl⟩ := Int.eq_ofNat_of_zero_le hpl.1
            have hpn : pn < n.places.length := by omega
            obtain ⟨bT, oT, uT, rfl, hbT, hcT, hIT⟩ := HT.out.row rfl hpn
            rw [← Below.cellB hbw (by omega)] at hcT
            obtain ⟨au, cu, rfl⟩ := hIT.val
            obtain ⟨y0, y1, y2, y3, y4, y5⟩ := box6 ((hbw.block x (by omega)).trans HXB.out)
            have hSl := hP.out.len hTt.out
            have htl := takesL_len n (pn : Int)
            have HA := Lib.hid (add_any wr W1.heap.size bi bl W1.heap.size vL S L hst.out B (by omega) _ (takesL n (pn : Int)) (hIT.mono (hbw.mono hB) (Nat.le_refl _)) (fun z hz => by have := (mem_takesL.1 hz).1; exact ⟨this.1, by have := this.2; omega⟩) (by omega) (by omega))
            have HP2 : Hid (Wk n m t (S ++ addN S (takesL n (pn : Int))) (L ++ addN S (takesL n (pn : Int))) [(k : Int)]) := hP.out.add fun b hb => (needB_takes HE.out).2 ⟨_, by rw [htr.out]; exact hmq, hb⟩
            have HQ2 : Hid (∀ p ∈ tk.inn.take (q + 1), ∀ b ∈ takesL n p, b ∈ S ++ addN S (takesL n (pn : Int))) := by
              refine Lib.hid ?_
              rw [htk2.out]
              intro p hp b hb
              rcases List.mem_append.1 hp with hp | hp
              · exact List.mem_append_left _ (hQ.out p hp b hb)
              · obtain rfl : p = (pn : Int) := by simpa using hp
                exact (mem_addN _ S b).2 (Or.inr hb)
            have HU2 : Hid ((n.trans.length - (S ++ addN S (takesL n (pn : Int))).length) + (L ++ addN S (takesL n (pn : Int))).length + 1 = N0) := by
              have h1 := HP2.out.len hTt.out
              have h2 := hU.out
              refine Lib.hid ?_
              rw [List.length_append] at h1
              rw [List.length_append, List.length_append]
              omega
            have hgN := HN0.out
            clear hP hU hQ hst hmq htk2 hp
            obtain ⟨tl, htle⟩ : ∃ tl, takesL n (pn : Int) = tl := ⟨_, rfl⟩
            rw [htle] at HA HP2 HQ2 HU2 hIT htl
            rw [htle] at hcT
            clear htle
            go_wp2_with (go_at_call 71; refine HA.out.mono ?_; rintro e w7 ⟨rfl, ⟨vL7, hst7⟩, hb7⟩)
            go_roundg (gk - 1)
            case measure => omega
            case rel => exact ⟨q + 1, vL7, _, _, by omega, by go_num, HP2, HU2, by have := HU2.out; omega, HQ2, hst7, hbel.trans hb7⟩
          · have hq' : ¬ ((q : Int) < (tk.inn.length : Int)) := by omega
            have HP3 : Hid (Wk n m t S L []) := hP.out.close fun b hb hn => by
              obtain ⟨p, hp, hb2⟩ := (needB_takes HE.out).1 ⟨hb, hn⟩
              rw [htr.out] at hp
              exact hQ.out p (by rw [List.take_of_length_le (by omega)]; exact hp) b hb2
            have hN := hU.out
            have hN1 := HN0.out
            have HU3 : Hid ((n.trans.length - S.length) + L.length = N0 - 1) := by refine Lib.hid ?_; omega
            clear hU hP hQ
            go_wp2_with fail
            go_roundg (N0 - 1)
            case measure => omega
            case rel => exact ⟨vL, S, L, HP3, HU3, by omega, hst, hbel⟩
      | false =>
        have HE := Lib.hid he
        obtain ⟨p, hf, hp, hz⟩ := find_zero he
        have hf2 := hf
        rw [htr.out] at hf2 hp
        obtain ⟨kk, hkk, e1, e2⟩ := idxI_find tk.inn 0 p hf2
        clear he hf2
        have hpl := hin.1 p hp
        obtain ⟨pn, rfl⟩ := Int.eq_ofNat_of_zero_le hpl.1
        have hpn : pn < n.places.length := by omega
        obtain ⟨bG, oG, uG, rfl, hbG, hcG, hIG⟩ := HG.out.row rfl hpn
        obtain ⟨be, oe, rfl, hbe, hc⟩ := hii.col kk hkk
        rw [e2] at hc
        obtain ⟨au, cu, rfl⟩ := hIG.val
        have hxc : w.cell? ⟨x, 5, none⟩ = some (.slice (some ⟨bG, oG, none⟩) n.places.length cG) := by rw [cell_of_block HXB.out]; rfl
        have hSl := HP.out.len hTt.out
        have hgl2 := givesL_len n (pn : Int)
        rw [Int.ofNat_zero, Nat.zero_add] at e1
        have HC : Hid (∀ W, Below W1.heap.size W1 W → Calls Tryd.prog 72 #[.slice (some ⟨be, oe, none⟩) tk.inn.length ci, .func (.func 73) #[] #[.pointer (some ⟨w.heap.size, 0, none⟩)]] W fun e W' => e = .returned (.int .i64 (kk : Int)) ∧ W = W') := by
          refine Lib.hid fun W hW => ?_
          have hwb := hbel1.trans (hW.mono hwW)
          have := indexFunc_any W B _ tk.inn (hii.mono (hwb.mono hB) (Nat.le_refl _)) 73 #[.pointer (some ⟨w.heap.size, 0, none⟩)] (zeroAt m) (fun x W => run_zero1 _ x W)
            (fun z hz => zero1_any W B w.heap.size z _ m (HI.out.mono (hwb.mono hB) (Nat.le_refl _)) (cell_of_block ((hW.block _ hlt1).trans HBX.out) 0) (hin.1 z hz).1 (by rw [HM.out.len]; exact (hin.1 z hz).2))
          rw [e1] at this
          exact this
        have HA : Hid (∀ W, Below w5.heap.size w5 W → Calls Tryd.prog 71 #[.slice au (givesL n (pn : Int)).length cu, .pointer (some ⟨bi, 0, none⟩), .pointer (some ⟨bl, 0, none⟩)] W (AddPost W W1.heap.size bi bl W1.heap.size S L (givesL n (pn : Int)))) := by
          refine Lib.hid fun W hW => ?_
          exact add_any W W1.heap.size bi bl W1.heap.size _ S L (HS5.out.kept hW) B (by omega) _ (givesL n (pn : Int)) (hIG.mono ((hb05.trans (hW.mono (by omega))).mono hB) (Nat.le_refl _)) (fun z hz => by have := (mem_givesL.1 hz).1; exact ⟨this.1, by have := this.2; omega⟩) (by omega) (by omega)
        have HP2 : Hid (Wk n m t (S ++ addN S (givesL n (pn : Int))) (L ++ addN S (givesL n (pn : Int))) []) :=
          (HP.out.add fun b hb => (needB_gives HE.out hf).2 hb).close fun b hb hn => (mem_addN _ S b).2 (Or.inr ((needB_gives HE.out hf).1 ⟨hb, hn⟩))
        have HU3 : Hid ((n.trans.length - (S ++ addN S (givesL n (pn : Int))).length) + (L ++ addN S (givesL n (pn : Int))).length = N0 - 1) := by
          have h1 := HP2.out.len hTt.out
          have h2 := HU2.out
          refine Lib.hid ?_
          rw [List.length_append] at h1
          rw [List.length_append, List.length_append]
          omega
        have hN1 := HN0.out
        have hN2 := HU2.out
        clear hf hp hz e1 e2 HP HU2
        obtain ⟨gl, hgle⟩ : ∃ gl, givesL n (pn : Int) = gl := ⟨_, rfl⟩
        rw [hgle] at HA HP2 HU3 hIG hgl2 hcG
        have HF : Hid (∀ W, Below W1.heap.size W1 W → W.cell? ⟨x, 5, none⟩ = some (.slice (some ⟨bG, oG, none⟩) n.places.length cG) ∧ W.cell? ⟨bG, oG + pn, none⟩ = some (.slice au gl.length cu) ∧ W.cell? ⟨be, oe + kk, none⟩ = some (.int .i64 (pn : Int))) := by
          refine Lib.hid fun W hW => ?_
          have hwb := hbel1.trans (hW.mono hwW)
          refine ⟨?_, ?_, ?_⟩ <;> (rw [Below.cellB hwb (by omega)]; assumption)
        have cur := HB5.out
        have cur5 := Below.refl w5.heap.size w5
        obtain ⟨y5, gc, ic⟩ := HF.out w5 cur
        clear hgle hcG hc hxc hIG
        go_upto_region 14 with fail
        go_region_held3 (fun w' => w'.cell? ⟨x, 5, none⟩ = some (.slice (some ⟨bG, oG, none⟩) n.places.length cG) ∧ w'.cell? ⟨bG, oG + pn, none⟩ = some (.slice au gl.length cu) ∧ w'.cell? ⟨be, oe + kk, none⟩ = some (.int .i64 (pn : Int)))
          (first | go_keep | exact HF.out _ (by first | assumption | exact cur.drew))
          (first
            | (go_at_call 72; refine (HC.out _ (by first | exact cur | exact cur.drew)).mono ?_; rintro e w6 ⟨rfl, rfl⟩)
            | (go_at_call 71; refine (HA.out _ (by first | exact cur5 | exact cur5.drew)).mono ?_; rintro e w7 ⟨rfl, ⟨vL7, hst7⟩, hb7⟩; have cur7 : Below W1.heap.size W1 w7 := (by first | exact cur.trans hb7 | exact cur.drew.trans hb7)))
        all_goals go_wp2_with fail
        all_goals go_roundg (N0 - 1)
        all_goals first
          | omega
          | exact ⟨vL7, _, _, HP2, HU3, by omega, hst7, cur7⟩
end Go.Proofs.YtbolacnpljkpbaaDoor

/- set: the stubborn set of a marking, and what of it is enabled; the closure that tells what is enabled; the sort. -/
namespace Go.Proofs.YtbolacnpljkpbaaDoor
open Go.RowKit Go.Maps
open Classical

theorem sort_any (w : World) (base : Nat) (v : Value) (l : List Int) (h : OwnI w base v l) (hl : l.length < 4611686018427387904) :
    Calls Tryd.prog 51 #[v] w fun e w' => e = .returned (.tuple #[]) ∧ OwnI w' base v (l.mergeSort fun x y => decide (x ≤ y)) ∧ w.grownBy w' v.ownBlock := by
  rcases h.2 with ⟨rfl, h0⟩ | ⟨g, cap, cur, rfl, hb, hg, h1, h2, h3, ht⟩
  · refine (Tryd.slices_Sort_int_none none 0 w).mono ?_
    rintro e w' ⟨rfl, rfl⟩
    have h0' : l = [] := List.eq_nil_of_length_eq_zero h0
    subst h0'
    exact ⟨rfl, by simpa using OwnI.nil _ base, grownBy_self _ _⟩
  · have ht' : cur.toList.take l.length = l.map (Value.int .i64) := by simpa using ht
    refine (Tryd.slices_Sort_int g 0 cap l w (holds_of_blockI hg ht') (lt_of_block hg) hl).mono ?_
    rintro e w' ⟨rfl, n, os, rfl⟩
    refine ⟨rfl, ?_, grownBy_sortedI _⟩
    have := ownsRow_sortedI (w := w) (n := n) (os := os) (ts := l.mergeSort fun x y => decide (x ≤ y)) (ss := l) (List.length_mergeSort _) hb hg h1 h2 (by simpa using h3)
    unfold OwnI
    rw [List.length_mergeSort]
    exact this

theorem pw_lt : ∀ {l : List Int}, l.Pairwise (· ≤ ·) → l.Nodup → l.Pairwise (· < ·)
  | [], _, _ => List.Pairwise.nil
  | x :: l, h, k => by
    obtain ⟨h1, h2⟩ := List.pairwise_cons.1 h
    obtain ⟨k1, k2⟩ := List.nodup_cons.1 k
    refine List.pairwise_cons.2 ⟨fun y hy => ?_, pw_lt h2 k2⟩
    have := h1 y hy
    have : x ≠ y := by rintro rfl; exact k1 hy
    omega
theorem sort_is {a b : List Int} (h : a.Nodup) (hb : b.Pairwise (· < ·)) (hm : ∀ x, x ∈ a ↔ x ∈ b) : (a.mergeSort fun x y => decide (x ≤ y)) = b := by
  have hs : (a.mergeSort fun x y => decide (x ≤ y)).Pairwise (· ≤ ·) := by
    have := List.pairwise_mergeSort (le := fun (x y : Int) => decide (x ≤ y)) (fun a b c h1 h2 => by simp at *; omega) (fun a b => by simp; omega) a
    exact this.imp (by intro x y h; simpa using h)
  refine sorted_eq (pw_lt hs ?_) hb fun x => ?_
  · exact (List.mergeSort_perm a _).nodup_iff.2 h
  · rw [List.mem_mergeSort]; exact hm x

theorem enGo_sorted (m : List Int) : ∀ (ts : List Tr) (k : Nat), (enGo m ts k).Pairwise (· < ·) ∧ ∀ x ∈ enGo m ts k, (k : Int) ≤ x
  | [], k => by simp [enGo]
  | t :: ts, k => by
    obtain ⟨h1, h2⟩ := enGo_sorted m ts (k + 1)
    rw [enGo]
    split
    · refine ⟨List.pairwise_cons.2 ⟨fun y hy => by have := h2 y hy; omega, h1⟩, fun x hx => ?_⟩
      rcases List.mem_cons.1 hx with rfl | hx
      · exact Int.le_refl _
      · have := h2 x hx; omega
    · exact ⟨h1, fun x hx => by have := h2 x hx; omega⟩
theorem enE_sorted (n : Nt) (m : List Int) : (n.enE m).Pairwise (· ≤ ·) := ((enGo_sorted m n.trans 0).1).imp (by intro a b h; omega)
theorem enE_has {n : Nt} {m : List Int} {t : Int} (h : InT n t) : (n.enE m).contains t = (n.tr t).enB m := by
  rw [Bool.eq_iff_iff, List.contains_iff_mem]
  exact ⟨fun h => (enE_inT h).2, inT_enE h⟩

set_option maxHeartbeats 400000 in
theorem en1_any (w : World) (B b : Nat) (v : Value) (l : List Int) (hl : Ints w B v l) (hb : w.cell? ⟨b, 0, none⟩ = some v) (hs : l.Pairwise (· ≤ ·)) (hlen : l.length ≤ 8192) (t : Int) (r : Bool) (hr : l.contains t = r) :
    Calls Tryd.prog 48 #[.int .i64 t, .pointer (some ⟨b, 0, none⟩)] w fun e w' => e = .returned (.bool r) ∧ Below w.heap.size w w' := by
  obtain ⟨a, c, rfl⟩ := hl.val
  have HS : Hid (Calls Tryd.prog 49 #[.slice a l.length c, .int .i64 t] w fun e w' => ∃ k : Int, e = .returned (.tuple #[.int .i64 k, .bool r]) ∧ Below w.heap.size w w') := by
    refine Lib.hid ?_
    cases l with
    | nil =>
      refine (Tryd.slices_BinarySearch_int_empty a c t w).mono ?_
      rintro e w' ⟨rfl, rfl⟩
      rw [← hr]
      exact ⟨0, rfl, Below.refl _ _⟩
    | cons x l =>
      obtain ⟨b', o, rfl, _, _⟩ := hl.col 0 (by simp)
      refine (Tryd.slices_BinarySearch_int b' o (x :: l).length c (x :: l) t w (Nat.le_refl _) (by omega) (fun j hj => ?_) (by rw [List.take_length]; exact hs)).mono ?_
      · obtain ⟨b2, o2, e2, _, hc⟩ := hl.col j hj
        cases e2
        rw [hc]
        simp only [List.getD_eq_getElem?_getD, List.getElem?_eq_getElem hj, Option.getD_some]
      · rintro e w' ⟨rfl, q, rfl⟩
        rw [List.take_length, hr]
        exact ⟨_, rfl, below_drewN' _⟩
  clear hl hs hr
  go_enter Tryd.func48, Tryd.ntmps48
  go_wp2_with (go_at_call 49; refine HS.out.mono ?_; rintro e w2 ⟨k, rfl, hb2⟩)
  go_ret
  exact ⟨rfl, hb2⟩
theorem run_en1 (b : Nat) (x : Value) (W : World) : (callFunc 48 (#[x] ++ #[.pointer (some ⟨b, 0, none⟩)])).run Tryd.prog W = .ok (.enter 48 (#[x] ++ #[.pointer (some ⟨b, 0, none⟩)])) W := by kernel_rfl
theorem en1_ok (w : World) (B b : Nat) (v : Value) (n : Nt) (m : List Int) (hl : Ints w B v (n.enE m)) (hB : B ≤ w.heap.size) (hb : w.cell? ⟨b, 0, none⟩ = some v) (hbw : b < w.heap.size) (ht : n.trans.length ≤ 8192) : EnOk w 48 #[.pointer (some ⟨b, 0, none⟩)] n m := by
  intro W hW t hi
  exact en1_any W B b v (n.enE m) (hl.mono (hW.mono hB) (Nat.le_refl _)) (by rw [Below.cellB hW hbw]; exact hb) (enE_sorted n m) (Nat.le_trans (enGo_len _ _ _) ht) t _ (enE_has hi)

/-- How many of what came are enabled, whatever the order. -/
def cntE (n : Nt) (m : List Int) (acc : List Int) : Nat := acc.countP (fun t => (n.tr t).enB m)
theorem cntE_snoc (n : Nt) (m : List Int) (acc : List Int) (x : Int) : cntE n m (acc ++ [x]) = cntE n m acc + (if (n.tr x).enB m then 1 else 0) := by
  unfold cntE
  rw [List.countP_append]
  simp [List.countP_cons]
theorem cntE_all {n : Nt} {m : List Int} {t : Int} (ht : InT n t) {acc S : List Int} (h1 : acc.Nodup) (h2 : ∀ x ∈ acc, x ∈ S) (h3 : ∀ x ∈ S, x ∈ acc) (hS : ∀ a, a ∈ S ↔ Cl n m t a) : cntE n m acc = enCnt n m (clL n m t) := by
  unfold cntE enCnt
  refine List.Perm.countP_eq _ ?_
  refine (List.perm_ext_iff_of_nodup h1 ((clL_sorted n m t).imp (by intro a b h; omega))).2 fun x => ?_
  rw [mem_clL ht, ← hS]
  exact ⟨h2 x, h3 x⟩
theorem cntE_le (n : Nt) (m : List Int) (acc : List Int) : cntE n m acc ≤ acc.length := List.countP_le_length

/-- The best set so far: none yet, or a map of the call's own. -/
def BestR (w : World) (base : Nat) (v : Value) (b : List Int) : Prop :=
  (v = .map none ∧ b = []) ∨ ∃ mb S, v = .map (some mb) ∧ KeyM w mb S ∧ S.Nodup ∧ (∀ a, a ∈ S ↔ a ∈ b) ∧ base ≤ mb
theorem BestR.kept {w w' : World} {base : Nat} {v : Value} {b : List Int} (h : BestR w base v b) (hb : Below w.heap.size w w') : BestR w' base v b := by
  rcases h with h | ⟨mb, S, h1, h2, h3⟩
  · exact .inl h
  · exact .inr ⟨mb, S, h1, h2.below hb, h3⟩
theorem bestGo_drop {n : Nt} {m : List Int} {l : List Int} {i : Nat} (h : i < l.length) (b : List Int × Nat) : bestGo n m (l.drop i) b = bestGo n m (l.drop (i + 1)) (if enCnt n m (clL n m l[i]) < b.2 then (clL n m l[i], enCnt n m (clL n m l[i])) else b) := by
  rw [List.drop_eq_getElem_cons h, bestGo]
end Go.Proofs.YtbolacnpljkpbaaDoor

/- set: the walk. -/
namespace Go.Proofs.YtbolacnpljkpbaaDoor
open Go.RowKit Go.Maps
open Classical

theorem IterM.objs {w : World} {b r : Nat} {S acc : List Int} {cnt : Nat} (h : IterM w b r S acc cnt) : (∀ c t f, w.heap[b]? ≠ some (.cells c t f)) ∧ ∀ c t f, w.heap[r]? ≠ some (.cells c t f) := by
  obtain ⟨D, left, ⟨es, clock, since, seen, c0, hb, F, hs, hD, hr, _⟩, _⟩ := h
  exact ⟨fun c t f e => (by rw [hb] at e; cases e), fun c t f e => (by rw [hr] at e; cases e)⟩
theorem IterM.keptRow {w w' : World} {b r : Nat} {S acc : List Int} {cnt base : Nat} {v : Value} {l : List Int} (h : IterM w b r S acc cnt) (hv : OwnI w base v l) (hg : w.grownBy w' v.ownBlock) : IterM w' b r S acc cnt := by
  obtain ⟨o1, o2⟩ := h.objs
  refine h.kept hg (fun e => ?_) (fun e => ?_)
  · obtain ⟨⟨c, hc⟩, _⟩ := OwnF.ty (own_cellI.2 hv) e.symm
    exact o1 _ _ _ hc
  · obtain ⟨⟨c, hc⟩, _⟩ := OwnF.ty (own_cellI.2 hv) e.symm
    exact o2 _ _ _ hc
structure TwoO (w : World) (base : Nat) (v4 v5 : Value) (A F : List Int) : Prop where
  a : OwnI w base v4 A
  f : OwnI w base v5 F
  ap : ∀ q, v4.ownBlock = some q → v5.ownBlock ≠ some q
theorem TwoO.kept {w w' : World} {base : Nat} {v4 v5 : Value} {A F : List Int} (h : TwoO w base v4 v5 A F) (hb : Below w.heap.size w w') : TwoO w' base v4 v5 A F := ⟨h.a.kept hb (Nat.le_refl _), h.f.kept hb (Nat.le_refl _), h.ap⟩
theorem TwoO.grownR {w w' : World} {base r : Nat} {v4 v5 : Value} {A F : List Int} (h : TwoO w base v4 v5 A F) (hg : w.grownBy w' (some r)) (hr : ∀ c t f, w.heap[r]? ≠ some (.cells c t f)) : TwoO w' base v4 v5 A F :=
  ⟨h.a.turned hg (fun _cur e => hr _ _ _ e), h.f.turned hg (fun _cur e => hr _ _ _ e), h.ap⟩
theorem TwoO.swap {w : World} {base : Nat} {v4 v5 : Value} {A F : List Int} (h : TwoO w base v4 v5 A F) : TwoO w base v5 v4 F A := ⟨h.f, h.a, fun q hq e => h.ap q e hq⟩
theorem TwoO.push {w w6 : World} {base : Nat} {v4 v5 v6 : Value} {A F A' : List Int} (h : TwoO w base v4 v5 A F) (hg : w.grownBy w6 v4.ownBlock) (h6 : OwnI w6 base v6 A') (hat : v6.ownBlock = v4.ownBlock ∨ v6.ownBlock = some w.heap.size) : TwoO w6 base v6 v5 A' F := by
  refine ⟨h6, own_cellI.1 ((own_cellI.2 h.f).grown hg fun q hq e => h.ap q e.symm hq), fun q hq e => ?_⟩
  rcases hat with e1 | e1
  · rw [e1] at hq; exact h.ap q hq e
  · rw [e1] at hq
    obtain rfl := Option.some.inj hq
    obtain ⟨⟨c, hc⟩, _⟩ := OwnF.ty (own_cellI.2 h.f) e
    have := lt_of_block hc
    omega

theorem inT_len {n : Nt} {S : List Int} (h1 : S.Nodup) (h2 : ∀ a ∈ S, InT n a) : S.length ≤ n.trans.length := by
  have : ∀ (k : Nat) (S : List Int), S.Nodup → (∀ a ∈ S, 0 ≤ a ∧ a < (k : Int)) → S.length ≤ k := by
    intro k
    induction k with
    | zero =>
      intro S _ hs
      cases S with
      | nil => exact Nat.le_refl _
      | cons a S => have := hs a List.mem_cons_self; omega
    | succ k ih =>
      intro S hn hs
      have h1 := ih (S.erase (k : Int)) (hn.erase _) (fun a ha => by
        have h2 := hs a (List.mem_of_mem_erase ha)
        have h3 : a ≠ (k : Int) := fun e => by
          rw [e] at ha
          exact absurd ha (by rw [hn.mem_erase_iff]; simp)
        omega)
      have := List.length_erase (a := (k : Int)) (l := S)
      split at this <;> omega
  exact this _ S h1 h2

def SetPost (w : World) (n : Nt) (m : List Int) (e : Ending) (w' : World) : Prop :=
  ∃ va vf, e = .returned (.tuple #[va, vf]) ∧ OwnI w' w.heap.size va (setL n m) ∧ OwnI w' w.heap.size vf (firesL n m) ∧ Below w.heap.size w w'

set_option maxHeartbeats 4000000 in
theorem set_any (w : World) (B x : Nat) (vp vt : Value) (n : Nt) (hx : ExR w B x vp vt n) (hB : B ≤ w.heap.size) (vm : Value) (m : List Int) (hm : Ints w B vm m) (hok : n.okB = true) (hM : n.Mark m) :
    Calls Tryd.prog 31 #[.pointer (some ⟨x, 0, none⟩), vm] w (SetPost w n m) := by
  have HX := Lib.hid hx
  obtain ⟨vT, vG, hxb, hxB, hnr, hT, hG⟩ := hx
  have hO := Nt.ok_of hok
  have htrs := hO.trans
  have HM := Lib.hid hM
  have HO := Lib.hid hO
  have HI := Lib.hid hm
  obtain ⟨i0, hti, hz0, hz1, hz2⟩ := info_parts info_int
  obtain ⟨y0, y1, y2, y3, -, -⟩ := box6 hxb
  obtain ⟨L, hL⟩ : ∃ L, n.enE m = L := ⟨_, rfl⟩
  have hLl : L.length ≤ n.trans.length := by rw [← hL]; exact enGo_len _ _ _
  have HL := Lib.hid hL
  have HEN := Lib.hid (enabledNet_yes w vp vt vm n hok m hM B hB hnr hm L hL)
  obtain ⟨ap, cp, hvp⟩ := hnr.1.val
  obtain ⟨at_, ct, hvt⟩ := hnr.2.val
  subst hvp hvt
  obtain ⟨am, cm, hvm⟩ := hm.val
  subst hvm
  have HXB := Lib.hid hxb
  clear hok hM hO hL hm hnr hT hG
  go_enter Tryd.func31, Tryd.ntmps31
  go_wp2_with (go_at_call 14; refine HEN.out.mono ?_; rintro e w2 ⟨vl, rfl, hol, hb2⟩; refine Hid.out ?_)
  refine Lib.hid ?_
  obtain ⟨al, cl, rfl⟩ := hol.shape
  have hs2 := hb2.size
  have hb23 := (Below.refl w2.heap.size w2).alloc (Nat.le_refl _) (.cells #[.slice al L.length cl] 26)
  have hbx3 := heap_alloc_new w2 (.cells #[.slice al L.length cl] 26)
  have hol3 := hol.kept hb23 (Nat.le_refl _)
  obtain ⟨W3, hW3⟩ : ∃ W3, w2.alloc (.cells #[.slice al L.length cl] 26) = W3 := ⟨_, rfl⟩
  obtain ⟨bL, hbL⟩ : ∃ bL, w2.heap.size = bL := ⟨_, rfl⟩
  rw [hW3] at hb23 hbx3 hol3
  rw [hbL] at hbx3
  have hB3 := hb2.trans (hb23.mono hs2)
  have hlt3 := lt_of_block hbx3
  have hz3 := hB3.size
  have hIL : Ints W3 W3.heap.size (.slice al L.length cl) L := hol3.col (by omega) (Nat.le_refl _)
  have hE0 := en1_ok W3 W3.heap.size bL _ n m (by rw [HL.out]; exact hIL) (Nat.le_refl _) (cell_of_block hbx3 0) hlt3 htrs
  have HE3 := Lib.hid hE0
  have HB3 := Lib.hid hB3
  have HX3 := Lib.hid (HX.out.mono (hB3.mono hB) (Nat.le_refl _))
  have HI3 := Lib.hid (HI.out.mono (hB3.mono hB) (Nat.le_refl _))
  obtain ⟨z0, z1, z2, z3, -, -⟩ := box6 ((hB3.block x (by omega)).trans HXB.out)
  have HBX3 := Lib.hid hbx3
  have HIL := Lib.hid hIL
  have hl3 : W3.cell? ⟨bL, 0, none⟩ = some (.slice al L.length cl) := cell_of_block hbx3 0
  have HG0 : Hid (bestGo n m (L.drop 0) ([], n.trans.length + 1) = bestGo n m L ([], n.trans.length + 1)) := rfl
  have HR0 : Hid (BestR W3 W3.heap.size (.map none) []) := Or.inl ⟨rfl, rfl⟩
  have hmem : Hid (∀ t ∈ L, InT n t ∧ (n.tr t).enB m = true) := by rw [← HL.out]; exact fun t ht => enE_inT ht
  have hBr := Below.refl W3.heap.size W3
  clear hol hb2 hb23 hol3 hB3 hIL hE0 y0 y1 y2 y3 hbx3
  go_wp2_with fail
  clear hW3 z0 z1 z2 z3 hl3
  go_loopg [9, 10, 36] L.length (fun gh s9 s10 s36 wr => ∃ (i : Nat) (bS : List Int) (bk : Nat), i + gh = L.length ∧ s36 = .int .i64 (i : Int) ∧ s10 = .int .i64 (bk : Int) ∧ bk ≤ n.trans.length + 1 ∧
    Hid (bestGo n m (L.drop i) (bS, bk) = bestGo n m L ([], n.trans.length + 1)) ∧ Hid (BestR wr W3.heap.size s9 bS) ∧ Below W3.heap.size W3 wr)
  case atStart => exact ⟨0, [], n.trans.length + 1, by omega, rfl, by go_num, by omega, HG0, HR0, hBr⟩
  case round =>
    clear HG0 HR0 hBr
    obtain ⟨i, bS, bk, hig, rfl, rfl, hbk, hGo, hR, hbel⟩ := hrel
    have hwr := hbel.size
    by_cases hi : i < L.length
    · obtain ⟨b, o, rfl, hbb, hc⟩ := HIL.out.col i hi
      rw [← Below.cellB hbel hbb] at hc
      obtain ⟨hit, hte⟩ := hmem.out _ (List.getElem_mem hi)
      have hd := Lib.hid (bestGo_drop (n := n) (m := m) hi (bS, bk))
      obtain ⟨t, ht⟩ : ∃ t, L[i] = t := ⟨_, rfl⟩
      rw [ht] at hc hit hte hd
      have HT := Lib.hid hit
      have HOf := Lib.hid (of_any wr B x _ _ n (HX3.out.mono (hbel.mono (by omega)) (Nat.le_refl _)) (by omega) _ m (HI3.out.mono (hbel.mono (by omega)) (Nat.le_refl _)) t ⟨HO.out, HM.out, hit⟩ 48 #[.pointer (some ⟨bL, 0, none⟩)] (run_en1 bL) (HE3.out.mono hbel))
      clear ht hit hte
      go_wp2_with (go_at_call 50; refine HOf.out.mono ?_; rintro e w5 ⟨mb, S, rfl, hK, hN, hS, hmb, hb5⟩; refine Hid.out ?_)
      refine Lib.hid ?_
      have hz5 := hb5.size
      have hB5 := hbel.trans (hb5.mono hwr)
      have HR5 := Lib.hid (hR.out.kept hb5)
      have HK5 := Lib.hid hK
      have HN5 := Lib.hid hN
      have HS5 := Lib.hid hS
      have HE5 : Hid (∀ W, Below w5.heap.size w5 W → ∀ t : Int, InT n t → Calls Tryd.prog 48 #[.int .i64 t, .pointer (some ⟨bL, 0, none⟩)] W fun e W' => e = .returned (.bool ((n.tr t).enB m)) ∧ Below W.heap.size W W') := Lib.hid fun W hW t ht => HE3.out W (hB5.trans (hW.mono (by omega))) t ht
      clear hR hK hN hS hb5 hc
      go_wp2_with (at_range; refine wpList_range_keys _ rfl _ rfl mb S rfl HK5.out ?_; intro w6 cnt0 hit6 hg6 hs6)
      go_frame
      have hb6 : Below w5.heap.size w5 w6 := (Below.refl _ _).grown hg6 (Nat.le_refl _) (fun j hj => by cases hj)
      go_loopw [14] (fun s14 wx => ∃ (acc : List Int) (cnt : Nat), Hid (IterM wx mb w5.heap.size S acc cnt) ∧ s14 = .int .i64 ((cntE n m acc : Nat) : Int) ∧ Below w5.heap.size w5 wx) (fun _ wx => wx.rangeLeft mb w5.heap.size)
      case atStart => exact ⟨[], cnt0, hit6, rfl, hb6⟩
      case round =>
        clear hb6 hit6 hg6 hs6 hbel
        obtain ⟨acc, cnt, hit, rfl, hbel⟩ := hrel
        have hwr := hbel.size
        go_wp2_with (at_next; refine wpList_next_keys _ rfl _ rfl mb w5.heap.size S acc cnt rfl hit.out ?_ ?_)
        · intro hdone
          have hall : ∀ z ∈ S, z ∈ acc := fun z hz => hdone z (wf_small (by have := ((HS5.out z).1 hz).inT HT.out; exact ⟨this.1, by have := this.2; omega⟩)) hz
          have hcnt : Hid (cntE n m acc = enCnt n m (clL n m t)) := cntE_all HT.out hit.out.nodup.1 hit.out.nodup.2 hall HS5.out
          have hcle : enCnt n m (clL n m t) ≤ n.trans.length := enCnt_le n m t
          obtain ⟨c, hc⟩ : ∃ c, cntE n m acc = c := ⟨_, rfl⟩
          rw [hc] at hcnt
          rw [hc]
          have hcl : c ≤ n.trans.length := by rw [hcnt.out]; exact hcle
          rw [← hcnt.out] at hd
          have HBW := Lib.hid (hB5.trans (hbel.mono (by omega)))
          clear hc hcle hdone hit hcnt
          by_cases hlt : c < bk
          · have hdc : decide (c < bk) = true := decide_eq_true hlt
            have hdc2 : decide ((c : Int) < (bk : Int)) = true := decide_eq_true (by omega)
            have HG1 : Hid (bestGo n m (L.drop (i + 1)) (clL n m t, c) = bestGo n m L ([], n.trans.length + 1)) := by
              have := hd.out
              rw [if_pos hlt] at this
              exact this.symm.trans hGo.out
            have HR1 : Hid (BestR wr W3.heap.size (.map (some mb)) (clL n m t)) := Or.inr ⟨mb, S, rfl, HK5.out.below hbel, HN5.out, fun a => (HS5.out a).trans (mem_clL HT.out).symm, by omega⟩
            clear hd hGo
            go_wp2_with fail
            go_roundg (gk - 1)
            case measure => omega
            case rel => exact ⟨i + 1, clL n m t, c, by omega, by go_num, rfl, by omega, HG1, HR1, HBW.out⟩
          · have hdc : decide (c < bk) = false := decide_eq_false hlt
            have hdc2 : decide ((c : Int) < (bk : Int)) = false := decide_eq_false (by omega)
            have HG1 : Hid (bestGo n m (L.drop (i + 1)) (bS, bk) = bestGo n m L ([], n.trans.length + 1)) := by
              have := hd.out
              rw [if_neg hlt] at this
              exact this.symm.trans hGo.out
            have HR1 := Lib.hid (HR5.out.kept hbel)
            clear hd hGo
            go_wp2_with fail
            go_roundg (gk - 1)
            case measure => omega
            case rel => exact ⟨i + 1, bS, bk, by omega, by go_num, rfl, by omega, HG1, HR1, HBW.out⟩
        · intro z w7 cnt7 hwz hzS hza hit7 hlt hg7 hs7 hen
          have hzT := ((HS5.out z).1 hzS).inT HT.out
          have hb7 : Below w5.heap.size w5 w7 := hbel.grown hg7 hwr (fun j hj => by cases hj; exact Nat.le_refl _)
          have HC := HE5.out w7 hb7 z hzT
          have hcb : cntE n m acc ≤ n.trans.length := Nat.le_trans (cntE_le n m acc) (inT_len hit.out.nodup.1 fun a ha => ((HS5.out a).1 (hit.out.nodup.2 a ha)).inT HT.out)
          have HM7 : Hid (wr.rangeLeft mb w5.heap.size = cnt) := hit.out.left
          have HI7 := Lib.hid hit7
          clear hit hit7 hg7 hbel
          cases hez : (n.tr z).enB m with
          | true =>
            rw [hez] at HC
            have hsn : Hid (cntE n m (acc ++ [z]) = cntE n m acc + 1) := by rw [cntE_snoc, hez]; exact rfl
            have HC := Lib.hid HC
            clear hez
            go_wp2_with (go_at_call 48; refine HC.out.mono ?_; rintro e w8 ⟨rfl, hb8⟩)
            go_roundw
            case rel => exact ⟨acc ++ [z], cnt7, HI7.out.below hb8, by rw [hsn.out]; go_num, hb7.trans (hb8.mono hb7.size)⟩
            case measure => rw [(HI7.out.below hb8).left, HM7.out]; exact hlt
          | false =>
            rw [hez] at HC
            have hsn : Hid (cntE n m (acc ++ [z]) = cntE n m acc) := by rw [cntE_snoc, hez]; exact rfl
            have HC := Lib.hid HC
            clear hez
            go_wp2_with (go_at_call 48; refine HC.out.mono ?_; rintro e w8 ⟨rfl, hb8⟩)
            go_roundw
            case rel => exact ⟨acc ++ [z], cnt7, HI7.out.below hb8, by rw [hsn.out], hb7.trans (hb8.mono hb7.size)⟩
            case measure => rw [(HI7.out.below hb8).left, HM7.out]; exact hlt
    · have hi' : ¬ ((i : Int) < (L.length : Int)) := by omega
      have hbS : Hid (bS = setL n m) := by
        have := hGo.out
        rw [List.drop_eq_nil_of_le (by omega)] at this
        unfold setL
        rw [HL.out, ← this]
        exact rfl
      have HBW := Lib.hid hbel
      clear hGo
      rcases hR.out with ⟨h9, hnil⟩ | ⟨mb, S, h9, hK, hN, hS, hmb⟩
      · subst h9
        have hS0 : Hid (setL n m = [] ∧ firesL n m = []) := by
          have h0 : setL n m = [] := by rw [← hbS.out, hnil]
          refine ⟨h0, ?_⟩
          unfold firesL; rw [h0]; rfl
        clear hR hnil
        have hrg := run_range_nilMap (P := Tryd.prog) wr 92 3 4 Tryd.underlying92
        have hnx : ∀ ty, (Instr.next (.pointer (some ⟨wr.heap.size, 0, none⟩)) false ty).run Tryd.prog (wr.alloc (.mapIter none 0 #[] 0)) = _ := fun ty => run_next_nilMap wr ty 0 0 #[]
        go_wp2_with fail
        refine wp_loop_rounds 1 ?_
        rw [rounds_succ]
        go_wp2_with (go_at_call 51; refine (Tryd.slices_Sort_int_none none 0 _).mono ?_; rintro e w9 ⟨rfl, rfl⟩)
        go_ret2
        have hba := (Below.refl wr.heap.size wr).alloc (Nat.le_refl _) (.mapIter none 0 #[] 0)
        refine ⟨_, _, rfl, ?_, ?_, HB3.out.trans ((hbel.trans (hba.mono hwr)).mono hz3)⟩
        · rw [hS0.out.1]; exact OwnI.nil _ _
        · rw [hS0.out.2]; exact OwnI.nil _ _
      · subst h9
        have HK := Lib.hid hK
        have HS := Lib.hid (fun a => (hS a).trans (by rw [hbS.out] : a ∈ bS ↔ a ∈ setL n m))
        have hsl := setL_len n m
        have HE8 : Hid (∀ W, Below wr.heap.size wr W → ∀ t : Int, InT n t → Calls Tryd.prog 48 #[.int .i64 t, .pointer (some ⟨bL, 0, none⟩)] W fun e W' => e = .returned (.bool ((n.tr t).enB m)) ∧ Below W.heap.size W W') := Lib.hid fun W hW t ht => HE3.out W (hbel.trans (hW.mono hwr)) t ht
        clear hR hK hN hS hbS
        go_wp2_with (at_range; refine wpList_range_keys _ rfl _ rfl mb S rfl HK.out ?_; intro w6 cnt0 hit6 hg6 hs6)
        try go_frame
        have hb6 : Below wr.heap.size wr w6 := (Below.refl _ _).grown hg6 (Nat.le_refl _) (fun j hj => by cases hj)
        have HO6 : Hid (TwoO w6 wr.heap.size (.slice none 0 0) (.slice none 0 0) [] []) := Lib.hid ⟨OwnI.nil _ _, OwnI.nil _ _, fun q hq => by cases hq⟩
        have HI6 := Lib.hid hit6
        obtain ⟨w5, rfl⟩ : ∃ w5 : World, w5 = wr := ⟨_, rfl⟩
        clear hit6 hg6 hs6
        go_loopw [4, 5] (fun s4 s5 wx => ∃ (acc : List Int) (cnt : Nat), Hid (IterM wx mb w5.heap.size S acc cnt) ∧ Hid (TwoO wx w5.heap.size s4 s5 acc (acc.filter (fun t => (n.tr t).enB m))) ∧ Below w5.heap.size w5 wx) (fun _ _ wx => wx.rangeLeft mb w5.heap.size)
        case atStart => exact ⟨[], cnt0, HI6, HO6, hb6⟩
        case round =>
          clear HI6 HO6 hb6
          obtain ⟨acc, cnt, hit, hO, hbl⟩ := hrel
          have hwr5 := hbl.size
          obtain ⟨a4, c4, rfl⟩ := hO.out.a.shape
          obtain ⟨a5, c5, rfl⟩ := hO.out.f.shape
          have hal : acc.length ≤ n.trans.length := inT_len hit.out.nodup.1 fun a ha => setL_inT ((HS.out a).1 (hit.out.nodup.2 a ha))
          have hfl : (acc.filter (fun t => (n.tr t).enB m)).length ≤ acc.length := List.length_filter_le _ _
          go_wp2_with (at_next; refine wpList_next_keys _ rfl _ rfl mb w5.heap.size S acc cnt rfl hit.out ?_ ?_)
          · intro hdone
            have hall : ∀ z ∈ S, z ∈ acc := fun z hz => hdone z (wf_small (by have := setL_inT ((HS.out z).1 hz); exact ⟨this.1, by have := this.2; omega⟩)) hz
            have h1 := hit.out.nodup
            have hm1 : ∀ z, z ∈ acc ↔ z ∈ setL n m := fun z => ⟨fun h => (HS.out z).1 (h1.2 z h), fun h => hall z ((HS.out z).2 h)⟩
            have e1 : Hid ((acc.mergeSort fun x y => decide (x ≤ y)) = setL n m) := sort_is h1.1 (setL_sorted n m) hm1
            have e2 : Hid (((acc.filter (fun t => (n.tr t).enB m)).mergeSort fun x y => decide (x ≤ y)) = firesL n m) := by
              refine sort_is (h1.1.filter _) ((setL_sorted n m).filter _) fun z => ?_
              rw [firesL, List.mem_filter, List.mem_filter, hm1]
            have HBl := Lib.hid hbl
            obtain ⟨F, hF⟩ : ∃ F, acc.filter (fun t => (n.tr t).enB m) = F := ⟨_, rfl⟩
            rw [hF] at hO e2 hfl ⊢
            clear hF hm1 hall hdone h1 hit
            have HS1 := Lib.hid (sort_any wr w5.heap.size _ acc hO.out.a (by omega))
            go_wp2_with (first | (go_at_call 51; refine HS1.out.mono ?_; rintro e wA ⟨rfl, hoA, hgA⟩; refine Hid.out ?_))
            refine Lib.hid ?_
            have hO1 := hO.out.push hgA hoA (Or.inl rfl)
            have HS2 := Lib.hid (sort_any wA w5.heap.size _ F hO1.f (by omega))
            go_wp2_with (first | (go_at_call 51; refine HS2.out.mono ?_; rintro e wB ⟨rfl, hoB, hgB⟩))
            go_ret2
            have hO2 := (hO1.swap.push hgB hoB (Or.inl rfl)).swap
            rw [e1.out, e2.out] at hO2
            have hbA : Below w5.heap.size w5 wA := HBl.out.grown hgA hwr5 (fun j hj => (OwnF.ty (own_cellI.2 hO.out.a) hj).2)
            have hbB : Below w5.heap.size w5 wB := hbA.grown hgB (by have := hbA.size; omega) (fun j hj => (OwnF.ty (own_cellI.2 hO1.f) hj).2)
            have hbw := hbA.size
            refine ⟨_, _, rfl, hO2.a.lower (by omega), hO2.f.lower (by omega), HB3.out.trans ((HBW.out.trans (hbB.mono hwr)).mono hz3)⟩
          · intro z w7 cnt7 hwz hzS hza hit7 hlt hg7 hs7 hen
            have hzT := setL_inT ((HS.out z).1 hzS)
            have hO7 := hO.out.grownR hg7 hit.out.objs.2
            have hb7 : Below w5.heap.size w5 w7 := hbl.grown hg7 hwr5 (fun j hj => by cases hj; exact Nat.le_refl _)
            have HM7 : Hid (wr.rangeLeft mb w5.heap.size = cnt) := hit.out.left
            have hx7 := (Below.refl w7.heap.size w7).alloc (Nat.le_refl _) (.cells #[.int .i64 z] 3)
            have HO8 := Lib.hid (hO7.kept hx7)
            have HI8 := Lib.hid (hit7.below hx7)
            have HB8 := Lib.hid (hb7.trans (hx7.mono hb7.size))
            have hT8 := HO8.out.a
            have hz7 := hb7.size
            obtain ⟨F, hF⟩ : ∃ F, acc.filter (fun t => (n.tr t).enB m) = F := ⟨_, rfl⟩
            rw [hF] at HO8 hfl ⊢
            have HF := Lib.hid hF
            clear hit hO hO7 hb7 hx7 hit7 hg7 hbl hF hs7
            go_wp2_with (at_builtin; go_must (refine wpList_append_own_at _ rfl _ _ 26 rfl w5.heap.size 3 i0 (.int .i64 0) 1 8 Tryd.underlying26 hti hz0 hz1 hz2 rfl (by decide) _ _ _ rfl hT8 ⟨w7.heap.size, 0, none⟩ 1 1 [.int .i64 z] rfl rfl (cell_one_new _ _ _) (by intro u hu; simp at hu; subst hu; rfl) (by unfold maxLen; omega) (by omega) (by simp; omega) ?_; intro v9 w9 hown9 hg9 _ hat9; refine Hid.out ?_))
            refine Lib.hid ?_
            have hoR : OwnI w9 w5.heap.size v9 (acc ++ [z]) := by unfold OwnI; simpa using hown9
            have hO9 := HO8.out.push hg9 hoR hat9
            have HI9 := Lib.hid (HI8.out.keptRow hT8 hg9)
            have hb9 : Below w5.heap.size w5 w9 := HB8.out.grown hg9 HB8.out.size (fun j hj => (OwnF.ty (own_cellI.2 hT8) hj).2)
            have HC := HE8.out w9 hb9 z hzT
            have hz9 := hb9.size
            obtain ⟨a9, c9, e9⟩ := hoR.shape
            rw [List.length_append, List.length_singleton] at e9
            subst e9
            have HO9 := Lib.hid hO9
            have HB9 := Lib.hid hb9
            clear hown9 hg9 hat9 hoR hO9 hb9 hT8 HO8 HI8 HB8
            cases hez : (n.tr z).enB m with
            | true =>
              rw [hez] at HC
              have hsn : Hid ((acc ++ [z]).filter (fun t => (n.tr t).enB m) = F ++ [z]) := by rw [List.filter_append, HF.out]; refine Lib.hid ?_; simp [hez]
              have HC := Lib.hid HC
              clear hez
              go_wp2_with (first | (go_at_call 48; refine HC.out.mono ?_; rintro e w10 ⟨rfl, hb10⟩; refine Hid.out ?_))
              refine Lib.hid ?_
              have hx10 := (Below.refl w10.heap.size w10).alloc (Nat.le_refl _) (.cells #[.int .i64 z] 3)
              have hbX := hb10.trans (hx10.mono hb10.size)
              have HO11 := Lib.hid (HO9.out.kept hbX)
              have HI11 := Lib.hid (HI9.out.below hbX)
              have HB11 := Lib.hid (HB9.out.trans (hbX.mono hz9))
              have hT11 := HO11.out.f
              have hz10 := hb10.size
              clear hx10 hbX
              go_wp2_with (at_builtin; go_must (refine wpList_append_own_at _ rfl _ _ 26 rfl w5.heap.size 3 i0 (.int .i64 0) 1 8 Tryd.underlying26 hti hz0 hz1 hz2 rfl (by decide) _ _ _ rfl hT11 ⟨w10.heap.size, 0, none⟩ 1 1 [.int .i64 z] rfl rfl (cell_one_new _ _ _) (by intro u hu; simp at hu; subst hu; rfl) (by unfold maxLen; omega) (by omega) (by simp; omega) ?_; intro v12 w12 hown12 hg12 _ hat12))
              have hoR : OwnI w12 w5.heap.size v12 (F ++ [z]) := by unfold OwnI; simpa using hown12
              have hO12 := (HO11.out.swap.push hg12 hoR hat12).swap
              have hb12 : Below w5.heap.size w5 w12 := HB11.out.grown hg12 HB11.out.size (fun j hj => (OwnF.ty (own_cellI.2 hT11) hj).2)
              go_roundw
              case rel => exact ⟨acc ++ [z], cnt7, HI11.out.keptRow hT11 hg12, by rw [hsn.out]; exact hO12, hb12⟩
              case measure => rw [(HI11.out.keptRow hT11 hg12).left, HM7.out]; exact hlt
            | false =>
              rw [hez] at HC
              have hsn : Hid ((acc ++ [z]).filter (fun t => (n.tr t).enB m) = F) := by rw [List.filter_append, HF.out]; refine Lib.hid ?_; simp [hez]
              have HC := Lib.hid HC
              clear hez
              go_wp2_with (go_at_call 48; refine HC.out.mono ?_; rintro e w10 ⟨rfl, hb10⟩)
              go_roundw
              case rel => exact ⟨acc ++ [z], cnt7, HI9.out.below hb10, by rw [hsn.out]; exact HO9.out.kept hb10, HB9.out.trans (hb10.mono hz9)⟩
              case measure => rw [(HI9.out.below hb10).left, HM7.out]; exact hlt
end Go.Proofs.YtbolacnpljkpbaaDoor
