/- put: a marking's number in a graph, a new one if it is not there. -/
import Derived.Test.YtbolacnpljkpbaaDoorReachOwn
import Derived.Test.YtbolacnpljkpbaaDoorDrawnOnce
import Derived.Laws.NewBlocks
import Derived.Maps.AppendAt
set_option maxRecDepth 100000
namespace Go.Proofs.YtbolacnpljkpbaaDoor
open Go.RowKit Go.Maps Go.WideMaps

theorem box9 {w : World} {p : Nat} {v0 v1 : Value} {a b : Int} {vM : Value} {mp : Nat} {vE vF vH : Value} {t : TypeId} {fr : Nat × Nat} (h : w.heap[p]? = some (.cells (gCells v0 v1 a b vM mp vE vF vH) t fr)) :
    w.cell? ⟨p, 4, none⟩ = some vM ∧ w.cell? ⟨p, 5, none⟩ = some (.map (some mp)) ∧ w.cell? ⟨p, 6, none⟩ = some vE ∧ w.cell? ⟨p, 7, none⟩ = some vF ∧ w.cell? ⟨p, 8, none⟩ = some vH := by
  refine ⟨?_, ?_, ?_, ?_, ?_⟩ <;> (rw [cell_of_block h]; rfl)

set_option maxHeartbeats 2000000 in
theorem put_old (w : World) (base p : Nat) (v0 v1 : Value) (a b : Int) (vM : Value) (mp : Nat) (vE vF : Value) (g : Gr) (Ms : List (List Int × Value)) (Es : List (List (Int × Int) × Value)) (h : GOwn w base p v0 v1 a b vM mp vE vF g Ms Es)
    (B : Nat) (hB : B ≤ w.heap.size) (htab : Pow10 B w) (_hg : g.marks.length ≤ 4096) (vm : Value) (m : List Int) (hm : Ints w w.heap.size vm m) (hw : ∀ x ∈ m, In64 x) (hml : m.length ≤ 4096) (f : Int × Int) (ho : 0 ≤ findM g.marks m) :
    Calls Tryd.prog 40 #[.pointer (some ⟨p, 0, none⟩), vm, .agg #[.int .i64 f.1, .int .i64 f.2]] w fun e w' => e = .returned (.int .i64 (findM g.marks m)) ∧ Below w.heap.size w w' := by
  obtain ⟨am, cm, rfl⟩ := hm.val
  have hbA := (Below.refl w.heap.size w).alloc (Nat.le_refl _) (.cells #[.int .i64 f.1, .int .i64 f.2] 79)
  obtain ⟨W1, hW1⟩ : ∃ W1, w.alloc (.cells #[.int .i64 f.1, .int .i64 f.2] 79) = W1 := ⟨_, rfl⟩
  rw [hW1] at hbA
  have hz1 := hbA.size
  have hK := Lib.hid (rkey_any W1 _ m W1.heap.size (Nat.le_refl _) (hm.mono hbA hz1) hw hml (tab_up (htab.on (hbA.mono hB)) (by omega)))
  have hkey := Lib.hid (key_of hw hml)
  have h1 := h.kept hbA
  obtain ⟨D, hD1, hD2⟩ := h.by_
  have HD1 := Lib.hid hD1
  have hq := hD2.2 m
  have hhas : Hid (Maps.has D (.string (keyL m)) = true) := by rw [hq.1]; exact decide_eq_true ho
  have hat0 := Lib.hid (hq.2 ho)
  clear hD1 hD2 hq
  obtain ⟨ag, hag⟩ : ∃ ag, findM g.marks m = ag := ⟨_, rfl⟩
  rw [hag] at hat0 ho
  rw [hag]
  clear hag
  go_enter Tryd.func40, Tryd.ntmps40
  go_wp2_with (first | (go_at_call 43; refine hK.out.mono ?_; rintro e w2 ⟨rfl, hb2⟩; refine Hid.out ?_))
  refine Lib.hid ?_
  have hb12 := hbA.trans (hb2.mono hz1)
  have h2 := h.kept hb12
  obtain ⟨c4, c5, c6, c7, c8⟩ := box9 h2.box
  have HM2 := Lib.hid (HD1.out.kept (below_grownBy hb12 none) (by simp))
  go_wp2_with (first | (at_lookup; refine wpList_lookup_own_ok_int _ rfl _ _ 81 rfl 9 3 .i64 law_str Tryd.underlying81 Tryd.underlying3 (zero_int _) mp g.marks.length _ rfl HM2.out _ _ rfl hkey.out ?_; intro c hat hwc; obtain rfl : ag = c := (by rw [hat0.out] at hat; injection hat with hat; injection hat); rw [hhas.out]; clear hat hwc; refine Hid.out ?_))
  refine Lib.hid ?_
  go_wp2_with fail
  go_ret
  exact ⟨rfl, hb12⟩

/-- append(dst, src...) at a step of a drawn region: dst the call's own, src a literal's block. -/
theorem step_append_own {P : Program} (w : World) {ops : Array Oper} {o : Oper} {a : Act} {K : Act → World → Prop} {Q : Exit → Act → World → Prop} {E : Prop} (hgd : o.guard = none) (s x : Operand) (t : TypeId)
    (ho : o.op = .call { callee := .builtin .append, args := #[s, x], argTypes := #[t, t] })
    (base : Nat) (e : TypeId) (i : TypeInfo) (z : Value) (size bytes : Nat) (ht : P.underlying t = some (.slice e)) (hi : P.info? e = some i) (hz : i.zero = some z)
    (hsize : i.size = size) (hby : i.bytes = bytes) (hzs : z.cells.size = size) (hsz : 0 < size)
    (v : Value) (n : Nat) (xs : List Value) (hs : a.eval s = v) (hown : w.ownsRow base e size v n xs)
    (ad : Addr) (m c : Nat) (news : List Value) (hx : a.eval x = .slice (some ad) m c) (hl : news.length = m * size) (hnews : ∀ j u, news[j]? = some u → w.cell? (ad.add j) = some u) (h1 : ∀ u ∈ news, u.oneCell' = true)
    (h63 : n + m ≤ maxLen) (hbytes : (n + m) * bytes ≤ 140737488355328) (hbase : base ≤ w.heap.size)
    (h : ∀ v' w', w'.ownsRow base e size v' (n + m) (xs ++ news) → w.grownBy w' v.ownBlock → (v'.ownBlock = v.ownBlock ∨ v'.ownBlock = some w.heap.size) → K (a.put o.dst v') w') :
    if Region.wanted o (yielded ops a.tmps) = true then Oper.wp P o a w K Q else E := by
  have hw : Region.wanted o (yielded ops a.tmps) = true := by simp [Region.wanted, hgd]
  rw [if_pos hw]
  obtain ⟨v', w', hr, h2, h3, _, h5⟩ := run_append_own_at (P := P) w base t o.type e i z size bytes ht hi hz hsize hby hzs hsz v n xs hown ad m c news hl hnews h1 h63 hbytes hbase
  unfold Oper.wp execOp
  simp only [ho, resolve, invoke, builtin, Sem.run_bind, Sem.run_pure, Result.andThen_ok, List.map_toArray, List.map_cons, List.map_nil, hs, hx, hr]
  exact h v' w' h2 h3 h5

/-- All old blocks stand but some. -/
structure Frm (S : List (Option Nat)) (w w' : World) : Prop where
  os : w'.os = w.os
  tape : w'.tape = w.tape
  output : w'.output = w.output
  size : w.heap.size ≤ w'.heap.size
  keep : ∀ k, k < w.heap.size → (∀ r ∈ S, r ≠ some k) → w'.heap[k]? = w.heap[k]?
theorem Frm.refl (S : List (Option Nat)) (w : World) : Frm S w w := ⟨rfl, rfl, rfl, Nat.le_refl _, fun _ _ _ => rfl⟩
theorem Frm.below {S : List (Option Nat)} {w w1 w2 : World} (h : Frm S w w1) (hb : Below w1.heap.size w1 w2) : Frm S w w2 :=
  ⟨hb.os.trans h.os, hb.tape.trans h.tape, hb.output.trans h.output, Nat.le_trans h.size hb.size, fun k hk hr => (hb.block k (Nat.lt_of_lt_of_le hk h.size)).trans (h.keep k hk hr)⟩
theorem Frm.grown {S : List (Option Nat)} {w w1 w2 : World} {r : Option Nat} (h : Frm S w w1) (hg : w1.grownBy w2 r) (hr : r ∈ S) : Frm S w w2 :=
  ⟨hg.os.trans h.os, hg.tape.trans h.tape, hg.output.trans h.output, Nat.le_trans h.size hg.size, fun k hk hn => (hg.block k (Nat.lt_of_lt_of_le hk h.size) (fun e => hn r hr (e ▸ rfl))).trans (h.keep k hk hn)⟩

theorem row_other {α β : Type} {f : α → List Value} {g : β → List Value} {e1 e2 : TypeId} {k1 k2 : Nat} {w w' : World} {base : Nat} {u v : Value} {A : List α} {B : List β} (h : OwnF f e1 k1 w base u A) (h2 : OwnF g e2 k2 w base v B) (hne : e1 ≠ e2) (hg : w.grownBy w' v.ownBlock) : OwnF f e1 k1 w' base u A := by
  refine h.turned hg ?_
  rintro b n cap rfl e
  obtain ⟨c1, hc1, _⟩ := h.block
  rcases h2.val with ⟨rfl, _⟩ | ⟨b2, cap2, rfl, _⟩
  · cases e
  · obtain ⟨c2, hc2, _⟩ := h2.block
    obtain rfl : b = b2 := Option.some.inj e
    exact type_ne hc1 hc2 hne rfl
theorem lit_other {β : Type} {g : β → List Value} {e1 e2 : TypeId} {k2 : Nat} {w w' : World} {base q : Nat} {c : Array Value} {v : Value} {B : List β} (h : w.heap[q]? = some (.cells c e1)) (h2 : OwnF g e2 k2 w base v B) (hne : e1 ≠ e2) (hg : w.grownBy w' v.ownBlock) : w'.heap[q]? = some (.cells c e1) := by
  refine (hg.block q (lt_of_block h) ?_).trans h
  intro e
  rcases h2.val with ⟨rfl, _⟩ | ⟨b2, cap2, rfl, _⟩
  · cases e
  · obtain ⟨c2, hc2, _⟩ := h2.block
    obtain rfl : q = b2 := Option.some.inj e
    exact type_ne h hc2 hne rfl
theorem lit_alloc {w : World} {q : Nat} {o o' : Obj} (h : w.heap[q]? = some o') : (w.alloc o).heap[q]? = some o' := by rw [heap_alloc_old _ _ (lt_of_block h)]; exact h
theorem news_lit {w : World} {q : Nat} {c : Array Value} {e : TypeId} {xs : List Value} (h : w.heap[q]? = some (.cells c e)) (hx : xs = c.toList) : ∀ j u, xs[j]? = some u → w.cell? ((⟨q, 0, none⟩ : Addr).add j) = some u := by
  intro j u hj
  rw [add_addr, Nat.zero_add, cell_of_block h]
  subst hx
  simpa using hj
theorem OwnF.push {α : Type} {f : α → List Value} {e : TypeId} {k : Nat} {w' : World} {base : Nat} {v' : Value} {A : List α} {x : α} (h : w'.ownsRow base e k v' (A.length + 1) (cellsF f A ++ f x)) : OwnF f e k w' base v' (A ++ [x]) := by
  unfold OwnF
  rw [List.length_append, List.length_singleton, cellsF_app]
  exact h
theorem info_sl : (Tryd.prog.info? 26).map (fun i => (i.zero, i.size, i.bytes)) = some (some (.slice none 0 0), 1, 24) := by kernel_rfl
theorem info_se : (Tryd.prog.info? 42).map (fun i => (i.zero, i.size, i.bytes)) = some (some (.slice none 0 0), 1, 24) := by kernel_rfl
theorem info_ed : (Tryd.prog.info? 79).map (fun i => (i.zero, i.size, i.bytes)) = some (some (.agg #[.int .i64 0, .int .i64 0]), 2, 16) := by kernel_rfl

theorem row_map {α : Type} {f : α → List Value} {e : TypeId} {k : Nat} {w w' : World} {base mp : Nat} {v : Value} {A : List α} (h : OwnF f e k w base v A) (hm : ∃ es ck, w.heap[mp]? = some (.map es ck)) (hg : w.grownBy w' (some mp)) : OwnF f e k w' base v A := by
  refine h.turned hg ?_
  rintro b n cap rfl e2
  obtain ⟨c1, hc1, _⟩ := h.block
  obtain ⟨es, ck, hmm⟩ := hm
  obtain rfl : b = mp := Option.some.inj e2
  rw [hmm] at hc1
  injection hc1 with hc1
  cases hc1
theorem own_map {w w' : World} {base mp : Nat} {v : Value} {l : List Int} (h : OwnI w base v l) (hm : ∃ es ck, w.heap[mp]? = some (.map es ck)) (hg : w.grownBy w' (some mp)) : OwnI w' base v l := by
  refine h.turned hg (fun cur e => ?_)
  obtain ⟨es, ck, hmm⟩ := hm
  rw [hmm] at e
  injection e with e
  cases e
theorem lit_map {w w' : World} {q mp : Nat} {c : Array Value} {e : TypeId} (h : w.heap[q]? = some (.cells c e)) (hm : ∃ es ck, w.heap[mp]? = some (.map es ck)) (hg : w.grownBy w' (some mp)) : w'.heap[q]? = some (.cells c e) := by
  refine (hg.block q (lt_of_block h) (fun e => ?_)).trans h
  obtain ⟨es, ck, hmm⟩ := hm
  obtain rfl : q = mp := Option.some.inj e
  rw [hmm] at h
  injection h with h
  cases h

theorem one_M (x : List Int × Value) (h : x.2.oneCell' = true) : ∀ u ∈ cellM x, u.oneCell' = true := by
  intro u hu
  obtain rfl : u = x.2 := by simpa [cellM] using hu
  exact h
theorem one_E (x : List (Int × Int) × Value) (h : x.2.oneCell' = true) : ∀ u ∈ cellX x, u.oneCell' = true := by
  intro u hu
  obtain rfl : u = x.2 := by simpa [cellX] using hu
  exact h
theorem one_F (x : Int × Int) : ∀ u ∈ cellE x, u.oneCell' = true := by
  intro u hu
  simp only [cellE, List.mem_cons, List.mem_nil_iff, or_false] at hu
  rcases hu with rfl | rfl <;> rfl
theorem row_box {α : Type} {f : α → List Value} {e e2 : TypeId} {k : Nat} {w : World} {base p i : Nat} {c : Array Value} {v : Value} {A : List α} (h : OwnF f e k w base v A) (hp : w.heap[p]? = some (.cells c e2)) (hne : e ≠ e2) (x : Value) : OwnF f e k (w.setCell ⟨p, i, none⟩ x) base v A := by
  refine h.turned (grownBy_setCell w p i x) ?_
  rintro b n cap rfl e3
  obtain ⟨c1, hc1, _⟩ := h.block
  obtain rfl : b = p := Option.some.inj e3
  exact type_ne hc1 hp hne rfl
theorem box_set {w : World} {p i : Nat} {c : Array Value} {e : TypeId} (hp : w.heap[p]? = some (.cells c e)) (x : Value) : (w.setCell ⟨p, i, none⟩ x).heap[p]? = some (.cells (c.setIfInBounds i x) e) := heap_setCell_self (i := i) x hp

/-- What the statement of three appends leaves. -/
def PutFin (W0 : World) (base p : Nat) (v0 v1 : Value) (a b : Int) (mp : Nat) (vM vE vF : Value) (Ms : List (List Int × Value)) (Es : List (List (Int × Int) × Value)) (Fs : List (Int × Int)) (wx : World) : Prop :=
  ∃ w9 vM' vE' vF', w9 = wx ∧ w9.heap[p]? = some (.cells (gCells v0 v1 a b vM' mp vE' vF' (.slice none 0 0)) 83) ∧ RowM w9 base vM' Ms ∧ RowX w9 base vE' Es ∧ RowE w9 base vF' Fs ∧
    Frm [vM.ownBlock, vE.ownBlock, vF.ownBlock, some p] W0 w9 ∧ (vF'.ownBlock = vF.ownBlock ∨ ∃ k, vF'.ownBlock = some k ∧ W0.heap.size ≤ k)
theorem Frm.more {S T : List (Option Nat)} {w w' : World} (h : Frm S w w') (hs : ∀ r ∈ S, r ∈ T) : Frm T w w' := ⟨h.os, h.tape, h.output, h.size, fun k hk hn => h.keep k hk (fun r hr => hn r (hs r hr))⟩
theorem put_fin {W0 W : World} {base p : Nat} {v0 v1 : Value} {a b : Int} {mp : Nat} {vM vE vF uM uE uF xM xE xF : Value} {Ms : List (List Int × Value)} {Es : List (List (Int × Int) × Value)} {Fs : List (Int × Int)}
    (hP : W.heap[p]? = some (.cells (gCells v0 v1 a b uM mp uE uF (.slice none 0 0)) 83)) (rM : RowM W base xM Ms) (rE : RowX W base xE Es) (rF : RowE W base xF Fs) (fr : Frm [vM.ownBlock, vE.ownBlock, vF.ownBlock] W0 W)
    (hat : xF.ownBlock = vF.ownBlock ∨ ∃ k, xF.ownBlock = some k ∧ W0.heap.size ≤ k) : PutFin W0 base p v0 v1 a b mp vM vE vF Ms Es Fs (((W.setCell ⟨p, 4, none⟩ xM).setCell ⟨p, 6, none⟩ xE).setCell ⟨p, 7, none⟩ xF) := by
  have h1 := box_set (i := 4) hP xM
  have h2 := box_set (i := 6) h1 xE
  have h3 := box_set (i := 7) h2 xF
  refine ⟨_, xM, xE, xF, rfl, h3, ?_, ?_, ?_, ?_, hat⟩
  · exact row_box (row_box (row_box rM hP (by decide) _) h1 (by decide) _) h2 (by decide) _
  · exact row_box (row_box (row_box rE hP (by decide) _) h1 (by decide) _) h2 (by decide) _
  · exact row_box (row_box (row_box rF hP (by decide) _) h1 (by decide) _) h2 (by decide) _
  · have f1 := fr.more (T := [vM.ownBlock, vE.ownBlock, vF.ownBlock, some p]) (by simp)
    exact ((f1.grown (grownBy_setCell _ p 4 _) (by simp)).grown (grownBy_setCell _ p 6 _) (by simp)).grown (grownBy_setCell _ p 7 _) (by simp)

/-- What put leaves. -/
def PutPost (w : World) (base p : Nat) (v0 v1 : Value) (a b : Int) (mp : Nat) (i : Int) (g : Gr) (e : Ending) (w' : World) : Prop :=
  e = .returned (.int .i64 i) ∧ (∃ vM vE vF Ms Es, GOwn w' base p v0 v1 a b vM mp vE vF g Ms Es) ∧ Below base w w' ∧ ∀ base' v l, OwnI w base' v l → OwnI w' base' v l

theorem row_ty {α : Type} {f : α → List Value} {e : TypeId} {k : Nat} {w : World} {base : Nat} {v : Value} {A : List α} (h : OwnF f e k w base v A) {q : Nat} (hq : v.ownBlock = some q) : (∃ c, w.heap[q]? = some (.cells c e)) ∧ base ≤ q := by
  rcases h.val with ⟨rfl, _⟩ | ⟨b, cap, rfl, hb, _⟩
  · cases hq
  · obtain rfl : b = q := Option.some.inj hq
    obtain ⟨cur, hc, _⟩ := h.block
    exact ⟨⟨cur, hc⟩, hb⟩
theorem OwnI.frm {S : List (Option Nat)} {w w' : World} {base : Nat} {v : Value} {l : List Int} (h : OwnI w base v l) (fr : Frm S w w') (hne : ∀ q c, w.heap[q]? = some (.cells c 3) → ∀ r ∈ S, r ≠ some q) : OwnI w' base v l := by
  refine ⟨h.1, ?_⟩
  rcases h.2 with h0 | ⟨g, cap, cur, hv, hbg, hg, r⟩
  · exact Or.inl h0
  · exact Or.inr ⟨g, cap, cur, hv, hbg, (fr.keep g (lt_of_block hg) (hne g cur hg)).trans hg, r⟩
theorem OwnF.frm {α : Type} {f : α → List Value} {e : TypeId} {k : Nat} {S : List (Option Nat)} {w w' : World} {base : Nat} {v : Value} {A : List α} (h : OwnF f e k w base v A) (fr : Frm S w w') (hne : ∀ q c, v.ownBlock = Option.some q → w.heap[q]? = Option.some (.cells c e) → ∀ r ∈ S, r ≠ Option.some q) : OwnF f e k w' base v A := by
  refine ⟨h.1, ?_⟩
  rcases h.2 with h0 | ⟨g, cap, cur, hv, hbg, hg, r⟩
  · exact Or.inl h0
  · exact Or.inr ⟨g, cap, cur, hv, hbg, (fr.keep g (lt_of_block hg) (hne g cur (by rw [hv]; rfl) hg)).trans hg, r⟩

theorem put_done {w w2 w3 W0 w9 : World} {base p : Nat} {v0 v1 : Value} {a b : Int} {vM : Value} {mp : Nat} {vE vF : Value} {g : Gr} {Ms : List (List Int × Value)} {Es : List (List (Int × Int) × Value)} (h : GOwn w base p v0 v1 a b vM mp vE vF g Ms Es)
    {vm : Value} {m : List Int} (hm : OwnI w base vm m) {f : Int × Int} (ho : findM g.marks m < 0) (hb12 : Below w.heap.size w w2) (hg3 : w2.grownBy w3 (some mp)) (hmp2 : ∃ es ck, w2.heap[mp]? = some (.map es ck)) {D : DataW Unit}
    (hs3 : MapR w3 mp (g.marks.length + 1) D) (hnew : MapG D (g.marks ++ [m])) (hdr : Below w3.heap.size w3 W0)
    (rM : RowM W0 base vM Ms) (rE : RowX W0 base vE Es) (rF : RowE W0 base vF g.src) (hP : ∃ c, W0.heap[p]? = some (.cells c 83))
    (hfin : PutFin W0 base p v0 v1 a b mp vM vE vF (Ms ++ [(m, vm)]) (Es ++ [([], .slice none 0 0)]) (g.src ++ [f]) w9) : PutPost w base p v0 v1 a b mp (g.marks.length : Int) (g.put m f) (.returned (.int .i64 (g.marks.length : Int))) w9 := by
  obtain ⟨w9', vM', vE', vF', rfl, hP9, rM9, rE9, rF9, fr9, hat9⟩ := hfin
  obtain ⟨cP, hP⟩ := hP
  have hdisj : ∀ (q : Nat) (c : Array Value) (t : TypeId), W0.heap[q]? = some (.cells c t) → t ≠ 26 → t ≠ 42 → t ≠ 83 → vF.ownBlock ≠ some q → ∀ r ∈ [vM.ownBlock, vE.ownBlock, vF.ownBlock, some p], r ≠ some q := by
    intro q c t hq h1 h2 h3 h4 r hr e
    simp only [List.mem_cons, List.mem_nil_iff, or_false] at hr
    rcases hr with rfl | rfl | rfl | rfl
    · obtain ⟨⟨c', hc'⟩, _⟩ := row_ty rM e
      exact type_ne hq hc' h1 rfl
    · obtain ⟨⟨c', hc'⟩, _⟩ := row_ty rE e
      exact type_ne hq hc' h2 rfl
    · exact h4 e
    · obtain rfl : p = q := Option.some.inj e
      exact type_ne hq hP h3 rfl
  have hF : ∀ (q : Nat) (c : Array Value) (t : TypeId), W0.heap[q]? = some (.cells c t) → t ≠ 79 → vF.ownBlock ≠ some q := by
    intro q c t hq h1 e
    obtain ⟨⟨c', hc'⟩, _⟩ := row_ty rF e
    exact type_ne hq hc' h1 rfl
  have toI : ∀ base' v l, OwnI w base' v l → OwnI w9' base' v l := by
    intro base' v l hv
    have k3 := own_map (hv.kept hb12 (Nat.le_refl _)) hmp2 hg3
    refine (k3.kept hdr (Nat.le_refl _)).frm fr9 ?_
    intro q c hq
    exact hdisj q c _ hq (by decide) (by decide) (by decide) (hF q c _ hq (by decide))
  have toE : ∀ v l, RowE w base v l → (∀ q, v.ownBlock = some q → vF.ownBlock ≠ some q) → RowE w9' base v l := by
    intro v l hv hne
    have k3 := row_map (OwnF.kept hv hb12) hmp2 hg3
    refine OwnF.frm (OwnF.kept k3 hdr) fr9 ?_
    intro q c hvq hq
    exact hdisj q c _ hq (by decide) (by decide) (by decide) (hne q hvq)
  have hbel : Below base w w9' := by
    have hlt : base ≤ w.heap.size := Nat.le_trans h.hp (Nat.le_of_lt (lt_of_block h.box))
    have h3 : Below base w w3 := (hb12.mono hlt).grown hg3 (Nat.le_trans hlt hb12.size) (fun k hk => by cases hk; exact h.hmp)
    have h0 := h3.trans (hdr.mono (Nat.le_trans hlt h3.size))
    have h9 : Below base W0 w9' := by
      refine ⟨fr9.os, fr9.tape, fr9.output, fr9.size, fun k hk => fr9.keep k (Nat.lt_of_lt_of_le hk (Nat.le_trans hlt h0.size)) ?_⟩
      intro r hr e
      simp only [List.mem_cons, List.mem_nil_iff, or_false] at hr
      rcases hr with rfl | rfl | rfl | rfl
      · have := (row_ty rM e).2; omega
      · have := (row_ty rE e).2; omega
      · have := (row_ty rF e).2; omega
      · have := Option.some.inj e
        have := h.hp
        omega
    exact h0.trans h9
  have hput : g.put m f = ⟨g.marks ++ [m], g.edges ++ [[]], g.src ++ [f]⟩ := by unfold Gr.put; rw [if_neg (by omega)]
  have hsz : w.heap.size ≤ W0.heap.size := Nat.le_trans (Nat.le_trans hb12.size hg3.size) hdr.size
  refine ⟨rfl, ⟨vM', vE', vF', Ms ++ [(m, vm)], Es ++ [([], .slice none 0 0)], ?_⟩, hbel, toI⟩
  rw [hput]
  refine ⟨hP9, h.hp, h.hmp, by simp [h.isM], by simp [h.isE], rM9, rE9, rF9, ?_, ?_, ?_, ?_, ?_⟩
  · intro x hx
    rcases List.mem_append.1 hx with hx | hx
    · exact toI _ _ _ (h.marks x hx)
    · obtain rfl : x = (m, vm) := by simpa using hx
      exact toI _ _ _ hm
  · intro x hx
    rcases List.mem_append.1 hx with hx | hx
    · exact toE _ _ (h.edges x hx) (h.apartF x hx)
    · obtain rfl : x = ([], .slice none 0 0) := by simpa using hx
      exact OwnF.nil _ _
  · intro x hx q hq e
    rcases List.mem_append.1 hx with hx | hx
    · rcases hat9 with h1 | ⟨k, h1, h2⟩
      · rw [h1] at e; exact h.apartF x hx q hq e
      · obtain ⟨⟨c, hc⟩, _⟩ := row_ty (h.edges x hx) hq
        have := lt_of_block hc
        rw [h1] at e
        have := Option.some.inj e
        omega
    · obtain rfl : x = ([], .slice none 0 0) := by simpa using hx
      cases hq
  · refine List.pairwise_append.2 ⟨h.apart, by simp, ?_⟩
    intro x _ y hy q _ e
    obtain rfl : y = ([], .slice none 0 0) := by simpa using hy
    cases e
  · refine ⟨D, ?_, hnew⟩
    show MapR w9' mp (g.marks ++ [m]).length D
    rw [List.length_append, List.length_singleton]
    obtain ⟨es, ck, h1, h2⟩ := hs3
    have h0 := (hdr.block mp (lt_of_block h1)).trans h1
    refine ⟨es, ck, (fr9.keep mp (lt_of_block h0) ?_).trans h0, h2⟩
    intro r hr e
    have hno : ∀ c t, W0.heap[mp]? ≠ some (.cells c t) := fun c t e => by rw [h0] at e; injection e with e; cases e
    simp only [List.mem_cons, List.mem_nil_iff, or_false] at hr
    rcases hr with rfl | rfl | rfl | rfl
    · obtain ⟨⟨c', hc'⟩, _⟩ := row_ty rM e; exact hno _ _ hc'
    · obtain ⟨⟨c', hc'⟩, _⟩ := row_ty rE e; exact hno _ _ hc'
    · obtain ⟨⟨c', hc'⟩, _⟩ := row_ty rF e; exact hno _ _ hc'
    · obtain rfl : p = mp := Option.some.inj e
      exact hno _ _ hP

theorem with_tail {P : Program} {ops : Array Oper} {Q : Exit → Act → World → Prop} {md : Region.Mode} {C : World → Prop} {s : Nat} {listed' : Array Bool} {fuel' : Nat} {Good : Act → World → Prop} {fuel : Nat} {listed : Array Bool} {a : Act} {w : World}
    (h1 : ∀ a' w', Good a' w' → wpAnyL P md ops Q C s fuel' listed' a' w') (h2 : (∀ a' w', Good a' w' → wpAnyL P md ops Q C s fuel' listed' a' w') → wpAnyL P md ops Q C s fuel listed a w) : wpAnyL P md ops Q C s fuel listed a w := h2 h1

set_option maxHeartbeats 4000000 in
theorem put_new (w : World) (base p : Nat) (v0 v1 : Value) (a b : Int) (vM : Value) (mp : Nat) (vE vF : Value) (g : Gr) (Ms : List (List Int × Value)) (Es : List (List (Int × Int) × Value)) (h : GOwn w base p v0 v1 a b vM mp vE vF g Ms Es)
    (B : Nat) (hB : B ≤ w.heap.size) (htab : Pow10 B w) (hg : g.marks.length ≤ 4096) (vm : Value) (m : List Int) (hm : OwnI w base vm m) (hw : ∀ x ∈ m, In64 x) (hml : m.length ≤ 4096) (f : Int × Int) (ho : findM g.marks m < 0) (hEl : Es.length ≤ 4096) (hFl : g.src.length ≤ 4096) :
    Calls Tryd.prog 40 #[.pointer (some ⟨p, 0, none⟩), vm, .agg #[.int .i64 f.1, .int .i64 f.2]] w (PutPost w base p v0 v1 a b mp (g.marks.length : Int) (g.put m f)) := by
  obtain ⟨am, cm, rfl⟩ := hm.shape
  have hmI := hm.col (by omega) (Nat.le_refl w.heap.size)
  have hbA := (Below.refl w.heap.size w).alloc (Nat.le_refl _) (.cells #[.int .i64 f.1, .int .i64 f.2] 79)
  have hboxA := heap_alloc_new w (.cells #[.int .i64 f.1, .int .i64 f.2] 79)
  obtain ⟨W1, hW1⟩ : ∃ W1, w.alloc (.cells #[.int .i64 f.1, .int .i64 f.2] 79) = W1 := ⟨_, rfl⟩
  rw [hW1] at hbA hboxA
  have hz1 : w.heap.size + 1 ≤ W1.heap.size := by rw [← hW1]; simp
  have hK := Lib.hid (rkey_any W1 _ m W1.heap.size (Nat.le_refl _) (hmI.mono hbA (by omega)) hw hml (tab_up (htab.on (hbA.mono hB)) (by omega)))
  have hkey := Lib.hid (key_of hw hml)
  obtain ⟨D, hD1, hD2⟩ := h.by_
  have HD1 := Lib.hid hD1
  have hq := hD2.2 m
  have hhas : Hid (Maps.has D (.string (keyL m)) = false) := by rw [hq.1]; exact decide_eq_false (by omega)
  have hnew := Lib.hid (hD2.new ho)
  clear hD1 hD2 hq
  obtain ⟨aM, cM, rfl⟩ := h.rowM.shape
  obtain ⟨aE, cE, rfl⟩ := h.rowE.shape
  obtain ⟨aF, cF, rfl⟩ := h.rowF.shape
  have hlM : Ms.length = g.marks.length := by rw [← h.isM]; simp
  have HLM := Lib.hid hlM
  rw [hlM] at h
  clear hlM
  go_enter Tryd.func40, Tryd.ntmps40
  go_wp2_with (first | (go_at_call 43; refine hK.out.mono ?_; rintro e w2 ⟨rfl, hb2⟩; refine Hid.out ?_))
  refine Lib.hid ?_
  have hb12 := hbA.trans (hb2.mono (by omega))
  have hz2 := hb2.size
  have h2 := h.kept hb12
  obtain ⟨c4, c5, c6, c7, c8⟩ := box9 h2.box
  have HM2 := Lib.hid (HD1.out.kept (below_grownBy hb12 none) (by simp))
  go_wp2_with (first | (at_lookup; refine wpList_lookup_own_ok_int _ rfl _ _ 81 rfl 9 3 .i64 law_str Tryd.underlying81 Tryd.underlying3 (zero_int _) mp g.marks.length _ rfl HM2.out _ _ rfl hkey.out ?_; intro c hat hwc; rw [hhas.out]; clear hat hwc; refine Hid.out ?_))
  refine Lib.hid ?_
  go_wp2_with (first | (refine wpList_mapUpdate_own _ rfl _ _ _ 81 rfl 9 3 law_str Tryd.underlying81 (plainElem Tryd.prog 3) mp g.marks.length _ rfl HM2.out (by unfold maxLen; omega) _ _ _ rfl rfl hkey.out (.lit (.int .i64 (g.marks.length : Int))) [] (plainElem_int Tryd.underlying3 (WalkArith.wf_i64 (by omega))) ?_; intro w3 hown3 hg3; refine Hid.out ?_))
  refine Lib.hid ?_
  have hmp2 : ∃ es ck, w2.heap[mp]? = some (.map es ck) := by obtain ⟨es, ck, e, _⟩ := HM2.out; exact ⟨es, ck, e⟩
  have hX2 := (hb2.block w.heap.size (by omega)).trans hboxA
  have hX3 := lit_map hX2 hmp2 hg3
  have hP3 := lit_map h2.box hmp2 hg3
  have rM3 := row_map h2.rowM hmp2 hg3
  have rE3 := row_map h2.rowE hmp2 hg3
  have rF3 := row_map h2.rowF hmp2 hg3
  have hdr : Below w3.heap.size w3 w3.drew := (Below.refl _ _).drew
  have HS3 := Lib.hid hown3
  have HG3 := Lib.hid hg3
  have HH := Lib.hid h2
  have hF3 : (Value.slice aF g.src.length cF).ownBlock ≠ some w.heap.size := by
    intro e
    have hr := h.rowF
    rcases hr.val with ⟨e2, _⟩ | ⟨b, cap, e2, _, hb⟩
    · rw [e2] at e; cases e
    · rw [e2] at e
      have : b = w.heap.size := Option.some.inj e
      omega
  have HF3 := Lib.hid hF3
  have hbase2 : base ≤ w.heap.size := Nat.le_trans h.hp (Nat.le_of_lt (lt_of_block h.box))
  obtain ⟨i1, ht1, hz10, hz11, hz12⟩ := info_parts info_sl
  obtain ⟨i2, ht2, hz20, hz21, hz22⟩ := info_parts info_se
  obtain ⟨i3, ht3, hz30, hz31, hz32⟩ := info_parts info_ed
  obtain ⟨W0, hW0⟩ : ∃ W0, w3.drew = W0 := ⟨_, rfl⟩
  rw [hW0] at hdr
  have hPW0 := (hdr.block p (lt_of_block hP3)).trans hP3
  have hXW0 := (hdr.block w.heap.size (lt_of_block hX3)).trans hX3
  have rMW0 := rM3.kept hdr
  have rEW0 := rE3.kept hdr
  have rFW0 := rF3.kept hdr
  have hz0 := hdr.size
  have hz3 : w2.heap.size ≤ w3.heap.size := HG3.out.size
  clear hX2 hX3 hP3 rM3 rE3 rF3 hF3 hown3 hg3 h2 c4 c5 c6 c7 c8
  have HB12 := Lib.hid hb12
  have HPW0 := Lib.hid hPW0
  have HRM := Lib.hid rMW0
  have HRE := Lib.hid rEW0
  have HRF := Lib.hid rFW0
  have HDR := Lib.hid hdr
  have HMP2 := Lib.hid hmp2
  clear hb12 hb2 hbA hboxA
  obtain ⟨k4W0, -, k6W0, k7W0, -⟩ := box9 hPW0
  have kx0W0 : W0.cell? ⟨w.heap.size, 0, none⟩ = some (.int .i64 f.1) := by rw [cell_of_block hXW0]; rfl
  have kx1W0 : W0.cell? ⟨w.heap.size, 1, none⟩ = some (.int .i64 f.2) := by rw [cell_of_block hXW0]; rfl
  have frW0 := Frm.refl [(Value.slice aM g.marks.length cM).ownBlock, (Value.slice aE Es.length cE).ownBlock, (Value.slice aF g.src.length cF).ownBlock] W0
  have hzW0 : base ≤ W0.heap.size := by omega
  have hMl : Ms.length ≤ 4096 := by have := HLM.out; omega
  go_upto_region 7 with fail
  go_cut [] (fun wx => PutFin W0 base p v0 v1 a b mp (.slice aM g.marks.length cM) (.slice aE Es.length cE) (.slice aF g.src.length cF) (Ms ++ [(m, .slice am m.length cm)]) (Es ++ [([], .slice none 0 0)]) (g.src ++ [f]) wx)
  case first =>
    refine wp_region_once (fun w' => w'.cell? ⟨p, 4, none⟩ = some (.slice aM g.marks.length cM) ∧ w'.cell? ⟨p, 6, none⟩ = some (.slice aE Es.length cE) ∧ w'.cell? ⟨p, 7, none⟩ = some (.slice aF g.src.length cF) ∧ w'.cell? ⟨w.heap.size, 0, none⟩ = some (.int .i64 f.1) ∧ w'.cell? ⟨w.heap.size, 1, none⟩ = some (.int .i64 f.2)) 25 (by kernel_rfl) ?_
    rw [hW0]
    have HC := (And.intro k4W0 (And.intro k6W0 (And.intro k7W0 (And.intro kx0W0 kx1W0))))
    refine wpAnyL_takeY (i := 0) (v := ?_) rfl (by kernel_rfl) (by kernel_rfl) (by kernel_rfl) (by kernel_rfl) (by kernel_rfl) (fun _ _ _ h => h) (fun _ => HC) (Or.inl ⟨by rfl, ?_⟩) ?_
    rotate_left
    · intro w' _; first | (go_simp; done) | (go_simp; with_reducible rfl)
    simp only [List.getElem_toArray, List.getElem_cons_zero, Act.put, List.setIfInBounds_toArray, List.set_cons_zero, List.set_cons_succ]
    refine wpAnyL_takeY (i := 1) (v := ?_) rfl (by kernel_rfl) (by kernel_rfl) (by kernel_rfl) (by kernel_rfl) (by kernel_rfl) (fun _ _ _ h => h) (fun _ => HC) (Or.inl ⟨by rfl, ?_⟩) ?_
    rotate_left
    · intro w' _; first | (go_simp; done) | (go_simp; with_reducible rfl)
    simp only [List.getElem_toArray, List.getElem_cons_succ, List.getElem_cons_zero, Act.put, List.setIfInBounds_toArray, List.set_cons_zero, List.set_cons_succ]
    refine wpAnyL_takeY (i := 2) (v := ?_) rfl (by kernel_rfl) (by kernel_rfl) (by kernel_rfl) (by kernel_rfl) (by kernel_rfl) (fun _ _ _ h => h) (fun _ => HC) (Or.inl ⟨by rfl, ?_⟩) ?_
    rotate_left
    · intro w' _; first | (go_simp; done) | (go_simp; with_reducible rfl)
    simp only [List.getElem_toArray, List.getElem_cons_succ, List.getElem_cons_zero, Act.put, List.setIfInBounds_toArray, List.set_cons_zero, List.set_cons_succ]
    refine wpAnyL_takeY (i := 3) (v := ?_) rfl (by kernel_rfl) (by kernel_rfl) (by kernel_rfl) (by kernel_rfl) (by kernel_rfl) (fun _ _ _ h => h) (fun _ => HC) (Or.inl ⟨by rfl, ?_⟩) ?_
    rotate_left
    · intro w' _; first | (go_simp; done) | (go_simp; with_reducible rfl)
    simp only [List.getElem_toArray, List.getElem_cons_succ, List.getElem_cons_zero, Act.put, List.setIfInBounds_toArray, List.set_cons_zero, List.set_cons_succ]
    refine wpAnyL_takeY (i := 4) (v := ?_) rfl (by kernel_rfl) (by kernel_rfl) (by kernel_rfl) (by kernel_rfl) (by kernel_rfl) (fun _ _ _ h => h) (fun _ => HC) (Or.inl ⟨by rfl, ?_⟩) ?_
    rotate_left
    · intro w' _; first | (go_simp; done) | (go_simp; with_reducible rfl)
    simp only [List.getElem_toArray, List.getElem_cons_succ, List.getElem_cons_zero, Act.put, List.setIfInBounds_toArray, List.set_cons_zero, List.set_cons_succ]
    refine wpAnyL_takeY (i := 5) (v := ?_) rfl (by kernel_rfl) (by kernel_rfl) (by kernel_rfl) (by kernel_rfl) (by kernel_rfl) (fun _ _ _ h => h) (fun _ => HC) (Or.inl ⟨by rfl, ?_⟩) ?_
    rotate_left
    · intro w' _; first | (go_simp; done) | (go_simp; with_reducible rfl)
    simp only [List.getElem_toArray, List.getElem_cons_succ, List.getElem_cons_zero, Act.put, List.setIfInBounds_toArray, List.set_cons_zero, List.set_cons_succ]
    refine wpAnyL_takeY (i := 7) (v := ?_) rfl (by kernel_rfl) (by kernel_rfl) (by kernel_rfl) (by kernel_rfl) (by kernel_rfl) (fun _ _ _ h => h) (fun _ => HC) (Or.inl ⟨by rfl, ?_⟩) ?_
    rotate_left
    · intro w' _; first | (go_simp; done) | (go_simp; with_reducible rfl)
    simp only [List.getElem_toArray, List.getElem_cons_succ, List.getElem_cons_zero, Act.put, List.setIfInBounds_toArray, List.set_cons_zero, List.set_cons_succ]
    refine wpAnyL_takeY (i := 10) (v := ?_) rfl (by kernel_rfl) (by kernel_rfl) (by kernel_rfl) (by kernel_rfl) (by kernel_rfl) (fun _ _ _ h => h) (fun _ => HC) (Or.inl ⟨by rfl, ?_⟩) ?_
    rotate_left
    · intro w' _; first | (go_simp; done) | (go_simp; with_reducible rfl)
    simp only [List.getElem_toArray, List.getElem_cons_succ, List.getElem_cons_zero, Act.put, List.setIfInBounds_toArray, List.set_cons_zero, List.set_cons_succ]
    refine wpAnyL_takeY (i := 11) (v := ?_) rfl (by kernel_rfl) (by kernel_rfl) (by kernel_rfl) (by kernel_rfl) (by kernel_rfl) (fun _ _ _ h => h) (fun _ => HC) (Or.inl ⟨by rfl, ?_⟩) ?_
    rotate_left
    · intro w' _; first | (go_simp; done) | (go_simp; with_reducible rfl)
    simp only [List.getElem_toArray, List.getElem_cons_succ, List.getElem_cons_zero, Act.put, List.setIfInBounds_toArray, List.set_cons_zero, List.set_cons_succ]
    refine wpAnyL_takeY (i := 12) (v := ?_) rfl (by kernel_rfl) (by kernel_rfl) (by kernel_rfl) (by kernel_rfl) (by kernel_rfl) (fun _ _ _ h => h) (fun _ => HC) (Or.inl ⟨by rfl, ?_⟩) ?_
    rotate_left
    · intro w' _; first | (go_simp; done) | (go_simp; with_reducible rfl)
    simp only [List.getElem_toArray, List.getElem_cons_succ, List.getElem_cons_zero, Act.put, List.setIfInBounds_toArray, List.set_cons_zero, List.set_cons_succ]
    refine wpAnyL_takeY (i := 16) (v := ?_) rfl (by kernel_rfl) (by kernel_rfl) (by kernel_rfl) (by kernel_rfl) (by kernel_rfl) (fun _ _ _ h => h) (fun _ => HC) (Or.inl ⟨by rfl, ?_⟩) ?_
    rotate_left
    · intro w' _; first | (go_simp; done) | (go_simp; with_reducible rfl)
    simp only [List.getElem_toArray, List.getElem_cons_succ, List.getElem_cons_zero, Act.put, List.setIfInBounds_toArray, List.set_cons_zero, List.set_cons_succ]
    refine wpAnyL_takeY (i := 17) (v := ?_) rfl (by kernel_rfl) (by kernel_rfl) (by kernel_rfl) (by kernel_rfl) (by kernel_rfl) (fun _ _ _ h => h) (fun _ => HC) (Or.inl ⟨by rfl, ?_⟩) ?_
    rotate_left
    · intro w' _; first | (go_simp; done) | (go_simp; with_reducible rfl)
    simp only [List.getElem_toArray, List.getElem_cons_succ, List.getElem_cons_zero, Act.put, List.setIfInBounds_toArray, List.set_cons_zero, List.set_cons_succ]
    refine wpAnyL_takeY (i := 18) (v := ?_) rfl (by kernel_rfl) (by kernel_rfl) (by kernel_rfl) (by kernel_rfl) (by kernel_rfl) (fun _ _ _ h => h) (fun _ => HC) (Or.inl ⟨by rfl, ?_⟩) ?_
    rotate_left
    · intro w' _; first | (go_simp; done) | (go_simp; with_reducible rfl)
    simp only [List.getElem_toArray, List.getElem_cons_succ, List.getElem_cons_zero, Act.put, List.setIfInBounds_toArray, List.set_cons_zero, List.set_cons_succ]
    refine wpAnyL_takeC (r := [22, 15, 9, 6]) (i := 6) (v := ?_) (by kernel_rfl) rfl (by kernel_rfl) (by kernel_rfl) (by kernel_rfl) (by kernel_rfl) (by kernel_rfl) (fun _ _ _ h => h) (fun _ => HC) (Or.inl ⟨by rfl, ?_⟩) ?_
    rotate_left
    · rintro w' ⟨q4, q6, q7, qa, qb⟩; first | (go_simp; done) | (go_simp; with_reducible rfl)
    simp only [List.getElem_toArray, List.getElem_cons_succ, List.getElem_cons_zero, Act.put, List.setIfInBounds_toArray, List.set_cons_zero, List.set_cons_succ]
    refine wpAnyL_takeC (r := [22, 15, 13]) (i := 13) (v := ?_) (by kernel_rfl) rfl (by kernel_rfl) (by kernel_rfl) (by kernel_rfl) (by kernel_rfl) (by kernel_rfl) (fun _ _ _ h => h) (fun _ => HC) (Or.inl ⟨by rfl, ?_⟩) ?_
    rotate_left
    · rintro w' ⟨q4, q6, q7, qa, qb⟩; first | (go_simp; done) | (go_simp; with_reducible rfl)
    simp only [List.getElem_toArray, List.getElem_cons_succ, List.getElem_cons_zero, Act.put, List.setIfInBounds_toArray, List.set_cons_zero, List.set_cons_succ]
    refine wpAnyL_takeC (r := [22, 19]) (i := 19) (v := ?_) (by kernel_rfl) rfl (by kernel_rfl) (by kernel_rfl) (by kernel_rfl) (by kernel_rfl) (by kernel_rfl) (fun _ _ _ h => h) (fun _ => HC) (Or.inl ⟨by rfl, ?_⟩) ?_
    rotate_left
    · rintro w' ⟨q4, q6, q7, qa, qb⟩; first | (go_simp; done) | (go_simp; with_reducible rfl)
    simp only [List.getElem_toArray, List.getElem_cons_succ, List.getElem_cons_zero, Act.put, List.setIfInBounds_toArray, List.set_cons_zero, List.set_cons_succ]
    refine wpAnyL_takeC (r := [22, 21, 20]) (i := 20) (v := ?_) (by kernel_rfl) rfl (by kernel_rfl) (by kernel_rfl) (by kernel_rfl) (by kernel_rfl) (by kernel_rfl) (fun _ _ _ h => h) (fun _ => HC) (Or.inl ⟨by rfl, ?_⟩) ?_
    rotate_left
    · rintro w' ⟨q4, q6, q7, qa, qb⟩; first | (go_simp; done) | (go_simp; with_reducible rfl)
    simp only [List.getElem_toArray, List.getElem_cons_succ, List.getElem_cons_zero, Act.put, List.setIfInBounds_toArray, List.set_cons_zero, List.set_cons_succ]
    refine with_tail (listed' := #[true, true, true, true, true, true, true, true, true, true, true, true, true, true, true, true, true, true, true, true, true, true, true, false, false, false, false, false, false, false, false, false]) (fuel' := 9) (Good := fun a' W => ∃ (qM : Nat) (nM : Nat) (xM : Nat) (qE : Nat) (nE : Nat) (xE : Nat) (qF : Nat) (nF : Nat) (xF : Nat), a' = (⟨#[.pointer (some ⟨p, 0, none⟩), .slice am m.length cm, .agg #[.int .i64 f.1, .int .i64 f.2], undef, undef, .pointer (some ⟨w.heap.size, 0, none⟩), .int .i64 0, .string (keyS m), .int .i64 c, .bool false, .int .i64 (g.marks.length : Int), .slice am m.length cm, .string (keyS m), .tuple #[.int .i64 c, .bool false], .pointer (some ⟨p, 0, none⟩), .pointer (some ⟨p, 0, none⟩), .pointer (some ⟨p, 5, none⟩), .map (some mp), .string (keyS m), .tuple #[.int .i64 c, .bool false], .int .i64 c, .bool false, .bool false, undef, .pointer (some ⟨p, 0, none⟩), .pointer (some ⟨p, 0, none⟩), .pointer (some ⟨p, 4, none⟩), .slice aM g.marks.length cM, .int .i64 (g.marks.length : Int), .pointer (some ⟨p, 0, none⟩), .pointer (some ⟨p, 0, none⟩), .pointer (some ⟨p, 5, none⟩), .map (some mp), .string (keyS m), .int .i64 (g.marks.length : Int), .pointer (some ⟨p, 0, none⟩), .pointer (some ⟨p, 0, none⟩), .pointer (some ⟨p, 0, none⟩), .pointer (some ⟨p, 0, none⟩), .pointer (some ⟨p, 0, none⟩), .pointer (some ⟨p, 4, none⟩), .slice aM g.marks.length cM, .slice am m.length cm, .slice (some ⟨qM, 0, none⟩) 1 1, .slice (some ⟨nM, 0, none⟩) (Ms.length + 1) xM, .pointer (some ⟨p, 0, none⟩), .pointer (some ⟨p, 0, none⟩), .pointer (some ⟨p, 6, none⟩), .slice aE Es.length cE, .slice (some ⟨qE, 0, none⟩) 1 1, .slice (some ⟨nE, 0, none⟩) (Es.length + 1) xE, .pointer (some ⟨p, 0, none⟩), .pointer (some ⟨p, 0, none⟩), .pointer (some ⟨p, 7, none⟩), .slice aF g.src.length cF, .agg #[.int .i64 f.1, .int .i64 f.2], .slice (some ⟨qF, 0, none⟩) 1 1, .slice (some ⟨nF, 0, none⟩) (g.src.length + 1) xF, undef, undef, undef, undef, undef, undef, undef], []⟩ : Act) ∧ RowM W base (.slice (some ⟨nM, 0, none⟩) (Ms.length + 1) xM) (Ms ++ [(m, .slice am m.length cm)]) ∧ RowX W base (.slice (some ⟨nE, 0, none⟩) (Es.length + 1) xE) (Es ++ [([], .slice none 0 0)]) ∧ RowE W base (.slice (some ⟨nF, 0, none⟩) (g.src.length + 1) xF) (g.src ++ [f]) ∧ ((Value.slice (some ⟨nF, 0, none⟩) (g.src.length + 1) xF).ownBlock = (Value.slice aF g.src.length cF).ownBlock ∨ ∃ k, (Value.slice (some ⟨nF, 0, none⟩) (g.src.length + 1) xF).ownBlock = some k ∧ W0.heap.size ≤ k) ∧ W.heap[p]? = some (.cells (gCells v0 v1 a b (.slice aM g.marks.length cM) mp (.slice aE Es.length cE) (.slice aF g.src.length cF) (.slice none 0 0)) 83) ∧ W.heap[w.heap.size]? = some (.cells #[.int .i64 f.1, .int .i64 f.2] 79) ∧ Frm [(Value.slice aM g.marks.length cM).ownBlock, (Value.slice aE Es.length cE).ownBlock, (Value.slice aF g.src.length cF).ownBlock] W0 W ∧ base ≤ W.heap.size) ?_ ?_
    · rintro a' W ⟨qM, nM, xM, qE, nE, xE, qF, nF, xF, rfl, rMW, rEW, rFW, hatW, hPW, hXW, frW, hzW⟩
      obtain ⟨k4W, -, k6W, k7W, -⟩ := box9 hPW
      have kx0W : W.cell? ⟨w.heap.size, 0, none⟩ = some (.int .i64 f.1) := by rw [cell_of_block hXW]; rfl
      have kx1W : W.cell? ⟨w.heap.size, 1, none⟩ = some (.int .i64 f.2) := by rw [cell_of_block hXW]; rfl
      refine wpAnyL_takeY (i := 23) (v := ?_) rfl (by kernel_rfl) (by kernel_rfl) (by kernel_rfl) (by kernel_rfl) (by kernel_rfl) (fun _ _ _ h => h) (fun _ => (And.intro k4W (And.intro k6W (And.intro k7W (And.intro kx0W kx1W))))) (Or.inl ⟨by rfl, ?_⟩) ?_
      rotate_left
      · intro w' _; first | (go_simp; done) | (go_simp; with_reducible rfl)
      simp only [List.getElem_toArray, List.getElem_cons_succ, List.getElem_cons_zero, Act.put, List.setIfInBounds_toArray, List.set_cons_zero, List.set_cons_succ]
      refine wpAnyL_takeY (i := 24) (v := ?_) rfl (by kernel_rfl) (by kernel_rfl) (by kernel_rfl) (by kernel_rfl) (by kernel_rfl) (fun _ _ _ h => h) (fun _ => (And.intro k4W (And.intro k6W (And.intro k7W (And.intro kx0W kx1W))))) (Or.inl ⟨by rfl, ?_⟩) ?_
      rotate_left
      · intro w' _; first | (go_simp; done) | (go_simp; with_reducible rfl)
      simp only [List.getElem_toArray, List.getElem_cons_succ, List.getElem_cons_zero, Act.put, List.setIfInBounds_toArray, List.set_cons_zero, List.set_cons_succ]
      have z4 := free_of_block hPW 4
      have z6 := free_of_block hPW 6
      have z7 := free_of_block hPW 7
      refine wpAnyL_ready (rs := [25]) (by kernel_rfl) (by simp) ?_
      refine AllReadyL.cons rfl (fun K hK => ?_) AllReadyL.nil
      go_simp
      refine hK.out _ _ (fun hg => by cases hg) ?_
      simp only [List.setIfInBounds_toArray, List.set_cons_zero, List.set_cons_succ]
      refine wpAnyL_takeY (i := 26) (v := ?_) rfl (by kernel_rfl) (by kernel_rfl) (by kernel_rfl) (by kernel_rfl) (by kernel_rfl) (fun _ _ _ h => h) (fun hg => by cases hg) (Or.inl ⟨by rfl, ?_⟩) ?_
      rotate_left
      · intro w' _; first | (go_simp; done) | (go_simp; with_reducible rfl)
      simp only [List.getElem_toArray, List.getElem_cons_succ, List.getElem_cons_zero, Act.put, List.setIfInBounds_toArray, List.set_cons_zero, List.set_cons_succ]
      refine wpAnyL_takeY (i := 27) (v := ?_) rfl (by kernel_rfl) (by kernel_rfl) (by kernel_rfl) (by kernel_rfl) (by kernel_rfl) (fun _ _ _ h => h) (fun hg => by cases hg) (Or.inl ⟨by rfl, ?_⟩) ?_
      rotate_left
      · intro w' _; first | (go_simp; done) | (go_simp; with_reducible rfl)
      simp only [List.getElem_toArray, List.getElem_cons_succ, List.getElem_cons_zero, Act.put, List.setIfInBounds_toArray, List.set_cons_zero, List.set_cons_succ]
      refine wpAnyL_ready (rs := [28]) (by kernel_rfl) (by simp) ?_
      refine AllReadyL.cons rfl (fun K hK => ?_) AllReadyL.nil
      go_simp
      refine hK.out _ _ (fun hg => by cases hg) ?_
      simp only [List.setIfInBounds_toArray, List.set_cons_zero, List.set_cons_succ]
      refine wpAnyL_takeY (i := 29) (v := ?_) rfl (by kernel_rfl) (by kernel_rfl) (by kernel_rfl) (by kernel_rfl) (by kernel_rfl) (fun _ _ _ h => h) (fun hg => by cases hg) (Or.inl ⟨by rfl, ?_⟩) ?_
      rotate_left
      · intro w' _; first | (go_simp; done) | (go_simp; with_reducible rfl)
      simp only [List.getElem_toArray, List.getElem_cons_succ, List.getElem_cons_zero, Act.put, List.setIfInBounds_toArray, List.set_cons_zero, List.set_cons_succ]
      refine wpAnyL_takeY (i := 30) (v := ?_) rfl (by kernel_rfl) (by kernel_rfl) (by kernel_rfl) (by kernel_rfl) (by kernel_rfl) (fun _ _ _ h => h) (fun hg => by cases hg) (Or.inl ⟨by rfl, ?_⟩) ?_
      rotate_left
      · intro w' _; first | (go_simp; done) | (go_simp; with_reducible rfl)
      simp only [List.getElem_toArray, List.getElem_cons_succ, List.getElem_cons_zero, Act.put, List.setIfInBounds_toArray, List.set_cons_zero, List.set_cons_succ]
      refine wpAnyL_ready (rs := [31]) (by kernel_rfl) (by simp) ?_
      refine AllReadyL.cons rfl (fun K hK => ?_) AllReadyL.nil
      go_simp
      refine hK.out _ _ (fun hg => by cases hg) ?_
      simp only [List.setIfInBounds_toArray, List.set_cons_zero, List.set_cons_succ]
      refine wpAnyL_done (by kernel_rfl) ?_ _
      go_wp2_with fail
      go_meet
      exact put_fin hPW rMW rEW rFW frW hatW
    intro h0
    have hI8_9_14_15_21_22 := Lib.hid h0
    clear h0
    refine with_tail (listed' := #[true, true, true, true, true, true, true, true, true, true, true, true, true, true, true, true, true, true, true, true, true, true, false, false, false, false, false, false, false, false, false, false]) (fuel' := 10) (Good := fun a' W => ∃ (qM : Nat) (nM : Nat) (xM : Nat) (qE : Nat) (nE : Nat) (xE : Nat) (qF : Nat), a' = (⟨#[.pointer (some ⟨p, 0, none⟩), .slice am m.length cm, .agg #[.int .i64 f.1, .int .i64 f.2], undef, undef, .pointer (some ⟨w.heap.size, 0, none⟩), .int .i64 0, .string (keyS m), .int .i64 c, .bool false, .int .i64 (g.marks.length : Int), .slice am m.length cm, .string (keyS m), .tuple #[.int .i64 c, .bool false], .pointer (some ⟨p, 0, none⟩), .pointer (some ⟨p, 0, none⟩), .pointer (some ⟨p, 5, none⟩), .map (some mp), .string (keyS m), .tuple #[.int .i64 c, .bool false], .int .i64 c, .bool false, .bool false, undef, .pointer (some ⟨p, 0, none⟩), .pointer (some ⟨p, 0, none⟩), .pointer (some ⟨p, 4, none⟩), .slice aM g.marks.length cM, .int .i64 (g.marks.length : Int), .pointer (some ⟨p, 0, none⟩), .pointer (some ⟨p, 0, none⟩), .pointer (some ⟨p, 5, none⟩), .map (some mp), .string (keyS m), .int .i64 (g.marks.length : Int), .pointer (some ⟨p, 0, none⟩), .pointer (some ⟨p, 0, none⟩), .pointer (some ⟨p, 0, none⟩), .pointer (some ⟨p, 0, none⟩), .pointer (some ⟨p, 0, none⟩), .pointer (some ⟨p, 4, none⟩), .slice aM g.marks.length cM, .slice am m.length cm, .slice (some ⟨qM, 0, none⟩) 1 1, .slice (some ⟨nM, 0, none⟩) (Ms.length + 1) xM, .pointer (some ⟨p, 0, none⟩), .pointer (some ⟨p, 0, none⟩), .pointer (some ⟨p, 6, none⟩), .slice aE Es.length cE, .slice (some ⟨qE, 0, none⟩) 1 1, .slice (some ⟨nE, 0, none⟩) (Es.length + 1) xE, .pointer (some ⟨p, 0, none⟩), .pointer (some ⟨p, 0, none⟩), .pointer (some ⟨p, 7, none⟩), .slice aF g.src.length cF, .agg #[.int .i64 f.1, .int .i64 f.2], .slice (some ⟨qF, 0, none⟩) 1 1, undef, undef, undef, undef, undef, undef, undef, undef], []⟩ : Act) ∧ RowM W base (.slice (some ⟨nM, 0, none⟩) (Ms.length + 1) xM) (Ms ++ [(m, .slice am m.length cm)]) ∧ RowX W base (.slice (some ⟨nE, 0, none⟩) (Es.length + 1) xE) (Es ++ [([], .slice none 0 0)]) ∧ W.heap[qF]? = some (.cells #[.int .i64 f.1, .int .i64 f.2] 79) ∧ RowE W base (.slice aF g.src.length cF) g.src ∧ W.heap[p]? = some (.cells (gCells v0 v1 a b (.slice aM g.marks.length cM) mp (.slice aE Es.length cE) (.slice aF g.src.length cF) (.slice none 0 0)) 83) ∧ W.heap[w.heap.size]? = some (.cells #[.int .i64 f.1, .int .i64 f.2] 79) ∧ Frm [(Value.slice aM g.marks.length cM).ownBlock, (Value.slice aE Es.length cE).ownBlock, (Value.slice aF g.src.length cF).ownBlock] W0 W ∧ base ≤ W.heap.size) ?_ ?_
    · rintro a' W ⟨qM, nM, xM, qE, nE, xE, qF, rfl, rMW, rEW, hlF, rFW, hPW, hXW, frW, hzW⟩
      obtain ⟨k4W, -, k6W, k7W, -⟩ := box9 hPW
      have kx0W : W.cell? ⟨w.heap.size, 0, none⟩ = some (.int .i64 f.1) := by rw [cell_of_block hXW]; rfl
      have kx1W : W.cell? ⟨w.heap.size, 1, none⟩ = some (.int .i64 f.2) := by rw [cell_of_block hXW]; rfl
      refine wpAnyL_ready (rs := [22]) (by kernel_rfl) (by simp) ?_
      refine AllReadyL.cons rfl (fun K hK => ?_) ?_
      · refine step_append_own W (by rfl) (.tmp 54) (.tmp 56) 42 (by rfl) base 79 i3 (.agg #[.int .i64 0, .int .i64 0]) 2 16 Tryd.underlying42 ht3 hz30 hz31 hz32 rfl (by decide) (.slice aF g.src.length cF) g.src.length (cellsF cellE g.src) (by rfl) rFW ⟨qF, 0, none⟩ 1 1 (cellE f) (by rfl) rfl (news_lit hlF rfl) (one_F _) (by unfold maxLen; omega) (by omega) hzW ?_
        intro v' V hown hg hat
        obtain ⟨n', x', rfl, _, _⟩ := hown.form (by omega)
        have rn := OwnF.push (f := cellE) (x := f) hown
        have hPV := lit_other hPW rFW (by decide) hg
        have hXV := (hg.block _ (lt_of_block hXW) (fun e => HF3.out e.symm)).trans hXW
        obtain ⟨k4V, -, k6V, k7V, -⟩ := box9 hPV
        have kx0V : V.cell? ⟨w.heap.size, 0, none⟩ = some (.int .i64 f.1) := by rw [cell_of_block hXV]; rfl
        have kx1V : V.cell? ⟨w.heap.size, 1, none⟩ = some (.int .i64 f.2) := by rw [cell_of_block hXV]; rfl
        refine hK.out _ _ (fun _ => (And.intro k4V (And.intro k6V (And.intro k7V (And.intro kx0V kx1V))))) ?_
        simp only [List.getElem_toArray, List.getElem_cons_succ, List.getElem_cons_zero, Act.put, List.setIfInBounds_toArray, List.set_cons_zero, List.set_cons_succ]
        exact hI8_9_14_15_21_22.out _ _ ⟨_, _, _, _, _, _, _, n', x', rfl, (row_other rMW rFW (by decide) hg), (row_other rEW rFW (by decide) hg), rn, (hat.imp id (fun e => ⟨_, e, frW.size⟩)), hPV, hXV, (frW.grown hg (by simp)), (Nat.le_trans hzW hg.size)⟩
      exact AllReadyL.nil
    intro h0
    have hI8_9_14_15_21 := Lib.hid h0
    clear h0
    refine with_tail (listed' := #[true, true, true, true, true, true, true, true, true, true, true, true, true, true, true, true, true, true, true, true, true, false, false, false, false, false, false, false, false, false, false, false]) (fuel' := 11) (Good := fun a' W => ∃ (qM : Nat) (nM : Nat) (xM : Nat) (qE : Nat) (nE : Nat) (xE : Nat), a' = (⟨#[.pointer (some ⟨p, 0, none⟩), .slice am m.length cm, .agg #[.int .i64 f.1, .int .i64 f.2], undef, undef, .pointer (some ⟨w.heap.size, 0, none⟩), .int .i64 0, .string (keyS m), .int .i64 c, .bool false, .int .i64 (g.marks.length : Int), .slice am m.length cm, .string (keyS m), .tuple #[.int .i64 c, .bool false], .pointer (some ⟨p, 0, none⟩), .pointer (some ⟨p, 0, none⟩), .pointer (some ⟨p, 5, none⟩), .map (some mp), .string (keyS m), .tuple #[.int .i64 c, .bool false], .int .i64 c, .bool false, .bool false, undef, .pointer (some ⟨p, 0, none⟩), .pointer (some ⟨p, 0, none⟩), .pointer (some ⟨p, 4, none⟩), .slice aM g.marks.length cM, .int .i64 (g.marks.length : Int), .pointer (some ⟨p, 0, none⟩), .pointer (some ⟨p, 0, none⟩), .pointer (some ⟨p, 5, none⟩), .map (some mp), .string (keyS m), .int .i64 (g.marks.length : Int), .pointer (some ⟨p, 0, none⟩), .pointer (some ⟨p, 0, none⟩), .pointer (some ⟨p, 0, none⟩), .pointer (some ⟨p, 0, none⟩), .pointer (some ⟨p, 0, none⟩), .pointer (some ⟨p, 4, none⟩), .slice aM g.marks.length cM, .slice am m.length cm, .slice (some ⟨qM, 0, none⟩) 1 1, .slice (some ⟨nM, 0, none⟩) (Ms.length + 1) xM, .pointer (some ⟨p, 0, none⟩), .pointer (some ⟨p, 0, none⟩), .pointer (some ⟨p, 6, none⟩), .slice aE Es.length cE, .slice (some ⟨qE, 0, none⟩) 1 1, .slice (some ⟨nE, 0, none⟩) (Es.length + 1) xE, .pointer (some ⟨p, 0, none⟩), .pointer (some ⟨p, 0, none⟩), .pointer (some ⟨p, 7, none⟩), .slice aF g.src.length cF, .agg #[.int .i64 f.1, .int .i64 f.2], undef, undef, undef, undef, undef, undef, undef, undef, undef], []⟩ : Act) ∧ RowM W base (.slice (some ⟨nM, 0, none⟩) (Ms.length + 1) xM) (Ms ++ [(m, .slice am m.length cm)]) ∧ RowX W base (.slice (some ⟨nE, 0, none⟩) (Es.length + 1) xE) (Es ++ [([], .slice none 0 0)]) ∧ RowE W base (.slice aF g.src.length cF) g.src ∧ W.heap[p]? = some (.cells (gCells v0 v1 a b (.slice aM g.marks.length cM) mp (.slice aE Es.length cE) (.slice aF g.src.length cF) (.slice none 0 0)) 83) ∧ W.heap[w.heap.size]? = some (.cells #[.int .i64 f.1, .int .i64 f.2] 79) ∧ Frm [(Value.slice aM g.marks.length cM).ownBlock, (Value.slice aE Es.length cE).ownBlock, (Value.slice aF g.src.length cF).ownBlock] W0 W ∧ base ≤ W.heap.size) ?_ ?_
    · rintro a' W ⟨qM, nM, xM, qE, nE, xE, rfl, rMW, rEW, rFW, hPW, hXW, frW, hzW⟩
      obtain ⟨k4W, -, k6W, k7W, -⟩ := box9 hPW
      have kx0W : W.cell? ⟨w.heap.size, 0, none⟩ = some (.int .i64 f.1) := by rw [cell_of_block hXW]; rfl
      have kx1W : W.cell? ⟨w.heap.size, 1, none⟩ = some (.int .i64 f.2) := by rw [cell_of_block hXW]; rfl
      refine wpAnyL_ready (rs := [21]) (by kernel_rfl) (by simp) ?_
      refine AllReadyL.cons rfl (fun K hK => ?_) ?_
      · obtain ⟨V, hV⟩ : ∃ V, W.alloc (.cells #[.int .i64 f.1, .int .i64 f.2] 79) = V := ⟨_, rfl⟩
        have hb : Below W.heap.size W V := by rw [← hV]; exact (Below.refl _ _).alloc (Nat.le_refl _) _
        have hln : V.heap[W.heap.size]? = some (.cells #[.int .i64 f.1, .int .i64 f.2] 79) := by rw [← hV]; exact heap_alloc_new _ _
        go_simp
        clear hV
        have hPV := (hb.block _ (lt_of_block hPW)).trans hPW
        have hXV := (hb.block _ (lt_of_block hXW)).trans hXW
        obtain ⟨k4V, -, k6V, k7V, -⟩ := box9 hPV
        have kx0V : V.cell? ⟨w.heap.size, 0, none⟩ = some (.int .i64 f.1) := by rw [cell_of_block hXV]; rfl
        have kx1V : V.cell? ⟨w.heap.size, 1, none⟩ = some (.int .i64 f.2) := by rw [cell_of_block hXV]; rfl
        refine hK.out _ _ (fun _ => (And.intro k4V (And.intro k6V (And.intro k7V (And.intro kx0V kx1V))))) ?_
        simp only [List.setIfInBounds_toArray, List.set_cons_zero, List.set_cons_succ]
        exact hI8_9_14_15_21.out _ _ ⟨_, _, _, _, _, _, W.heap.size, rfl, (OwnF.kept rMW hb), (OwnF.kept rEW hb), hln, (OwnF.kept rFW hb), hPV, hXV, (frW.below hb), (Nat.le_trans hzW hb.size)⟩
      exact AllReadyL.nil
    intro h0
    have hI8_9_14_15 := Lib.hid h0
    clear h0
    refine with_tail (listed' := #[true, true, true, true, true, true, true, true, true, true, true, true, true, true, true, false, true, true, true, true, true, true, false, false, false, false, false, false, false, false, false, false]) (fuel' := 11) (Good := fun a' W => ∃ (qM : Nat) (nM : Nat) (xM : Nat) (qE : Nat) (qF : Nat), a' = (⟨#[.pointer (some ⟨p, 0, none⟩), .slice am m.length cm, .agg #[.int .i64 f.1, .int .i64 f.2], undef, undef, .pointer (some ⟨w.heap.size, 0, none⟩), .int .i64 0, .string (keyS m), .int .i64 c, .bool false, .int .i64 (g.marks.length : Int), .slice am m.length cm, .string (keyS m), .tuple #[.int .i64 c, .bool false], .pointer (some ⟨p, 0, none⟩), .pointer (some ⟨p, 0, none⟩), .pointer (some ⟨p, 5, none⟩), .map (some mp), .string (keyS m), .tuple #[.int .i64 c, .bool false], .int .i64 c, .bool false, .bool false, undef, .pointer (some ⟨p, 0, none⟩), .pointer (some ⟨p, 0, none⟩), .pointer (some ⟨p, 4, none⟩), .slice aM g.marks.length cM, .int .i64 (g.marks.length : Int), .pointer (some ⟨p, 0, none⟩), .pointer (some ⟨p, 0, none⟩), .pointer (some ⟨p, 5, none⟩), .map (some mp), .string (keyS m), .int .i64 (g.marks.length : Int), .pointer (some ⟨p, 0, none⟩), .pointer (some ⟨p, 0, none⟩), .pointer (some ⟨p, 0, none⟩), .pointer (some ⟨p, 0, none⟩), .pointer (some ⟨p, 0, none⟩), .pointer (some ⟨p, 4, none⟩), .slice aM g.marks.length cM, .slice am m.length cm, .slice (some ⟨qM, 0, none⟩) 1 1, .slice (some ⟨nM, 0, none⟩) (Ms.length + 1) xM, .pointer (some ⟨p, 0, none⟩), .pointer (some ⟨p, 0, none⟩), .pointer (some ⟨p, 6, none⟩), .slice aE Es.length cE, .slice (some ⟨qE, 0, none⟩) 1 1, undef, .pointer (some ⟨p, 0, none⟩), .pointer (some ⟨p, 0, none⟩), .pointer (some ⟨p, 7, none⟩), .slice aF g.src.length cF, .agg #[.int .i64 f.1, .int .i64 f.2], .slice (some ⟨qF, 0, none⟩) 1 1, undef, undef, undef, undef, undef, undef, undef, undef], []⟩ : Act) ∧ RowM W base (.slice (some ⟨nM, 0, none⟩) (Ms.length + 1) xM) (Ms ++ [(m, .slice am m.length cm)]) ∧ W.heap[qE]? = some (.cells #[.slice none 0 0] 42) ∧ RowX W base (.slice aE Es.length cE) Es ∧ W.heap[qF]? = some (.cells #[.int .i64 f.1, .int .i64 f.2] 79) ∧ RowE W base (.slice aF g.src.length cF) g.src ∧ W.heap[p]? = some (.cells (gCells v0 v1 a b (.slice aM g.marks.length cM) mp (.slice aE Es.length cE) (.slice aF g.src.length cF) (.slice none 0 0)) 83) ∧ W.heap[w.heap.size]? = some (.cells #[.int .i64 f.1, .int .i64 f.2] 79) ∧ Frm [(Value.slice aM g.marks.length cM).ownBlock, (Value.slice aE Es.length cE).ownBlock, (Value.slice aF g.src.length cF).ownBlock] W0 W ∧ base ≤ W.heap.size) ?_ ?_
    · rintro a' W ⟨qM, nM, xM, qE, qF, rfl, rMW, hlE, rEW, hlF, rFW, hPW, hXW, frW, hzW⟩
      obtain ⟨k4W, -, k6W, k7W, -⟩ := box9 hPW
      have kx0W : W.cell? ⟨w.heap.size, 0, none⟩ = some (.int .i64 f.1) := by rw [cell_of_block hXW]; rfl
      have kx1W : W.cell? ⟨w.heap.size, 1, none⟩ = some (.int .i64 f.2) := by rw [cell_of_block hXW]; rfl
      refine wpAnyL_ready (rs := [15]) (by kernel_rfl) (by simp) ?_
      refine AllReadyL.cons rfl (fun K hK => ?_) ?_
      · refine step_append_own W (by rfl) (.tmp 48) (.tmp 49) 72 (by rfl) base 42 i2 (.slice none 0 0) 1 24 Tryd.underlying72 ht2 hz20 hz21 hz22 rfl (by decide) (.slice aE Es.length cE) Es.length (cellsF cellX Es) (by rfl) rEW ⟨qE, 0, none⟩ 1 1 (cellX (([] : List (Int × Int)), Value.slice none 0 0)) (by rfl) rfl (news_lit hlE rfl) (one_E _ rfl) (by unfold maxLen; omega) (by omega) hzW ?_
        intro v' V hown hg hat
        obtain ⟨n', x', rfl, _, _⟩ := hown.form (by omega)
        have rn := OwnF.push (f := cellX) (x := (([] : List (Int × Int)), Value.slice none 0 0)) hown
        have hPV := lit_other hPW rEW (by decide) hg
        have hXV := lit_other hXW rEW (by decide) hg
        obtain ⟨k4V, -, k6V, k7V, -⟩ := box9 hPV
        have kx0V : V.cell? ⟨w.heap.size, 0, none⟩ = some (.int .i64 f.1) := by rw [cell_of_block hXV]; rfl
        have kx1V : V.cell? ⟨w.heap.size, 1, none⟩ = some (.int .i64 f.2) := by rw [cell_of_block hXV]; rfl
        refine hK.out _ _ (fun _ => (And.intro k4V (And.intro k6V (And.intro k7V (And.intro kx0V kx1V))))) ?_
        simp only [List.getElem_toArray, List.getElem_cons_succ, List.getElem_cons_zero, Act.put, List.setIfInBounds_toArray, List.set_cons_zero, List.set_cons_succ]
        exact hI8_9_14_15_21.out _ _ ⟨_, _, _, _, n', x', _, rfl, (row_other rMW rEW (by decide) hg), rn, (lit_other hlF rEW (by decide) hg), (row_other rFW rEW (by decide) hg), hPV, hXV, (frW.grown hg (by simp)), (Nat.le_trans hzW hg.size)⟩
      exact AllReadyL.nil
    intro h0
    have hI8_9_14_21 := Lib.hid h0
    clear h0
    refine with_tail (listed' := #[true, true, true, true, true, true, true, true, true, true, true, true, true, true, true, false, true, true, true, true, true, false, false, false, false, false, false, false, false, false, false, false]) (fuel' := 12) (Good := fun a' W => ∃ (qM : Nat) (nM : Nat) (xM : Nat) (qE : Nat), a' = (⟨#[.pointer (some ⟨p, 0, none⟩), .slice am m.length cm, .agg #[.int .i64 f.1, .int .i64 f.2], undef, undef, .pointer (some ⟨w.heap.size, 0, none⟩), .int .i64 0, .string (keyS m), .int .i64 c, .bool false, .int .i64 (g.marks.length : Int), .slice am m.length cm, .string (keyS m), .tuple #[.int .i64 c, .bool false], .pointer (some ⟨p, 0, none⟩), .pointer (some ⟨p, 0, none⟩), .pointer (some ⟨p, 5, none⟩), .map (some mp), .string (keyS m), .tuple #[.int .i64 c, .bool false], .int .i64 c, .bool false, .bool false, undef, .pointer (some ⟨p, 0, none⟩), .pointer (some ⟨p, 0, none⟩), .pointer (some ⟨p, 4, none⟩), .slice aM g.marks.length cM, .int .i64 (g.marks.length : Int), .pointer (some ⟨p, 0, none⟩), .pointer (some ⟨p, 0, none⟩), .pointer (some ⟨p, 5, none⟩), .map (some mp), .string (keyS m), .int .i64 (g.marks.length : Int), .pointer (some ⟨p, 0, none⟩), .pointer (some ⟨p, 0, none⟩), .pointer (some ⟨p, 0, none⟩), .pointer (some ⟨p, 0, none⟩), .pointer (some ⟨p, 0, none⟩), .pointer (some ⟨p, 4, none⟩), .slice aM g.marks.length cM, .slice am m.length cm, .slice (some ⟨qM, 0, none⟩) 1 1, .slice (some ⟨nM, 0, none⟩) (Ms.length + 1) xM, .pointer (some ⟨p, 0, none⟩), .pointer (some ⟨p, 0, none⟩), .pointer (some ⟨p, 6, none⟩), .slice aE Es.length cE, .slice (some ⟨qE, 0, none⟩) 1 1, undef, .pointer (some ⟨p, 0, none⟩), .pointer (some ⟨p, 0, none⟩), .pointer (some ⟨p, 7, none⟩), .slice aF g.src.length cF, .agg #[.int .i64 f.1, .int .i64 f.2], undef, undef, undef, undef, undef, undef, undef, undef, undef], []⟩ : Act) ∧ RowM W base (.slice (some ⟨nM, 0, none⟩) (Ms.length + 1) xM) (Ms ++ [(m, .slice am m.length cm)]) ∧ W.heap[qE]? = some (.cells #[.slice none 0 0] 42) ∧ RowX W base (.slice aE Es.length cE) Es ∧ RowE W base (.slice aF g.src.length cF) g.src ∧ W.heap[p]? = some (.cells (gCells v0 v1 a b (.slice aM g.marks.length cM) mp (.slice aE Es.length cE) (.slice aF g.src.length cF) (.slice none 0 0)) 83) ∧ W.heap[w.heap.size]? = some (.cells #[.int .i64 f.1, .int .i64 f.2] 79) ∧ Frm [(Value.slice aM g.marks.length cM).ownBlock, (Value.slice aE Es.length cE).ownBlock, (Value.slice aF g.src.length cF).ownBlock] W0 W ∧ base ≤ W.heap.size) ?_ ?_
    · rintro a' W ⟨qM, nM, xM, qE, rfl, rMW, hlE, rEW, rFW, hPW, hXW, frW, hzW⟩
      obtain ⟨k4W, -, k6W, k7W, -⟩ := box9 hPW
      have kx0W : W.cell? ⟨w.heap.size, 0, none⟩ = some (.int .i64 f.1) := by rw [cell_of_block hXW]; rfl
      have kx1W : W.cell? ⟨w.heap.size, 1, none⟩ = some (.int .i64 f.2) := by rw [cell_of_block hXW]; rfl
      refine wpAnyL_ready (rs := [15, 21]) (by kernel_rfl) (by simp) ?_
      refine AllReadyL.cons rfl (fun K hK => ?_) ?_
      · refine step_append_own W (by rfl) (.tmp 48) (.tmp 49) 72 (by rfl) base 42 i2 (.slice none 0 0) 1 24 Tryd.underlying72 ht2 hz20 hz21 hz22 rfl (by decide) (.slice aE Es.length cE) Es.length (cellsF cellX Es) (by rfl) rEW ⟨qE, 0, none⟩ 1 1 (cellX (([] : List (Int × Int)), Value.slice none 0 0)) (by rfl) rfl (news_lit hlE rfl) (one_E _ rfl) (by unfold maxLen; omega) (by omega) hzW ?_
        intro v' V hown hg hat
        obtain ⟨n', x', rfl, _, _⟩ := hown.form (by omega)
        have rn := OwnF.push (f := cellX) (x := (([] : List (Int × Int)), Value.slice none 0 0)) hown
        have hPV := lit_other hPW rEW (by decide) hg
        have hXV := lit_other hXW rEW (by decide) hg
        obtain ⟨k4V, -, k6V, k7V, -⟩ := box9 hPV
        have kx0V : V.cell? ⟨w.heap.size, 0, none⟩ = some (.int .i64 f.1) := by rw [cell_of_block hXV]; rfl
        have kx1V : V.cell? ⟨w.heap.size, 1, none⟩ = some (.int .i64 f.2) := by rw [cell_of_block hXV]; rfl
        refine hK.out _ _ (fun _ => (And.intro k4V (And.intro k6V (And.intro k7V (And.intro kx0V kx1V))))) ?_
        simp only [List.getElem_toArray, List.getElem_cons_succ, List.getElem_cons_zero, Act.put, List.setIfInBounds_toArray, List.set_cons_zero, List.set_cons_succ]
        exact hI8_9_14_15.out _ _ ⟨_, _, _, _, n', x', rfl, (row_other rMW rEW (by decide) hg), rn, (row_other rFW rEW (by decide) hg), hPV, hXV, (frW.grown hg (by simp)), (Nat.le_trans hzW hg.size)⟩
      refine AllReadyL.cons rfl (fun K hK => ?_) ?_
      · obtain ⟨V, hV⟩ : ∃ V, W.alloc (.cells #[.int .i64 f.1, .int .i64 f.2] 79) = V := ⟨_, rfl⟩
        have hb : Below W.heap.size W V := by rw [← hV]; exact (Below.refl _ _).alloc (Nat.le_refl _) _
        have hln : V.heap[W.heap.size]? = some (.cells #[.int .i64 f.1, .int .i64 f.2] 79) := by rw [← hV]; exact heap_alloc_new _ _
        go_simp
        clear hV
        have hPV := (hb.block _ (lt_of_block hPW)).trans hPW
        have hXV := (hb.block _ (lt_of_block hXW)).trans hXW
        obtain ⟨k4V, -, k6V, k7V, -⟩ := box9 hPV
        have kx0V : V.cell? ⟨w.heap.size, 0, none⟩ = some (.int .i64 f.1) := by rw [cell_of_block hXV]; rfl
        have kx1V : V.cell? ⟨w.heap.size, 1, none⟩ = some (.int .i64 f.2) := by rw [cell_of_block hXV]; rfl
        refine hK.out _ _ (fun _ => (And.intro k4V (And.intro k6V (And.intro k7V (And.intro kx0V kx1V))))) ?_
        simp only [List.setIfInBounds_toArray, List.set_cons_zero, List.set_cons_succ]
        exact hI8_9_14_21.out _ _ ⟨_, _, _, _, W.heap.size, rfl, (OwnF.kept rMW hb), ((hb.block _ (lt_of_block hlE)).trans hlE), (OwnF.kept rEW hb), hln, (OwnF.kept rFW hb), hPV, hXV, (frW.below hb), (Nat.le_trans hzW hb.size)⟩
      exact AllReadyL.nil
    intro h0
    have hI8_9_14 := Lib.hid h0
    clear h0
    refine with_tail (listed' := #[true, true, true, true, true, true, true, true, true, true, true, true, true, true, false, false, true, true, true, true, true, true, false, false, false, false, false, false, false, false, false, false]) (fuel' := 12) (Good := fun a' W => ∃ (qM : Nat) (nM : Nat) (xM : Nat) (qF : Nat), a' = (⟨#[.pointer (some ⟨p, 0, none⟩), .slice am m.length cm, .agg #[.int .i64 f.1, .int .i64 f.2], undef, undef, .pointer (some ⟨w.heap.size, 0, none⟩), .int .i64 0, .string (keyS m), .int .i64 c, .bool false, .int .i64 (g.marks.length : Int), .slice am m.length cm, .string (keyS m), .tuple #[.int .i64 c, .bool false], .pointer (some ⟨p, 0, none⟩), .pointer (some ⟨p, 0, none⟩), .pointer (some ⟨p, 5, none⟩), .map (some mp), .string (keyS m), .tuple #[.int .i64 c, .bool false], .int .i64 c, .bool false, .bool false, undef, .pointer (some ⟨p, 0, none⟩), .pointer (some ⟨p, 0, none⟩), .pointer (some ⟨p, 4, none⟩), .slice aM g.marks.length cM, .int .i64 (g.marks.length : Int), .pointer (some ⟨p, 0, none⟩), .pointer (some ⟨p, 0, none⟩), .pointer (some ⟨p, 5, none⟩), .map (some mp), .string (keyS m), .int .i64 (g.marks.length : Int), .pointer (some ⟨p, 0, none⟩), .pointer (some ⟨p, 0, none⟩), .pointer (some ⟨p, 0, none⟩), .pointer (some ⟨p, 0, none⟩), .pointer (some ⟨p, 0, none⟩), .pointer (some ⟨p, 4, none⟩), .slice aM g.marks.length cM, .slice am m.length cm, .slice (some ⟨qM, 0, none⟩) 1 1, .slice (some ⟨nM, 0, none⟩) (Ms.length + 1) xM, .pointer (some ⟨p, 0, none⟩), .pointer (some ⟨p, 0, none⟩), .pointer (some ⟨p, 6, none⟩), .slice aE Es.length cE, undef, undef, .pointer (some ⟨p, 0, none⟩), .pointer (some ⟨p, 0, none⟩), .pointer (some ⟨p, 7, none⟩), .slice aF g.src.length cF, .agg #[.int .i64 f.1, .int .i64 f.2], .slice (some ⟨qF, 0, none⟩) 1 1, undef, undef, undef, undef, undef, undef, undef, undef], []⟩ : Act) ∧ RowM W base (.slice (some ⟨nM, 0, none⟩) (Ms.length + 1) xM) (Ms ++ [(m, .slice am m.length cm)]) ∧ RowX W base (.slice aE Es.length cE) Es ∧ W.heap[qF]? = some (.cells #[.int .i64 f.1, .int .i64 f.2] 79) ∧ RowE W base (.slice aF g.src.length cF) g.src ∧ W.heap[p]? = some (.cells (gCells v0 v1 a b (.slice aM g.marks.length cM) mp (.slice aE Es.length cE) (.slice aF g.src.length cF) (.slice none 0 0)) 83) ∧ W.heap[w.heap.size]? = some (.cells #[.int .i64 f.1, .int .i64 f.2] 79) ∧ Frm [(Value.slice aM g.marks.length cM).ownBlock, (Value.slice aE Es.length cE).ownBlock, (Value.slice aF g.src.length cF).ownBlock] W0 W ∧ base ≤ W.heap.size) ?_ ?_
    · rintro a' W ⟨qM, nM, xM, qF, rfl, rMW, rEW, hlF, rFW, hPW, hXW, frW, hzW⟩
      obtain ⟨k4W, -, k6W, k7W, -⟩ := box9 hPW
      have kx0W : W.cell? ⟨w.heap.size, 0, none⟩ = some (.int .i64 f.1) := by rw [cell_of_block hXW]; rfl
      have kx1W : W.cell? ⟨w.heap.size, 1, none⟩ = some (.int .i64 f.2) := by rw [cell_of_block hXW]; rfl
      refine wpAnyL_ready (rs := [14]) (by kernel_rfl) (by simp) ?_
      refine AllReadyL.cons rfl (fun K hK => ?_) ?_
      · obtain ⟨V, hV⟩ : ∃ V, W.alloc (.cells #[.slice none 0 0] 42) = V := ⟨_, rfl⟩
        have hb : Below W.heap.size W V := by rw [← hV]; exact (Below.refl _ _).alloc (Nat.le_refl _) _
        have hln : V.heap[W.heap.size]? = some (.cells #[.slice none 0 0] 42) := by rw [← hV]; exact heap_alloc_new _ _
        go_simp
        clear hV
        have hPV := (hb.block _ (lt_of_block hPW)).trans hPW
        have hXV := (hb.block _ (lt_of_block hXW)).trans hXW
        obtain ⟨k4V, -, k6V, k7V, -⟩ := box9 hPV
        have kx0V : V.cell? ⟨w.heap.size, 0, none⟩ = some (.int .i64 f.1) := by rw [cell_of_block hXV]; rfl
        have kx1V : V.cell? ⟨w.heap.size, 1, none⟩ = some (.int .i64 f.2) := by rw [cell_of_block hXV]; rfl
        refine hK.out _ _ (fun _ => (And.intro k4V (And.intro k6V (And.intro k7V (And.intro kx0V kx1V))))) ?_
        simp only [List.setIfInBounds_toArray, List.set_cons_zero, List.set_cons_succ]
        exact hI8_9_14_21.out _ _ ⟨_, _, _, W.heap.size, _, rfl, (OwnF.kept rMW hb), hln, (OwnF.kept rEW hb), ((hb.block _ (lt_of_block hlF)).trans hlF), (OwnF.kept rFW hb), hPV, hXV, (frW.below hb), (Nat.le_trans hzW hb.size)⟩
      exact AllReadyL.nil
    intro h0
    have hI8_9_21 := Lib.hid h0
    clear h0
    refine with_tail (listed' := #[true, true, true, true, true, true, true, true, true, false, true, true, true, true, true, false, true, true, true, true, true, true, false, false, false, false, false, false, false, false, false, false]) (fuel' := 12) (Good := fun a' W => ∃ (qM : Nat) (qE : Nat) (qF : Nat), a' = (⟨#[.pointer (some ⟨p, 0, none⟩), .slice am m.length cm, .agg #[.int .i64 f.1, .int .i64 f.2], undef, undef, .pointer (some ⟨w.heap.size, 0, none⟩), .int .i64 0, .string (keyS m), .int .i64 c, .bool false, .int .i64 (g.marks.length : Int), .slice am m.length cm, .string (keyS m), .tuple #[.int .i64 c, .bool false], .pointer (some ⟨p, 0, none⟩), .pointer (some ⟨p, 0, none⟩), .pointer (some ⟨p, 5, none⟩), .map (some mp), .string (keyS m), .tuple #[.int .i64 c, .bool false], .int .i64 c, .bool false, .bool false, undef, .pointer (some ⟨p, 0, none⟩), .pointer (some ⟨p, 0, none⟩), .pointer (some ⟨p, 4, none⟩), .slice aM g.marks.length cM, .int .i64 (g.marks.length : Int), .pointer (some ⟨p, 0, none⟩), .pointer (some ⟨p, 0, none⟩), .pointer (some ⟨p, 5, none⟩), .map (some mp), .string (keyS m), .int .i64 (g.marks.length : Int), .pointer (some ⟨p, 0, none⟩), .pointer (some ⟨p, 0, none⟩), .pointer (some ⟨p, 0, none⟩), .pointer (some ⟨p, 0, none⟩), .pointer (some ⟨p, 0, none⟩), .pointer (some ⟨p, 4, none⟩), .slice aM g.marks.length cM, .slice am m.length cm, .slice (some ⟨qM, 0, none⟩) 1 1, undef, .pointer (some ⟨p, 0, none⟩), .pointer (some ⟨p, 0, none⟩), .pointer (some ⟨p, 6, none⟩), .slice aE Es.length cE, .slice (some ⟨qE, 0, none⟩) 1 1, undef, .pointer (some ⟨p, 0, none⟩), .pointer (some ⟨p, 0, none⟩), .pointer (some ⟨p, 7, none⟩), .slice aF g.src.length cF, .agg #[.int .i64 f.1, .int .i64 f.2], .slice (some ⟨qF, 0, none⟩) 1 1, undef, undef, undef, undef, undef, undef, undef, undef], []⟩ : Act) ∧ W.heap[qM]? = some (.cells #[.slice am m.length cm] 26) ∧ RowM W base (.slice aM g.marks.length cM) Ms ∧ W.heap[qE]? = some (.cells #[.slice none 0 0] 42) ∧ RowX W base (.slice aE Es.length cE) Es ∧ W.heap[qF]? = some (.cells #[.int .i64 f.1, .int .i64 f.2] 79) ∧ RowE W base (.slice aF g.src.length cF) g.src ∧ W.heap[p]? = some (.cells (gCells v0 v1 a b (.slice aM g.marks.length cM) mp (.slice aE Es.length cE) (.slice aF g.src.length cF) (.slice none 0 0)) 83) ∧ W.heap[w.heap.size]? = some (.cells #[.int .i64 f.1, .int .i64 f.2] 79) ∧ Frm [(Value.slice aM g.marks.length cM).ownBlock, (Value.slice aE Es.length cE).ownBlock, (Value.slice aF g.src.length cF).ownBlock] W0 W ∧ base ≤ W.heap.size) ?_ ?_
    · rintro a' W ⟨qM, qE, qF, rfl, hlM, rMW, hlE, rEW, hlF, rFW, hPW, hXW, frW, hzW⟩
      obtain ⟨k4W, -, k6W, k7W, -⟩ := box9 hPW
      have kx0W : W.cell? ⟨w.heap.size, 0, none⟩ = some (.int .i64 f.1) := by rw [cell_of_block hXW]; rfl
      have kx1W : W.cell? ⟨w.heap.size, 1, none⟩ = some (.int .i64 f.2) := by rw [cell_of_block hXW]; rfl
      refine wpAnyL_ready (rs := [9]) (by kernel_rfl) (by simp) ?_
      refine AllReadyL.cons rfl (fun K hK => ?_) ?_
      · refine step_append_own W (by rfl) (.tmp 41) (.tmp 43) 71 (by rfl) base 26 i1 (.slice none 0 0) 1 24 Tryd.underlying71 ht1 hz10 hz11 hz12 rfl (by decide) (.slice aM g.marks.length cM) Ms.length (cellsF cellM Ms) (by rfl) rMW ⟨qM, 0, none⟩ 1 1 (cellM (m, .slice am m.length cm)) (by rfl) rfl (news_lit hlM rfl) (one_M _ rfl) (by unfold maxLen; omega) (by omega) hzW ?_
        intro v' V hown hg hat
        obtain ⟨n', x', rfl, _, _⟩ := hown.form (by omega)
        have rn := OwnF.push (f := cellM) (x := (m, .slice am m.length cm)) hown
        have hPV := lit_other hPW rMW (by decide) hg
        have hXV := lit_other hXW rMW (by decide) hg
        obtain ⟨k4V, -, k6V, k7V, -⟩ := box9 hPV
        have kx0V : V.cell? ⟨w.heap.size, 0, none⟩ = some (.int .i64 f.1) := by rw [cell_of_block hXV]; rfl
        have kx1V : V.cell? ⟨w.heap.size, 1, none⟩ = some (.int .i64 f.2) := by rw [cell_of_block hXV]; rfl
        refine hK.out _ _ (fun _ => (And.intro k4V (And.intro k6V (And.intro k7V (And.intro kx0V kx1V))))) ?_
        simp only [List.getElem_toArray, List.getElem_cons_succ, List.getElem_cons_zero, Act.put, List.setIfInBounds_toArray, List.set_cons_zero, List.set_cons_succ]
        exact hI8_9_14_21.out _ _ ⟨_, n', x', _, _, rfl, rn, (lit_other hlE rMW (by decide) hg), (row_other rEW rMW (by decide) hg), (lit_other hlF rMW (by decide) hg), (row_other rFW rMW (by decide) hg), hPV, hXV, (frW.grown hg (by simp)), (Nat.le_trans hzW hg.size)⟩
      exact AllReadyL.nil
    intro h0
    have hI8_14_21 := Lib.hid h0
    clear h0
    refine with_tail (listed' := #[true, true, true, true, true, true, true, true, true, true, true, true, true, true, false, false, true, true, true, true, true, false, false, false, false, false, false, false, false, false, false, false]) (fuel' := 13) (Good := fun a' W => ∃ (qM : Nat) (nM : Nat) (xM : Nat), a' = (⟨#[.pointer (some ⟨p, 0, none⟩), .slice am m.length cm, .agg #[.int .i64 f.1, .int .i64 f.2], undef, undef, .pointer (some ⟨w.heap.size, 0, none⟩), .int .i64 0, .string (keyS m), .int .i64 c, .bool false, .int .i64 (g.marks.length : Int), .slice am m.length cm, .string (keyS m), .tuple #[.int .i64 c, .bool false], .pointer (some ⟨p, 0, none⟩), .pointer (some ⟨p, 0, none⟩), .pointer (some ⟨p, 5, none⟩), .map (some mp), .string (keyS m), .tuple #[.int .i64 c, .bool false], .int .i64 c, .bool false, .bool false, undef, .pointer (some ⟨p, 0, none⟩), .pointer (some ⟨p, 0, none⟩), .pointer (some ⟨p, 4, none⟩), .slice aM g.marks.length cM, .int .i64 (g.marks.length : Int), .pointer (some ⟨p, 0, none⟩), .pointer (some ⟨p, 0, none⟩), .pointer (some ⟨p, 5, none⟩), .map (some mp), .string (keyS m), .int .i64 (g.marks.length : Int), .pointer (some ⟨p, 0, none⟩), .pointer (some ⟨p, 0, none⟩), .pointer (some ⟨p, 0, none⟩), .pointer (some ⟨p, 0, none⟩), .pointer (some ⟨p, 0, none⟩), .pointer (some ⟨p, 4, none⟩), .slice aM g.marks.length cM, .slice am m.length cm, .slice (some ⟨qM, 0, none⟩) 1 1, .slice (some ⟨nM, 0, none⟩) (Ms.length + 1) xM, .pointer (some ⟨p, 0, none⟩), .pointer (some ⟨p, 0, none⟩), .pointer (some ⟨p, 6, none⟩), .slice aE Es.length cE, undef, undef, .pointer (some ⟨p, 0, none⟩), .pointer (some ⟨p, 0, none⟩), .pointer (some ⟨p, 7, none⟩), .slice aF g.src.length cF, .agg #[.int .i64 f.1, .int .i64 f.2], undef, undef, undef, undef, undef, undef, undef, undef, undef], []⟩ : Act) ∧ RowM W base (.slice (some ⟨nM, 0, none⟩) (Ms.length + 1) xM) (Ms ++ [(m, .slice am m.length cm)]) ∧ RowX W base (.slice aE Es.length cE) Es ∧ RowE W base (.slice aF g.src.length cF) g.src ∧ W.heap[p]? = some (.cells (gCells v0 v1 a b (.slice aM g.marks.length cM) mp (.slice aE Es.length cE) (.slice aF g.src.length cF) (.slice none 0 0)) 83) ∧ W.heap[w.heap.size]? = some (.cells #[.int .i64 f.1, .int .i64 f.2] 79) ∧ Frm [(Value.slice aM g.marks.length cM).ownBlock, (Value.slice aE Es.length cE).ownBlock, (Value.slice aF g.src.length cF).ownBlock] W0 W ∧ base ≤ W.heap.size) ?_ ?_
    · rintro a' W ⟨qM, nM, xM, rfl, rMW, rEW, rFW, hPW, hXW, frW, hzW⟩
      obtain ⟨k4W, -, k6W, k7W, -⟩ := box9 hPW
      have kx0W : W.cell? ⟨w.heap.size, 0, none⟩ = some (.int .i64 f.1) := by rw [cell_of_block hXW]; rfl
      have kx1W : W.cell? ⟨w.heap.size, 1, none⟩ = some (.int .i64 f.2) := by rw [cell_of_block hXW]; rfl
      refine wpAnyL_ready (rs := [14, 21]) (by kernel_rfl) (by simp) ?_
      refine AllReadyL.cons rfl (fun K hK => ?_) ?_
      · obtain ⟨V, hV⟩ : ∃ V, W.alloc (.cells #[.slice none 0 0] 42) = V := ⟨_, rfl⟩
        have hb : Below W.heap.size W V := by rw [← hV]; exact (Below.refl _ _).alloc (Nat.le_refl _) _
        have hln : V.heap[W.heap.size]? = some (.cells #[.slice none 0 0] 42) := by rw [← hV]; exact heap_alloc_new _ _
        go_simp
        clear hV
        have hPV := (hb.block _ (lt_of_block hPW)).trans hPW
        have hXV := (hb.block _ (lt_of_block hXW)).trans hXW
        obtain ⟨k4V, -, k6V, k7V, -⟩ := box9 hPV
        have kx0V : V.cell? ⟨w.heap.size, 0, none⟩ = some (.int .i64 f.1) := by rw [cell_of_block hXV]; rfl
        have kx1V : V.cell? ⟨w.heap.size, 1, none⟩ = some (.int .i64 f.2) := by rw [cell_of_block hXV]; rfl
        refine hK.out _ _ (fun _ => (And.intro k4V (And.intro k6V (And.intro k7V (And.intro kx0V kx1V))))) ?_
        simp only [List.setIfInBounds_toArray, List.set_cons_zero, List.set_cons_succ]
        exact hI8_9_14.out _ _ ⟨_, _, _, W.heap.size, rfl, (OwnF.kept rMW hb), hln, (OwnF.kept rEW hb), (OwnF.kept rFW hb), hPV, hXV, (frW.below hb), (Nat.le_trans hzW hb.size)⟩
      refine AllReadyL.cons rfl (fun K hK => ?_) ?_
      · obtain ⟨V, hV⟩ : ∃ V, W.alloc (.cells #[.int .i64 f.1, .int .i64 f.2] 79) = V := ⟨_, rfl⟩
        have hb : Below W.heap.size W V := by rw [← hV]; exact (Below.refl _ _).alloc (Nat.le_refl _) _
        have hln : V.heap[W.heap.size]? = some (.cells #[.int .i64 f.1, .int .i64 f.2] 79) := by rw [← hV]; exact heap_alloc_new _ _
        go_simp
        clear hV
        have hPV := (hb.block _ (lt_of_block hPW)).trans hPW
        have hXV := (hb.block _ (lt_of_block hXW)).trans hXW
        obtain ⟨k4V, -, k6V, k7V, -⟩ := box9 hPV
        have kx0V : V.cell? ⟨w.heap.size, 0, none⟩ = some (.int .i64 f.1) := by rw [cell_of_block hXV]; rfl
        have kx1V : V.cell? ⟨w.heap.size, 1, none⟩ = some (.int .i64 f.2) := by rw [cell_of_block hXV]; rfl
        refine hK.out _ _ (fun _ => (And.intro k4V (And.intro k6V (And.intro k7V (And.intro kx0V kx1V))))) ?_
        simp only [List.setIfInBounds_toArray, List.set_cons_zero, List.set_cons_succ]
        exact hI8_9_21.out _ _ ⟨_, _, _, W.heap.size, rfl, (OwnF.kept rMW hb), (OwnF.kept rEW hb), hln, (OwnF.kept rFW hb), hPV, hXV, (frW.below hb), (Nat.le_trans hzW hb.size)⟩
      exact AllReadyL.nil
    intro h0
    have hI8_9 := Lib.hid h0
    clear h0
    refine with_tail (listed' := #[true, true, true, true, true, true, true, true, true, false, true, true, true, true, true, false, true, true, true, true, true, false, false, false, false, false, false, false, false, false, false, false]) (fuel' := 13) (Good := fun a' W => ∃ (qM : Nat) (qE : Nat), a' = (⟨#[.pointer (some ⟨p, 0, none⟩), .slice am m.length cm, .agg #[.int .i64 f.1, .int .i64 f.2], undef, undef, .pointer (some ⟨w.heap.size, 0, none⟩), .int .i64 0, .string (keyS m), .int .i64 c, .bool false, .int .i64 (g.marks.length : Int), .slice am m.length cm, .string (keyS m), .tuple #[.int .i64 c, .bool false], .pointer (some ⟨p, 0, none⟩), .pointer (some ⟨p, 0, none⟩), .pointer (some ⟨p, 5, none⟩), .map (some mp), .string (keyS m), .tuple #[.int .i64 c, .bool false], .int .i64 c, .bool false, .bool false, undef, .pointer (some ⟨p, 0, none⟩), .pointer (some ⟨p, 0, none⟩), .pointer (some ⟨p, 4, none⟩), .slice aM g.marks.length cM, .int .i64 (g.marks.length : Int), .pointer (some ⟨p, 0, none⟩), .pointer (some ⟨p, 0, none⟩), .pointer (some ⟨p, 5, none⟩), .map (some mp), .string (keyS m), .int .i64 (g.marks.length : Int), .pointer (some ⟨p, 0, none⟩), .pointer (some ⟨p, 0, none⟩), .pointer (some ⟨p, 0, none⟩), .pointer (some ⟨p, 0, none⟩), .pointer (some ⟨p, 0, none⟩), .pointer (some ⟨p, 4, none⟩), .slice aM g.marks.length cM, .slice am m.length cm, .slice (some ⟨qM, 0, none⟩) 1 1, undef, .pointer (some ⟨p, 0, none⟩), .pointer (some ⟨p, 0, none⟩), .pointer (some ⟨p, 6, none⟩), .slice aE Es.length cE, .slice (some ⟨qE, 0, none⟩) 1 1, undef, .pointer (some ⟨p, 0, none⟩), .pointer (some ⟨p, 0, none⟩), .pointer (some ⟨p, 7, none⟩), .slice aF g.src.length cF, .agg #[.int .i64 f.1, .int .i64 f.2], undef, undef, undef, undef, undef, undef, undef, undef, undef], []⟩ : Act) ∧ W.heap[qM]? = some (.cells #[.slice am m.length cm] 26) ∧ RowM W base (.slice aM g.marks.length cM) Ms ∧ W.heap[qE]? = some (.cells #[.slice none 0 0] 42) ∧ RowX W base (.slice aE Es.length cE) Es ∧ RowE W base (.slice aF g.src.length cF) g.src ∧ W.heap[p]? = some (.cells (gCells v0 v1 a b (.slice aM g.marks.length cM) mp (.slice aE Es.length cE) (.slice aF g.src.length cF) (.slice none 0 0)) 83) ∧ W.heap[w.heap.size]? = some (.cells #[.int .i64 f.1, .int .i64 f.2] 79) ∧ Frm [(Value.slice aM g.marks.length cM).ownBlock, (Value.slice aE Es.length cE).ownBlock, (Value.slice aF g.src.length cF).ownBlock] W0 W ∧ base ≤ W.heap.size) ?_ ?_
    · rintro a' W ⟨qM, qE, rfl, hlM, rMW, hlE, rEW, rFW, hPW, hXW, frW, hzW⟩
      obtain ⟨k4W, -, k6W, k7W, -⟩ := box9 hPW
      have kx0W : W.cell? ⟨w.heap.size, 0, none⟩ = some (.int .i64 f.1) := by rw [cell_of_block hXW]; rfl
      have kx1W : W.cell? ⟨w.heap.size, 1, none⟩ = some (.int .i64 f.2) := by rw [cell_of_block hXW]; rfl
      refine wpAnyL_ready (rs := [9, 21]) (by kernel_rfl) (by simp) ?_
      refine AllReadyL.cons rfl (fun K hK => ?_) ?_
      · refine step_append_own W (by rfl) (.tmp 41) (.tmp 43) 71 (by rfl) base 26 i1 (.slice none 0 0) 1 24 Tryd.underlying71 ht1 hz10 hz11 hz12 rfl (by decide) (.slice aM g.marks.length cM) Ms.length (cellsF cellM Ms) (by rfl) rMW ⟨qM, 0, none⟩ 1 1 (cellM (m, .slice am m.length cm)) (by rfl) rfl (news_lit hlM rfl) (one_M _ rfl) (by unfold maxLen; omega) (by omega) hzW ?_
        intro v' V hown hg hat
        obtain ⟨n', x', rfl, _, _⟩ := hown.form (by omega)
        have rn := OwnF.push (f := cellM) (x := (m, .slice am m.length cm)) hown
        have hPV := lit_other hPW rMW (by decide) hg
        have hXV := lit_other hXW rMW (by decide) hg
        obtain ⟨k4V, -, k6V, k7V, -⟩ := box9 hPV
        have kx0V : V.cell? ⟨w.heap.size, 0, none⟩ = some (.int .i64 f.1) := by rw [cell_of_block hXV]; rfl
        have kx1V : V.cell? ⟨w.heap.size, 1, none⟩ = some (.int .i64 f.2) := by rw [cell_of_block hXV]; rfl
        refine hK.out _ _ (fun _ => (And.intro k4V (And.intro k6V (And.intro k7V (And.intro kx0V kx1V))))) ?_
        simp only [List.getElem_toArray, List.getElem_cons_succ, List.getElem_cons_zero, Act.put, List.setIfInBounds_toArray, List.set_cons_zero, List.set_cons_succ]
        exact hI8_9_14.out _ _ ⟨_, n', x', _, rfl, rn, (lit_other hlE rMW (by decide) hg), (row_other rEW rMW (by decide) hg), (row_other rFW rMW (by decide) hg), hPV, hXV, (frW.grown hg (by simp)), (Nat.le_trans hzW hg.size)⟩
      refine AllReadyL.cons rfl (fun K hK => ?_) ?_
      · obtain ⟨V, hV⟩ : ∃ V, W.alloc (.cells #[.int .i64 f.1, .int .i64 f.2] 79) = V := ⟨_, rfl⟩
        have hb : Below W.heap.size W V := by rw [← hV]; exact (Below.refl _ _).alloc (Nat.le_refl _) _
        have hln : V.heap[W.heap.size]? = some (.cells #[.int .i64 f.1, .int .i64 f.2] 79) := by rw [← hV]; exact heap_alloc_new _ _
        go_simp
        clear hV
        have hPV := (hb.block _ (lt_of_block hPW)).trans hPW
        have hXV := (hb.block _ (lt_of_block hXW)).trans hXW
        obtain ⟨k4V, -, k6V, k7V, -⟩ := box9 hPV
        have kx0V : V.cell? ⟨w.heap.size, 0, none⟩ = some (.int .i64 f.1) := by rw [cell_of_block hXV]; rfl
        have kx1V : V.cell? ⟨w.heap.size, 1, none⟩ = some (.int .i64 f.2) := by rw [cell_of_block hXV]; rfl
        refine hK.out _ _ (fun _ => (And.intro k4V (And.intro k6V (And.intro k7V (And.intro kx0V kx1V))))) ?_
        simp only [List.setIfInBounds_toArray, List.set_cons_zero, List.set_cons_succ]
        exact hI8_14_21.out _ _ ⟨_, _, W.heap.size, rfl, ((hb.block _ (lt_of_block hlM)).trans hlM), (OwnF.kept rMW hb), ((hb.block _ (lt_of_block hlE)).trans hlE), (OwnF.kept rEW hb), hln, (OwnF.kept rFW hb), hPV, hXV, (frW.below hb), (Nat.le_trans hzW hb.size)⟩
      exact AllReadyL.nil
    intro h0
    have hI8_14 := Lib.hid h0
    clear h0
    refine with_tail (listed' := #[true, true, true, true, true, true, true, true, true, false, true, true, true, true, false, false, true, true, true, true, true, true, false, false, false, false, false, false, false, false, false, false]) (fuel' := 13) (Good := fun a' W => ∃ (qM : Nat) (qF : Nat), a' = (⟨#[.pointer (some ⟨p, 0, none⟩), .slice am m.length cm, .agg #[.int .i64 f.1, .int .i64 f.2], undef, undef, .pointer (some ⟨w.heap.size, 0, none⟩), .int .i64 0, .string (keyS m), .int .i64 c, .bool false, .int .i64 (g.marks.length : Int), .slice am m.length cm, .string (keyS m), .tuple #[.int .i64 c, .bool false], .pointer (some ⟨p, 0, none⟩), .pointer (some ⟨p, 0, none⟩), .pointer (some ⟨p, 5, none⟩), .map (some mp), .string (keyS m), .tuple #[.int .i64 c, .bool false], .int .i64 c, .bool false, .bool false, undef, .pointer (some ⟨p, 0, none⟩), .pointer (some ⟨p, 0, none⟩), .pointer (some ⟨p, 4, none⟩), .slice aM g.marks.length cM, .int .i64 (g.marks.length : Int), .pointer (some ⟨p, 0, none⟩), .pointer (some ⟨p, 0, none⟩), .pointer (some ⟨p, 5, none⟩), .map (some mp), .string (keyS m), .int .i64 (g.marks.length : Int), .pointer (some ⟨p, 0, none⟩), .pointer (some ⟨p, 0, none⟩), .pointer (some ⟨p, 0, none⟩), .pointer (some ⟨p, 0, none⟩), .pointer (some ⟨p, 0, none⟩), .pointer (some ⟨p, 4, none⟩), .slice aM g.marks.length cM, .slice am m.length cm, .slice (some ⟨qM, 0, none⟩) 1 1, undef, .pointer (some ⟨p, 0, none⟩), .pointer (some ⟨p, 0, none⟩), .pointer (some ⟨p, 6, none⟩), .slice aE Es.length cE, undef, undef, .pointer (some ⟨p, 0, none⟩), .pointer (some ⟨p, 0, none⟩), .pointer (some ⟨p, 7, none⟩), .slice aF g.src.length cF, .agg #[.int .i64 f.1, .int .i64 f.2], .slice (some ⟨qF, 0, none⟩) 1 1, undef, undef, undef, undef, undef, undef, undef, undef], []⟩ : Act) ∧ W.heap[qM]? = some (.cells #[.slice am m.length cm] 26) ∧ RowM W base (.slice aM g.marks.length cM) Ms ∧ RowX W base (.slice aE Es.length cE) Es ∧ W.heap[qF]? = some (.cells #[.int .i64 f.1, .int .i64 f.2] 79) ∧ RowE W base (.slice aF g.src.length cF) g.src ∧ W.heap[p]? = some (.cells (gCells v0 v1 a b (.slice aM g.marks.length cM) mp (.slice aE Es.length cE) (.slice aF g.src.length cF) (.slice none 0 0)) 83) ∧ W.heap[w.heap.size]? = some (.cells #[.int .i64 f.1, .int .i64 f.2] 79) ∧ Frm [(Value.slice aM g.marks.length cM).ownBlock, (Value.slice aE Es.length cE).ownBlock, (Value.slice aF g.src.length cF).ownBlock] W0 W ∧ base ≤ W.heap.size) ?_ ?_
    · rintro a' W ⟨qM, qF, rfl, hlM, rMW, rEW, hlF, rFW, hPW, hXW, frW, hzW⟩
      obtain ⟨k4W, -, k6W, k7W, -⟩ := box9 hPW
      have kx0W : W.cell? ⟨w.heap.size, 0, none⟩ = some (.int .i64 f.1) := by rw [cell_of_block hXW]; rfl
      have kx1W : W.cell? ⟨w.heap.size, 1, none⟩ = some (.int .i64 f.2) := by rw [cell_of_block hXW]; rfl
      refine wpAnyL_ready (rs := [9, 14]) (by kernel_rfl) (by simp) ?_
      refine AllReadyL.cons rfl (fun K hK => ?_) ?_
      · refine step_append_own W (by rfl) (.tmp 41) (.tmp 43) 71 (by rfl) base 26 i1 (.slice none 0 0) 1 24 Tryd.underlying71 ht1 hz10 hz11 hz12 rfl (by decide) (.slice aM g.marks.length cM) Ms.length (cellsF cellM Ms) (by rfl) rMW ⟨qM, 0, none⟩ 1 1 (cellM (m, .slice am m.length cm)) (by rfl) rfl (news_lit hlM rfl) (one_M _ rfl) (by unfold maxLen; omega) (by omega) hzW ?_
        intro v' V hown hg hat
        obtain ⟨n', x', rfl, _, _⟩ := hown.form (by omega)
        have rn := OwnF.push (f := cellM) (x := (m, .slice am m.length cm)) hown
        have hPV := lit_other hPW rMW (by decide) hg
        have hXV := lit_other hXW rMW (by decide) hg
        obtain ⟨k4V, -, k6V, k7V, -⟩ := box9 hPV
        have kx0V : V.cell? ⟨w.heap.size, 0, none⟩ = some (.int .i64 f.1) := by rw [cell_of_block hXV]; rfl
        have kx1V : V.cell? ⟨w.heap.size, 1, none⟩ = some (.int .i64 f.2) := by rw [cell_of_block hXV]; rfl
        refine hK.out _ _ (fun _ => (And.intro k4V (And.intro k6V (And.intro k7V (And.intro kx0V kx1V))))) ?_
        simp only [List.getElem_toArray, List.getElem_cons_succ, List.getElem_cons_zero, Act.put, List.setIfInBounds_toArray, List.set_cons_zero, List.set_cons_succ]
        exact hI8_9_21.out _ _ ⟨_, n', x', _, rfl, rn, (row_other rEW rMW (by decide) hg), (lit_other hlF rMW (by decide) hg), (row_other rFW rMW (by decide) hg), hPV, hXV, (frW.grown hg (by simp)), (Nat.le_trans hzW hg.size)⟩
      refine AllReadyL.cons rfl (fun K hK => ?_) ?_
      · obtain ⟨V, hV⟩ : ∃ V, W.alloc (.cells #[.slice none 0 0] 42) = V := ⟨_, rfl⟩
        have hb : Below W.heap.size W V := by rw [← hV]; exact (Below.refl _ _).alloc (Nat.le_refl _) _
        have hln : V.heap[W.heap.size]? = some (.cells #[.slice none 0 0] 42) := by rw [← hV]; exact heap_alloc_new _ _
        go_simp
        clear hV
        have hPV := (hb.block _ (lt_of_block hPW)).trans hPW
        have hXV := (hb.block _ (lt_of_block hXW)).trans hXW
        obtain ⟨k4V, -, k6V, k7V, -⟩ := box9 hPV
        have kx0V : V.cell? ⟨w.heap.size, 0, none⟩ = some (.int .i64 f.1) := by rw [cell_of_block hXV]; rfl
        have kx1V : V.cell? ⟨w.heap.size, 1, none⟩ = some (.int .i64 f.2) := by rw [cell_of_block hXV]; rfl
        refine hK.out _ _ (fun _ => (And.intro k4V (And.intro k6V (And.intro k7V (And.intro kx0V kx1V))))) ?_
        simp only [List.setIfInBounds_toArray, List.set_cons_zero, List.set_cons_succ]
        exact hI8_14_21.out _ _ ⟨_, W.heap.size, _, rfl, ((hb.block _ (lt_of_block hlM)).trans hlM), (OwnF.kept rMW hb), hln, (OwnF.kept rEW hb), ((hb.block _ (lt_of_block hlF)).trans hlF), (OwnF.kept rFW hb), hPV, hXV, (frW.below hb), (Nat.le_trans hzW hb.size)⟩
      exact AllReadyL.nil
    intro h0
    have hI8_21 := Lib.hid h0
    clear h0
    refine with_tail (listed' := #[true, true, true, true, true, true, true, true, false, false, true, true, true, true, true, false, true, true, true, true, true, true, false, false, false, false, false, false, false, false, false, false]) (fuel' := 13) (Good := fun a' W => ∃ (qE : Nat) (qF : Nat), a' = (⟨#[.pointer (some ⟨p, 0, none⟩), .slice am m.length cm, .agg #[.int .i64 f.1, .int .i64 f.2], undef, undef, .pointer (some ⟨w.heap.size, 0, none⟩), .int .i64 0, .string (keyS m), .int .i64 c, .bool false, .int .i64 (g.marks.length : Int), .slice am m.length cm, .string (keyS m), .tuple #[.int .i64 c, .bool false], .pointer (some ⟨p, 0, none⟩), .pointer (some ⟨p, 0, none⟩), .pointer (some ⟨p, 5, none⟩), .map (some mp), .string (keyS m), .tuple #[.int .i64 c, .bool false], .int .i64 c, .bool false, .bool false, undef, .pointer (some ⟨p, 0, none⟩), .pointer (some ⟨p, 0, none⟩), .pointer (some ⟨p, 4, none⟩), .slice aM g.marks.length cM, .int .i64 (g.marks.length : Int), .pointer (some ⟨p, 0, none⟩), .pointer (some ⟨p, 0, none⟩), .pointer (some ⟨p, 5, none⟩), .map (some mp), .string (keyS m), .int .i64 (g.marks.length : Int), .pointer (some ⟨p, 0, none⟩), .pointer (some ⟨p, 0, none⟩), .pointer (some ⟨p, 0, none⟩), .pointer (some ⟨p, 0, none⟩), .pointer (some ⟨p, 0, none⟩), .pointer (some ⟨p, 4, none⟩), .slice aM g.marks.length cM, .slice am m.length cm, undef, undef, .pointer (some ⟨p, 0, none⟩), .pointer (some ⟨p, 0, none⟩), .pointer (some ⟨p, 6, none⟩), .slice aE Es.length cE, .slice (some ⟨qE, 0, none⟩) 1 1, undef, .pointer (some ⟨p, 0, none⟩), .pointer (some ⟨p, 0, none⟩), .pointer (some ⟨p, 7, none⟩), .slice aF g.src.length cF, .agg #[.int .i64 f.1, .int .i64 f.2], .slice (some ⟨qF, 0, none⟩) 1 1, undef, undef, undef, undef, undef, undef, undef, undef], []⟩ : Act) ∧ RowM W base (.slice aM g.marks.length cM) Ms ∧ W.heap[qE]? = some (.cells #[.slice none 0 0] 42) ∧ RowX W base (.slice aE Es.length cE) Es ∧ W.heap[qF]? = some (.cells #[.int .i64 f.1, .int .i64 f.2] 79) ∧ RowE W base (.slice aF g.src.length cF) g.src ∧ W.heap[p]? = some (.cells (gCells v0 v1 a b (.slice aM g.marks.length cM) mp (.slice aE Es.length cE) (.slice aF g.src.length cF) (.slice none 0 0)) 83) ∧ W.heap[w.heap.size]? = some (.cells #[.int .i64 f.1, .int .i64 f.2] 79) ∧ Frm [(Value.slice aM g.marks.length cM).ownBlock, (Value.slice aE Es.length cE).ownBlock, (Value.slice aF g.src.length cF).ownBlock] W0 W ∧ base ≤ W.heap.size) ?_ ?_
    · rintro a' W ⟨qE, qF, rfl, rMW, hlE, rEW, hlF, rFW, hPW, hXW, frW, hzW⟩
      obtain ⟨k4W, -, k6W, k7W, -⟩ := box9 hPW
      have kx0W : W.cell? ⟨w.heap.size, 0, none⟩ = some (.int .i64 f.1) := by rw [cell_of_block hXW]; rfl
      have kx1W : W.cell? ⟨w.heap.size, 1, none⟩ = some (.int .i64 f.2) := by rw [cell_of_block hXW]; rfl
      refine wpAnyL_ready (rs := [8]) (by kernel_rfl) (by simp) ?_
      refine AllReadyL.cons rfl (fun K hK => ?_) ?_
      · obtain ⟨V, hV⟩ : ∃ V, W.alloc (.cells #[.slice am m.length cm] 26) = V := ⟨_, rfl⟩
        have hb : Below W.heap.size W V := by rw [← hV]; exact (Below.refl _ _).alloc (Nat.le_refl _) _
        have hln : V.heap[W.heap.size]? = some (.cells #[.slice am m.length cm] 26) := by rw [← hV]; exact heap_alloc_new _ _
        go_simp
        clear hV
        have hPV := (hb.block _ (lt_of_block hPW)).trans hPW
        have hXV := (hb.block _ (lt_of_block hXW)).trans hXW
        obtain ⟨k4V, -, k6V, k7V, -⟩ := box9 hPV
        have kx0V : V.cell? ⟨w.heap.size, 0, none⟩ = some (.int .i64 f.1) := by rw [cell_of_block hXV]; rfl
        have kx1V : V.cell? ⟨w.heap.size, 1, none⟩ = some (.int .i64 f.2) := by rw [cell_of_block hXV]; rfl
        refine hK.out _ _ (fun _ => (And.intro k4V (And.intro k6V (And.intro k7V (And.intro kx0V kx1V))))) ?_
        simp only [List.setIfInBounds_toArray, List.set_cons_zero, List.set_cons_succ]
        exact hI8_14_21.out _ _ ⟨W.heap.size, _, _, rfl, hln, (OwnF.kept rMW hb), ((hb.block _ (lt_of_block hlE)).trans hlE), (OwnF.kept rEW hb), ((hb.block _ (lt_of_block hlF)).trans hlF), (OwnF.kept rFW hb), hPV, hXV, (frW.below hb), (Nat.le_trans hzW hb.size)⟩
      exact AllReadyL.nil
    intro h0
    have hI14_21 := Lib.hid h0
    clear h0
    refine with_tail (listed' := #[true, true, true, true, true, true, true, true, true, false, true, true, true, true, false, false, true, true, true, true, true, false, false, false, false, false, false, false, false, false, false, false]) (fuel' := 14) (Good := fun a' W => ∃ (qM : Nat), a' = (⟨#[.pointer (some ⟨p, 0, none⟩), .slice am m.length cm, .agg #[.int .i64 f.1, .int .i64 f.2], undef, undef, .pointer (some ⟨w.heap.size, 0, none⟩), .int .i64 0, .string (keyS m), .int .i64 c, .bool false, .int .i64 (g.marks.length : Int), .slice am m.length cm, .string (keyS m), .tuple #[.int .i64 c, .bool false], .pointer (some ⟨p, 0, none⟩), .pointer (some ⟨p, 0, none⟩), .pointer (some ⟨p, 5, none⟩), .map (some mp), .string (keyS m), .tuple #[.int .i64 c, .bool false], .int .i64 c, .bool false, .bool false, undef, .pointer (some ⟨p, 0, none⟩), .pointer (some ⟨p, 0, none⟩), .pointer (some ⟨p, 4, none⟩), .slice aM g.marks.length cM, .int .i64 (g.marks.length : Int), .pointer (some ⟨p, 0, none⟩), .pointer (some ⟨p, 0, none⟩), .pointer (some ⟨p, 5, none⟩), .map (some mp), .string (keyS m), .int .i64 (g.marks.length : Int), .pointer (some ⟨p, 0, none⟩), .pointer (some ⟨p, 0, none⟩), .pointer (some ⟨p, 0, none⟩), .pointer (some ⟨p, 0, none⟩), .pointer (some ⟨p, 0, none⟩), .pointer (some ⟨p, 4, none⟩), .slice aM g.marks.length cM, .slice am m.length cm, .slice (some ⟨qM, 0, none⟩) 1 1, undef, .pointer (some ⟨p, 0, none⟩), .pointer (some ⟨p, 0, none⟩), .pointer (some ⟨p, 6, none⟩), .slice aE Es.length cE, undef, undef, .pointer (some ⟨p, 0, none⟩), .pointer (some ⟨p, 0, none⟩), .pointer (some ⟨p, 7, none⟩), .slice aF g.src.length cF, .agg #[.int .i64 f.1, .int .i64 f.2], undef, undef, undef, undef, undef, undef, undef, undef, undef], []⟩ : Act) ∧ W.heap[qM]? = some (.cells #[.slice am m.length cm] 26) ∧ RowM W base (.slice aM g.marks.length cM) Ms ∧ RowX W base (.slice aE Es.length cE) Es ∧ RowE W base (.slice aF g.src.length cF) g.src ∧ W.heap[p]? = some (.cells (gCells v0 v1 a b (.slice aM g.marks.length cM) mp (.slice aE Es.length cE) (.slice aF g.src.length cF) (.slice none 0 0)) 83) ∧ W.heap[w.heap.size]? = some (.cells #[.int .i64 f.1, .int .i64 f.2] 79) ∧ Frm [(Value.slice aM g.marks.length cM).ownBlock, (Value.slice aE Es.length cE).ownBlock, (Value.slice aF g.src.length cF).ownBlock] W0 W ∧ base ≤ W.heap.size) ?_ ?_
    · rintro a' W ⟨qM, rfl, hlM, rMW, rEW, rFW, hPW, hXW, frW, hzW⟩
      obtain ⟨k4W, -, k6W, k7W, -⟩ := box9 hPW
      have kx0W : W.cell? ⟨w.heap.size, 0, none⟩ = some (.int .i64 f.1) := by rw [cell_of_block hXW]; rfl
      have kx1W : W.cell? ⟨w.heap.size, 1, none⟩ = some (.int .i64 f.2) := by rw [cell_of_block hXW]; rfl
      refine wpAnyL_ready (rs := [9, 14, 21]) (by kernel_rfl) (by simp) ?_
      refine AllReadyL.cons rfl (fun K hK => ?_) ?_
      · refine step_append_own W (by rfl) (.tmp 41) (.tmp 43) 71 (by rfl) base 26 i1 (.slice none 0 0) 1 24 Tryd.underlying71 ht1 hz10 hz11 hz12 rfl (by decide) (.slice aM g.marks.length cM) Ms.length (cellsF cellM Ms) (by rfl) rMW ⟨qM, 0, none⟩ 1 1 (cellM (m, .slice am m.length cm)) (by rfl) rfl (news_lit hlM rfl) (one_M _ rfl) (by unfold maxLen; omega) (by omega) hzW ?_
        intro v' V hown hg hat
        obtain ⟨n', x', rfl, _, _⟩ := hown.form (by omega)
        have rn := OwnF.push (f := cellM) (x := (m, .slice am m.length cm)) hown
        have hPV := lit_other hPW rMW (by decide) hg
        have hXV := lit_other hXW rMW (by decide) hg
        obtain ⟨k4V, -, k6V, k7V, -⟩ := box9 hPV
        have kx0V : V.cell? ⟨w.heap.size, 0, none⟩ = some (.int .i64 f.1) := by rw [cell_of_block hXV]; rfl
        have kx1V : V.cell? ⟨w.heap.size, 1, none⟩ = some (.int .i64 f.2) := by rw [cell_of_block hXV]; rfl
        refine hK.out _ _ (fun _ => (And.intro k4V (And.intro k6V (And.intro k7V (And.intro kx0V kx1V))))) ?_
        simp only [List.getElem_toArray, List.getElem_cons_succ, List.getElem_cons_zero, Act.put, List.setIfInBounds_toArray, List.set_cons_zero, List.set_cons_succ]
        exact hI8_9.out _ _ ⟨_, n', x', rfl, rn, (row_other rEW rMW (by decide) hg), (row_other rFW rMW (by decide) hg), hPV, hXV, (frW.grown hg (by simp)), (Nat.le_trans hzW hg.size)⟩
      refine AllReadyL.cons rfl (fun K hK => ?_) ?_
      · obtain ⟨V, hV⟩ : ∃ V, W.alloc (.cells #[.slice none 0 0] 42) = V := ⟨_, rfl⟩
        have hb : Below W.heap.size W V := by rw [← hV]; exact (Below.refl _ _).alloc (Nat.le_refl _) _
        have hln : V.heap[W.heap.size]? = some (.cells #[.slice none 0 0] 42) := by rw [← hV]; exact heap_alloc_new _ _
        go_simp
        clear hV
        have hPV := (hb.block _ (lt_of_block hPW)).trans hPW
        have hXV := (hb.block _ (lt_of_block hXW)).trans hXW
        obtain ⟨k4V, -, k6V, k7V, -⟩ := box9 hPV
        have kx0V : V.cell? ⟨w.heap.size, 0, none⟩ = some (.int .i64 f.1) := by rw [cell_of_block hXV]; rfl
        have kx1V : V.cell? ⟨w.heap.size, 1, none⟩ = some (.int .i64 f.2) := by rw [cell_of_block hXV]; rfl
        refine hK.out _ _ (fun _ => (And.intro k4V (And.intro k6V (And.intro k7V (And.intro kx0V kx1V))))) ?_
        simp only [List.setIfInBounds_toArray, List.set_cons_zero, List.set_cons_succ]
        exact hI8_14.out _ _ ⟨_, W.heap.size, rfl, ((hb.block _ (lt_of_block hlM)).trans hlM), (OwnF.kept rMW hb), hln, (OwnF.kept rEW hb), (OwnF.kept rFW hb), hPV, hXV, (frW.below hb), (Nat.le_trans hzW hb.size)⟩
      refine AllReadyL.cons rfl (fun K hK => ?_) ?_
      · obtain ⟨V, hV⟩ : ∃ V, W.alloc (.cells #[.int .i64 f.1, .int .i64 f.2] 79) = V := ⟨_, rfl⟩
        have hb : Below W.heap.size W V := by rw [← hV]; exact (Below.refl _ _).alloc (Nat.le_refl _) _
        have hln : V.heap[W.heap.size]? = some (.cells #[.int .i64 f.1, .int .i64 f.2] 79) := by rw [← hV]; exact heap_alloc_new _ _
        go_simp
        clear hV
        have hPV := (hb.block _ (lt_of_block hPW)).trans hPW
        have hXV := (hb.block _ (lt_of_block hXW)).trans hXW
        obtain ⟨k4V, -, k6V, k7V, -⟩ := box9 hPV
        have kx0V : V.cell? ⟨w.heap.size, 0, none⟩ = some (.int .i64 f.1) := by rw [cell_of_block hXV]; rfl
        have kx1V : V.cell? ⟨w.heap.size, 1, none⟩ = some (.int .i64 f.2) := by rw [cell_of_block hXV]; rfl
        refine hK.out _ _ (fun _ => (And.intro k4V (And.intro k6V (And.intro k7V (And.intro kx0V kx1V))))) ?_
        simp only [List.setIfInBounds_toArray, List.set_cons_zero, List.set_cons_succ]
        exact hI8_21.out _ _ ⟨_, W.heap.size, rfl, ((hb.block _ (lt_of_block hlM)).trans hlM), (OwnF.kept rMW hb), (OwnF.kept rEW hb), hln, (OwnF.kept rFW hb), hPV, hXV, (frW.below hb), (Nat.le_trans hzW hb.size)⟩
      exact AllReadyL.nil
    intro h0
    have hI8 := Lib.hid h0
    clear h0
    refine with_tail (listed' := #[true, true, true, true, true, true, true, true, false, false, true, true, true, true, true, false, true, true, true, true, true, false, false, false, false, false, false, false, false, false, false, false]) (fuel' := 14) (Good := fun a' W => ∃ (qE : Nat), a' = (⟨#[.pointer (some ⟨p, 0, none⟩), .slice am m.length cm, .agg #[.int .i64 f.1, .int .i64 f.2], undef, undef, .pointer (some ⟨w.heap.size, 0, none⟩), .int .i64 0, .string (keyS m), .int .i64 c, .bool false, .int .i64 (g.marks.length : Int), .slice am m.length cm, .string (keyS m), .tuple #[.int .i64 c, .bool false], .pointer (some ⟨p, 0, none⟩), .pointer (some ⟨p, 0, none⟩), .pointer (some ⟨p, 5, none⟩), .map (some mp), .string (keyS m), .tuple #[.int .i64 c, .bool false], .int .i64 c, .bool false, .bool false, undef, .pointer (some ⟨p, 0, none⟩), .pointer (some ⟨p, 0, none⟩), .pointer (some ⟨p, 4, none⟩), .slice aM g.marks.length cM, .int .i64 (g.marks.length : Int), .pointer (some ⟨p, 0, none⟩), .pointer (some ⟨p, 0, none⟩), .pointer (some ⟨p, 5, none⟩), .map (some mp), .string (keyS m), .int .i64 (g.marks.length : Int), .pointer (some ⟨p, 0, none⟩), .pointer (some ⟨p, 0, none⟩), .pointer (some ⟨p, 0, none⟩), .pointer (some ⟨p, 0, none⟩), .pointer (some ⟨p, 0, none⟩), .pointer (some ⟨p, 4, none⟩), .slice aM g.marks.length cM, .slice am m.length cm, undef, undef, .pointer (some ⟨p, 0, none⟩), .pointer (some ⟨p, 0, none⟩), .pointer (some ⟨p, 6, none⟩), .slice aE Es.length cE, .slice (some ⟨qE, 0, none⟩) 1 1, undef, .pointer (some ⟨p, 0, none⟩), .pointer (some ⟨p, 0, none⟩), .pointer (some ⟨p, 7, none⟩), .slice aF g.src.length cF, .agg #[.int .i64 f.1, .int .i64 f.2], undef, undef, undef, undef, undef, undef, undef, undef, undef], []⟩ : Act) ∧ RowM W base (.slice aM g.marks.length cM) Ms ∧ W.heap[qE]? = some (.cells #[.slice none 0 0] 42) ∧ RowX W base (.slice aE Es.length cE) Es ∧ RowE W base (.slice aF g.src.length cF) g.src ∧ W.heap[p]? = some (.cells (gCells v0 v1 a b (.slice aM g.marks.length cM) mp (.slice aE Es.length cE) (.slice aF g.src.length cF) (.slice none 0 0)) 83) ∧ W.heap[w.heap.size]? = some (.cells #[.int .i64 f.1, .int .i64 f.2] 79) ∧ Frm [(Value.slice aM g.marks.length cM).ownBlock, (Value.slice aE Es.length cE).ownBlock, (Value.slice aF g.src.length cF).ownBlock] W0 W ∧ base ≤ W.heap.size) ?_ ?_
    · rintro a' W ⟨qE, rfl, rMW, hlE, rEW, rFW, hPW, hXW, frW, hzW⟩
      obtain ⟨k4W, -, k6W, k7W, -⟩ := box9 hPW
      have kx0W : W.cell? ⟨w.heap.size, 0, none⟩ = some (.int .i64 f.1) := by rw [cell_of_block hXW]; rfl
      have kx1W : W.cell? ⟨w.heap.size, 1, none⟩ = some (.int .i64 f.2) := by rw [cell_of_block hXW]; rfl
      refine wpAnyL_ready (rs := [8, 21]) (by kernel_rfl) (by simp) ?_
      refine AllReadyL.cons rfl (fun K hK => ?_) ?_
      · obtain ⟨V, hV⟩ : ∃ V, W.alloc (.cells #[.slice am m.length cm] 26) = V := ⟨_, rfl⟩
        have hb : Below W.heap.size W V := by rw [← hV]; exact (Below.refl _ _).alloc (Nat.le_refl _) _
        have hln : V.heap[W.heap.size]? = some (.cells #[.slice am m.length cm] 26) := by rw [← hV]; exact heap_alloc_new _ _
        go_simp
        clear hV
        have hPV := (hb.block _ (lt_of_block hPW)).trans hPW
        have hXV := (hb.block _ (lt_of_block hXW)).trans hXW
        obtain ⟨k4V, -, k6V, k7V, -⟩ := box9 hPV
        have kx0V : V.cell? ⟨w.heap.size, 0, none⟩ = some (.int .i64 f.1) := by rw [cell_of_block hXV]; rfl
        have kx1V : V.cell? ⟨w.heap.size, 1, none⟩ = some (.int .i64 f.2) := by rw [cell_of_block hXV]; rfl
        refine hK.out _ _ (fun _ => (And.intro k4V (And.intro k6V (And.intro k7V (And.intro kx0V kx1V))))) ?_
        simp only [List.setIfInBounds_toArray, List.set_cons_zero, List.set_cons_succ]
        exact hI8_14.out _ _ ⟨W.heap.size, _, rfl, hln, (OwnF.kept rMW hb), ((hb.block _ (lt_of_block hlE)).trans hlE), (OwnF.kept rEW hb), (OwnF.kept rFW hb), hPV, hXV, (frW.below hb), (Nat.le_trans hzW hb.size)⟩
      refine AllReadyL.cons rfl (fun K hK => ?_) ?_
      · obtain ⟨V, hV⟩ : ∃ V, W.alloc (.cells #[.int .i64 f.1, .int .i64 f.2] 79) = V := ⟨_, rfl⟩
        have hb : Below W.heap.size W V := by rw [← hV]; exact (Below.refl _ _).alloc (Nat.le_refl _) _
        have hln : V.heap[W.heap.size]? = some (.cells #[.int .i64 f.1, .int .i64 f.2] 79) := by rw [← hV]; exact heap_alloc_new _ _
        go_simp
        clear hV
        have hPV := (hb.block _ (lt_of_block hPW)).trans hPW
        have hXV := (hb.block _ (lt_of_block hXW)).trans hXW
        obtain ⟨k4V, -, k6V, k7V, -⟩ := box9 hPV
        have kx0V : V.cell? ⟨w.heap.size, 0, none⟩ = some (.int .i64 f.1) := by rw [cell_of_block hXV]; rfl
        have kx1V : V.cell? ⟨w.heap.size, 1, none⟩ = some (.int .i64 f.2) := by rw [cell_of_block hXV]; rfl
        refine hK.out _ _ (fun _ => (And.intro k4V (And.intro k6V (And.intro k7V (And.intro kx0V kx1V))))) ?_
        simp only [List.setIfInBounds_toArray, List.set_cons_zero, List.set_cons_succ]
        exact hI14_21.out _ _ ⟨_, W.heap.size, rfl, (OwnF.kept rMW hb), ((hb.block _ (lt_of_block hlE)).trans hlE), (OwnF.kept rEW hb), hln, (OwnF.kept rFW hb), hPV, hXV, (frW.below hb), (Nat.le_trans hzW hb.size)⟩
      exact AllReadyL.nil
    intro h0
    have hI14 := Lib.hid h0
    clear h0
    refine with_tail (listed' := #[true, true, true, true, true, true, true, true, false, false, true, true, true, true, false, false, true, true, true, true, true, true, false, false, false, false, false, false, false, false, false, false]) (fuel' := 14) (Good := fun a' W => ∃ (qF : Nat), a' = (⟨#[.pointer (some ⟨p, 0, none⟩), .slice am m.length cm, .agg #[.int .i64 f.1, .int .i64 f.2], undef, undef, .pointer (some ⟨w.heap.size, 0, none⟩), .int .i64 0, .string (keyS m), .int .i64 c, .bool false, .int .i64 (g.marks.length : Int), .slice am m.length cm, .string (keyS m), .tuple #[.int .i64 c, .bool false], .pointer (some ⟨p, 0, none⟩), .pointer (some ⟨p, 0, none⟩), .pointer (some ⟨p, 5, none⟩), .map (some mp), .string (keyS m), .tuple #[.int .i64 c, .bool false], .int .i64 c, .bool false, .bool false, undef, .pointer (some ⟨p, 0, none⟩), .pointer (some ⟨p, 0, none⟩), .pointer (some ⟨p, 4, none⟩), .slice aM g.marks.length cM, .int .i64 (g.marks.length : Int), .pointer (some ⟨p, 0, none⟩), .pointer (some ⟨p, 0, none⟩), .pointer (some ⟨p, 5, none⟩), .map (some mp), .string (keyS m), .int .i64 (g.marks.length : Int), .pointer (some ⟨p, 0, none⟩), .pointer (some ⟨p, 0, none⟩), .pointer (some ⟨p, 0, none⟩), .pointer (some ⟨p, 0, none⟩), .pointer (some ⟨p, 0, none⟩), .pointer (some ⟨p, 4, none⟩), .slice aM g.marks.length cM, .slice am m.length cm, undef, undef, .pointer (some ⟨p, 0, none⟩), .pointer (some ⟨p, 0, none⟩), .pointer (some ⟨p, 6, none⟩), .slice aE Es.length cE, undef, undef, .pointer (some ⟨p, 0, none⟩), .pointer (some ⟨p, 0, none⟩), .pointer (some ⟨p, 7, none⟩), .slice aF g.src.length cF, .agg #[.int .i64 f.1, .int .i64 f.2], .slice (some ⟨qF, 0, none⟩) 1 1, undef, undef, undef, undef, undef, undef, undef, undef], []⟩ : Act) ∧ RowM W base (.slice aM g.marks.length cM) Ms ∧ RowX W base (.slice aE Es.length cE) Es ∧ W.heap[qF]? = some (.cells #[.int .i64 f.1, .int .i64 f.2] 79) ∧ RowE W base (.slice aF g.src.length cF) g.src ∧ W.heap[p]? = some (.cells (gCells v0 v1 a b (.slice aM g.marks.length cM) mp (.slice aE Es.length cE) (.slice aF g.src.length cF) (.slice none 0 0)) 83) ∧ W.heap[w.heap.size]? = some (.cells #[.int .i64 f.1, .int .i64 f.2] 79) ∧ Frm [(Value.slice aM g.marks.length cM).ownBlock, (Value.slice aE Es.length cE).ownBlock, (Value.slice aF g.src.length cF).ownBlock] W0 W ∧ base ≤ W.heap.size) ?_ ?_
    · rintro a' W ⟨qF, rfl, rMW, rEW, hlF, rFW, hPW, hXW, frW, hzW⟩
      obtain ⟨k4W, -, k6W, k7W, -⟩ := box9 hPW
      have kx0W : W.cell? ⟨w.heap.size, 0, none⟩ = some (.int .i64 f.1) := by rw [cell_of_block hXW]; rfl
      have kx1W : W.cell? ⟨w.heap.size, 1, none⟩ = some (.int .i64 f.2) := by rw [cell_of_block hXW]; rfl
      refine wpAnyL_ready (rs := [8, 14]) (by kernel_rfl) (by simp) ?_
      refine AllReadyL.cons rfl (fun K hK => ?_) ?_
      · obtain ⟨V, hV⟩ : ∃ V, W.alloc (.cells #[.slice am m.length cm] 26) = V := ⟨_, rfl⟩
        have hb : Below W.heap.size W V := by rw [← hV]; exact (Below.refl _ _).alloc (Nat.le_refl _) _
        have hln : V.heap[W.heap.size]? = some (.cells #[.slice am m.length cm] 26) := by rw [← hV]; exact heap_alloc_new _ _
        go_simp
        clear hV
        have hPV := (hb.block _ (lt_of_block hPW)).trans hPW
        have hXV := (hb.block _ (lt_of_block hXW)).trans hXW
        obtain ⟨k4V, -, k6V, k7V, -⟩ := box9 hPV
        have kx0V : V.cell? ⟨w.heap.size, 0, none⟩ = some (.int .i64 f.1) := by rw [cell_of_block hXV]; rfl
        have kx1V : V.cell? ⟨w.heap.size, 1, none⟩ = some (.int .i64 f.2) := by rw [cell_of_block hXV]; rfl
        refine hK.out _ _ (fun _ => (And.intro k4V (And.intro k6V (And.intro k7V (And.intro kx0V kx1V))))) ?_
        simp only [List.setIfInBounds_toArray, List.set_cons_zero, List.set_cons_succ]
        exact hI8_21.out _ _ ⟨W.heap.size, _, rfl, hln, (OwnF.kept rMW hb), (OwnF.kept rEW hb), ((hb.block _ (lt_of_block hlF)).trans hlF), (OwnF.kept rFW hb), hPV, hXV, (frW.below hb), (Nat.le_trans hzW hb.size)⟩
      refine AllReadyL.cons rfl (fun K hK => ?_) ?_
      · obtain ⟨V, hV⟩ : ∃ V, W.alloc (.cells #[.slice none 0 0] 42) = V := ⟨_, rfl⟩
        have hb : Below W.heap.size W V := by rw [← hV]; exact (Below.refl _ _).alloc (Nat.le_refl _) _
        have hln : V.heap[W.heap.size]? = some (.cells #[.slice none 0 0] 42) := by rw [← hV]; exact heap_alloc_new _ _
        go_simp
        clear hV
        have hPV := (hb.block _ (lt_of_block hPW)).trans hPW
        have hXV := (hb.block _ (lt_of_block hXW)).trans hXW
        obtain ⟨k4V, -, k6V, k7V, -⟩ := box9 hPV
        have kx0V : V.cell? ⟨w.heap.size, 0, none⟩ = some (.int .i64 f.1) := by rw [cell_of_block hXV]; rfl
        have kx1V : V.cell? ⟨w.heap.size, 1, none⟩ = some (.int .i64 f.2) := by rw [cell_of_block hXV]; rfl
        refine hK.out _ _ (fun _ => (And.intro k4V (And.intro k6V (And.intro k7V (And.intro kx0V kx1V))))) ?_
        simp only [List.setIfInBounds_toArray, List.set_cons_zero, List.set_cons_succ]
        exact hI14_21.out _ _ ⟨W.heap.size, _, rfl, (OwnF.kept rMW hb), hln, (OwnF.kept rEW hb), ((hb.block _ (lt_of_block hlF)).trans hlF), (OwnF.kept rFW hb), hPV, hXV, (frW.below hb), (Nat.le_trans hzW hb.size)⟩
      exact AllReadyL.nil
    intro h0
    have hI21 := Lib.hid h0
    clear h0
    refine with_tail (listed' := #[true, true, true, true, true, true, true, true, false, false, true, true, true, true, false, false, true, true, true, true, true, false, false, false, false, false, false, false, false, false, false, false]) (fuel' := 15) (Good := fun a' W => a' = (⟨#[.pointer (some ⟨p, 0, none⟩), .slice am m.length cm, .agg #[.int .i64 f.1, .int .i64 f.2], undef, undef, .pointer (some ⟨w.heap.size, 0, none⟩), .int .i64 0, .string (keyS m), .int .i64 c, .bool false, .int .i64 (g.marks.length : Int), .slice am m.length cm, .string (keyS m), .tuple #[.int .i64 c, .bool false], .pointer (some ⟨p, 0, none⟩), .pointer (some ⟨p, 0, none⟩), .pointer (some ⟨p, 5, none⟩), .map (some mp), .string (keyS m), .tuple #[.int .i64 c, .bool false], .int .i64 c, .bool false, .bool false, undef, .pointer (some ⟨p, 0, none⟩), .pointer (some ⟨p, 0, none⟩), .pointer (some ⟨p, 4, none⟩), .slice aM g.marks.length cM, .int .i64 (g.marks.length : Int), .pointer (some ⟨p, 0, none⟩), .pointer (some ⟨p, 0, none⟩), .pointer (some ⟨p, 5, none⟩), .map (some mp), .string (keyS m), .int .i64 (g.marks.length : Int), .pointer (some ⟨p, 0, none⟩), .pointer (some ⟨p, 0, none⟩), .pointer (some ⟨p, 0, none⟩), .pointer (some ⟨p, 0, none⟩), .pointer (some ⟨p, 0, none⟩), .pointer (some ⟨p, 4, none⟩), .slice aM g.marks.length cM, .slice am m.length cm, undef, undef, .pointer (some ⟨p, 0, none⟩), .pointer (some ⟨p, 0, none⟩), .pointer (some ⟨p, 6, none⟩), .slice aE Es.length cE, undef, undef, .pointer (some ⟨p, 0, none⟩), .pointer (some ⟨p, 0, none⟩), .pointer (some ⟨p, 7, none⟩), .slice aF g.src.length cF, .agg #[.int .i64 f.1, .int .i64 f.2], undef, undef, undef, undef, undef, undef, undef, undef, undef], []⟩ : Act) ∧ RowM W base (.slice aM g.marks.length cM) Ms ∧ RowX W base (.slice aE Es.length cE) Es ∧ RowE W base (.slice aF g.src.length cF) g.src ∧ W.heap[p]? = some (.cells (gCells v0 v1 a b (.slice aM g.marks.length cM) mp (.slice aE Es.length cE) (.slice aF g.src.length cF) (.slice none 0 0)) 83) ∧ W.heap[w.heap.size]? = some (.cells #[.int .i64 f.1, .int .i64 f.2] 79) ∧ Frm [(Value.slice aM g.marks.length cM).ownBlock, (Value.slice aE Es.length cE).ownBlock, (Value.slice aF g.src.length cF).ownBlock] W0 W ∧ base ≤ W.heap.size) ?_ ?_
    · rintro a' W ⟨rfl, rMW, rEW, rFW, hPW, hXW, frW, hzW⟩
      obtain ⟨k4W, -, k6W, k7W, -⟩ := box9 hPW
      have kx0W : W.cell? ⟨w.heap.size, 0, none⟩ = some (.int .i64 f.1) := by rw [cell_of_block hXW]; rfl
      have kx1W : W.cell? ⟨w.heap.size, 1, none⟩ = some (.int .i64 f.2) := by rw [cell_of_block hXW]; rfl
      refine wpAnyL_ready (rs := [8, 14, 21]) (by kernel_rfl) (by simp) ?_
      refine AllReadyL.cons rfl (fun K hK => ?_) ?_
      · obtain ⟨V, hV⟩ : ∃ V, W.alloc (.cells #[.slice am m.length cm] 26) = V := ⟨_, rfl⟩
        have hb : Below W.heap.size W V := by rw [← hV]; exact (Below.refl _ _).alloc (Nat.le_refl _) _
        have hln : V.heap[W.heap.size]? = some (.cells #[.slice am m.length cm] 26) := by rw [← hV]; exact heap_alloc_new _ _
        go_simp
        clear hV
        have hPV := (hb.block _ (lt_of_block hPW)).trans hPW
        have hXV := (hb.block _ (lt_of_block hXW)).trans hXW
        obtain ⟨k4V, -, k6V, k7V, -⟩ := box9 hPV
        have kx0V : V.cell? ⟨w.heap.size, 0, none⟩ = some (.int .i64 f.1) := by rw [cell_of_block hXV]; rfl
        have kx1V : V.cell? ⟨w.heap.size, 1, none⟩ = some (.int .i64 f.2) := by rw [cell_of_block hXV]; rfl
        refine hK.out _ _ (fun _ => (And.intro k4V (And.intro k6V (And.intro k7V (And.intro kx0V kx1V))))) ?_
        simp only [List.setIfInBounds_toArray, List.set_cons_zero, List.set_cons_succ]
        exact hI8.out _ _ ⟨W.heap.size, rfl, hln, (OwnF.kept rMW hb), (OwnF.kept rEW hb), (OwnF.kept rFW hb), hPV, hXV, (frW.below hb), (Nat.le_trans hzW hb.size)⟩
      refine AllReadyL.cons rfl (fun K hK => ?_) ?_
      · obtain ⟨V, hV⟩ : ∃ V, W.alloc (.cells #[.slice none 0 0] 42) = V := ⟨_, rfl⟩
        have hb : Below W.heap.size W V := by rw [← hV]; exact (Below.refl _ _).alloc (Nat.le_refl _) _
        have hln : V.heap[W.heap.size]? = some (.cells #[.slice none 0 0] 42) := by rw [← hV]; exact heap_alloc_new _ _
        go_simp
        clear hV
        have hPV := (hb.block _ (lt_of_block hPW)).trans hPW
        have hXV := (hb.block _ (lt_of_block hXW)).trans hXW
        obtain ⟨k4V, -, k6V, k7V, -⟩ := box9 hPV
        have kx0V : V.cell? ⟨w.heap.size, 0, none⟩ = some (.int .i64 f.1) := by rw [cell_of_block hXV]; rfl
        have kx1V : V.cell? ⟨w.heap.size, 1, none⟩ = some (.int .i64 f.2) := by rw [cell_of_block hXV]; rfl
        refine hK.out _ _ (fun _ => (And.intro k4V (And.intro k6V (And.intro k7V (And.intro kx0V kx1V))))) ?_
        simp only [List.setIfInBounds_toArray, List.set_cons_zero, List.set_cons_succ]
        exact hI14.out _ _ ⟨W.heap.size, rfl, (OwnF.kept rMW hb), hln, (OwnF.kept rEW hb), (OwnF.kept rFW hb), hPV, hXV, (frW.below hb), (Nat.le_trans hzW hb.size)⟩
      refine AllReadyL.cons rfl (fun K hK => ?_) ?_
      · obtain ⟨V, hV⟩ : ∃ V, W.alloc (.cells #[.int .i64 f.1, .int .i64 f.2] 79) = V := ⟨_, rfl⟩
        have hb : Below W.heap.size W V := by rw [← hV]; exact (Below.refl _ _).alloc (Nat.le_refl _) _
        have hln : V.heap[W.heap.size]? = some (.cells #[.int .i64 f.1, .int .i64 f.2] 79) := by rw [← hV]; exact heap_alloc_new _ _
        go_simp
        clear hV
        have hPV := (hb.block _ (lt_of_block hPW)).trans hPW
        have hXV := (hb.block _ (lt_of_block hXW)).trans hXW
        obtain ⟨k4V, -, k6V, k7V, -⟩ := box9 hPV
        have kx0V : V.cell? ⟨w.heap.size, 0, none⟩ = some (.int .i64 f.1) := by rw [cell_of_block hXV]; rfl
        have kx1V : V.cell? ⟨w.heap.size, 1, none⟩ = some (.int .i64 f.2) := by rw [cell_of_block hXV]; rfl
        refine hK.out _ _ (fun _ => (And.intro k4V (And.intro k6V (And.intro k7V (And.intro kx0V kx1V))))) ?_
        simp only [List.setIfInBounds_toArray, List.set_cons_zero, List.set_cons_succ]
        exact hI21.out _ _ ⟨W.heap.size, rfl, (OwnF.kept rMW hb), (OwnF.kept rEW hb), hln, (OwnF.kept rFW hb), hPV, hXV, (frW.below hb), (Nat.le_trans hzW hb.size)⟩
      exact AllReadyL.nil
    intro h0
    have hI0 := Lib.hid h0
    clear h0
    exact hI0.out _ _ ⟨rfl, rMW0, rEW0, rFW0, hPW0, hXW0, frW0, hzW0⟩
  case rest =>
    have HC := Lib.hid hcut
    clear hcut
    go_wp2_with fail
    go_ret
    exact put_done h hm ho HB12.out HG3.out HMP2.out HS3.out hnew.out HDR.out HRM.out HRE.out HRF.out ⟨_, HPW0.out⟩ HC.out

theorem put_any (w : World) (base p : Nat) (v0 v1 : Value) (a b : Int) (vM : Value) (mp : Nat) (vE vF : Value) (g : Gr) (Ms : List (List Int × Value)) (Es : List (List (Int × Int) × Value)) (h : GOwn w base p v0 v1 a b vM mp vE vF g Ms Es)
    (B : Nat) (hB : B ≤ w.heap.size) (htab : Pow10 B w) (hg : g.marks.length ≤ 4096) (vm : Value) (m : List Int) (hm : OwnI w base vm m) (hw : ∀ x ∈ m, In64 x) (hml : m.length ≤ 4096) (f : Int × Int) (hEl : g.edges.length ≤ 4096) (hFl : g.src.length ≤ 4096) :
    Calls Tryd.prog 40 #[.pointer (some ⟨p, 0, none⟩), vm, .agg #[.int .i64 f.1, .int .i64 f.2]] w (PutPost w base p v0 v1 a b mp (g.idx m) (g.put m f)) := by
  by_cases ho : 0 ≤ findM g.marks m
  · refine (put_old w base p v0 v1 a b vM mp vE vF g Ms Es h B hB htab hg vm m (hm.col (by omega) (Nat.le_refl _)) hw hml f ho).mono ?_
    rintro e w' ⟨rfl, hb⟩
    have e1 : g.idx m = findM g.marks m := by unfold Gr.idx; rw [if_pos ho]
    have e2 : g.put m f = g := by unfold Gr.put; rw [if_pos ho]
    rw [e1, e2]
    exact ⟨rfl, ⟨vM, vE, vF, Ms, Es, h.kept hb⟩, hb.mono (Nat.le_trans h.hp (Nat.le_of_lt (lt_of_block h.box))), fun _ _ _ hv => hv.kept hb (Nat.le_refl _)⟩
  · have e1 : g.idx m = (g.marks.length : Int) := by unfold Gr.idx; rw [if_neg ho]
    rw [e1]
    exact put_new w base p v0 v1 a b vM mp vE vF g Ms Es h B hB htab hg vm m hm hw hml f (by omega) (by rw [← h.isE] at hEl; simpa using hEl) hFl

end Go.Proofs.YtbolacnpljkpbaaDoor
