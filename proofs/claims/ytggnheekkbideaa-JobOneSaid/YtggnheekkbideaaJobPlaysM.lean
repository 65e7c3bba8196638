/- Texts merged by merge.py: JobSpoilP, JobSpoil, OpenJs, JobPlaysP. -/
import Derived.Test.YtggnheekkbideaaInsO
import Derived.Test.YtggnheekkbideaaJobTwin2
import Derived.Test.YtggnheekkbideaaJobRFail
import Derived.Test.YtggnheekkbideaaOpenIns
import Derived.Test.YtggnheekkbideaaJobSame
import Derived.Test.YtggnheekkbideaaJobLarge
import Derived.Test.YtggnheekkbideaaJobRRev
set_option maxRecDepth 100000
/- Memory that is written over: what keeps its shape. -/
namespace Go.Proofs.Ytggnheekkbideaa
open Go.RowKit

/-- What turns lies in [lo, hi) and keeps its size, or is new. -/
structure Shape (lo hi : Nat) (w w' : World) : Prop where
  os : w'.os = w.os
  tape : w'.tape = w.tape
  output : w'.output = w.output
  size : w.heap.size ≤ w'.heap.size
  far : ∀ g, g < w.heap.size → ¬ (lo ≤ g ∧ g < hi) → w'.heap[g]? = w.heap[g]?
  same : ∀ (g : Nat) cur e, w.heap[g]? = some (.cells cur e (0, 0)) → ∃ cur' : Array Value, w'.heap[g]? = some (.cells cur' e (0, 0)) ∧ cur'.size = cur.size
theorem Shape.refl (lo hi : Nat) (w : World) : Shape lo hi w w := ⟨rfl, rfl, rfl, Nat.le_refl _, fun _ _ _ => rfl, fun _ cur _ h => ⟨cur, h, rfl⟩⟩
theorem Shape.trans {lo hi : Nat} {w w1 w2 : World} (h : Shape lo hi w w1) (k : Shape lo hi w1 w2) : Shape lo hi w w2 :=
  ⟨k.os.trans h.os, k.tape.trans h.tape, k.output.trans h.output, Nat.le_trans h.size k.size, fun g hg hn => (k.far g (Nat.lt_of_lt_of_le hg h.size) hn).trans (h.far g hg hn), fun g cur e hc => by
    obtain ⟨c1, h1, e1⟩ := h.same g cur e hc
    obtain ⟨c2, h2, e2⟩ := k.same g c1 e h1
    exact ⟨c2, h2, e2.trans e1⟩⟩
theorem Shape.ofBelow {lo hi : Nat} {w w' : World} (hb : Below w.heap.size w w') : Shape lo hi w w' :=
  ⟨hb.os, hb.tape, hb.output, hb.size, fun g hg _ => hb.block g hg, fun g cur _ h => ⟨cur, (hb.block g (lt_of_block h)).trans h, rfl⟩⟩
theorem Shape.alloc {lo hi : Nat} {w w' : World} (h : Shape lo hi w w') (o : Obj) : Shape lo hi w (w'.alloc o) := h.trans (Shape.ofBelow ((Below.refl _ _).alloc (Nat.le_refl _) o))
theorem Shape.drew {lo hi : Nat} {w w' : World} (h : Shape lo hi w w') : Shape lo hi w w'.drew := h.trans (Shape.ofBelow (Below.refl _ _).drew)
theorem Shape.set {lo hi : Nat} {w w' : World} (h : Shape lo hi w w') {b i : Nat} (v : Value) (h1 : lo ≤ b) (h2 : b < hi) : Shape lo hi w (w'.setCell ⟨b, i, none⟩ v) :=
  h.trans ⟨rfl, rfl, rfl, by rw [World.size_setCell]; exact Nat.le_refl _, fun g _ hn => heap_setCell_other w' ⟨b, i, none⟩ g v (fun e => hn (by simp only at e; omega)), fun g cur e hc => by
    by_cases hb : g = b
    · subst hb
      exact ⟨_, heap_setCell_self v hc, by simp⟩
    · exact ⟨cur, (heap_setCell_other w' ⟨b, i, none⟩ g v hb).trans hc, rfl⟩⟩
theorem Shape.toBelow {lo hi : Nat} {w w' : World} (h : Shape lo hi w w') (hl : lo ≤ w.heap.size) : Below lo w w' := ⟨h.os, h.tape, h.output, h.size, fun g hg => h.far g (by omega) (by omega)⟩

/-- A row of the call's own, whatever it holds. -/
def WRow (w : World) (lo hi : Nat) (e : TypeId) (k : Nat) (v : Value) (n : Nat) : Prop :=
  (v = .slice none 0 0 ∧ n = 0) ∨ ∃ g cap cur, v = .slice (some ⟨g, 0, none⟩) n cap ∧ lo ≤ g ∧ g < hi ∧ w.heap[g]? = some (.cells cur e (0, 0)) ∧ n ≤ cap ∧ cap ≤ maxLen ∧ cur.size = cap * k
theorem WRow.of {α : Type} {f : α → List Value} {k : Nat} {e : TypeId} {w : World} {lo hi : Nat} {v : Value} {A : List α} (h : OwnF f e k w lo v A) (hu : ∀ g, v.ownBlock = some g → g < hi) : WRow w lo hi e k v A.length := by
  rcases h.2 with ⟨e1, e2⟩ | ⟨g, cap, cur, e1, h1, h2, h3, h4, h5, _⟩
  · exact Or.inl ⟨e1, e2⟩
  · exact Or.inr ⟨g, cap, cur, e1, h1, hu g (by rw [e1]; rfl), h2, h3, h4, h5⟩
theorem WRow.kept {w w' : World} {lo hi : Nat} {e : TypeId} {k n : Nat} {v : Value} (h : WRow w lo hi e k v n) (hs : Shape lo hi w w') : WRow w' lo hi e k v n := by
  rcases h with h | ⟨g, cap, cur, e1, h1, h2, h3, h4, h5, h6⟩
  · exact Or.inl h
  · obtain ⟨cur', h7, h8⟩ := hs.same g cur e h3
    exact Or.inr ⟨g, cap, cur', e1, h1, h2, h7, h4, h5, h8.trans h6⟩
theorem WRow.cell {w : World} {lo hi : Nat} {e : TypeId} {k n cap : Nat} {a : Option Addr} (h : WRow w lo hi e k (.slice a n cap) n) (hn : 0 < n) : ∃ g, a = some ⟨g, 0, none⟩ ∧ lo ≤ g ∧ g < hi ∧ g < w.heap.size ∧ (∃ cur : Array Value, w.heap[g]? = some (.cells cur e (0, 0))) ∧ (∀ q, w.frozen? ⟨g, q, none⟩ = false) ∧ ∀ j, j < n * k → ∃ x, w.cell? ⟨g, j, none⟩ = some x := by
  rcases h with ⟨_, h⟩ | ⟨g, cap', cur, e1, h1, h2, h3, h4, h5, h6⟩
  · omega
  · cases e1
    refine ⟨g, rfl, h1, h2, lt_of_block h3, ⟨cur, h3⟩, free_of_block h3, fun j hj => ?_⟩
    have : n * k ≤ cap * k := Nat.mul_le_mul_right _ h4
    rw [cell_of_block h3, Array.getElem?_eq_getElem (by omega)]
    exact ⟨_, rfl⟩

section
variable {P : Program}
/-- append of one element onto such a row: the row keeps its shape. -/
theorem run_append_w {w : World} {lo hi : Nat} (t ty e : TypeId) (i : TypeInfo) (z : Value) (k bytes : Nat) (ht : P.underlying t = some (.slice e)) (hi' : P.info? e = some i) (hz : i.zero = some z) (hsize : i.size = k) (hby : i.bytes = bytes) (_hzs : z.cells.size = k) (_hk : 0 < k)
    {v : Value} {n : Nat} (h : WRow w lo hi e k v n) (a : Addr) (news : List Value) (hl : news.length = k) (hnews : ∀ j u, news[j]? = some u → w.cell? (a.add j) = some u) (h1 : ∀ u ∈ news, u.oneCell' = true)
    (hn : n + 1 ≤ 1048577) (hb : bytes ≤ 1000) :
    ∃ a' c' w', (Builtin.append_ #[t, t] ty #[v, .slice (some a) 1 1]).run P w = .ok (.slice a' (n + 1) c') w' ∧ Shape lo hi w w' ∧ (∀ (b : Nat) cs u fr, w.heap[b]? = some (.cells cs u fr) → u ≠ e → w'.heap[b]? = some (.cells cs u fr)) := by
  subst hsize hby
  have hbb : (n + 1) * i.bytes ≤ 140737488355328 := Nat.le_trans (Nat.mul_le_mul hn hb) (by decide)
  rcases h with ⟨rfl, rfl⟩ | ⟨g, cap, cur, rfl, h2, h3, h4, h5, h6, h7⟩
  · have hr := run_append_nil (P := P) w t ty e i z ht hi' hz a 1 1 news (by omega) hnews (by omega) (by omega) (by omega)
    exact ⟨_, _, _, hr, (Shape.refl _ _ _).drew.alloc _, fun b cs u fr hc _ => ((Below.refl w.heap.size w).drew.alloc (Nat.le_refl _) _).block b (lt_of_block hc) |>.trans hc⟩
  · by_cases hroom : n + 1 ≤ cap
    · have hm : (n + 1) * i.size ≤ cap * i.size := Nat.mul_le_mul_right _ hroom
      rw [Nat.add_mul, Nat.one_mul] at hm
      have hr := run_append_room (P := P) w t ty e i ht hi' g n cap cur h4 a 1 1 news (by omega) hnews h1 hroom (by omega)
      have hself := setRow_heap w g cur (cur.toList.take (n * i.size) ++ news ++ cur.toList.drop (n * i.size + news.length)).toArray e (0, 0) h4
      have hoth : ∀ b, b ≠ g → (w.setRow g (cur.toList.take (n * i.size) ++ news ++ cur.toList.drop (n * i.size + news.length)).toArray).heap[b]? = w.heap[b]? := fun b hb => setRow_other w g b _ hb
      refine ⟨_, _, _, hr, ⟨rfl, rfl, rfl, by simp [World.setRow], fun b _ hn => hoth b (fun e => hn (by omega)), fun b c u hc => ?_⟩, fun b cs u fr hc hu => ?_⟩
      · by_cases e1 : b = g
        · subst e1
          rw [h4] at hc
          injection hc with hc
          injection hc with hc1 hc2
          subst hc1 hc2
          refine ⟨_, hself, ?_⟩
          simp only [List.size_toArray, List.length_append, List.length_take, List.length_drop, Array.length_toList]
          omega
        · exact ⟨c, (hoth b e1).trans hc, rfl⟩
      · refine (hoth b (fun e1 => ?_)).trans hc
        subst e1
        rw [h4] at hc
        injection hc with hc
        injection hc with _ hc
        exact hu hc.symm
    · have hlen : (cur.toList.take (n * i.size)).length = n * i.size := by
        have : n * i.size ≤ cap * i.size := Nat.mul_le_mul_right _ h5
        simp only [List.length_take, Array.length_toList]
        omega
      have holds : ∀ j u, (cur.toList.take (n * i.size))[j]? = some u → w.cell? ((⟨g, 0, none⟩ : Addr).add j) = some u := by
        intro j u hj
        have : j < (cur.toList.take (n * i.size)).length := (List.getElem?_eq_some_iff.1 hj).1
        rw [add_addr, Nat.zero_add, cell_of_block h4, ← hj, List.getElem?_take, if_pos (by omega)]
        simp
      have hr := run_append_grow (P := P) w t ty e i z ht hi' hz ⟨g, 0, none⟩ n cap (cur.toList.take (n * i.size)) hlen holds a 1 1 news (by omega) hnews (by omega) (by omega) (growslice_fits (by omega) hbb)
      exact ⟨_, _, _, hr, (Shape.refl _ _ _).drew.alloc _, fun b cs u fr hc _ => ((Below.refl w.heap.size w).drew.alloc (Nat.le_refl _) _).block b (lt_of_block hc) |>.trans hc⟩

theorem step_append_w (w : World) {ops : Array Oper} {o : Oper} {a : Act} {K : Act → World → Prop} {Q : Exit → Act → World → Prop} {E : Prop} (hgd : o.guard = none) (s x : Operand) (t : TypeId)
    (ho : o.op = .call { callee := .builtin .append, args := #[s, x], argTypes := #[t, t] })
    (lo hi : Nat) (e : TypeId) (i : TypeInfo) (z : Value) (k bytes : Nat) (ht : P.underlying t = some (.slice e)) (hi' : P.info? e = some i) (hz : i.zero = some z) (hsize : i.size = k) (hby : i.bytes = bytes) (hzs : z.cells.size = k) (hk : 0 < k)
    (v : Value) (n : Nat) (hs : a.eval s = v) (h : WRow w lo hi e k v n) (ad : Addr) (news : List Value) (hx : a.eval x = .slice (some ad) 1 1) (hl : news.length = k) (hnews : ∀ j u, news[j]? = some u → w.cell? (ad.add j) = some u) (h1 : ∀ u ∈ news, u.oneCell' = true)
    (hn : n + 1 ≤ 1048577) (hb : bytes ≤ 1000)
    (hc : ∀ a' c' w', Shape lo hi w w' → (∀ (b : Nat) cs u fr, w.heap[b]? = some (.cells cs u fr) → u ≠ e → w'.heap[b]? = some (.cells cs u fr)) → K (a.put o.dst (.slice a' (n + 1) c')) w') :
    if Region.wanted o (yielded ops a.tmps) = true then Oper.wp P o a w K Q else E := by
  have hw : Region.wanted o (yielded ops a.tmps) = true := by simp [Region.wanted, hgd]
  rw [if_pos hw]
  obtain ⟨a', c', w', hr, h2, h3⟩ := run_append_w (P := P) t o.type e i z k bytes ht hi' hz hsize hby hzs hk h ad news hl hnews h1 hn hb
  unfold Oper.wp execOp
  simp only [ho, resolve, invoke, builtin, Sem.run_bind, Sem.run_pure, Result.andThen_ok, List.map_toArray, List.map_cons, List.map_nil, hs, hx, hr]
  exact hc a' c' w' h2 h3
theorem wpList_append_w (w : World) {ops : Array Oper} {rest : List Oper} {o : Oper} {a : Act} {Q : Exit → Act → World → Prop} (hgd : o.guard = none) (s x : Operand) (t : TypeId)
    (ho : o.op = .call { callee := .builtin .append, args := #[s, x], argTypes := #[t, t] })
    (lo hi : Nat) (e : TypeId) (i : TypeInfo) (z : Value) (k bytes : Nat) (ht : P.underlying t = some (.slice e)) (hi' : P.info? e = some i) (hz : i.zero = some z) (hsize : i.size = k) (hby : i.bytes = bytes) (hzs : z.cells.size = k) (hk : 0 < k)
    (v : Value) (n : Nat) (hs : a.eval s = v) (h : WRow w lo hi e k v n) (ad : Addr) (news : List Value) (hx : a.eval x = .slice (some ad) 1 1) (hl : news.length = k) (hnews : ∀ j u, news[j]? = some u → w.cell? (ad.add j) = some u) (h1 : ∀ u ∈ news, u.oneCell' = true)
    (hn : n + 1 ≤ 1048577) (hb : bytes ≤ 1000)
    (hc : ∀ a' c' w', Shape lo hi w w' → wpList P ops Q rest (a.put o.dst (.slice a' (n + 1) c')) w') : wpList P ops Q (o :: rest) a w := by
  obtain ⟨a', c', w', hr, h2, _⟩ := run_append_w (P := P) t o.type e i z k bytes ht hi' hz hsize hby hzs hk h ad news hl hnews h1 hn hb
  refine wpList_plain hgd fun K hK => ?_
  unfold Oper.wp execOp
  simp only [ho, resolve, invoke, builtin, Sem.run_bind, Sem.run_pure, Result.andThen_ok, List.map_toArray, List.map_cons, List.map_nil, hs, hx, hr]
  exact hK _ _ (hc a' c' w' h2)
end

/-- Instances whose rows may be written over. -/
structure SpO (w : World) (lo hi : Nat) (v : Value) (R : List Ih) : Prop where
  row : RowI w lo v R
  und : ∀ g, v.ownBlock = some g → g < hi
  vars : ∀ h ∈ R, WRow w lo hi 85 5 (vvI h) h.x.vars.length
  toks : ∀ h ∈ R, WRow w lo hi 41 9 (tvI h) h.x.toks.length
theorem InsO.spo {w : World} {lo hi : Nat} {v : Value} {R : List Ih} (h : InsO w lo v R) (hu : Und hi v R) : SpO w lo hi v R :=
  ⟨h.row, hu.row, fun x hx => WRow.of (h.own.vars x hx) (hu.vars x hx), fun x hx => WRow.of (h.own.toks x hx) (hu.toks x hx)⟩
theorem SpO.kept {w w' : World} {lo hi : Nat} {v : Value} {R : List Ih} (h : SpO w lo hi v R) (hs : Shape lo hi w w') (hr : ∀ g, v.ownBlock = some g → w'.heap[g]? = w.heap[g]?) : SpO w' lo hi v R :=
  ⟨h.row.keepB hr, h.und, fun x hx => (h.vars x hx).kept hs, fun x hx => (h.toks x hx).kept hs⟩
end Go.Proofs.Ytggnheekkbideaa

/- The law's spoil: instances of the call's own are written over. -/
namespace Go.Proofs.Ytggnheekkbideaa
open Go.RowKit

theorem chainT_far (w : World) (g o : Nat) (y : Tok) (q : Nat) (h : q ≠ g) : (chainT w g o y).heap[q]? = w.heap[q]? := by
  unfold chainT
  rw [setCell_far _ _ _ _ _ h, setCell_far _ _ _ _ _ h, setCell_far _ _ _ _ _ h, setCell_far _ _ _ _ _ h, setCell_far _ _ _ _ _ h, setCell_far _ _ _ _ _ h, setCell_far _ _ _ _ _ h, setCell_far _ _ _ _ _ h, setCell_far _ _ _ _ _ h]
theorem chainT_shape {lo hi : Nat} {w w' : World} (h : Shape lo hi w w') {g : Nat} (o : Nat) (y : Tok) (h1 : lo ≤ g) (h2 : g < hi) : Shape lo hi w (chainT w' g o y) :=
  ((((((((h.set _ h1 h2).set _ h1 h2).set _ h1 h2).set _ h1 h2).set _ h1 h2).set _ h1 h2).set _ h1 h2).set _ h1 h2).set _ h1 h2

theorem nb1 (w : World) (A : Obj) : (w.alloc A).heap[w.heap.size]? = some A := heap_alloc_new w A
theorem nb2 (w : World) (A B : Obj) : ((w.alloc A).alloc B).heap[w.heap.size]? = some A := (Below.heap_alloc _ B _ (by rw [World.size_alloc]; omega)).trans (heap_alloc_new w A)
theorem nb3 (w : World) (A B : Obj) : ((w.alloc A).alloc B).heap[w.heap.size + 1]? = some B := by
  have := heap_alloc_new (w.alloc A) B
  rwa [World.size_alloc] at this
theorem al1 {w : World} {b : Nat} {o : Obj} (h : w.heap[b]? = some o) (A : Obj) : (w.alloc A).heap[b]? = some o := (Below.heap_alloc _ A _ (lt_of_block h)).trans h
theorem news_blk {W : World} {b : Nat} {cs : Array Value} {t : TypeId} {fr : Nat × Nat} (h : W.heap[b]? = some (.cells cs t fr)) : ∀ j u, cs.toList[j]? = some u → W.cell? ((⟨b, 0, none⟩ : Addr).add j) = some u := by
  intro j u hj
  rw [add_addr, Nat.zero_add, cell_of_block h]
  simpa using hj

def LenR (n : Nat) (R : List Ih) : Prop := R.length = n ∧ ∀ h ∈ R, h.x.vars.length ≤ 1048576 ∧ h.x.toks.length ≤ 1048576

set_option maxHeartbeats 8000000 in
theorem spoil_any (w : World) (lo hi : Nat) (v : Value) (R0 : List Ih) (h : SpO w lo hi v R0) (hL : LenR R0.length R0) (hn : R0.length ≤ 1048576) :
    Calls Try.prog 31 #[v] w fun e w' => ∃ N : Nat, e = .returned (.int .i64 (N : Int)) ∧ Shape lo hi w w' := by
  obtain ⟨i0, hti, hz0, hz1, hz2⟩ := info_parts (show (Try.prog.info? 45).map (fun i => (i.zero, i.size, i.bytes)) = some (some (.agg #[.int .i64 0, .string default, .int .u8 0, .slice none 0 0, .slice none 0 0]), 5, 80) by kernel_rfl)
  obtain ⟨i1, htj, hy0, hy1, hy2⟩ := info_parts (show (Try.prog.info? 41).map (fun i => (i.zero, i.size, i.bytes)) = some (some (.agg #[.int .i64 0, .string default, .string default, .int .i64 0, .int .i64 0, .string default, .int .i64 0, .int .u8 0, .int .i64 0]), 9, 96) by kernel_rfl)
  obtain ⟨i2, htk, hx0, hx1, hx2⟩ := info_parts (show (Try.prog.info? 85).map (fun i => (i.zero, i.size, i.bytes)) = some (some (.agg #[.string default, .int .u8 0, .int .i64 0, .bool false, .string default]), 5, 56) by kernel_rfl)
  obtain ⟨a, c, rfl⟩ := OwnF.shape h.row
  obtain ⟨n, hnn⟩ : ∃ n, R0.length = n := ⟨_, rfl⟩
  rw [hnn] at h hL hn ⊢
  have HL0 := Lib.hid hL
  have HO0 := Lib.hid h
  clear h hL hnn
  go_enter Try.func31, Try.ntmps31
  go_wp2_with fail
  go_loopg [3, 4] n (fun gh s3 s4 wx => ∃ (i N : Nat) (R : List Ih), i + gh = n ∧ s4 = .int .i64 (i : Int) ∧ s3 = .int .i64 (N : Int) ∧ N ≤ i * 4194304 ∧ Hid (SpO wx lo hi (.slice a n c) R) ∧ Hid (LenR n R) ∧ Hid (Shape lo hi w wx))
  case atStart => exact ⟨0, 0, R0, by omega, rfl, rfl, by omega, HO0, HL0, Lib.hid (Shape.refl _ _ _)⟩
  case round =>
    obtain ⟨i, N, R, hig, rfl, rfl, hNb, HO, HL, HS⟩ := hrel
    obtain ⟨wo, rfl⟩ : ∃ wo : World, wo = wr := ⟨_, rfl⟩
    by_cases hi' : i < n
    · have hiR : i < R.length := by have := HL.out.1; omega
      obtain ⟨y, hy⟩ : ∃ y, R[i] = y := ⟨_, rfl⟩
      have hym : y ∈ R := by rw [← hy]; exact List.getElem_mem _
      obtain ⟨hl1, hl2⟩ := HL.out.2 y hym
      obtain ⟨g, rfl, -, hglo, hg⟩ := OwnF.some HO.out.row (by omega)
      have hghi := HO.out.und g rfl
      obtain ⟨nt, hnt⟩ : ∃ nt, y.x.toks.length = nt := ⟨_, rfl⟩
      obtain ⟨nv, hnv⟩ : ∃ nv, y.x.vars.length = nv := ⟨_, rfl⟩
      have hrd : ∀ W, SpO W lo hi (.slice (some ⟨g, 0, none⟩) n c) R → W.cell? ⟨g, i * 5 + 4, none⟩ = some (.slice y.ta nt y.tc) ∧ W.cell? ⟨g, i * 5 + 3, none⟩ = some (.slice y.va nv y.vc) ∧ (∃ z, W.cell? ⟨g, i * 5 + 1, none⟩ = some z) ∧ W.frozen? ⟨g, i * 5 + 1, none⟩ = false ∧ (∃ cur : Array Value, W.heap[g]? = some (.cells cur 45 (0, 0))) := fun W hW => by
        have h4 := OwnF.at cellI_len hW.row hiR (j := 4) (by omega)
        have h3 := OwnF.at cellI_len hW.row hiR (j := 3) (by omega)
        have h1 := OwnF.at cellI_len hW.row hiR (j := 1) (by omega)
        obtain ⟨cur, hc, _⟩ := OwnF.block hW.row
        rw [hy] at h4 h3 h1
        rw [← hnt, ← hnv]
        exact ⟨h4, h3, ⟨_, h1⟩, OwnF.free hW.row _, cur, hc⟩
      have HRD := Lib.hid hrd
      obtain ⟨r4, r3, -, -, -⟩ := hrd wo HO.out
      rw [hnt] at hl2
      rw [hnv] at hl1
      have di : decide ((i : Int) < (n : Int)) = true := decide_eq_true (by omega)
      have j1 : (0 : Int) ≤ (i : Int) := by omega
      have j2 : (i : Int) < (n : Int) := by omega
      have HYM := Lib.hid hym
      have HNT := Lib.hid hnt
      have HNV := Lib.hid hnv
      have HYE := Lib.hid hy
      clear hrd hym hnt hnv hy
      go_wp2_with fail
      go_loopg [5] nt (fun gh s5 wx => ∃ k : Nat, k + gh = nt ∧ s5 = .int .i64 (k : Int) ∧ Hid (SpO wx lo hi (.slice (some ⟨g, 0, none⟩) n c) R) ∧ Hid (Shape lo hi w wx))
      case atStart => exact ⟨0, by omega, rfl, HO, HS⟩
      case round =>
        obtain ⟨k, hkg, rfl, HOk, HSk⟩ := hrel
        obtain ⟨wp, rfl⟩ : ∃ wp : World, wp = wr := ⟨_, rfl⟩
        obtain ⟨r4, r3, -, -, gcs, hgcs⟩ := HRD.out wp HOk.out
        by_cases hk : k < nt
        · have hT := HOk.out.toks y HYM.out
          rw [HNT.out] at hT
          rw [show tvI y = .slice y.ta nt y.tc by show Value.slice _ _ _ = _; rw [HNT.out]] at hT
          obtain ⟨gt, hta, h1, h2, h3, ⟨tcs, htcs⟩, fr, ce⟩ := WRow.cell hT (by omega)
          rw [hta] at r4
          have hne : ¬ gt = g := type_ne htcs hgcs (by decide)
          have hm : ∀ q, q < 9 → ∃ x, wp.cell? ⟨gt, k * 9 + q, none⟩ = some x := fun q hq => ce _ (mul_in hk hq)
          obtain ⟨x0, c0⟩ := hm 0 (by omega)
          obtain ⟨x1, c1⟩ := hm 1 (by omega)
          obtain ⟨x2, c2⟩ := hm 2 (by omega)
          obtain ⟨x3, c3⟩ := hm 3 (by omega)
          obtain ⟨x4, c4⟩ := hm 4 (by omega)
          obtain ⟨x5, c5⟩ := hm 5 (by omega)
          obtain ⟨x6, c6⟩ := hm 6 (by omega)
          obtain ⟨x7, c7⟩ := hm 7 (by omega)
          obtain ⟨x8, c8⟩ := hm 8 (by omega)
          rw [Nat.add_zero] at c0
          have f0 := fr (k * 9)
          have f1 := fr (k * 9 + 1)
          have f2 := fr (k * 9 + 2)
          have f3 := fr (k * 9 + 3)
          have f4 := fr (k * 9 + 4)
          have f5 := fr (k * 9 + 5)
          have f6 := fr (k * 9 + 6)
          have f7 := fr (k * 9 + 7)
          have f8 := fr (k * 9 + 8)
          have HSn : Hid (Shape lo hi w (chainT wp gt (k * 9) ⟨-1, ⟨#[]⟩, ⟨#[]⟩, 0, 0, ⟨#[]⟩, 0, 0, 0⟩)) := Lib.hid (chainT_shape HSk.out _ _ h1 h2)
          have HOn : Hid (SpO (chainT wp gt (k * 9) ⟨-1, ⟨#[]⟩, ⟨#[]⟩, 0, 0, ⟨#[]⟩, 0, 0, 0⟩) lo hi (.slice (some ⟨g, 0, none⟩) n c) R) := Lib.hid (HOk.out.kept (chainT_shape (Shape.refl _ _ _) _ _ h1 h2) (fun q hq => chainT_far _ _ _ _ _ (fun e => by cases hq; exact hne e.symm)))
          have dk : decide ((k : Int) < (nt : Int)) = true := decide_eq_true (by omega)
          have k1 : (0 : Int) ≤ (k : Int) := by omega
          have k2 : (k : Int) < (nt : Int) := by omega
          clear hT hta fr ce hm r3 htcs hgcs
          go_wp2_with fail
          go_roundg (nt - (k + 1))
          case measure => omega
          case rel => exact ⟨k + 1, by omega, by go_num, HOn, HSn⟩
        · have dk : decide ((k : Int) < (nt : Int)) = false := decide_eq_false (by omega)
          clear hgcs
          go_wp2_with fail
          go_loopg [6] nv (fun gh s6 wx => ∃ k : Nat, k + gh = nv ∧ s6 = .int .i64 (k : Int) ∧ Hid (SpO wx lo hi (.slice (some ⟨g, 0, none⟩) n c) R) ∧ Hid (Shape lo hi w wx))
          case atStart => exact ⟨0, by omega, rfl, HOk, HSk⟩
          case round =>
            obtain ⟨m, hmg, rfl, HOm, HSm⟩ := hrel
            obtain ⟨wq, rfl⟩ : ∃ wq : World, wq = wr := ⟨_, rfl⟩
            obtain ⟨r4, r3, ⟨z1, r1⟩, f1, gcs, hgcs⟩ := HRD.out wq HOm.out
            by_cases hm : m < nv
            · have hV := HOm.out.vars y HYM.out
              rw [HNV.out] at hV
              rw [show vvI y = .slice y.va nv y.vc by show Value.slice _ _ _ = _; rw [HNV.out]] at hV
              obtain ⟨gv, hva, h1, h2, h3, ⟨tcs, htcs⟩, fr, ce⟩ := WRow.cell hV (by omega)
              rw [hva] at r3
              have hne : ¬ gv = g := type_ne htcs hgcs (by decide)
              obtain ⟨x0, c0⟩ := ce (m * 5) (by omega)
              have f0 := fr (m * 5)
              have HSn : Hid (Shape lo hi w (wq.setCell ⟨gv, m * 5, none⟩ (.string ⟨#[115, 112, 111, 105, 108, 116]⟩))) := Lib.hid (HSm.out.set _ h1 h2)
              have HOn : Hid (SpO (wq.setCell ⟨gv, m * 5, none⟩ (.string ⟨#[115, 112, 111, 105, 108, 116]⟩)) lo hi (.slice (some ⟨g, 0, none⟩) n c) R) := Lib.hid (HOm.out.kept ((Shape.refl _ _ _).set _ h1 h2) (fun q hq => setCell_far _ _ _ _ _ (fun e => by cases hq; exact hne e.symm)))
              have dk : decide ((m : Int) < (nv : Int)) = true := decide_eq_true (by omega)
              have k1 : (0 : Int) ≤ (m : Int) := by omega
              have k2 : (m : Int) < (nv : Int) := by omega
              clear hV hva fr ce r4 r1 f1 htcs hgcs
              go_wp2_with fail
              go_roundg (nv - (m + 1))
              case measure => omega
              case rel => exact ⟨m + 1, by omega, by go_num, HOn, HSn⟩
            · have dk : decide ((m : Int) < (nv : Int)) = false := decide_eq_false (by omega)
              go_wp2_with fail
              have w1 : IntKind.i64.wrap ((N : Int) + ((nt : Int) + 1)) = (N : Int) + ((nt : Int) + 1) := IntWalk.i64_in _ (by omega)
              have w2 : IntKind.i64.wrap ((N : Int) + ((nt : Int) + 1) + ((nv : Int) + 1)) = (N : Int) + ((nt : Int) + 1) + ((nv : Int) + 1) := IntWalk.i64_in _ (by omega)
              have hsh : Hid (Shape lo hi wq wq) := Lib.hid (Shape.refl _ _ _)
              have hgc : Hid (wq.heap[g]? = some (.cells gcs 45 (0, 0))) := Lib.hid hgcs
              have HTW := Lib.hid (show ∀ W', Shape lo hi wq W' → WRow W' lo hi 41 9 (.slice y.ta nt y.tc) nt from fun W' hW' => by
                have hT := (HOm.out.toks y HYM.out).kept hW'
                rw [show tvI y = .slice y.ta nt y.tc by show Value.slice _ _ _ = _; rw [HNT.out], HNT.out] at hT
                exact hT)
              have HVW := Lib.hid (show ∀ W', Shape lo hi wq W' → WRow W' lo hi 85 5 (.slice y.va nv y.vc) nv from fun W' hW' => by
                have hT := (HOm.out.vars y HYM.out).kept hW'
                rw [show vvI y = .slice y.va nv y.vc by show Value.slice _ _ _ = _; rw [HNV.out], HNV.out] at hT
                exact hT)
              have HSK := Lib.hid (show ∀ W' : World, W'.heap[g]? = some (.cells gcs 45 (0, 0)) → W'.cell? ⟨g, i * 5 + 4, none⟩ = some (.slice y.ta nt y.tc) ∧ W'.cell? ⟨g, i * 5 + 3, none⟩ = some (.slice y.va nv y.vc) from fun W' hW' => by
                refine ⟨?_, ?_⟩
                · rw [← r4, cell_of_block hW', cell_of_block hgcs]
                · rw [← r3, cell_of_block hW', cell_of_block hgcs])
              have hone1 : ∀ u ∈ ([.int .i64 (-2), .string ⟨#[]⟩, .string ⟨#[]⟩, .int .i64 0, .int .i64 0, .string ⟨#[]⟩, .int .i64 0, .int .u8 0, .int .i64 0] : List Value), u.oneCell' = true := cellT_one ⟨-2, ⟨#[]⟩, ⟨#[]⟩, 0, 0, ⟨#[]⟩, 0, 0, 0⟩
              have hone2 : ∀ u ∈ ([.string ⟨#[]⟩, .int .u8 0, .int .i64 0, .bool false, .string ⟨#[]⟩] : List Value), u.oneCell' = true := cellB_one ⟨⟨#[]⟩, 0, 0, false, ⟨#[]⟩⟩
              have HO1 := Lib.hid hone1
              have HO2 := Lib.hid hone2
              have HG0 := Lib.hid hgcs
              clear hgcs hone1 hone2
              go_region_held3 (fun w' => w'.cell? ⟨g, i * 5 + 4, none⟩ = some (.slice y.ta nt y.tc) ∧ w'.cell? ⟨g, i * 5 + 3, none⟩ = some (.slice y.va nv y.vc)) (first | exact HSK.out _ (by first | exact hgc.out | exact al1 hgc.out _ | exact al1 (al1 hgc.out _) _) | go_keep)
                (first
                  | (refine step_append_w _ (by rfl) (.tmp 54) (.tmp 56) 43 (by rfl) lo hi 41 i1 _ 9 96 Try.underlying43 htj hy0 hy1 hy2 rfl (by decide) _ nt (by rfl) (HTW.out _ (by repeat (first | exact Shape.refl _ _ _ | exact hsh.out | refine Shape.drew ?_ | refine Shape.alloc ?_ _))) _ [.int .i64 (-2), .string ⟨#[]⟩, .string ⟨#[]⟩, .int .i64 0, .int .i64 0, .string ⟨#[]⟩, .int .i64 0, .int .u8 0, .int .i64 0] (by rfl) rfl (news_blk (cs := #[.int .i64 (-2), .string ⟨#[]⟩, .string ⟨#[]⟩, .int .i64 0, .int .i64 0, .string ⟨#[]⟩, .int .i64 0, .int .u8 0, .int .i64 0]) (t := 41) (fr := (0, 0)) (by first | exact nb1 _ _ | exact nb2 _ _ _ | exact nb3 _ _ _ | exact hk.out _ _ _ _ (nb2 _ _ _) (by decide) | exact hk.out _ _ _ _ (nb3 _ _ _) (by decide))) HO1.out (by omega) (by decide) ?_; intro at' ct' wA hshA hkA; have hshB : Hid (Shape lo hi wq wA) := Lib.hid (Shape.trans (by repeat (first | exact Shape.refl _ _ _ | exact hsh.out | refine Shape.drew ?_ | refine Shape.alloc ?_ _)) hshA); have hkB := Lib.hid hkA; have hgcB := Lib.hid (hkA g _ _ _ (by first | exact hgc.out | exact al1 hgc.out _ | exact al1 (al1 hgc.out _) _) (by decide)); clear hshA hkA; (try clear hk); clear hsh hgc; have hsh := hshB; have hgc := hgcB; have hk := hkB; clear hshB hgcB hkB)
                  | (refine step_append_w _ (by rfl) (.tmp 64) (.tmp 66) 42 (by rfl) lo hi 85 i2 _ 5 56 Try.underlying42 htk hx0 hx1 hx2 rfl (by decide) _ nv (by rfl) (HVW.out _ (by repeat (first | exact Shape.refl _ _ _ | exact hsh.out | refine Shape.drew ?_ | refine Shape.alloc ?_ _))) _ [.string ⟨#[]⟩, .int .u8 0, .int .i64 0, .bool false, .string ⟨#[]⟩] (by rfl) rfl (news_blk (cs := #[.string ⟨#[]⟩, .int .u8 0, .int .i64 0, .bool false, .string ⟨#[]⟩]) (t := 85) (fr := (0, 0)) (by first | exact nb1 _ _ | exact nb2 _ _ _ | exact nb3 _ _ _ | exact hk.out _ _ _ _ (nb2 _ _ _) (by decide) | exact hk.out _ _ _ _ (nb3 _ _ _) (by decide))) HO2.out (by omega) (by decide) ?_; intro at' ct' wA hshA hkA; have hshB : Hid (Shape lo hi wq wA) := Lib.hid (Shape.trans (by repeat (first | exact Shape.refl _ _ _ | exact hsh.out | refine Shape.drew ?_ | refine Shape.alloc ?_ _)) hshA); have hkB := Lib.hid hkA; have hgcB := Lib.hid (hkA g _ _ _ (by first | exact hgc.out | exact al1 hgc.out _ | exact al1 (al1 hgc.out _) _) (by decide)); clear hshA hkA; (try clear hk); clear hsh hgc; have hsh := hshB; have hgc := hgcB; have hk := hkB; clear hshB hgcB hkB))
              all_goals
                have hOA := HOm.out.kept hsh.out (fun q hq => by cases hq; exact hgc.out.trans HG0.out.symm)
                have hset := OwnF.set cellI_len hOA.row hiR (j := 1) (by omega) (.string ⟨#[115, 112, 111, 105, 108, 116]⟩) { y with x := { y.x with model := ⟨#[115, 112, 111, 105, 108, 116]⟩ } } (by rw [HYE.out]; rfl)
                have hSh : Shape lo hi wA (wA.setCell ⟨g, i * 5 + 1, none⟩ (.string ⟨#[115, 112, 111, 105, 108, 116]⟩)) := (Shape.refl _ _ _).set _ hglo hghi
                have HON : Hid (SpO (wA.setCell ⟨g, i * 5 + 1, none⟩ (.string ⟨#[115, 112, 111, 105, 108, 116]⟩)) lo hi (.slice (some ⟨g, 0, none⟩) n c) (R.set i { y with x := { y.x with model := ⟨#[115, 112, 111, 105, 108, 116]⟩ } })) := Lib.hid ⟨hset, hOA.und, fun x hx => by
                  rcases List.mem_or_eq_of_mem_set hx with h1 | h1
                  · exact (hOA.vars x h1).kept hSh
                  · subst h1; exact (hOA.vars y HYM.out).kept hSh, fun x hx => by
                  rcases List.mem_or_eq_of_mem_set hx with h1 | h1
                  · exact (hOA.toks x h1).kept hSh
                  · subst h1; exact (hOA.toks y HYM.out).kept hSh⟩
                have HLN : Hid (LenR n (R.set i { y with x := { y.x with model := ⟨#[115, 112, 111, 105, 108, 116]⟩ } })) := Lib.hid ⟨by rw [List.length_set]; exact HL.out.1, fun x hx => by
                  rcases List.mem_or_eq_of_mem_set hx with h1 | h1
                  · exact HL.out.2 x h1
                  · subst h1; exact HL.out.2 y HYM.out⟩
                have HSN := Lib.hid ((HSm.out.trans hsh.out).trans hSh)
                obtain ⟨r4, r3, ⟨z1, r1⟩, f1, -⟩ := HRD.out wA hOA
                clear hOA hset hSh hsh hgc w1 w2
                go_wp2_with fail
                go_roundg (n - (i + 1))
                case measure => omega
                case rel => exact ⟨i + 1, N + (nt + 1) + (nv + 1), _, by omega, by go_num, by go_num, by omega, HON, HLN, HSN⟩
    · have di : decide ((i : Int) < (n : Int)) = false := decide_eq_false (by omega)
      have hW : WRow wo lo hi 45 5 (.slice a n c) R.length := WRow.of HO.out.row HO.out.und
      rw [HL.out.1] at hW
      have HW := Lib.hid hW
      clear hW
      go_wp2_with (at_builtin; refine wpList_append_w _ rfl (.tmp 75) (.tmp 77) 22 (by rfl) lo hi 45 i0 _ 5 80 Try.underlying22 hti hz0 hz1 hz2 rfl (by decide) _ n (by rfl) (HW.out.kept ((Shape.refl _ _ _).alloc _)) _ [.int .i64 0, .string ⟨#[]⟩, .int .u8 0, .slice none 0 0, .slice none 0 0] (by rfl) rfl (news_blk (cs := #[.int .i64 0, .string ⟨#[]⟩, .int .u8 0, .slice none 0 0, .slice none 0 0]) (t := 45) (fr := (0, 0)) (nb1 _ _)) (cellI_one ⟨⟨0, ⟨#[]⟩, 0, [], []⟩, none, 0, none, 0⟩) (by omega) (by decide) ?_; intro at' ct' wA hshA)
      have HE := Lib.hid ((HS.out.alloc _).trans hshA)
      clear hshA
      go_wp2_with fail
      go_ret
      exact ⟨N + (n + 1), ret_int (by omega), HE.out⟩

end Go.Proofs.Ytggnheekkbideaa

/- What a reading of the law's steps gives. -/
namespace Go.Proofs.Ytggnheekkbideaa
open Go.RowKit Go.Deep Go.ChangeShapes Go.WideShapes Go.Joins

structure Js where
  kind : Int
  clock : Int
  wk : ByteArray
  tok : Int
  n : Int
  ticks : Int
instance : Inhabited Js := ⟨⟨0, 0, default, 0, 0, 0⟩⟩
def cellS (s : Js) : List Value := [.int .i64 s.kind, .int .i64 s.clock, .string s.wk, .int .i64 s.tok, .int .i64 s.n, .int .i64 s.ticks]
theorem cellS_len : ∀ s : Js, (cellS s).length = 6 := fun _ => rfl
def JsI (s : Js) : Prop := (Lit.int .i64 s.kind).wf = true ∧ (Lit.int .i64 s.clock).wf = true ∧ (Lit.int .i64 s.tok).wf = true ∧ (Lit.int .i64 s.n).wf = true ∧ (Lit.int .i64 s.ticks).wf = true
/-- Steps that may be read. -/
abbrev JsR (w : World) (B : Nat) (v : Value) (l : List Js) : Prop := SlF cellS 6 2513169434843 w B v l
theorem jsR_at {w : World} {B : Nat} {a : Option Addr} {n cap : Nat} {l : List Js} (h : JsR w B (.slice a n cap) l) {i : Nat} (hi : i < l.length) : ∃ b o, a = some ⟨b, o, none⟩ ∧ b < B ∧
    w.cell? ⟨b, o + i * 6, none⟩ = some (.int .i64 l[i].kind) ∧ w.cell? ⟨b, o + i * 6 + 1, none⟩ = some (.int .i64 l[i].clock) ∧ w.cell? ⟨b, o + i * 6 + 2, none⟩ = some (.string l[i].wk) ∧
    w.cell? ⟨b, o + i * 6 + 3, none⟩ = some (.int .i64 l[i].tok) ∧ w.cell? ⟨b, o + i * 6 + 4, none⟩ = some (.int .i64 l[i].n) ∧ w.cell? ⟨b, o + i * 6 + 5, none⟩ = some (.int .i64 l[i].ticks) := by
  obtain ⟨b, o, e, hb, hc⟩ := h.col i hi
  exact ⟨b, o, e, hb, hc 0 (by omega), hc 1 (by omega), hc 2 (by omega), hc 3 (by omega), hc 4 (by omega), hc 5 (by omega)⟩

section
variable {H : Type} {enc : TypeId × Value → H} {W : World} {spare : Nat → Bool} {held : Bool}
theorem open_js (fuel : Nat) (cs : List Value) (d : DataW H) (ps : List MemPlace) (h : DataW.trod enc Try.prog W 0 spare held fuel 30 cs = some (d, ps)) (_hfit : Fits Try.prog 30 d) (hlk : cs.length = 6) :
    ∃ t : Js, cs = cellS t ∧ JsI t := by
  obtain ⟨xs, n, _, hx, hl, hlen, hf⟩ := DataW.trod_struct Try.underlying30 h
  have k1 : Try.prog.cellsOf 3 = 1 := by kernel_rfl
  have k2 : Try.prog.cellsOf 9 = 1 := by kernel_rfl
  match xs, hlen, cs, hlk with
  | [y0, y1, y2, y3, y4, y5], _, [c0, c1, c2, c3, c4, c5], _ =>
    have f0 : DataW.trod enc Try.prog W 0 spare held n 3 [c0] = some y0 := by have := hf 0 _ rfl; simpa [k1] using this
    have f1 : DataW.trod enc Try.prog W 0 spare held n 3 [c1] = some y1 := by have := hf 1 _ rfl; simpa [k1] using this
    have f2 : DataW.trod enc Try.prog W 0 spare held n 9 [c2] = some y2 := by have := hf 2 _ rfl; simpa [k1, k2] using this
    have f3 : DataW.trod enc Try.prog W 0 spare held n 3 [c3] = some y3 := by have := hf 3 _ rfl; simpa [k1, k2] using this
    have f4 : DataW.trod enc Try.prog W 0 spare held n 3 [c4] = some y4 := by have := hf 4 _ rfl; simpa [k1, k2] using this
    have f5 : DataW.trod enc Try.prog W 0 spare held n 3 [c5] = some y5 := by have := hf 5 _ rfl; simpa [k1, k2] using this
    obtain ⟨x0, e0, _, w0⟩ := DataW.trod_int Try.underlying3 f0
    obtain ⟨x1, e1, _, w1⟩ := DataW.trod_int Try.underlying3 f1
    obtain ⟨x2, e2, _⟩ := DataW.trod_string Try.underlying9 f2
    obtain ⟨x3, e3, _, w3⟩ := DataW.trod_int Try.underlying3 f3
    obtain ⟨x4, e4, _, w4⟩ := DataW.trod_int Try.underlying3 f4
    obtain ⟨x5, e5, _, w5⟩ := DataW.trod_int Try.underlying3 f5
    simp only [List.cons.injEq, and_true] at e0 e1 e2 e3 e4 e5
    subst e0 e1 e2 e3 e4 e5
    exact ⟨⟨x0, x1, x2, x3, x4, x5⟩, rfl, w0, w1, w3, w4, w5⟩

theorem open_jss {v : Value} {d : DataW H} {ps : List MemPlace} {r : Reach} {b0 : Nat} (hv : Value.okWide Try.prog W r b0 23 v) (h : DataW.Trod enc Try.prog W 0 spare held 23 v d ps) (hfit : Fits Try.prog 23 d) :
    ∃ l, JsR W W.heap.size v l ∧ ∀ s ∈ l, JsI s := by
  obtain ⟨fuel, h⟩ := h
  obtain ⟨a, len, cap, rfl⟩ := okWide_slice Try.underlying23 hv
  have k40 : Try.prog.bytesOf 30 = 56 := by kernel_rfl
  obtain ⟨v, l, hvl, ⟨a', cap', hv', hl, hcp, hc⟩, hw⟩ := open_colF (f := cellS) (k := 6) Try.underlying23 (by kernel_rfl) (by omega) JsI (fun f cs d ps h1 h2 h3 => open_js f cs d ps h1 h2 h3) h hfit
  simp [Value.cells] at hvl
  subst hvl
  rw [k40] at hl
  simp only [reachBytes] at hl
  exact ⟨l, ⟨a', cap', hv', by omega, hcp, hc⟩, hw⟩
end
end Go.Proofs.Ytggnheekkbideaa

/- What holds of instances while jobs are handed out, fail, are revived; what the program's and the document's turn leave. -/
namespace Go.Proofs.Ytggnheekkbideaa
open Go.RowKit

structure GoodL (l : List Ins) : Prop where
  sm : SmL l
  tri : TriL l
  many : (allT l).length ≤ 1048576
theorem GoodL.nil : GoodL [] := ⟨⟨by simp, by simp⟩, by unfold TriL; simp, by show 0 ≤ _; omega⟩
theorem tri_mark {f : Tok → Tok} {l : List Ins} {i k : Nat} (h : TriL l) (hi : i < l.length) (_hk : k < (atL l i).toks.length) (hf : (f (atL (atL l i).toks k)).tries ≤ 9223372036854775807) : TriL (markL f l i k) := by
  intro x hx t ht
  unfold markL at hx
  rcases List.mem_or_eq_of_mem_set hx with h1 | h1
  · exact h x h1 t ht
  · subst h1
    unfold markX at ht
    rcases List.mem_or_eq_of_mem_set ht with h2 | h2
    · exact h (atL l i) (by rw [atL_eq hi]; exact List.getElem_mem _) t h2
    · subst h2; exact hf
theorem GoodL.mark {f : Tok → Tok} {l : List Ins} {i k : Nat} (h : GoodL l) (hi : i < l.length) (hk : k < (atL l i).toks.length) (hf : (f (atL (atL l i).toks k)).tries ≤ 9223372036854775807) : GoodL (markL f l i k) :=
  ⟨mark_small h.sm hi, tri_mark h.tri hi hk hf, by rw [allT_mark f l i k hi hk, List.length_map]; exact h.many⟩
theorem GoodL.at {l : List Ins} (h : GoodL l) {i k : Nat} (hi : i < l.length) (hk : k < (atL l i).toks.length) : (atL (atL l i).toks k).tries ≤ 9223372036854775807 :=
  h.tri (atL l i) (by rw [atL_eq hi]; exact List.getElem_mem _) _ (by rw [atL_eq hk]; exact List.getElem_mem _)
theorem GoodL.marks {f : Tok → Tok} (hf : ∀ t, (f t).tries = t.tries) : ∀ (P : List PT) (l : List Ins), GoodL l → (∀ p ∈ P, p.i < l.length ∧ p.k < (atL l p.i).toks.length) → GoodL (marks f l P)
  | [], _, h, _ => h
  | p :: P, l, h, hP => by
    obtain ⟨h1, h2⟩ := hP p List.mem_cons_self
    show GoodL (Go.Proofs.Ytggnheekkbideaa.marks f (markL f l p.i p.k) P)
    exact GoodL.marks hf P _ (h.mark h1 h2 (by rw [hf]; exact h.at h1 h2)) (fun q hq => by
      obtain ⟨a, b⟩ := hP q (List.mem_cons_of_mem _ hq)
      exact ⟨by rw [markL_len]; exact a, by rw [mark_toks f l _ _ _ h1]; exact b⟩)
theorem GoodL.fet {l : List Ins} (h : GoodL l) (clock : Int) (wk : ByteArray) (n ticks : Int) : GoodL (fetL l clock wk n ticks) := by
  unfold fetL
  split
  · exact GoodL.marks (f := fetchF wk (clock + ticks)) (fun _ => rfl) _ _ h (fun p hp => by
      obtain ⟨a, b, _⟩ := allT_at (fetchP_mem p hp)
      exact ⟨a, b⟩)
  · exact GoodL.nil
theorem GoodL.chg {l : List Ins} (h : GoodL l) (may : Tok → Int) (F : Tok → Tok) (tok : Int) (hF : ∀ t, may t = 0 → t.tries ≤ 9223372036854775807 → (F t).tries ≤ 9223372036854775807) : GoodL (chgL may F l tok) := by
  unfold chgL
  cases hf : findT l tok with
  | none => exact GoodL.nil
  | some p =>
    simp only
    split
    · rename_i hm
      obtain ⟨h1, h2, h3, _⟩ := allT_at (find_in hf)
      exact h.mark h1 h2 (by rw [← h3]; exact hF p.t hm (by rw [h3]; exact h.at h1 h2))
    · exact GoodL.nil
theorem mayRev_ok {tries : Int} {t : Tok} (h : mayRev tries t = 0) : tries ≤ 100 := by
  unfold mayRev at h
  split at h
  · split at h
    · rename_i h1; exact h1.2
    · omega
  · omega
theorem fetT_len {l : List Ins} {clock : Int} {wk : ByteArray} {n ticks : Int} : (fetT l clock wk n ticks).length ≤ 64 := by
  unfold fetT
  split
  · rename_i h
    obtain ⟨_, _, _, _, h5, _⟩ := h
    rw [List.length_map]
    unfold fetchP
    rw [List.length_take]
    omega
  · simp

theorem Frm.toGrown {r : Option Nat} {w w' : World} (h : Frm [r] w w') : w.grownBy w' r :=
  ⟨h.os, h.tape, h.output, h.size, fun k hk hne => h.keep k hk (fun q hq => by rw [List.mem_singleton.1 hq]; exact Ne.symm hne)⟩
theorem InsO.grownI {w w' : World} {lo q : Nat} {v vt : Value} {R : List Ih} {T : List Int} (h : InsO w lo v R) (hT : OwnI w q vt T) (hg : w.grownBy w' vt.ownBlock) : InsO w' lo v R :=
  ⟨OwnF.grownT h.row hT (by decide) hg, OwnH.grownT h.own hT (by decide) (by decide) hg⟩
theorem SpO.grownI {w w' : World} {lo hi q : Nat} {v vt : Value} {R : List Ih} {T : List Int} (h : InsO w lo v R) (hu : Und hi v R) (hT : OwnI w q vt T) (hg : w.grownBy w' vt.ownBlock) : SpO w' lo hi v R := (h.grownI hT hg).spo hu
theorem lenR_of {R : List Ih} {L : List Ins} (h : R.map (·.x) = L) (hs : SmL L) : LenR R.length R ∧ R.length ≤ 1048576 := by
  subst h
  refine ⟨⟨rfl, fun y hy => hs.2 y.x (List.mem_map_of_mem hy)⟩, by have := hs.1; rwa [List.length_map] at this⟩
theorem InsO.far {w w' : World} {lo hi lo2 hi2 : Nat} {v : Value} {R : List Ih} (h : InsO w lo v R) (hu : Und hi v R) (hs : Shape lo2 hi2 w w') (hlt : hi ≤ w.heap.size) (hne : hi ≤ lo2 ∨ hi2 ≤ lo) : InsO w' lo v R :=
  h.range hu (fun g h1 h2 => hs.far g (by omega) (by omega))

/-- Where both have turned. -/
structure Played (w2 : World) (s9 s10 s11 s12 s13 : Value) (E : Int) (L : List Ins) (T : List Int) (Ra Rb Rw : List Ih) (h1 h2 : Nat) (w : World) : Prop where
  good : GoodL L
  l1 : w2.heap.size ≤ h1
  l2 : h1 ≤ h2
  l3 : h2 ≤ w.heap.size
  a : InsO w w2.heap.size s9 Ra
  au : Und h1 s9 Ra
  ar : Ra.map (·.x) = L
  t : OwnI w w2.heap.size s12 T
  tl : T.length ≤ 1048576
  b : InsO w h1 s10 Rb
  bu : Und h2 s10 Rb
  br : Rb.map (·.x) = L
  c : InsO w h2 s11 Rw
  cr : Rw.map (·.x) = L
  q : OwnI w h2 s13 T
  e : E = E
  below : Below w2.heap.size w2 w
def PlayedV (w2 : World) (s9 s10 s11 s12 s13 s14 s15 : Value) (w : World) : Prop := ∃ E L T Ra Rb Rw h1 h2, s14 = .int .i64 E ∧ s15 = .int .i64 E ∧ Played w2 s9 s10 s11 s12 s13 E L T Ra Rb Rw h1 h2 w
theorem playedV_mk {w2 w3 w4 w5 : World} {va vb vw vt vq : Value} {L : List Ins} {T : List Int} {E : Int} {Ra Rb Rw : List Ih} (hg : GoodL L) (hl : T.length ≤ 1048576)
    (hA : InsO w3 w2.heap.size va Ra) (ea : Ra.map (·.x) = L) (hT : OwnI w3 w2.heap.size vt T) (hb3 : Below w2.heap.size w2 w3)
    (hB : InsO w4 w3.heap.size vb Rb) (eb : Rb.map (·.x) = L) (hb4 : Below w3.heap.size w3 w4)
    (hC : InsO w5 w4.heap.size vw Rw) (ec : Rw.map (·.x) = L) (hQ : OwnI w5 w4.heap.size vq T) (hb5 : Below w4.heap.size w4 w5) :
    PlayedV w2 va vb vw vt vq (.int .i64 E) (.int .i64 E) w5 :=
  ⟨E, L, T, Ra, Rb, Rw, w3.heap.size, w4.heap.size, rfl, rfl, ⟨hg, hb3.size, hb4.size, hb5.size, (hA.kept hb4).kept hb5, hA.und, ea, OwnI.kept (OwnI.kept hT hb4 (Nat.le_refl _)) hb5 (Nat.le_refl _), hl, hB.kept hb5, hB.und, eb, hC, ec, hQ, rfl, (hb3.trans (hb4.mono hb3.size)).trans (hb5.mono (Nat.le_trans hb3.size hb4.size))⟩⟩

theorem js_box {w : World} {p : Nat} {s : Js} {t : TypeId} {fr : Nat × Nat} (h : w.heap[p]? = some (.cells (cellS s).toArray t fr)) : w.cell? ⟨p, 0, none⟩ = some (.int .i64 s.kind) ∧ w.cell? ⟨p, 1, none⟩ = some (.int .i64 s.clock) ∧ w.cell? ⟨p, 2, none⟩ = some (.string s.wk) ∧
    w.cell? ⟨p, 3, none⟩ = some (.int .i64 s.tok) ∧ w.cell? ⟨p, 4, none⟩ = some (.int .i64 s.n) ∧ w.cell? ⟨p, 5, none⟩ = some (.int .i64 s.ticks) :=
  ⟨(cell_of_block h 0).trans rfl, (cell_of_block h 1).trans rfl, (cell_of_block h 2).trans rfl, (cell_of_block h 3).trans rfl, (cell_of_block h 4).trans rfl, (cell_of_block h 5).trans rfl⟩
end Go.Proofs.Ytggnheekkbideaa
