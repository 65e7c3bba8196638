/- job.Find. -/
import Derived.Test.YtggnheekkbideaaJobTok
namespace Go.Proofs.Ytggnheekkbideaa
open Go.RowKit Go.Shelf
attribute [local go_sem] Oper.semAt_some

def isTok (t : Int) (p : PT) : Bool := p.t.id == t
def findT (l : List Ins) (t : Int) : Option PT := (allT l).find? (isTok t)
def findV : Option PT → Value
  | none => .tuple #[.int .i64 0, .int .i64 0, .bool false]
  | some p => .tuple #[.int .i64 (p.i : Int), .int .i64 (p.k : Int), .bool true]

theorem find_none {l : List PT} {t : Int} (h : ∀ p ∈ l, isTok t p = false) : l.find? (isTok t) = none := List.find?_eq_none.2 (fun p hp => by rw [h p hp]; simp)
theorem find_hit {l pre : List PT} {t : Int} {p : PT} (h : ∀ q ∈ pre, isTok t q = false) (hp : isTok t p = true) (hl : pre ++ [p] <+: l) : l.find? (isTok t) = some p := by
  obtain ⟨r, rfl⟩ := hl
  rw [List.append_assoc, List.find?_append, find_none h]
  simp [hp]

abbrev placeC (p : PT) : Array Value := #[.int .i64 (p.i : Int), .int .i64 (p.k : Int)]
abbrev tokC (t : Tok) : Array Value := #[.int .i64 t.id, .string t.here, .string t.on, .int .i64 t.born, .int .i64 t.tries, .string t.worker, .int .i64 t.til, .int .u8 t.inc, .int .i64 t.err]

def FindI (w : World) (t : Int) (pre : List PT) (W : World) : Prop :=
  ((∀ p ∈ pre, isTok t p = false) ∧ Boxed W w.heap.size 3 (.int .i64 t) ∧ Boxed W (w.heap.size + 1) 3 (.int .i64 0) ∧ Boxed W (w.heap.size + 1 + 1) 3 (.int .i64 0) ∧ Boxed W (w.heap.size + 1 + 1 + 1) 4 (.bool false))
def FindX (w : World) (t : Int) (pre : List PT) (W : World) : Prop :=
  ∃ p0 p, pre = p0 ++ [p] ∧ (∀ q ∈ p0, isTok t q = false) ∧ isTok t p = true ∧ Boxed W (w.heap.size + 1) 3 (.int .i64 (p.i : Int)) ∧ Boxed W (w.heap.size + 1 + 1) 3 (.int .i64 (p.k : Int)) ∧ Boxed W (w.heap.size + 1 + 1 + 1) 4 (.bool true)

set_option maxRecDepth 100000 in
set_option maxHeartbeats 4000000 in
theorem find_any (w : World) (v : Value) (l : List Ins) (t : Int) (hI : InsR w w.heap.size v l) :
    Calls Try.prog 13 #[v, .int .i64 t] w fun e w' => e = .returned (findV (findT l t)) ∧ Below w.heap.size w w' := by
  obtain ⟨a, c, rfl⟩ := hI.val
  refine (callsIn_wide (n := 6)).1 ?_
  refine callsIn_of_wp_marks Try.func13 rfl trivial ?_ rfl
  simp only [Try.ntmps13, List.size_toArray, List.length_cons, List.length_nil, Nat.reduceAdd, Nat.reduceSub, Array.replicate_succ, Array.replicate_zero, List.push_toArray, List.append_toArray, List.nil_append, List.cons_append]
  gi_wp2_with (refine ⟨trivial, ?_⟩; gi_at_call 38; refine (tokens_in Fence.wide _ trivial rfl _ _ _ _).mono ?_; rintro e w' ⟨rfl, rfl⟩)
  have bS := ((((Boxed.new w 3 (.int .i64 t)).alloc (.cells #[.int .i64 0] 3)).alloc (.cells #[.int .i64 0] 3)).alloc (.cells #[.bool false] 4)).alloc (.cells #[.slice a l.length c] 22)
  have b1 := (((Boxed.new (w.alloc (.cells #[.int .i64 t] 3)) 3 (.int .i64 0)).alloc (.cells #[.int .i64 0] 3)).alloc (.cells #[.bool false] 4)).alloc (.cells #[.slice a l.length c] 22)
  have b2 := ((Boxed.new ((w.alloc (.cells #[.int .i64 t] 3)).alloc (.cells #[.int .i64 0] 3)) 3 (.int .i64 0)).alloc (.cells #[.bool false] 4)).alloc (.cells #[.slice a l.length c] 22)
  have b3 := (Boxed.new (((w.alloc (.cells #[.int .i64 t] 3)).alloc (.cells #[.int .i64 0] 3)).alloc (.cells #[.int .i64 0] 3)) 4 (.bool false)).alloc (.cells #[.slice a l.length c] 22)
  have b4 := Boxed.new ((((w.alloc (.cells #[.int .i64 t] 3)).alloc (.cells #[.int .i64 0] 3)).alloc (.cells #[.int .i64 0] 3)).alloc (.cells #[.bool false] 4)) 22 (.slice a l.length c)
  simp only [World.size_alloc] at b1 b2 b3 b4
  have hB0 : Below w.heap.size w (((((w.alloc (.cells #[.int .i64 t] 3)).alloc (.cells #[.int .i64 0] 3)).alloc (.cells #[.int .i64 0] 3)).alloc (.cells #[.bool false] 4)).alloc (.cells #[.slice a l.length c] 22)) :=
    (((((Below.refl _ w).alloc (Nat.le_refl _) _).alloc (by simp) _).alloc (by simp; omega) _).alloc (by simp; omega) _).alloc (by simp; omega) _
  have hsz : (((((w.alloc (.cells #[.int .i64 t] 3)).alloc (.cells #[.int .i64 0] 3)).alloc (.cells #[.int .i64 0] 3)).alloc (.cells #[.bool false] 4)).alloc (.cells #[.slice a l.length c] 22)).heap.size = w.heap.size + 5 := by simp
  obtain ⟨W0, hW0⟩ : ∃ W0, ((((w.alloc (.cells #[.int .i64 t] 3)).alloc (.cells #[.int .i64 0] 3)).alloc (.cells #[.int .i64 0] 3)).alloc (.cells #[.bool false] 4)).alloc (.cells #[.slice a l.length c] 22) = W0 := ⟨_, rfl⟩
  rw [hW0] at bS b1 b2 b3 b4 hB0 hsz ⊢
  clear hW0
  refine wpIn_rangeFunc_ownH rfl (by omega) (gf := 54) (lb := #[.pointer (some ⟨w.heap.size + 1 + 1 + 1 + 1, 0, none⟩)]) rfl trivial (enters_of Try.func54 (by kernel_rfl) rfl)
    (tokens_stops Fence.wide (6 - 1) trivial rfl (by omega) (w.heap.size + 1 + 1 + 1 + 1) w.heap.size _ l W0 (by omega) (by omega) b4.cell (hI.mono hB0 (Nat.le_refl _))) belowK_t (belowK_b (by omega)) (Below.refl _ _) (fun _ => rfl)
    (fun pre W => FindI w t pre W ∧ Below w.heap.size w W)
    (fun c pre W => (c = .ret ∧ FindX w t pre W) ∧ Below w.heap.size w W)
    (OwnFrom.and (Own.from (fun s A B row hs hg hr => ⟨hs.1, blk_own hs.2.1 hg hr, blk_own hs.2.2.1 hg hr, blk_own hs.2.2.2.1 hg hr, blk_own hs.2.2.2.2 hg hr⟩) _) (ownFrom_below (Nat.le_refl _) (by omega)))
    (fun c => OwnFrom.and (Own.from (fun s A B row hs hg hr => ⟨hs.1, by obtain ⟨p0, p, h1, h2, h3, h4, h5, h6⟩ := hs.2; exact ⟨p0, p, h1, h2, h3, blk_own h4 hg hr, blk_own h5 hg hr, blk_own h6 hg hr⟩⟩) _) (ownFrom_below (Nat.le_refl _) (by omega)))
    ⟨⟨by simp, bS, b1, b2, b3⟩, hB0⟩
    (fun x a' W => ∃ Bx, w.heap.size + 1 + 1 + 1 < Bx ∧ W.heap[Bx]? = some (.cells (placeC x) 72) ∧ W.heap[Bx + 1]? = some (.cells (tokC x.t) 41) ∧
      a' = { tmps := #[.slice a l.length c, .int .i64 t, undef, .pointer (some ⟨w.heap.size, 0, none⟩), .pointer (some ⟨w.heap.size + 1, 0, none⟩), .pointer (some ⟨w.heap.size + 1 + 1, 0, none⟩), .pointer (some ⟨w.heap.size + 1 + 1 + 1, 0, none⟩), .pointer (some ⟨Bx, 0, none⟩), .pointer (some ⟨Bx + 1, 0, none⟩), .slice a l.length c, .func (.func 54) #[] #[.pointer (some ⟨w.heap.size + 1 + 1 + 1 + 1, 0, none⟩)], .agg #[.int .i64 (x.i : Int), .int .i64 (x.k : Int)], valT x.t, undef, undef, undef, undef, undef, undef, undef, undef], defers := [] })
    (fun x a' _ X Y row hs hg hr => by obtain ⟨Bx, h1, h2, h3, h4⟩ := hs; exact ⟨Bx, h1, blk_own h2 hg (fun r e => (hr r e).2), blk_own h3 hg (fun r e => (hr r e).2), h4⟩)
    ?assign ?body ?done ?stop
  case assign =>
    rintro lr pre x W K ⟨⟨hp, bS, b1, b2, b3⟩, hB⟩ hK
    unfold encP
    gi_wp2
    have hl := b3.lt
    have hz := hB.size
    exact hK _ _ (((KeepsOthers.alloc _ _).trans (KeepsOthers.alloc _ _)).from _) (((Below.refl _ W).alloc hz _).alloc (by simp; omega) _)
      ⟨⟨hp, (bS.alloc _).alloc _, (b1.alloc _).alloc _, (b2.alloc _).alloc _, (b3.alloc _).alloc _⟩, (hB.alloc hz _).alloc (by simp; omega) _⟩
      ⟨W.heap.size, hl, (Below.heap_alloc _ _ _ (by simp)).trans (heap_alloc_new W _), by have := heap_alloc_new (W.alloc (.cells (placeC x) 72)) (.cells (tokC x.t) 41); rwa [World.size_alloc] at this, rfl⟩
  case body =>
    rintro lr pre x a' W hl ⟨r, hr⟩ ⟨⟨hp, bS, b1, b2, b3⟩, hB⟩ ⟨Bx, hBx, hP, hT, rfl⟩ hlt
    have p0 : W.cell? ⟨Bx, 0, none⟩ = some (.int .i64 (x.i : Int)) := by rw [cell_of_block hP]; rfl
    have p1 : W.cell? ⟨Bx, 1, none⟩ = some (.int .i64 (x.k : Int)) := by rw [cell_of_block hP]; rfl
    have t0 : W.cell? ⟨Bx + 1, 0, none⟩ = some (.int .i64 x.t.id) := by rw [cell_of_block hT]; rfl
    have cS := bS.cell
    have c1 := b1.cell
    have c2 := b2.cell
    have c3 := b3.cell
    have f1 := b1.frozen
    have f2 := b2.frozen
    have f3 := b3.frozen
    cases hx : isTok t x with
    | true =>
      have d1 : (x.t.id == t) = true := hx
      have HX := Lib.hid hx
      clear hx
      gi_wp2
      have K3 : ∀ (a b c : Addr) (x y z : Value), KeepsFrom W0.heap.size W (((W.setCell a x).setCell b y).setCell c z).drew := fun a b c x y z => ((((KeepsOthers.setCell W a x).trans (KeepsOthers.setCell _ b y)).trans (KeepsOthers.setCell _ c z)).trans (KeepsOthers.drew _)).from _
      have B3 : ∀ (a b c : Addr) (x y z : Value), w.heap.size ≤ a.block → w.heap.size ≤ b.block → w.heap.size ≤ c.block → Below w.heap.size w (((W.setCell a x).setCell b y).setCell c z).drew := fun a b c x y z h1 h2 h3 => (((hB.setCell h1 x).setCell h2 y).setCell h3 z).drew
      have K3 := Lib.hid K3
      have B3 := Lib.hid B3
      have G1 : Hid (Boxed (((W.setCell ⟨w.heap.size + 1, 0, none⟩ (.int .i64 (x.i : Int))).setCell ⟨w.heap.size + 1 + 1, 0, none⟩ (.int .i64 (x.k : Int))).setCell ⟨w.heap.size + 1 + 1 + 1, 0, none⟩ (.bool true)).drew (w.heap.size + 1) 3 (.int .i64 (x.i : Int))) := Lib.hid (((b1.set _).other (by omega) _).other (by omega) _)
      have G2 : Hid (Boxed (((W.setCell ⟨w.heap.size + 1, 0, none⟩ (.int .i64 (x.i : Int))).setCell ⟨w.heap.size + 1 + 1, 0, none⟩ (.int .i64 (x.k : Int))).setCell ⟨w.heap.size + 1 + 1 + 1, 0, none⟩ (.bool true)).drew (w.heap.size + 1 + 1) 3 (.int .i64 (x.k : Int))) := Lib.hid (((b2.other (by omega) _).set _).other (by omega) _)
      have G3 : Hid (Boxed (((W.setCell ⟨w.heap.size + 1, 0, none⟩ (.int .i64 (x.i : Int))).setCell ⟨w.heap.size + 1 + 1, 0, none⟩ (.int .i64 (x.k : Int))).setCell ⟨w.heap.size + 1 + 1 + 1, 0, none⟩ (.bool true)).drew (w.heap.size + 1 + 1 + 1) 4 (.bool true)) := Lib.hid (((b3.other (by omega) _).other (by omega) _).set _)
      gi_region
      all_goals gi_wp2
      all_goals refine ⟨K3.out _ _ _ _ _ _, ⟨rfl, pre, x, rfl, hp, HX.out, G1.out, G2.out, G3.out⟩, B3.out _ _ _ _ _ _ ?_ ?_ ?_⟩
      all_goals (dsimp only; omega)
    | false =>
      have d1 : (x.t.id == t) = false := hx
      have HX := Lib.hid hx
      clear hx
      gi_wp2
      exact ⟨KeepsFrom.refl _ _, Below.refl _ _, ⟨fun p hp' => (List.mem_append.1 hp').elim (hp p) (fun e => by rw [List.mem_singleton.1 e]; exact HX.out), bS, b1, b2, b3⟩, hB⟩
  case done =>
    rintro D ys W hD rfl ⟨⟨hne, bS, b1, b2, b3⟩, hB⟩ hK
    have c1 := b1.cell
    have c2 := b2.cell
    have c3 := b3.cell
    have f1 := b1.frozen
    have f2 := b2.frozen
    have f3 := b3.frozen
    gi_wp2
    have q1 := ((b1.set (.int .i64 0)).other (B' := w.heap.size + 1 + 1) (by omega) (.int .i64 0)).other (B' := w.heap.size + 1 + 1 + 1) (by omega) (.bool false)
    have q2 := ((b2.other (B' := w.heap.size + 1) (by omega) (.int .i64 0)).set (.int .i64 0)).other (B' := w.heap.size + 1 + 1 + 1) (by omega) (.bool false)
    have q3 := ((b3.other (B' := w.heap.size + 1) (by omega) (.int .i64 0)).other (B' := w.heap.size + 1 + 1) (by omega) (.int .i64 0)).set (.bool false)
    have hB3 := ((hB.setCell (p := ⟨w.heap.size + 1, 0, none⟩) (by simp) (.int .i64 0)).setCell (p := ⟨w.heap.size + 1 + 1, 0, none⟩) (by simp; omega) (.int .i64 0)).setCell (p := ⟨w.heap.size + 1 + 1 + 1, 0, none⟩) (by simp; omega) (.bool false)
    have hK' := (((KeepsOthers.setCell W ⟨w.heap.size + 1, 0, none⟩ (.int .i64 0)).trans (KeepsOthers.setCell _ ⟨w.heap.size + 1 + 1, 0, none⟩ (.int .i64 0))).trans (KeepsOthers.setCell _ ⟨w.heap.size + 1 + 1 + 1, 0, none⟩ (.bool false))).same D _ hK rfl
    obtain ⟨V, hV⟩ : ∃ V, ((W.setCell ⟨w.heap.size + 1, 0, none⟩ (.int .i64 0)).setCell ⟨w.heap.size + 1 + 1, 0, none⟩ (.int .i64 0)).setCell ⟨w.heap.size + 1 + 1 + 1, 0, none⟩ (.bool false) = V := ⟨_, rfl⟩
    rw [hV] at q1 q2 q3 hB3 hK' ⊢
    refine ⟨by simp, .inl ⟨_, _, rfl, run_takeDeferred hK', ?_⟩⟩
    have e1 := (q1.kept (grownBy_putObj' _ D (.deferred none)) (by simp; omega)).cell
    have e2 := (q2.kept (grownBy_putObj' _ D (.deferred none)) (by simp; omega)).cell
    have e3 := (q3.kept (grownBy_putObj' _ D (.deferred none)) (by simp; omega)).cell
    refine ⟨findV none, ?_, by unfold findT; rw [find_none hne], hB3.trans (belowK_b (w := w) (Nat.le_refl _) V D _ _ (by omega) hK' rfl rfl)⟩
    unfold findV
    simp [results, Try.f13, go_sem, e1, e2, e3]
  case stop =>
    rintro D c pre W hD hpre ⟨⟨rfl, p0, p, rfl, hn, hit, b1, b2, b3⟩, hB⟩ hK
    gi_wp2
    refine ⟨by simp, .inl ⟨_, _, rfl, run_takeDeferred hK, ?_⟩⟩
    have e1 := (b1.kept (grownBy_putObj' _ D (.deferred none)) (by simp; omega)).cell
    have e2 := (b2.kept (grownBy_putObj' _ D (.deferred none)) (by simp; omega)).cell
    have e3 := (b3.kept (grownBy_putObj' _ D (.deferred none)) (by simp; omega)).cell
    refine ⟨findV (some p), ?_, by unfold findT; rw [find_hit hn hit hpre], hB.trans (belowK_b (w := w) (Nat.le_refl _) W D _ _ (by omega) hK rfl rfl)⟩
    unfold findV
    simp [results, Try.f13, go_sem, e1, e2, e3]

end Go.Proofs.Ytggnheekkbideaa
