/- job.list, List, Free. -/
import Derived.Test.YtggnheekkbideaaJobAsk
set_option maxRecDepth 100000
namespace Go.Proofs.Ytggnheekkbideaa
open Go.RowKit

structure Jb where
  inst : Int
  tok : Int
  here : ByteArray
  tries : Int
  worker : ByteArray
  til : Int
  inc : Int
instance : Inhabited Jb := ⟨⟨0, 0, default, 0, default, 0, 0⟩⟩
def cellJ (j : Jb) : List Value := [.int .i64 j.inst, .int .i64 j.tok, .string j.here, .int .i64 j.tries, .string j.worker, .int .i64 j.til, .int .u8 j.inc]
theorem cellJ_len : ∀ j : Jb, (cellJ j).length = 7 := fun _ => rfl
theorem cellJ_one (j : Jb) : ∀ u ∈ cellJ j, u.oneCell' = true := by
  intro u hu
  simp only [cellJ, List.mem_cons, List.mem_nil_iff, or_false] at hu
  rcases hu with rfl | rfl | rfl | rfl | rfl | rfl | rfl <;> rfl
abbrev JRow (w : World) (base : Nat) (v : Value) (A : List Jb) : Prop := OwnF cellJ 57 7 w base v A
theorem info_job : (Try.prog.info? 57).map (fun i => (i.zero, i.size, i.bytes)) = some (some (.agg #[.int .i64 0, .int .i64 0, .string default, .int .i64 0, .string default, .int .i64 0, .int .u8 0]), 7, 72) := by kernel_rfl
theorem jrow_push {w : World} {base : Nat} {v : Value} {A : List Jb} {x : Jb} (h : w.ownsRow base 57 7 v (A.length + 1) (cellsF cellJ A ++ cellJ x)) : JRow w base v (A ++ [x]) := by
  unfold JRow OwnF
  rw [List.length_append, List.length_singleton, cellsF_app]
  exact h
theorem jrow_ge {w : World} {base : Nat} {v : Value} {A : List Jb} (h : JRow w base v A) : ∀ k, v.ownBlock = some k → base ≤ k := by
  intro k hk
  rcases OwnF.val h with ⟨e, _⟩ | ⟨g, c, e, hb, _⟩
  · rw [e] at hk; cases hk
  · rw [e] at hk; simp only [Value.ownBlock, Option.some.injEq] at hk; omega
theorem own_blkJ {w : World} {base p : Nat} {e t : TypeId} {size : Nat} {v : Value} {n : Nat} {xs : List Value} {c : Array Value} {fr : Nat × Nat} (h : w.ownsRow base e size v n xs) (hp : w.heap[p]? = some (.cells c t fr)) (ht : t ≠ e) : v.ownBlock ≠ some p := by
  rcases h.2 with ⟨rfl, _⟩ | ⟨g, cap, cur, rfl, _, hg, _⟩
  · simp [Value.ownBlock]
  · have := type_ne hg hp (Ne.symm ht)
    simpa [Value.ownBlock] using this
def jobOf (l : List Ins) (p : PT) : Jb := ⟨(atL l p.i).id, p.t.id, p.t.here, p.t.tries, p.t.worker, p.t.til, p.t.inc⟩

/-- The cells of a token at a place, all of them. -/
theorem InsR.placeT {w : World} {B b o n cap : Nat} {l : List Ins} (h : InsR w B (.slice (some ⟨b, o, none⟩) n cap) l) {p : PT} (hp : p ∈ allT l) :
    ∃ bt ot n2 ct, p.k < n2 ∧ n2 ≤ 1466015503658 ∧ w.cell? ⟨b, o + p.i * 5, none⟩ = some (.int .i64 (atL l p.i).id) ∧ w.cell? ⟨b, o + p.i * 5 + 4, none⟩ = some (.slice (some ⟨bt, ot, none⟩) n2 ct) ∧
      w.cell? ⟨bt, ot + p.k * 9, none⟩ = some (.int .i64 p.t.id) ∧ w.cell? ⟨bt, ot + p.k * 9 + 1, none⟩ = some (.string p.t.here) ∧ w.cell? ⟨bt, ot + p.k * 9 + 2, none⟩ = some (.string p.t.on) ∧ w.cell? ⟨bt, ot + p.k * 9 + 3, none⟩ = some (.int .i64 p.t.born) ∧ w.cell? ⟨bt, ot + p.k * 9 + 4, none⟩ = some (.int .i64 p.t.tries) ∧
      w.cell? ⟨bt, ot + p.k * 9 + 5, none⟩ = some (.string p.t.worker) ∧ w.cell? ⟨bt, ot + p.k * 9 + 6, none⟩ = some (.int .i64 p.t.til) ∧ w.cell? ⟨bt, ot + p.k * 9 + 7, none⟩ = some (.int .u8 p.t.inc) ∧ w.cell? ⟨bt, ot + p.k * 9 + 8, none⟩ = some (.int .i64 p.t.err) ∧ b < B ∧ bt < B := by
  obtain ⟨h1, h2, h3, _⟩ := allT_at hp
  obtain ⟨av, cv, at_, ct, r0, _, _, _, r4, _, rT⟩ := h.at h1 (x := atL l p.i) (by rw [atL_eq h1])
  obtain ⟨bt, ot, rfl, hbt⟩ := rT.addr (by omega)
  obtain ⟨t0, t1, t2, t3, t4, t5, t6, t7, t8⟩ := tsR_at rT h2 (x := p.t) (by rw [h3, atL_eq h2])
  obtain ⟨b', o', e, hb⟩ := h.addr (by omega)
  cases e
  exact ⟨bt, ot, _, ct, h2, rT.len, r0, r4, t0, t1, t2, t3, t4, t5, t6, t7, t8, hb, hbt⟩

theorem blocksF_perm : ∀ (f : Nat) (d : List PT) (a : Nat) (n : Nat), n = d.length → (blocksF ltP n f d a).Perm d
  | 0, _, _, _, _ => List.Perm.refl _
  | f + 1, d, a, n, h => by
    by_cases c : a + 20 ≤ n
    · rw [blocks_go c]
      have hp := insE_perm (D := d) (a := a) (b := a + 20) (by omega)
      exact (blocksF_perm f _ _ n (by rw [hp.length_eq, h])).trans hp
    · rw [blocks_end c]
      exact insE_perm (by omega)
theorem mergeF_perm {bs : Nat} (hbs : 0 < bs) : ∀ (f : Nat) (d : List PT) (a : Nat) (n : Nat), n = d.length → (mergeF ltP n bs f d a).Perm d
  | 0, _, _, _, _ => List.Perm.refl _
  | f + 1, d, a, n, h => by
    by_cases c : a + 2 * bs ≤ n
    · rw [merge_go c]
      have hp := perm_symF (2 * bs) d a (a + bs) (a + 2 * bs) (by omega) (by omega) (by omega)
      exact (mergeF_perm hbs f _ _ n (by rw [hp.length_eq, h])).trans hp
    · rw [merge_end c]
      split
      · exact perm_symF _ d a (a + bs) n (by omega) (by omega) (by omega)
      · exact List.Perm.refl _
theorem growF_perm : ∀ (f : Nat) (d : List PT) (bs : Nat) (n : Nat), 0 < bs → n = d.length → (growF' ltP n f d bs).Perm d
  | 0, _, _, _, _, _ => List.Perm.refl _
  | f + 1, d, bs, n, hb, h => by
    by_cases c : bs < n
    · rw [grow_go c]
      have hp := mergeF_perm hb (n + 1) d 0 n h
      exact (growF_perm f _ _ n (by omega) (by rw [hp.length_eq, h])).trans hp
    · rw [grow_end c]
theorem stableE_perm (d : List PT) : (stableE ltP d).Perm d := by
  unfold stableE
  have hp := blocksF_perm (d.length + 1) d 0 d.length rfl
  exact (growF_perm _ _ 20 d.length (by omega) hp.length_eq.symm).trans hp

set_option maxHeartbeats 8000000 in
theorem list_any (w : World) (base : Nat) (v vp : Value) (l : List Ins) (D : List PT) (hI : InsR w w.heap.size v l) (hD : PRow w base vp D) (hok : ∀ p ∈ D, p ∈ allT l) (hl : D.length ≤ 1048576) :
    Calls Try.prog 42 #[v, vp] w fun e w' => ∃ vo, e = .returned vo ∧ JRow w' w.heap.size vo (D.map (jobOf l)) ∧ Below w.heap.size w w' := by
  obtain ⟨i0, hti, hz0, hz1, hz2⟩ := info_parts info_job
  obtain ⟨a, c, rfl⟩ := hI.val
  obtain ⟨ap, cp, rfl⟩ := OwnF.shape hD
  have HI := Lib.hid hI
  have HD := Lib.hid hD
  have HOK := Lib.hid hok
  have hll := hI.len
  clear hD hok
  go_enter Try.func42, Try.ntmps42
  go_wp2_with fail
  go_loopg [5, 11] D.length (fun gh s5 s11 wx => ∃ i : Nat, i + gh = D.length ∧ s11 = .int .i64 (i : Int) ∧ JRow wx w.heap.size s5 ((D.take i).map (jobOf l)) ∧ Below w.heap.size w wx)
  case atStart => exact ⟨0, by omega, rfl, OwnF.nil _ _, Below.refl _ _⟩
  case round =>
    obtain ⟨i, hig, rfl, hO, hB⟩ := hrel
    have hzr := hB.size
    by_cases hi : i < D.length
    · have hDr := HD.out.kept hB
      obtain ⟨gp, rfl, -, -, hgp⟩ := OwnF.some hDr (show 0 < D.length by omega)
      obtain ⟨p, hp⟩ : ∃ p, D[i] = p := ⟨_, rfl⟩
      obtain ⟨d0, d1⟩ := row_at hDr hi (x := p) (by rw [atL_eq hi]; exact hp)
      have hpl : p ∈ allT l := HOK.out p (by rw [← hp]; exact List.getElem_mem _)
      obtain ⟨hpi, -, -, -⟩ := allT_at hpl
      obtain ⟨bl, ol, rfl, -⟩ := HI.out.addr (show 0 < l.length by omega)
      have hOl : ((D.take i).map (jobOf l)).length ≤ 1048576 := by simp; omega
      have htk : Hid ((D.take (i + 1)).map (jobOf l) = (D.take i).map (jobOf l) ++ [jobOf l p]) := Lib.hid (by rw [List.take_add_one, List.getElem?_eq_getElem hi, hp]; simp)
      obtain ⟨O, hOe⟩ : ∃ O, (D.take i).map (jobOf l) = O := ⟨_, rfl⟩
      rw [hOe] at hO hOl htk
      have hB2 := (Below.refl wr.heap.size wr).alloc (Nat.le_refl _) (.cells (placeA p) 72)
      have hn2 := heap_alloc_new wr (.cells (placeA p) 72)
      have hs2 : wr.heap.size < (wr.alloc (.cells (placeA p) 72)).heap.size := by simp
      obtain ⟨W2, hW2⟩ : ∃ W2, wr.alloc (.cells (placeA p) 72) = W2 := ⟨_, rfl⟩
      rw [hW2] at hB2 hn2 hs2
      have hB2w := hB.trans (hB2.mono hzr)
      obtain ⟨bt, ot, n2, ct, k1, k2, q0, q4, t0, t1, t2, t3, t4, t5, t6, t7, t8, hbl, hbt⟩ := (HI.out.mono hB2w (Nat.le_refl _)).placeT hpl
      have z0 : W2.cell? ⟨wr.heap.size, 0, none⟩ = some (.int .i64 (p.i : Int)) := by rw [cell_of_block hn2]; rfl
      have z1 : W2.cell? ⟨wr.heap.size, 1, none⟩ = some (.int .i64 (p.k : Int)) := by rw [cell_of_block hn2]; rfl
      have hO2 := Lib.hid (OwnF.kept hO hB2)
      have i1 : (p.i : Int) < (l.length : Int) := by omega
      have i2 : (p.k : Int) < (n2 : Int) := by omega
      have HB2 := Lib.hid hB2w
      have HN2 := Lib.hid hn2
      have HPL := Lib.hid hpl
      clear hB2 hB2w hn2 hp hOe hDr hO hpl
      go_wp2_with fail
      go_region_held3 (fun w' => w'.cell? ⟨wr.heap.size, 0, none⟩ = some (.int .i64 (p.i : Int)) ∧ w'.cell? ⟨wr.heap.size, 1, none⟩ = some (.int .i64 (p.k : Int)) ∧ w'.cell? ⟨bl, ol + p.i * 5 + 4, none⟩ = some (.slice (some ⟨bt, ot, none⟩) n2 ct) ∧ w'.cell? ⟨bt, ot + p.k * 9, none⟩ = some (.int .i64 p.t.id) ∧ w'.cell? ⟨bt, ot + p.k * 9 + 1, none⟩ = some (.string p.t.here) ∧ w'.cell? ⟨bt, ot + p.k * 9 + 2, none⟩ = some (.string p.t.on) ∧ w'.cell? ⟨bt, ot + p.k * 9 + 3, none⟩ = some (.int .i64 p.t.born) ∧ w'.cell? ⟨bt, ot + p.k * 9 + 4, none⟩ = some (.int .i64 p.t.tries) ∧ w'.cell? ⟨bt, ot + p.k * 9 + 5, none⟩ = some (.string p.t.worker) ∧ w'.cell? ⟨bt, ot + p.k * 9 + 6, none⟩ = some (.int .i64 p.t.til) ∧ w'.cell? ⟨bt, ot + p.k * 9 + 7, none⟩ = some (.int .u8 p.t.inc) ∧ w'.cell? ⟨bt, ot + p.k * 9 + 8, none⟩ = some (.int .i64 p.t.err))
        (go_keep) (fail)
      go_wp2_with fail
      have hB5 : Below W2.heap.size W2 (W2.alloc (.cells (tokA p.t) 41)).drew := ((Below.refl _ _).alloc (Nat.le_refl _) _).drew
      have hn5 : (W2.alloc (.cells (tokA p.t) 41)).drew.heap[W2.heap.size]? = _ := heap_alloc_new W2 (.cells (tokA p.t) 41)
      have hs5 : W2.heap.size < (W2.alloc (.cells (tokA p.t) 41)).drew.heap.size := by simp
      clear z0 z1 q0 q4 t0 t1 t2 t3 t4 t5 t6 t7 t8
      obtain ⟨W5, hW5⟩ : ∃ W5, (W2.alloc (.cells (tokA p.t) 41)).drew = W5 := ⟨_, rfl⟩
      rw [hW5] at hB5 hn5 hs5 ⊢
      clear hW5
      have hB5w := HB2.out.trans (hB5.mono HB2.out.size)
      obtain ⟨bt', ot', n2', ct', -, -, q0, -, -, -, -, -, -, -, -, -, -, -, -⟩ := (HI.out.mono hB5w (Nat.le_refl _)).placeT (show p ∈ allT l from HPL.out)
      have z0 : W5.cell? ⟨wr.heap.size, 0, none⟩ = some (.int .i64 (p.i : Int)) := by rw [cell_of_block ((hB5.block _ hs2).trans HN2.out)]; rfl
      obtain ⟨t0, t1, -, -, t4, t5, t6, t7, -⟩ := tok_cells hn5
      have HO5 := Lib.hid (OwnF.kept hO2.out hB5)
      have HB5 := Lib.hid hB5w
      have hz5 : w.heap.size ≤ W5.heap.size := hB5w.size
      have hpl5 := (hB5.block _ hs2).trans HN2.out
      have hkeepF : ∀ (W' w' : World), Below W5.heap.size W5 W' → W'.grownBy w' u5.ownBlock → w'.cell? ⟨wr.heap.size, 0, none⟩ = some (.int .i64 (p.i : Int)) ∧ w'.cell? ⟨bl, ol + p.i * 5, none⟩ = some (.int .i64 (atL l p.i).id) ∧ w'.cell? ⟨W2.heap.size, 0, none⟩ = some (.int .i64 p.t.id) ∧ w'.cell? ⟨W2.heap.size, 1, none⟩ = some (.string p.t.here) ∧ w'.cell? ⟨W2.heap.size, 4, none⟩ = some (.int .i64 p.t.tries) ∧ w'.cell? ⟨W2.heap.size, 5, none⟩ = some (.string p.t.worker) ∧ w'.cell? ⟨W2.heap.size, 6, none⟩ = some (.int .i64 p.t.til) ∧ w'.cell? ⟨W2.heap.size, 7, none⟩ = some (.int .u8 p.t.inc) := by
        intro W' w' hb hg
        have e1 : w'.heap[wr.heap.size]? = _ := ((hg.block _ (Nat.lt_of_lt_of_le (lt_of_block hpl5) hb.size) (Ne.symm (own_blkJ HO5.out hpl5 (by decide)))).trans (hb.block _ (lt_of_block hpl5))).trans hpl5
        have e2 : w'.heap[W2.heap.size]? = _ := ((hg.block _ (Nat.lt_of_lt_of_le (lt_of_block hn5) hb.size) (Ne.symm (own_blkJ HO5.out hn5 (by decide)))).trans (hb.block _ (lt_of_block hn5))).trans hn5
        have e3 : w'.cell? ⟨bl, ol + p.i * 5, none⟩ = some (.int .i64 (atL l p.i).id) := by
          have hbl5 : bl < W5.heap.size := by omega
          have hh : w'.heap[bl]? = W5.heap[bl]? := (hg.block _ (Nat.lt_of_lt_of_le hbl5 hb.size) (fun e => by have := jrow_ge HO5.out bl e.symm; omega)).trans (hb.block _ hbl5)
          have := q0
          unfold World.cell? at this ⊢
          rw [hh]; exact this
        obtain ⟨t0, t1, -, -, t4, t5, t6, t7, -⟩ := tok_cells e2
        exact ⟨by rw [cell_of_block e1]; rfl, e3, t0, t1, t4, t5, t6, t7⟩
      have HKF := Lib.hid hkeepF
      clear hB5 hB5w hn5 hkeepF hpl5
      go_region_held3 (fun w' => w'.cell? ⟨wr.heap.size, 0, none⟩ = some (.int .i64 (p.i : Int)) ∧ w'.cell? ⟨bl, ol + p.i * 5, none⟩ = some (.int .i64 (atL l p.i).id) ∧ w'.cell? ⟨W2.heap.size, 0, none⟩ = some (.int .i64 p.t.id) ∧ w'.cell? ⟨W2.heap.size, 1, none⟩ = some (.string p.t.here) ∧ w'.cell? ⟨W2.heap.size, 4, none⟩ = some (.int .i64 p.t.tries) ∧ w'.cell? ⟨W2.heap.size, 5, none⟩ = some (.string p.t.worker) ∧ w'.cell? ⟨W2.heap.size, 6, none⟩ = some (.int .i64 p.t.til) ∧ w'.cell? ⟨W2.heap.size, 7, none⟩ = some (.int .u8 p.t.inc))
        (first | go_keep | exact hkeep)
        (first | (refine step_append_own _ (by rfl) (.tmp 25) (.tmp 45) 49 (by rfl) w.heap.size 57 i0 _ 7 72 Try.underlying49 hti hz0 hz1 hz2 rfl (by decide) _ O.length (cellsF cellJ O) (by rfl) (by first | exact OwnF.kept HO5.out (((Below.refl _ _).drew).alloc (Nat.le_refl _) _) | exact OwnF.kept HO5.out (((Below.refl _ _).alloc (Nat.le_refl _) _).drew)) _ 1 1 (cellJ (jobOf l p)) (by rfl) rfl (cells_new _ _ _) (cellJ_one _) (by unfold maxLen; omega) (by omega) (by simp; omega) ?_; intro v6 w6 hown6 hg6 hat6; have hBf : Below w.heap.size w w6 := (by first | exact (HB5.out.trans ((((Below.refl W5.heap.size W5).drew).alloc (Nat.le_refl _) _).mono hz5)).grown hg6 (by simp; omega) (jrow_ge HO5.out) | exact (HB5.out.trans ((((Below.refl W5.heap.size W5).alloc (Nat.le_refl _) _).drew).mono hz5)).grown hg6 (by simp; omega) (jrow_ge HO5.out)); have hkeep := (by first | exact HKF.out _ _ (((Below.refl _ _).drew).alloc (Nat.le_refl _) _) hg6 | exact HKF.out _ _ (((Below.refl _ _).alloc (Nat.le_refl _) _).drew) hg6 : w6.cell? ⟨wr.heap.size, 0, none⟩ = some (.int .i64 (p.i : Int)) ∧ w6.cell? ⟨bl, ol + p.i * 5, none⟩ = some (.int .i64 (atL l p.i).id) ∧ w6.cell? ⟨W2.heap.size, 0, none⟩ = some (.int .i64 p.t.id) ∧ w6.cell? ⟨W2.heap.size, 1, none⟩ = some (.string p.t.here) ∧ w6.cell? ⟨W2.heap.size, 4, none⟩ = some (.int .i64 p.t.tries) ∧ w6.cell? ⟨W2.heap.size, 5, none⟩ = some (.string p.t.worker) ∧ w6.cell? ⟨W2.heap.size, 6, none⟩ = some (.int .i64 p.t.til) ∧ w6.cell? ⟨W2.heap.size, 7, none⟩ = some (.int .u8 p.t.inc))))
      have hO6 := jrow_push hown6
      rw [← htk.out] at hO6
      have HO6 := Lib.hid (And.intro hO6 hBf)
      clear hO6 hown6 hg6 hat6 hBf hkeep
      go_wp2_with fail
      go_roundg (D.length - (i + 1))
      case measure => omega
      case rel => exact ⟨i + 1, by omega, by go_num, HO6.out.1, HO6.out.2⟩
    · have hk : ¬ ((i : Int) < (D.length : Int)) := by omega
      rw [List.take_of_length_le (by omega)] at hO
      go_wp2_with fail
      go_ret
      exact ⟨_, rfl, hO, hB⟩

theorem jrow_col {w : World} {base : Nat} {v : Value} {A : List Jb} (h : JRow w base v A) : ∃ a cap, v = .slice a A.length cap ∧ ColF cellJ 7 w w.heap.size a A := by
  obtain ⟨a, cap, rfl⟩ := OwnF.shape h
  exact ⟨a, cap, rfl, OwnF.col cellJ_len h (Nat.le_refl _)⟩

/-- The jobs of which something is so, by their tokens' numbers. -/
def jobsP (q : Tok → Bool) (l : List Ins) : List Jb := (stableE ltP (someL q (allT l))).map (jobOf l)
theorem stable_mem (l : List Ins) (q : Tok → Bool) : (∀ p ∈ stableE ltP (someL q (allT l)), p ∈ allT l) ∧ (stableE ltP (someL q (allT l))).length ≤ (allT l).length := by
  have hp := stableE_perm (someL q (allT l))
  exact ⟨fun p h => (List.mem_filter.1 (hp.subset h)).1, by rw [hp.length_eq]; exact List.length_filter_le _ _⟩

set_option maxHeartbeats 2000000 in
theorem jlist_any (w : World) (v : Value) (l : List Ins) (hI : InsR w w.heap.size v l) (hl : (allT l).length ≤ 1048576) :
    Calls Try.prog 16 #[v] w fun e w' => ∃ vo, e = .returned vo ∧ JRow w' w.heap.size vo (jobsP isB l) ∧ Below w.heap.size w w' := by
  obtain ⟨m1, m2⟩ := stable_mem l isB
  have S1 := Lib.hid (some_any w v l 22 #[] isB (enters_of Try.func22 (by kernel_rfl) rfl) (fun W t _ => is_any W t) hI hl)
  have HI := Lib.hid hI
  have M1 := Lib.hid m1
  obtain ⟨a, c, rfl⟩ := hI.val
  clear hI m1
  go_enter Try.func16, Try.ntmps16
  go_wp2_with (go_at_call 35; refine S1.out.mono ?_; rintro e w1 ⟨vp, rfl, hP, hb1⟩; refine Hid.out ?_)
  refine Lib.hid ?_
  have S2 := Lib.hid (list_any w1 _ _ vp l _ ((HI.out.mono hb1 (Nat.le_refl _)).mono (Below.refl _ _) hb1.size) hP M1.out (by omega))
  go_wp2_with (go_at_call 42; refine S2.out.mono ?_; rintro e w2 ⟨vo, rfl, hO, hb2⟩; refine Hid.out ?_)
  refine Lib.hid ?_
  go_wp2_with fail
  go_ret
  exact ⟨_, rfl, OwnF.lower hO hb1.size, hb1.trans (hb2.mono hb1.size)⟩

set_option maxHeartbeats 2000000 in
theorem jfree_any (w : World) (v : Value) (l : List Ins) (clock : Int) (hI : InsR w w.heap.size v l) (hl : (allT l).length ≤ 1048576) :
    Calls Try.prog 19 #[v, .int .i64 clock] w fun e w' => ∃ vo, e = .returned vo ∧ JRow w' w.heap.size vo (jobsP (freeB clock) l) ∧ Below w.heap.size w w' := by
  obtain ⟨m1, m2⟩ := stable_mem l (freeB clock)
  have hb0 := (Below.refl w.heap.size w).alloc (Nat.le_refl _) (.cells #[.int .i64 clock] 3)
  have hn0 := heap_alloc_new w (.cells #[.int .i64 clock] 3)
  have hs0 : w.heap.size < (w.alloc (.cells #[.int .i64 clock] 3)).heap.size := by simp
  obtain ⟨w0, hw0⟩ : ∃ w0, w.alloc (.cells #[.int .i64 clock] 3) = w0 := ⟨_, rfl⟩
  rw [hw0] at hb0 hn0 hs0
  have c0 : w0.cell? ⟨w.heap.size, 0, none⟩ = some (.int .i64 clock) := by rw [cell_of_block hn0]; rfl
  have HI := Lib.hid ((hI.mono hb0 (Nat.le_refl _)).mono (Below.refl _ _) hb0.size)
  have S1 := Lib.hid (some_any w0 v l 43 #[.pointer (some ⟨w.heap.size, 0, none⟩)] (freeB clock) (enters_of Try.func43 (by kernel_rfl) rfl) (fun W t hb => free1_any W t w.heap.size clock ((Below.cellB hb hs0).trans c0) (Nat.lt_of_lt_of_le hs0 hb.size)) HI.out hl)
  have M1 := Lib.hid m1
  have HB0 := Lib.hid hb0
  obtain ⟨a, c, rfl⟩ := hI.val
  clear hI m1 c0 hn0 hb0
  go_enter Try.func19, Try.ntmps19
  go_wp2_with (go_at_call 35; refine S1.out.mono ?_; rintro e w1 ⟨vp, rfl, hP, hb1⟩; refine Hid.out ?_)
  refine Lib.hid ?_
  have S2 := Lib.hid (list_any w1 _ _ vp l _ ((HI.out.mono hb1 (Nat.le_refl _)).mono (Below.refl _ _) hb1.size) hP M1.out (by omega))
  go_wp2_with (go_at_call 42; refine S2.out.mono ?_; rintro e w2 ⟨vo, rfl, hO, hb2⟩; refine Hid.out ?_)
  refine Lib.hid ?_
  go_wp2_with fail
  go_ret
  have hz := HB0.out.size
  have hz1 := hb1.size
  exact ⟨_, rfl, OwnF.lower hO (by omega), HB0.out.trans ((hb1.trans (hb2.mono hb1.size)).mono hz)⟩

end Go.Proofs.Ytggnheekkbideaa
