/- job.twins and the document's Twin: instances in new memory. -/
import Derived.Test.YtggnheekkbideaaJobTwin
import Derived.Test.YtggnheekkbideaaJobTokP
set_option maxRecDepth 100000
namespace Go.Proofs.Ytggnheekkbideaa
open Go.RowKit

theorem pb_ne {a b c : Nat} (h1 : a < b) (h2 : b ≤ c) : some a ≠ some c := by
  intro e; injection e with e; omega
theorem map_take_snoc {l : List Ins} {R : List Ih} {i : Nat} (hi : i < l.length) (hR : R.map (·.x) = l.take i) {h : Ih} (hx : l[i] = h.x) : (R ++ [h]).map (·.x) = l.take (i + 1) := by
  rw [List.map_append, hR, List.take_succ_eq_append_getElem hi, hx]
  rfl
theorem rowI_push {w : World} {lo : Nat} {v : Value} {R : List Ih} {x : Ih} (h : w.ownsRow lo 45 5 v (R.length + 1) (cellsF cellI R ++ cellI x)) : RowI w lo v (R ++ [x]) := by
  unfold RowI OwnF
  rw [List.length_append, List.length_singleton, cellsF_app]
  exact h
theorem rowI_ge {w : World} {lo : Nat} {v : Value} {R : List Ih} (h : RowI w lo v R) : ∀ k, v.ownBlock = some k → lo ≤ k := fun k hk => (OwnF.lt h k hk).1
theorem own_box {α : Type} {f : α → List Value} {k : Nat} {e t : TypeId} {w : World} {base p : Nat} {v : Value} {A : List α} {c : Array Value} {fr : Nat × Nat} (h : OwnF f e k w base v A) (hp : w.heap[p]? = some (.cells c t fr)) (ht : t ≠ e) : v.ownBlock ≠ some p := by
  rcases h.2 with ⟨rfl, _⟩ | ⟨g, cap, cur, rfl, _, hg, _⟩
  · simp [Value.ownBlock]
  · have := type_ne hg hp (Ne.symm ht)
    simpa [Value.ownBlock] using this

/-- A new block, all by letters. -/
theorem alloc_named (w : World) (o : Obj) {p : Nat} (hp : w.heap.size = p) : ∃ w1 p1, w.alloc o = w1 ∧ w1.heap.size = p1 ∧ p1 = p + 1 ∧ Below p w w1 ∧ w1.heap[p]? = some o :=
  ⟨_, _, rfl, World.size_alloc _ _, by rw [hp], (Below.refl p w).alloc (by omega) o, by rw [← hp]; exact heap_alloc_new w o⟩
theorem grown_named {w w' : World} {p _q b : Nat} {r : Option Nat} (hg : w.grownBy w' r) (hb : Below b w w) (hp : w.heap.size = p) (hr : ∀ k, r = some k → b ≤ k) (hbp : b ≤ p) : ∃ p1, w'.heap.size = p1 ∧ p ≤ p1 ∧ Below b w w' :=
  ⟨_, rfl, by rw [← hp]; exact hg.size, hb.grown hg (by omega) hr⟩

theorem tw_vars {wo w2 w3 : World} {p0 p1 p2 n : Nat} {a0 a1 a2 a3 a4 v3 : Value} {l : List Bnd} (hn : w2.heap[p0]? = some (.cells #[a0, a1, a2, a3, a4] 45)) (hb : Below p0 wo w2) (hp : w2.heap.size = p2) (h01 : p0 < p1) (h12 : p1 < p2)
    (hown : w3.ownsRow p1 85 5 v3 (0 + n) ([] ++ cellsF cellB l)) (hl : l.length = n) (hg : w2.grownBy w3 (some p1)) :
    ∃ av cv w4 p4, v3 = .slice av n cv ∧ w3.cell? ⟨p0, 3, none⟩ = some a3 ∧ w3.frozen? ⟨p0, 3, none⟩ = false ∧ w3.setCell ⟨p0, 3, none⟩ (.slice av n cv) = w4 ∧ w4.heap.size = p4 ∧ p2 ≤ p4 ∧ Hid (w4.heap[p0]? = some (.cells #[a0, a1, a2, .slice av n cv, a4] 45)) ∧ Hid (RowB w4 p1 (.slice av n cv) l) ∧ Hid (Below p0 wo w4) ∧ Hid (∀ g, p0 < g → g < p1 → w4.heap[g]? = w2.heap[g]?) := by
  have hrow := ownB_of hown hl
  obtain ⟨av, cv, e⟩ := OwnF.shape hrow
  rw [hl] at e
  subst e
  have h3 : w3.heap[p0]? = _ := (hg.block p0 (by omega) (fun e => by injection e with e; omega)).trans hn
  have hsz : p2 ≤ w3.heap.size := by rw [← hp]; exact hg.size
  refine ⟨av, cv, _, _, rfl, by rw [cell_of_block h3]; rfl, free_of_block h3 _, rfl, rfl, by rw [World.size_setCell]; exact hsz, Lib.hid (by rw [heap_setCell_self _ h3]; rfl), Lib.hid (hrow.keepB fun g hgg => heap_setCell_other w3 _ g _ (fun e => by
    have h1 := (OwnF.lt hrow g hgg).1
    simp only at e
    omega)), Lib.hid ?_, Lib.hid (fun g h1 h2 => (heap_setCell_other w3 _ g _ (by simp only; omega)).trans (hg.block g (by omega) (fun e => by injection e with e; omega)))⟩
  exact (hb.grown hg (by omega) (fun k hk => by injection hk with hk; omega)).setCell (p := ⟨p0, 3, none⟩) (Nat.le_refl _) _
theorem tw_toks {wo w2 w3 : World} {p0 p1 p2 n : Nat} {a0 a1 a2 a3 a4 v3 : Value} {l : List Tok} (hn : w2.heap[p0]? = some (.cells #[a0, a1, a2, a3, a4] 45)) (hb : Below p0 wo w2) (hp : w2.heap.size = p2) (h01 : p0 < p1) (h12 : p1 < p2)
    (hown : w3.ownsRow p1 41 9 v3 (0 + n) ([] ++ cellsF cellT l)) (hl : l.length = n) (hg : w2.grownBy w3 (some p1)) :
    ∃ av cv w4 p4, v3 = .slice av n cv ∧ w3.cell? ⟨p0, 4, none⟩ = some a4 ∧ w3.frozen? ⟨p0, 4, none⟩ = false ∧ w3.setCell ⟨p0, 4, none⟩ (.slice av n cv) = w4 ∧ w4.heap.size = p4 ∧ p2 ≤ p4 ∧ Hid (w4.heap[p0]? = some (.cells #[a0, a1, a2, a3, .slice av n cv] 45)) ∧ Hid (RowT w4 p1 (.slice av n cv) l) ∧ Hid (Below p0 wo w4) ∧ Hid (∀ g, p0 < g → g < p1 → w4.heap[g]? = w2.heap[g]?) := by
  have hrow := ownT_of hown hl
  obtain ⟨av, cv, e⟩ := OwnF.shape hrow
  rw [hl] at e
  subst e
  have h3 : w3.heap[p0]? = _ := (hg.block p0 (by omega) (fun e => by injection e with e; omega)).trans hn
  have hsz : p2 ≤ w3.heap.size := by rw [← hp]; exact hg.size
  refine ⟨av, cv, _, _, rfl, by rw [cell_of_block h3]; rfl, free_of_block h3 _, rfl, rfl, by rw [World.size_setCell]; exact hsz, Lib.hid (by rw [heap_setCell_self _ h3]; rfl), Lib.hid (hrow.keepB fun g hgg => heap_setCell_other w3 _ g _ (fun e => by
    have h1 := (OwnF.lt hrow g hgg).1
    simp only at e
    omega)), Lib.hid ?_, Lib.hid (fun g h1 h2 => (heap_setCell_other w3 _ g _ (by simp only; omega)).trans (hg.block g (by omega) (fun e => by injection e with e; omega)))⟩
  exact (hb.grown hg (by omega) (fun k hk => by injection hk with hk; omega)).setCell (p := ⟨p0, 4, none⟩) (Nat.le_refl _) _

theorem tw_box {wo w5 w7 : World} {p0 p1 p4 p5 p7 : Nat} {x : Ih} (hp7 : w7.heap.size = p7) (l45 : p4 < p5) (l7 : p5 ≤ p7) (l14 : p1 < p4) (HB7 : Hid (Below p0 wo w7)) (HK7 : Hid (∀ g, p0 < g → g < p4 → w7.heap[g]? = w5.heap[g]?)) (HL5 : Hid (∀ g, (vvI x).ownBlock = some g → g < p4))
    (HR5 : Hid (RowB w5 p1 (vvI x) x.x.vars)) (HR7 : Hid (RowT w7 p4 (tvI x) x.x.toks)) (l1 : p0 < p1) :
    ∃ w8 p8, w7.alloc (.cells #[.int .i64 x.x.id, .string x.x.model, .int .u8 x.x.state, vvI x, tvI x] 45) = w8 ∧ w8.heap.size = p8 ∧ p7 < p8 ∧ Hid (∀ j u, (cellI x)[j]? = some u → w8.cell? ((⟨p7, 0, none⟩ : Addr).add j) = some u) ∧ Hid (Below p0 wo w8) ∧ Hid (RowB w8 p0 (vvI x) x.x.vars) ∧ Hid (RowT w8 p0 (tvI x) x.x.toks) := by
  obtain ⟨w8, p8, hw8, hp8, ep8, hb8, -⟩ := alloc_named w7 (.cells #[.int .i64 x.x.id, .string x.x.model, .int .u8 x.x.state, vvI x, tvI x] 45) hp7
  refine ⟨w8, p8, hw8, hp8, by omega, Lib.hid ?_, Lib.hid (HB7.out.trans (hb8.mono (by omega))), Lib.hid (OwnF.lower (HR5.out.keepB fun g hg => ?_) (by omega)), Lib.hid (OwnF.lower (HR7.out.keepB fun g hg => ?_) (by omega))⟩
  · have := cells_new w7 #[.int .i64 x.x.id, .string x.x.model, .int .u8 x.x.state, vvI x, tvI x] 45
    rw [hw8, hp7] at this
    exact this
  · have h1 := HL5.out g hg
    have h2 := (OwnF.lt HR5.out g hg).1
    exact (hb8.block g (by omega)).trans (HK7.out g (by omega) h1)
  · exact hb8.block g (by rw [← hp7]; exact (OwnF.lt HR7.out g hg).2)
theorem tw_end {w wo w8 w9 : World} {lo p0 : Nat} {x : Ih} {v v9 : Value} {R : List Ih} (h : InsO w8 lo v R) (hO : InsO wo lo v R) (hp0 : wo.heap.size = p0) (hv : RowB w8 p0 (vvI x) x.x.vars) (ht : RowT w8 p0 (tvI x) x.x.toks)
    (hown : w9.ownsRow lo 45 5 v9 (R.length + 1) (cellsF cellI R ++ cellI x)) (hg : w8.grownBy w9 v.ownBlock) (hz : lo ≤ p0) (hB : Below lo w w8) (hz8 : lo ≤ w8.heap.size) : InsO w9 lo v9 (R ++ [x]) ∧ Below lo w w9 := by
  refine ⟨⟨rowI_push hown, OwnH.snoc (OwnH.grownT h.own h.row (by decide) (by decide) hg) (OwnF.lower (OwnF.grownT hv h.row (by decide) hg) hz) (OwnF.lower (OwnF.grownT ht h.row (by decide) hg) hz) (fun y hy g h1 h2 => ?_)⟩, hB.grown hg hz8 (fun k hk => (OwnF.lt h.row k hk).1)⟩
  have a := (OwnF.lt (hO.own.toks y hy) g h1).2
  have b := (OwnF.lt ht g h2).1
  omega

set_option maxHeartbeats 8000000 in
theorem rtwin_any (w : World) (v : Value) (l : List Ins) (hI : InsR w w.heap.size v l) (hS : SmL l) :
    Calls Try.prog 11 #[v] w fun e w' => ∃ vo R, e = .returned vo ∧ InsO w' w.heap.size vo R ∧ R.map (·.x) = l ∧ Below w.heap.size w w' := by
  obtain ⟨i0, hti, hz0, hz1, hz2⟩ := info_parts (show (Try.prog.info? 45).map (fun i => (i.zero, i.size, i.bytes)) = some (some (.agg #[.int .i64 0, .string default, .int .u8 0, .slice none 0 0, .slice none 0 0]), 5, 80) by kernel_rfl)
  obtain ⟨i1, htj, hy0, hy1, hy2⟩ := info_parts (show (Try.prog.info? 41).map (fun i => (i.zero, i.size, i.bytes)) = some (some (.agg #[.int .i64 0, .string default, .string default, .int .i64 0, .int .i64 0, .string default, .int .i64 0, .int .u8 0, .int .i64 0]), 9, 96) by kernel_rfl)
  obtain ⟨i2, htk, hx0, hx1, hx2⟩ := info_parts (show (Try.prog.info? 85).map (fun i => (i.zero, i.size, i.bytes)) = some (some (.agg #[.string default, .int .u8 0, .int .i64 0, .bool false, .string default]), 5, 56) by kernel_rfl)
  obtain ⟨a, c, rfl⟩ := hI.val
  have HI := Lib.hid hI
  have hll := hI.len
  have HS := Lib.hid hS
  have hS1 := hS.1
  clear hI hS
  go_enter Try.func11, Try.ntmps11
  go_wp2_with fail
  go_loopg [3, 4] l.length (fun gh s3 s4 wx => ∃ i : Nat, i + gh = l.length ∧ s4 = .int .i64 (i : Int) ∧ ∃ R, InsO wx w.heap.size s3 R ∧ Hid (R.map (·.x) = l.take i) ∧ Below w.heap.size w wx)
  case atStart => exact ⟨0, by omega, rfl, [], ⟨OwnF.nil _ _, OwnH.nil⟩, Lib.hid (by simp), Below.refl _ _⟩
  case round =>
    obtain ⟨i, hig, rfl, R, hO, hR, hB⟩ := hrel
    obtain ⟨wo, rfl⟩ : ∃ wo : World, wo = wr := ⟨_, rfl⟩
    have HB := Lib.hid hB
    have HO := Lib.hid hO
    by_cases hi : i < l.length
    · have hIr := HI.out.mono hB (Nat.le_refl _)
      have hzB := hB.size
      obtain ⟨b, o, rfl, hb⟩ := hIr.addr (by omega)
      obtain ⟨x, hx⟩ : ∃ x, l[i] = x := ⟨_, rfl⟩
      obtain ⟨av, cv, at_, ct, q0, q1, q2, q3, q4, qV, qT⟩ := hIr.at hi hx
      have hRl : R.length ≤ i := by have := congrArg List.length hR.out; simp [Nat.min_eq_left (Nat.le_of_lt hi)] at this; omega
      have hxm : x ∈ l := by rw [← hx]; exact List.getElem_mem _
      obtain ⟨hS2, hS3⟩ := HS.out.2 x hxm
      have HX := Lib.hid hx
      obtain ⟨p0, hp0⟩ : ∃ p0, wo.heap.size = p0 := ⟨_, rfl⟩
      have hz0' : w.heap.size ≤ p0 := by omega
      -- the instance's box, an empty row
      obtain ⟨w1, p1, hw1, hp1, ep1, hb1, hn1⟩ := alloc_named wo (.cells #[.int .i64 x.id, .string x.model, .int .u8 x.state, .slice av x.vars.length cv, .slice at_ x.toks.length ct] 45) hp0
      obtain ⟨w2, p2, hw2, hp2, ep2, hb2, -⟩ := alloc_named w1 (.cells #[] 85) hp1
      have l1 : p0 < p1 := by omega
      have l2 : p1 < p2 := by omega
      clear ep1 ep2
      have HN2 := Lib.hid ((hb2.block p0 (by omega)).trans hn1)
      have ho2 : (w1.alloc (.cells #[] 85)).ownsRow p1 85 5 (.slice (some ⟨w1.heap.size, 0, none⟩) 0 0) 0 [] := World.ownsRow_made w1 #[] 0 (by omega) (by simp) (by simp)
      rw [hw2, hp1] at ho2
      have HO2 := Lib.hid ho2
      have HB2 := Lib.hid (hb1.trans (hb2.mono (by omega)))
      have HQV := Lib.hid (qV.mono (HB2.out.mono (by omega)) (Nat.le_refl _))
      have HQT := Lib.hid qT
      have n3 : w2.cell? ⟨p0, 3, none⟩ = some (.slice av x.vars.length cv) := by rw [cell_of_block HN2.out]; rfl
      clear hn1 ho2 qV qT hx hIr hB hO hb1 hb2
      have arm1 : ∀ (v3 : Value) (w3 : World), w3.ownsRow p1 85 5 v3 (0 + x.vars.length) ([] ++ cellsF cellB x.vars) → w2.grownBy w3 (some p1) → ∃ av4 cv4 w4 p4 w5 p5, v3 = .slice av4 x.vars.length cv4 ∧ w3.cell? ⟨p0, 3, none⟩ = some (.slice av x.vars.length cv) ∧ w3.frozen? ⟨p0, 3, none⟩ = false ∧ w3.setCell ⟨p0, 3, none⟩ (.slice av4 x.vars.length cv4) = w4 ∧
          w4.heap.size = p4 ∧ w4.alloc (.cells #[] 41) = w5 ∧ w5.heap.size = p5 ∧ p1 < p4 ∧ p4 < p5 ∧ w5.cell? ⟨p0, 4, none⟩ = some (.slice at_ x.toks.length ct) ∧ Hid (w5.heap[p0]? = some (.cells #[.int .i64 x.id, .string x.model, .int .u8 x.state, .slice av4 x.vars.length cv4, .slice at_ x.toks.length ct] 45)) ∧
          Hid (RowB w5 p1 (.slice av4 x.vars.length cv4) x.vars) ∧ Hid (∀ g, (Value.slice av4 x.vars.length cv4).ownBlock = some g → g < p4) ∧ Hid (Below p0 wo w5) ∧ Hid (w5.ownsRow p4 41 9 (.slice (some ⟨p4, 0, none⟩) 0 0) 0 []) ∧ Hid (TsR w5 w.heap.size (.slice at_ x.toks.length ct) x.toks) := by
        intro v3 w3 hown3 hg3
        obtain ⟨av4, cv4, w4, p4, rfl, e3, f3, hw4, hp4, l4, HN4, HR4, HB4, -⟩ := tw_vars HN2.out HB2.out hp2 l1 l2 hown3 rfl hg3
        obtain ⟨w5, p5, hw5, hp5, ep5, hb5, -⟩ := alloc_named w4 (.cells #[] 41) hp4
        have HN5 := (hb5.block p0 (by omega)).trans HN4.out
        have hB5 := HB4.out.trans (hb5.mono (by omega))
        have ho5 : (w4.alloc (.cells #[] 41)).ownsRow p4 41 9 (.slice (some ⟨w4.heap.size, 0, none⟩) 0 0) 0 [] := World.ownsRow_made w4 #[] 0 (by omega) (by simp) (by simp)
        rw [hw5, hp4] at ho5
        exact ⟨av4, cv4, w4, p4, w5, p5, rfl, e3, f3, hw4, hp4, hw5, hp5, by omega, by omega, (cell_of_block HN5 4).trans rfl, Lib.hid HN5, Lib.hid (HR4.out.keepB fun g hg => hb5.block g (by rw [← hp4]; exact (OwnF.lt HR4.out g hg).2)), Lib.hid (fun g hg => by rw [← hp4]; exact (OwnF.lt HR4.out g hg).2), Lib.hid hB5, Lib.hid ho5, Lib.hid (HQT.out.mono (hB5.mono hz0') (Nat.le_refl _))⟩
      have HA1 := Lib.hid arm1
      clear arm1
      go_wp2_with (first
        | (at_builtin; refine wpList_append_slF _ rfl (.tmp 16) (.tmp 18) 42 rfl cellB_len cellB_one p1 85 i2 _ 56 Try.underlying42 htk hx0 hx1 hx2 rfl (by decide) _ 0 [] rfl HO2.out rfl HQV.out (by unfold maxLen; omega) (by omega) (by omega) ?_; intro v3 w3 hown3 hg3 _; obtain ⟨av4, cv4, w4, p4, w5, p5, rfl, e3, f3, hw4, hp4, hw5, hp5, l14, l45, n4, HN5, HR5, HL5, HB5, HO5, HT5⟩ := HA1.out v3 w3 hown3 hg3; clear hown3 hg3)
        | (at_builtin; refine wpList_append_slF _ rfl (.tmp 21) (.tmp 23) 43 rfl cellT_len cellT_one p4 41 i1 _ 96 Try.underlying43 htj hy0 hy1 hy2 rfl (by decide) _ 0 [] rfl HO5.out rfl HT5.out (by unfold maxLen; omega) (by omega) (by omega) ?_; intro v6 w6 hown6 hg6 _; obtain ⟨av7, cv7, w7, p7, rfl, e6, f6, hw7, hp7, l7, HN7, HR7, HB7, HK7⟩ := tw_toks HN5.out HB5.out hp5 (Nat.lt_trans l1 l14) l45 hown6 rfl hg6; clear hown6 hg6; have m0 : w7.cell? ⟨p0, 0, none⟩ = _ := (cell_of_block HN7.out 0).trans rfl; have m1 : w7.cell? ⟨p0, 1, none⟩ = _ := (cell_of_block HN7.out 1).trans rfl; have m2 : w7.cell? ⟨p0, 2, none⟩ = _ := (cell_of_block HN7.out 2).trans rfl; have m3 : w7.cell? ⟨p0, 3, none⟩ = _ := (cell_of_block HN7.out 3).trans rfl; have m4 : w7.cell? ⟨p0, 4, none⟩ = _ := (cell_of_block HN7.out 4).trans rfl; obtain ⟨w8, p8, hw8, hp8, l78, HC8, HB8, HR8, HT8⟩ := tw_box (x := ⟨x, av4, cv4, av7, cv7⟩) hp7 l45 l7 l14 HB7 HK7 HL5 HR5 HR7 l1; have HO8 := Lib.hid (HO.out.kept (by rw [hp0]; exact HB8.out)))
        | (at_builtin; refine wpList_append_own_at _ rfl (.tmp 26) (.tmp 28) 22 rfl w.heap.size 45 i0 _ 5 80 Try.underlying22 hti hz0 hz1 hz2 rfl (by decide) _ R.length (cellsF cellI R) rfl HO8.out.row ⟨p7, 0, none⟩ 1 1 (cellI ⟨x, av4, cv4, av7, cv7⟩) rfl rfl HC8.out (cellI_one _) (by unfold maxLen; omega) (by omega) (by omega) ?_; intro v9 w9 hown9 hg9 _ _))
      have HF := Lib.hid (tw_end (x := ⟨x, av4, cv4, av7, cv7⟩) HO8.out HO.out hp0 HR8.out HT8.out hown9 hg9 hz0' (HB.out.trans (HB8.out.mono hz0')) (by omega))
      have hR2 : Hid ((R ++ [(⟨x, av4, cv4, av7, cv7⟩ : Ih)]).map (·.x) = l.take (i + 1)) := Lib.hid (map_take_snoc (h := ⟨x, av4, cv4, av7, cv7⟩) hi hR.out HX.out)
      clear hown9 hg9
      go_wp2_with fail
      go_roundg (l.length - (i + 1))
      case measure => omega
      case rel => exact ⟨i + 1, by omega, by go_num, _, HF.out.1, hR2, HF.out.2⟩
    · have e : i = l.length := by omega
      subst e
      clear hO hB
      go_wp2_with fail
      go_ret
      exact ⟨_, R, rfl, HO.out, by rw [hR.out, List.take_length], HB.out⟩

end Go.Proofs.Ytggnheekkbideaa
