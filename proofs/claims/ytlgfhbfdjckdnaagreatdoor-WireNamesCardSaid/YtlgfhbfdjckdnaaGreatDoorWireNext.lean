/- (*wire.Reader).next (seat wire). -/
import Derived.Test.YtlgfhbfdjckdnaaGreatDoorWireRd
import Derived.Lib.SlBytesConst
set_option maxRecDepth 100000
namespace Go.Proofs.YtlgfhbfdjckdnaaGreatDoor
open Go.RowKit

theorem refused_lit (w : World) (q p : Nat) (v : Value) (cl : Bool) (hq : w.cell? ⟨q, 0, none⟩ = some (.pointer (some ⟨p, 0, none⟩))) (hqp : q ≠ p) (hql : q < w.heap.size) (hp : w.heap[p]? = some (.cells #[v, .bool cl] 55)) (st : Int) :
    Calls Tryz.prog 33 #[.int .i64 st, .pointer (some ⟨q, 0, none⟩)] w fun e w' => e = .returned (.tuple #[.agg #[.string ⟨#[]⟩, .string ⟨#[]⟩, .string ⟨#[]⟩, .string ⟨#[]⟩, .int .i64 st], .bool true]) ∧ w'.heap[p]? = some (.cells #[.slice none 0 0, .bool true] 55) ∧ Frm [some p] w w' := refused_any w q p v cl hq hqp hql hp st
theorem lengthS_le (v : List UInt8) : (lengthS v).2 ≤ 65536 := by
  unfold lengthS
  split
  · exact Nat.zero_le _
  · split
    · exact Nat.zero_le _
    · show valD v ≤ 65536
      omega
theorem lineS_size (h : HS) (l : List UInt8) (hh : h.size ≤ 65536) : (lineS h l).2.size ≤ 65536 := by
  unfold lineS
  split
  · exact hh
  · unfold lineK
    split
    · exact hh
    · split
      · exact lengthS_le _
      · split
        · split
          · exact hh
          · exact hh
        · split
          · exact hh
          · exact hh
theorem linesS_size : ∀ (P : List (List UInt8)) (h : HS), h.size ≤ 65536 → (linesS h P).2.size ≤ 65536
  | [], h, hh => hh
  | l :: r, h, hh => by
    rw [linesS_cons]
    split
    · exact hh
    · exact linesS_size r _ (lineS_size h l hh)
theorem headS_size (l : List UInt8) : (headS l).2.2.2.2 ≤ 65536 := by
  unfold headS headP
  split
  · exact Nat.zero_le _
  · split
    · exact Nat.zero_le _
    · split
      · exact Nat.zero_le _
      · split
        · exact Nat.zero_le _
        · exact linesS_size _ _ (Nat.zero_le _)
theorem addr_add (b o i : Nat) : (⟨b, o, none⟩ : Addr).add i = ⟨b, o + i, none⟩ := by
  unfold Addr.add
  split
  · next h => rw [h]; rfl
  · rfl
theorem Frm.drwN {S : List (Option Nat)} {w w1 : World} (h : Frm S w w1) (q : Nat) : Frm S w (w1.drewN q) := ⟨h.os, h.tape, h.output, h.size, h.keep⟩
theorem hd_body {W : World} {ph bm : Nat} {m0 p0 k0 b0 : ByteArray} {sz : Int} (h : HdB W ph m0 p0 k0 b0 sz bm) (x : ByteArray) : HdB (W.setCell ⟨ph, 3, none⟩ (.string x)) ph m0 p0 k0 x sz bm := set_selfH _ h
theorem lt_of_cellW {w : World} {b i : Nat} {v : Value} (h : w.cell? ⟨b, i, none⟩ = some v) : b < w.heap.size := by
  rcases Nat.lt_or_ge b w.heap.size with h1 | h1
  · exact h1
  · unfold World.cell? at h
    rw [show w.heap[b]? = none from Array.getElem?_eq_none h1] at h
    cases h
theorem rest_row (l : List UInt8) (g o c fs n : Nat) {S : List (Option Nat)} {w w' : World} {b0 : Nat} (hF : Frm S w w') (hn : l.length = n) (hgb : b0 ≤ g) (hgl : g < w.heap.size) (h1 : fs ≤ n) (h2 : n ≤ c) (hz : l.length ≤ 700000)
    (hat : ∀ i, i < l.length → w.cell? ⟨g, o + i, none⟩ = some (.int .u8 ((u8s l).getD i 0))) (hS : ∀ r ∈ S, r ≠ some g) (hty : ∃ cur fr, w.heap[g]? = some (.cells cur 5 fr)) : Byt w' b0 (.slice (some ⟨g, o + fs, none⟩) (n - fs) (c - fs)) (l.drop fs) := by
  have e : n - fs = (l.drop fs).length := by rw [List.length_drop, hn]
  rw [e]
  refine .row g (o + fs) (c - fs) (l.drop fs) hgb (Nat.lt_of_lt_of_le hgl hF.size) (by omega) (by omega) (by rw [hF.keep g hgl hS]; exact hty) (fun i hi => ?_)
  have h := u8s_sub (l := l) (a := fs) (k := l.length) (i := i) (by rw [List.take_of_length_le (by rw [List.length_drop]; omega)]; exact hi)
  rw [List.take_of_length_le (by rw [List.length_drop]; omega)] at h
  rw [h, ← hat (fs + i) (by omega), Nat.add_assoc]
  unfold World.cell?
  rw [hF.keep g hgl hS]
theorem rest_none (l : List UInt8) (g o n : Nat) {S : List (Option Nat)} {w w' : World} {b0 : Nat} (hF : Frm S w w') (hn : l.length = n) (hgb : b0 ≤ g) (hgl : g < w.heap.size) (hS : ∀ r ∈ S, r ≠ some g) (hty : ∃ cur fr, w.heap[g]? = some (.cells cur 5 fr)) : Byt w' b0 (.slice (some ⟨g, o, none⟩) 0 0) (l.drop n) := by
  rw [List.drop_of_length_le (by omega)]
  exact .row g o 0 [] hgb (Nat.lt_of_lt_of_le hgl hF.size) (Nat.le_refl _) (Nat.zero_le _) (by rw [hF.keep g hgl hS]; exact hty) (fun i hi => by cases hi)
/-- What next leaves. -/
def NextP (w : World) (p b0 : Nat) (x : Nx) (e : Ending) (w' : World) : Prop :=
  match x with
  | .wait => e = .returned (.tuple #[gotV (refG 0), .bool false]) ∧ Below w.heap.size w w'
  | .refuse st => e = .returned (.tuple #[gotV (refG st), .bool true]) ∧ Frm [some p] w w' ∧ RdR w' b0 p [] true
  | .got g rest => e = .returned (.tuple #[gotV g, .bool true]) ∧ Frm [some p] w w' ∧ RdR w' b0 p rest false
theorem nextS_eq {l : List UInt8} {ix : Int} (h : Lib.index (l.take 4096) ends4 = ix) : nextS l =
    if ix < 0 then (if 4096 ≤ l.length then .refuse 431 else .wait) else
    if (headS (l.take ix.toNat)).1 ≠ 0 then .refuse (headS (l.take ix.toNat)).1 else
    if l.length < ix.toNat + 4 + (headS (l.take ix.toNat)).2.2.2.2 then .wait else
    .got ⟨bytesL (headS (l.take ix.toNat)).2.1, bytesL (headS (l.take ix.toNat)).2.2.1, bytesL (headS (l.take ix.toNat)).2.2.2.1, bytesL ((l.drop (ix.toNat + 4)).take (headS (l.take ix.toNat)).2.2.2.2), 0⟩ (l.drop (ix.toNat + 4 + (headS (l.take ix.toNat)).2.2.2.2)) := by
  subst h; rfl

set_option maxHeartbeats 4000000 in
theorem next_row (B : Nat) (w : World) (hg : GndB B w) (p b0 : Nat) (_hBp : B ≤ p) (hpb : p < b0) (l : List UInt8) (g o c : Nat) (hgb : b0 ≤ g) (hgl : g < w.heap.size) (hc : l.length ≤ c) (hz : l.length ≤ 700000) (hty : ∃ cur fr, w.heap[g]? = some (.cells cur 5 fr)) (hat : ∀ i, i < l.length → w.cell? ⟨g, o + i, none⟩ = some (.int .u8 ((u8s l).getD i 0)))
    (hp : w.heap[p]? = some (.cells #[.slice (some ⟨g, o, none⟩) l.length c, .bool false] 55)) :
    Calls Tryz.prog 21 #[.pointer (some ⟨p, 0, none⟩)] w (NextP w p b0 (nextS l)) := by
  obtain ⟨W1, hW1⟩ : ∃ W1, (w.alloc (.cells #[.pointer (some ⟨p, 0, none⟩)] 23)).alloc (.cells #[.string ⟨#[]⟩, .string ⟨#[]⟩, .string ⟨#[]⟩, .string ⟨#[]⟩, .int .i64 0] 39) = W1 := ⟨_, rfl⟩
  have BW : Hid (Below w.heap.size w W1) := by refine Lib.hid ?_; rw [← hW1]; exact ((Below.refl _ _).alloc (Nat.le_refl _) _).alloc (by simp) _
  have x0 : W1.heap[w.heap.size]? = some (.cells #[.pointer (some ⟨p, 0, none⟩)] 23) := by rw [← hW1]; exact heap_alloc2_old _ _ _
  have x1 : W1.heap[w.heap.size + 1]? = some (.cells #[.string ⟨#[]⟩, .string ⟨#[]⟩, .string ⟨#[]⟩, .string ⟨#[]⟩, .int .i64 0] 39) := by rw [← hW1]; exact heap_alloc2_new _ _ _
  have hsz1 : W1.heap.size = w.heap.size + 2 := by rw [← hW1]; simp
  have hpl := lt_of_block hp
  have hp1 := (BW.out.block _ hpl).trans hp
  have q0 : W1.cell? ⟨w.heap.size, 0, none⟩ = some (.pointer (some ⟨p, 0, none⟩)) := by rw [cell_of_block x0]; rfl
  obtain ⟨c0, c1⟩ := box2R hp1
  have HX := Lib.hid (And.intro x0 (And.intro x1 hp1))
  obtain ⟨W2, hW2⟩ : ∃ W2, W1.alloc (.cells #[.int .u8 13, .int .u8 10, .int .u8 13, .int .u8 10] 5) = W2 := ⟨_, rfl⟩
  have BW2 : Hid (Below W1.heap.size W1 W2) := by refine Lib.hid ?_; rw [← hW2]; exact (Below.refl _ _).alloc (Nat.le_refl _) _
  obtain ⟨W3, hW3⟩ : ∃ W3, W1.alloc (.cells #[.int .u8 13, .int .u8 10, .int .u8 13, .int .u8 10] 5 (4, 5)) = W3 := ⟨_, rfl⟩
  have BW3 : Hid (Below W1.heap.size W1 W3) := by refine Lib.hid ?_; rw [← hW3]; exact (Below.refl _ _).alloc (Nat.le_refl _) _
  have x2 : W3.heap[W1.heap.size]? = some (.cells #[.int .u8 13, .int .u8 10, .int .u8 13, .int .u8 10] 5 (4, 5)) := by rw [← hW3]; exact (MapKept.heap_alloc W1 _).1
  have hl2 := lt_of_block x2
  have hcv : (convert 27 27 (.slice (some ⟨W1.heap.size, 0, none⟩) 4 4)).run Tryz.prog W2.drew = .ok (.slice (some ⟨W1.heap.size, 0, none⟩) 4 4) W3.drew := by
    rw [← hW2, ← hW3]
    exact Lib.run_convert_bytes_const (P := Tryz.prog) W1.drew 27 5 _ 4 4 Tryz.underlying27 Tryz.underlying5
  obtain ⟨n, hn⟩ : ∃ n, l.length = n := ⟨_, rfl⟩
  obtain ⟨k, hk⟩ : ∃ k, min n 4096 = k := ⟨_, rfl⟩
  have hmin : min (n : Int) 4096 = (k : Int) := by omega
  have hkc : (k : Int) ≤ (c : Int) := by omega
  have hk0 : (0 : Int) ≤ (k : Int) := by omega
  obtain ⟨mx, hmx⟩ := hg.gnd.maxl
  have htk : (l.take 4096).length = k := by rw [List.length_take]; omega
  have hW12 : Below w.heap.size w W3 := BW.out.trans (BW3.out.mono (by omega))
  have HIx : Hid (∀ W, Below W3.heap.size W3 W → Calls Tryz.prog 34 #[.slice (some ⟨g, o, none⟩) k c, .slice (some ⟨W1.heap.size, 0, none⟩) 4 4] W fun e w' => e = .returned (.int .i64 (Lib.index (l.take 4096) ends4)) ∧ Below W.heap.size W w') := by
    refine Lib.hid (fun W hW => ?_)
    have h := Tryz.bytes_Index_at ⟨g, o, none⟩ ⟨W1.heap.size, 0, none⟩ k c 4 4 (u8s (l.take 4096)) [13, 10, 13, 10] mx W (by rw [u8s_len, htk]) rfl u8s_rng (by decide)
      (fun i hi => by
        rw [addr_add, Below.cellB (hW12.trans (hW.mono hW12.size)) hgl, hat i (by omega)]
        have := u8s_sub (l := l) (a := 0) (k := 4096) (i := i) (by rw [List.drop_zero, htk]; exact hi)
        rw [List.drop_zero, Nat.zero_add] at this
        rw [this])
      (fun i hi => by
        rw [addr_add, Below.cellB hW hl2, cell_of_block x2]
        match i, hi with
        | 0, _ => rfl
        | 1, _ => rfl
        | 2, _ => rfl
        | 3, _ => rfl)
      (by omega) (by omega) (by decide) (hmx W (hW12.trans (hW.mono hW12.size)))
    refine h.mono ?_
    rintro e w' ⟨rfl, q, rfl⟩
    refine ⟨?_, below_drewN (Below.refl _ _) q⟩
    rw [u8s_of]
    rfl
  obtain ⟨ix, hix⟩ : ∃ i, Lib.index (l.take 4096) ends4 = i := ⟨_, rfl⟩
  have hnx := nextS_eq hix
  have hixge := Lib.index_ge (l.take 4096) ends4
  have hixrm := fun h => Lib.index_room (l.take 4096) ends4 h
  rw [hix] at HIx hixge hixrm
  rw [hn] at hp1 c0 HX hnx
  have HN := Lib.hid hn
  have HNX := Lib.hid hnx
  have HAt := Lib.hid hat
  have HTY := Lib.hid hty
  have HIX := Lib.hid hix
  have HG := Lib.hid hg
  clear hg hmx x0 x1 hp hp1 x2 hnx hat hty hix htk
  have lw1 : w.heap.size < W1.heap.size := by omega
  have lp1 : p < W1.heap.size := by omega
  have lw2 : w.heap.size < W2.heap.size := by have := BW2.out.size; omega
  have lp2 : p < W2.heap.size := by have := BW2.out.size; omega
  have k0 : W2.cell? ⟨w.heap.size, 0, none⟩ = some (.pointer (some ⟨p, 0, none⟩)) := by rw [Below.cellB BW2.out lw1]; exact q0
  have k1 : W2.cell? ⟨p, 0, none⟩ = some (.slice (some ⟨g, o, none⟩) n c) := by rw [Below.cellB BW2.out lp1]; exact c0
  have lw3 : w.heap.size < W3.heap.size := by have := BW3.out.size; omega
  have lp3 : p < W3.heap.size := by have := BW3.out.size; omega
  have j0 : W3.cell? ⟨w.heap.size, 0, none⟩ = some (.pointer (some ⟨p, 0, none⟩)) := by rw [Below.cellB BW3.out lw1]; exact q0
  have j1 : W3.cell? ⟨p, 0, none⟩ = some (.slice (some ⟨g, o, none⟩) n c) := by rw [Below.cellB BW3.out lp1]; exact c0
  have HSZ := Lib.hid hsz1
  clear hsz1
  go_enter Tryz.func21, Tryz.ntmps21
  go_upto_region 2 with fail
  go_cut [5] (fun s5 wx => ∃ w9, w9 = wx ∧ s5 = .int .i64 ix ∧ Below W1.heap.size W1 w9)
  case first =>
    refine wp_region_held_drew (S := fun w' => w'.cell? ⟨w.heap.size, 0, none⟩ = some (.pointer (some ⟨p, 0, none⟩)) ∧ w'.cell? ⟨p, 0, none⟩ = some (.slice (some ⟨g, o, none⟩) n c)) (by kernel_rfl) ?hSA (fun hHeld => ?hRA)
    case hSA => exact ⟨q0, c0⟩
    case' hRA => skip
    refine wpAnyH_take (i := 0) (v := ?vA0) rfl (by kernel_rfl) (by kernel_rfl) (by kernel_rfl) (fun _ _ _ h => h) (Or.inl ⟨by rfl, ?hyA0⟩) (by assumption) ?restA0
    case hyA0 => ((intro w hSw; (try dsimp only at hSw); go_simp); try with_reducible rfl)
    try simp only [Act.put, List.setIfInBounds_toArray, List.set_cons_zero, List.set_cons_succ, List.getElem_toArray, List.getElem_cons_zero]
    refine wpAnyH_take (i := 1) (v := ?vA1) rfl (by kernel_rfl) (by kernel_rfl) (by kernel_rfl) (fun _ _ _ h => h) (Or.inl ⟨by rfl, ?hyA1⟩) (by assumption) ?restA1
    case hyA1 => ((intro w hSw; (try dsimp only at hSw); go_simp); try with_reducible rfl)
    try simp only [Act.put, List.setIfInBounds_toArray, List.set_cons_zero, List.set_cons_succ, List.getElem_toArray, List.getElem_cons_succ, List.getElem_cons_zero]
    refine wpAnyH_take (i := 2) (v := ?vA2) rfl (by kernel_rfl) (by kernel_rfl) (by kernel_rfl) (fun _ _ _ h => h) (Or.inl ⟨by rfl, ?hyA2⟩) (by assumption) ?restA2
    case hyA2 => ((intro w hSw; (try dsimp only at hSw); go_simp); try with_reducible rfl)
    try simp only [Act.put, List.setIfInBounds_toArray, List.set_cons_zero, List.set_cons_succ, List.getElem_toArray, List.getElem_cons_succ, List.getElem_cons_zero]
    refine wpAnyH_take (i := 3) (v := ?vA3) rfl (by kernel_rfl) (by kernel_rfl) (by kernel_rfl) (fun _ _ _ h => h) (Or.inl ⟨by rfl, ?hyA3⟩) (by assumption) ?restA3
    case hyA3 => ((intro w hSw; (try dsimp only at hSw); go_simp); try with_reducible rfl)
    try simp only [Act.put, List.setIfInBounds_toArray, List.set_cons_zero, List.set_cons_succ, List.getElem_toArray, List.getElem_cons_succ, List.getElem_cons_zero]
    refine wpAnyH_take (i := 4) (v := ?vA4) rfl (by kernel_rfl) (by kernel_rfl) (by kernel_rfl) (fun _ _ _ h => h) (Or.inl ⟨by rfl, ?hyA4⟩) (by assumption) ?restA4
    case hyA4 => ((intro w hSw; (try dsimp only at hSw); go_simp); try with_reducible rfl)
    try simp only [Act.put, List.setIfInBounds_toArray, List.set_cons_zero, List.set_cons_succ, List.getElem_toArray, List.getElem_cons_succ, List.getElem_cons_zero]
    refine wpAnyH_take (i := 5) (v := ?vA5) rfl (by kernel_rfl) (by kernel_rfl) (by kernel_rfl) (fun _ _ _ h => h) (Or.inl ⟨by rfl, ?hyA5⟩) (by assumption) ?restA5
    case hyA5 => ((intro w hSw; (try dsimp only at hSw); go_simp); try with_reducible rfl)
    try simp only [Act.put, List.setIfInBounds_toArray, List.set_cons_zero, List.set_cons_succ, List.getElem_toArray, List.getElem_cons_succ, List.getElem_cons_zero]
    refine wpAnyH_take (i := 6) (v := ?vA6) rfl (by kernel_rfl) (by kernel_rfl) (by kernel_rfl) (fun _ _ _ h => h) (Or.inl ⟨by rfl, ?hyA6⟩) (by assumption) ?restA6
    case hyA6 => ((intro w hSw; (try dsimp only at hSw); go_simp); try with_reducible rfl)
    try simp only [Act.put, List.setIfInBounds_toArray, List.set_cons_zero, List.set_cons_succ, List.getElem_toArray, List.getElem_cons_succ, List.getElem_cons_zero]
    refine wpAnyH_take (i := 7) (v := ?vA7) rfl (by kernel_rfl) (by kernel_rfl) (by kernel_rfl) (fun _ _ _ h => h) (Or.inl ⟨by rfl, ?hyA7⟩) (by assumption) ?restA7
    case hyA7 => ((intro w hSw; (try dsimp only at hSw); go_simp); try with_reducible rfl)
    try simp only [Act.put, List.setIfInBounds_toArray, List.set_cons_zero, List.set_cons_succ, List.getElem_toArray, List.getElem_cons_succ, List.getElem_cons_zero]
    refine wpAnyH_take (i := 8) (v := ?vA8) rfl (by kernel_rfl) (by kernel_rfl) (by kernel_rfl) (fun _ _ _ h => h) (Or.inl ⟨by rfl, ?hyA8⟩) (by assumption) ?restA8
    case hyA8 => ((intro w hSw; (try dsimp only at hSw); go_simp); try with_reducible rfl)
    try simp only [Act.put, List.setIfInBounds_toArray, List.set_cons_zero, List.set_cons_succ, List.getElem_toArray, List.getElem_cons_succ, List.getElem_cons_zero]
    refine wpAnyH_take (i := 9) (v := ?vA9) rfl (by kernel_rfl) (by kernel_rfl) (by kernel_rfl) (fun _ _ _ h => h) (Or.inl ⟨by rfl, ?hyA9⟩) (by assumption) ?restA9
    case hyA9 => ((intro w hSw; (try dsimp only at hSw); go_simp); try with_reducible rfl)
    try simp only [Act.put, List.setIfInBounds_toArray, List.set_cons_zero, List.set_cons_succ, List.getElem_toArray, List.getElem_cons_succ, List.getElem_cons_zero]
    refine wpAnyH_take (i := 10) (v := ?vA10) rfl (by kernel_rfl) (by kernel_rfl) (by kernel_rfl) (fun _ _ _ h => h) (Or.inl ⟨by rfl, ?hyA10⟩) (by assumption) ?restA10
    case hyA10 => ((intro w hSw; (try dsimp only at hSw); go_simp); try with_reducible rfl)
    try simp only [Act.put, List.setIfInBounds_toArray, List.set_cons_zero, List.set_cons_succ, List.getElem_toArray, List.getElem_cons_succ, List.getElem_cons_zero]
    refine wpAnyH_ready (rs := [11]) (by kernel_rfl) (by simp) ?_
    refine AllReadyH.cons rfl (fun K hK => ?_) AllReadyH.nil
    try simp only [List.getElem_toArray, List.getElem_cons_succ, List.getElem_cons_zero]
    go_simp
    refine hK.out _ _ ?hSA11 (fun hHeld => ?hRA11)
    case hSA11 => first | exact ⟨k0, k1⟩ | exact ⟨j0, j1⟩ | exact ⟨(Below.cellB cur9 lw3).trans j0, (Below.cellB cur9 lp3).trans j1⟩
    case' hRA11 => clear hK K
    try simp only [Act.put, List.setIfInBounds_toArray, List.set_cons_zero, List.set_cons_succ, List.getElem_toArray, List.getElem_cons_succ, List.getElem_cons_zero]
    refine wpAnyH_ready (rs := [12]) (by kernel_rfl) (by simp) ?_
    refine AllReadyH.cons rfl (fun K hK => ?_) AllReadyH.nil
    try simp only [List.getElem_toArray, List.getElem_cons_succ, List.getElem_cons_zero]
    go_simp
    refine hK.out _ _ ?hSA12 (fun hHeld => ?hRA12)
    case hSA12 => first | exact ⟨k0, k1⟩ | exact ⟨j0, j1⟩ | exact ⟨(Below.cellB cur9 lw3).trans j0, (Below.cellB cur9 lp3).trans j1⟩
    case' hRA12 => clear hK K
    try simp only [Act.put, List.setIfInBounds_toArray, List.set_cons_zero, List.set_cons_succ, List.getElem_toArray, List.getElem_cons_succ, List.getElem_cons_zero]
    refine wpAnyH_ready (rs := [13]) (by kernel_rfl) (by simp) ?_
    refine AllReadyH.cons rfl (fun K hK => ?_) AllReadyH.nil
    try simp only [List.getElem_toArray, List.getElem_cons_succ, List.getElem_cons_zero]
    go_simp
    refine (HIx.out _ (Below.refl _ _).drew).mono ?_
    rintro e w9 ⟨rfl, hb9⟩
    have cur9 : Below W3.heap.size W3 w9 := (Below.refl _ _).drew.trans hb9
    refine hK.out _ _ ?hSA13 (fun hHeld => ?hRA13)
    case hSA13 => first | exact ⟨k0, k1⟩ | exact ⟨j0, j1⟩ | exact ⟨(Below.cellB cur9 lw3).trans j0, (Below.cellB cur9 lp3).trans j1⟩
    case' hRA13 => clear hK K
    try simp only [Act.put, List.setIfInBounds_toArray, List.set_cons_zero, List.set_cons_succ, List.getElem_toArray, List.getElem_cons_succ, List.getElem_cons_zero]
    refine wpAnyH_take (i := 14) (v := ?vA14) rfl (by kernel_rfl) (by kernel_rfl) (by kernel_rfl) (fun _ _ _ h => h) (Or.inl ⟨by rfl, ?hyA14⟩) (by assumption) ?restA14
    case hyA14 => ((intro w hSw; (try dsimp only at hSw); go_simp); try with_reducible rfl)
    try simp only [Act.put, List.setIfInBounds_toArray, List.set_cons_zero, List.set_cons_succ, List.getElem_toArray, List.getElem_cons_succ, List.getElem_cons_zero]
    refine wpAnyH_done (by kernel_rfl) ?_ _
    all_goals go_wp2_with fail
    all_goals go_meet
    all_goals exact ⟨_, rfl, rfl, BW3.out.trans (cur9.mono BW3.out.size)⟩
  case rest =>
    obtain ⟨w9, rfl, rfl, hb9⟩ := hcut
    have q9 : w9.cell? ⟨w.heap.size, 0, none⟩ = some (.pointer (some ⟨p, 0, none⟩)) := by rw [Below.cellB hb9 lw1]; exact q0
    have y1 := (hb9.block _ (lt_of_block HX.out.2.1)).trans HX.out.2.1
    have yp := (hb9.block _ lp1).trans HX.out.2.2
    obtain ⟨c9, d9⟩ := box2R yp
    have cw9 : Below w.heap.size w w9 := BW.out.trans (hb9.mono BW.out.size)
    have sz9 := hb9.size
    by_cases hneg : ix < 0
    · have d1 : decide (ix < 0) = true := decide_eq_true hneg
      by_cases hfull : 4096 ≤ n
      · have hv : Hid (nextS l = .refuse 431) := by refine Lib.hid ?_; rw [HNX.out, if_pos hneg, if_pos hfull]
        have d2 : decide ((4096 : Int) ≤ (n : Int)) = true := decide_eq_true (by omega)
        have HR := Lib.hid (refused_lit w9 w.heap.size p _ _ q9 (by omega) (by omega) yp 431)
        have hl9 : w.heap.size < w9.heap.size := by have := hb9.size; omega
        have YX := Lib.hid y1
        have CW := Lib.hid cw9
        clear y1 yp cw9
        go_upto_region 4 with fail
        go_wp2_with (go_at_call 33; fail)
        refine HR.out.mono ?_
        rintro e w10 ⟨rfl, hp10, hF10⟩
        have y10 := hF10.block YX.out (by intro r hr; simp only [List.mem_singleton] at hr; subst hr; intro e; injection e with e; omega)
        have f10 := free_of_block y10
        obtain ⟨e0, e1, e2, e3, e4⟩ := box5R y10
        have Y := Lib.hid y10
        have HP10 := Lib.hid hp10
        have HF10 := Lib.hid hF10
        clear y10 hp10 hF10
        go_wp2_with fail
        obtain ⟨z0, z1, z2, z3, z4⟩ := box5R (sets5 Y.out (.string ⟨#[]⟩) (.string ⟨#[]⟩) (.string ⟨#[]⟩) (.string ⟨#[]⟩) (.int .i64 431))
        refine bodyPost_ret (v := .tuple #[gotV (refG 431), .bool true]) (by simp [gotV, refG, bytesL, results, Tryz.results21, go_sem, z0, z1, z2, z3, z4]) rfl ?_
        rw [hv.out]
        refine ⟨rfl, ?_, .slice none 0 0, ?_, .nil⟩
        · have F : Frm [some p, some (w.heap.size + 1)] w w10 := ((Frm.ofBelow CW.out).trans HF10.out (by intro r hr; simp only [List.mem_singleton] at hr; subst hr; simp))
          have F5 := ((((F.set (b := w.heap.size + 1) (i := 0) (.string ⟨#[]⟩) (by simp)).set (b := w.heap.size + 1) (i := 1) (.string ⟨#[]⟩) (by simp)).set (b := w.heap.size + 1) (i := 2) (.string ⟨#[]⟩) (by simp)).set (b := w.heap.size + 1) (i := 3) (.string ⟨#[]⟩) (by simp)).set (b := w.heap.size + 1) (i := 4) (.int .i64 431) (by simp)
          exact F5.shed (by intro r hr; simp only [List.mem_cons, List.not_mem_nil, or_false] at hr; exact hr.elim (fun e => .inl (by rw [e]; simp)) (fun e => .inr ⟨_, e, Nat.le_succ _⟩))
        · rw [heap_setCell_other _ _ _ _ (by simp; omega), heap_setCell_other _ _ _ _ (by simp; omega), heap_setCell_other _ _ _ _ (by simp; omega), heap_setCell_other _ _ _ _ (by simp; omega), heap_setCell_other _ _ _ _ (by simp; omega)]
          exact HP10.out
      · have hv : Hid (nextS l = .wait) := by refine Lib.hid ?_; rw [HNX.out, if_pos hneg, if_neg hfull]
        have d2 : decide ((4096 : Int) ≤ (n : Int)) = false := decide_eq_false (by omega)
        have f9 := free_of_block y1
        obtain ⟨e0, e1, e2, e3, e4⟩ := box5R y1
        have Y := Lib.hid y1
        have CW := Lib.hid cw9
        clear y1 yp cw9
        go_wp2_with fail
        obtain ⟨z0, z1, z2, z3, z4⟩ := box5R (sets5 Y.out (.string ⟨#[]⟩) (.string ⟨#[]⟩) (.string ⟨#[]⟩) (.string ⟨#[]⟩) (.int .i64 0))
        refine bodyPost_ret (v := .tuple #[gotV (refG 0), .bool false]) (by simp [gotV, refG, bytesL, results, Tryz.results21, go_sem, z0, z1, z2, z3, z4]) rfl ?_
        rw [hv.out]
        exact ⟨rfl, ((((CW.out.setCell (by simp) _).setCell (by simp) _).setCell (by simp) _).setCell (by simp) _).setCell (by simp) _⟩
    · obtain ⟨e, rfl⟩ : ∃ e : Nat, ix = e := ⟨ix.toNat, by omega⟩
      have d1 : decide ((e : Int) < 0) = false := decide_eq_false (by omega)
      have hrm := hixrm (by omega)
      have he4 : e + 4 ≤ n := by
        rw [List.length_take] at hrm
        have h4 : (ends4.length : Int) = 4 := rfl
        have := HN.out
        omega
      have heI : (e : Int) ≤ (c : Int) := by have := HN.out; omega
      have lw9 : w.heap.size < w9.heap.size := by omega
      have lp9 : p < w9.heap.size := by omega
      have lx9 : w.heap.size + 1 < w9.heap.size := by have := HSZ.out; omega
      obtain ⟨W5, hW5⟩ : ∃ W5, (w9.alloc (.map #[] 0)).alloc (.cells #[.string ⟨#[]⟩, .string ⟨#[]⟩, .string ⟨#[]⟩, .string ⟨#[]⟩, .int .i64 0, .map (some w9.heap.size)] 80) = W5 := ⟨_, rfl⟩
      have BW5 : Hid (Below w9.heap.size w9 W5) := by refine Lib.hid ?_; rw [← hW5]; exact ((Below.refl _ _).alloc (Nat.le_refl _) _).alloc (by simp) _
      have HD5 : Hid (HdB W5 (w9.heap.size + 1) (bytesL []) (bytesL []) (bytesL []) (bytesL []) 0 w9.heap.size) := by refine Lib.hid ?_; rw [← hW5]; exact heap_alloc2_new _ _ _
      have HS5 : Hid (SeenK W5 w9.heap.size 0 []) := by refine Lib.hid ?_; rw [← hW5]; exact (SeenK.made w9).below ((Below.refl _ _).alloc (Nat.le_refl _) _)
      have cw5 : Below w.heap.size w W5 := cw9.trans (BW5.out.mono cw9.size)
      have HG5 : Hid (GndB B W5) := Lib.hid (HG.out.below cw5)
      have hsz5 : Hid (W5.heap.size = w9.heap.size + 2) := by refine Lib.hid ?_; rw [← hW5]; simp
      have q5 : W5.cell? ⟨w.heap.size, 0, none⟩ = some (.pointer (some ⟨p, 0, none⟩)) := by rw [Below.cellB BW5.out (by omega)]; exact q9
      have y5 := (BW5.out.block _ (lt_of_block y1)).trans y1
      have yp5 := (BW5.out.block _ (lt_of_block yp)).trans yp
      obtain ⟨c5, d5⟩ := box2R yp5
      have hz4 : (l.take e).length ≤ 4096 := by rw [List.length_take]; rw [List.length_take] at hrm; omega
      have hcv5 : (convert 27 9 (.slice (some ⟨g, o, none⟩) e c)).run Tryz.prog W5 = .ok (.string (bytesL (l.take e))) W5 := by
        have h := run_convert_bytes_arg (P := Tryz.prog) W5 27 5 Tryz.underlying27 Tryz.underlying5 g o e c (u8s (l.take e)) (by rw [u8s_len, List.length_take]; have := HN.out; omega) (fun i hi => by
          rw [Below.cellB cw5 hgl, HAt.out i (by have := HN.out; omega)]
          have := u8s_sub (l := l) (a := 0) (k := e) (i := i) (by rw [List.drop_zero, List.length_take]; have := HN.out; omega)
          rw [List.drop_zero, Nat.zero_add] at this
          rw [this]) 9 Tryz.underlying9
        rw [u8s_str] at h
        exact h
      have HRd := Lib.hid (read_any B W5 HG5.out (bytesL (l.take e)) (by rw [bytesL_size]; omega) (w9.heap.size + 1) w9.heap.size _ HD5.out HS5.out (by have := HG.out.le; omega) (by have := HG.out.le; omega) (by omega))
      rw [bytesL_list] at HRd
      have hnx := HNX.out
      rw [if_neg (by omega), Int.toNat_natCast] at hnx
      obtain ⟨hs, hhs⟩ : ∃ r, headS (l.take e) = r := ⟨_, rfl⟩
      rw [hhs] at HRd hnx
      have hs64 := headS_size (l.take e)
      rw [hhs] at hs64
      obtain ⟨r1, m1, p1, k1', s1⟩ := hs
      replace hs64 : s1 ≤ 65536 := hs64
      obtain ⟨sx, hsx⟩ : ∃ s, bytesL (l.take e) = s := ⟨_, rfl⟩
      rw [hsx] at HRd hcv5
      have YX5 := Lib.hid y5
      have YP5 := Lib.hid yp5
      have CW5 := Lib.hid cw5
      have lw5 : w.heap.size < W5.heap.size := by have := hsz5.out; omega
      clear hhs hsx y5 yp5 cw5 y1 yp cw9 hrm hz4 hixrm hixge HNX
      have hmm := @run_makeMap Tryz.prog
      by_cases hr1 : r1 = 0
      · subst hr1
        obtain ⟨f, hf4⟩ : ∃ f, e + 4 = f := ⟨_, rfl⟩
        obtain ⟨fs, hfs⟩ : ∃ fs, f + s1 = fs := ⟨_, rfl⟩
        have hfI : (e : Int) + 4 = (f : Int) := by omega
        have hfsI : (f : Int) + (s1 : Int) = (fs : Int) := by omega
        have HF4 := Lib.hid hf4
        have HFS := Lib.hid hfs
        have hfc : (f : Int) ≤ (c : Int) := by have := HN.out; omega
        have hffs : (f : Int) ≤ (fs : Int) := by omega
        have hsub : fs - f = s1 := by omega
        clear hf4 hfs
        go_upto_region 12 with (go_at_call 35; refine HRd.out.mono ?_; rintro e w8 ⟨rfl, hF8, hH8⟩; have hHd8 : HdB w8 (w9.heap.size + 1) (bytesL m1) (bytesL p1) (bytesL k1') (bytesL []) (s1 : Int) w9.heap.size := hH8 rfl; clear hH8)
        have hne2 : ∀ b, b < w9.heap.size → ∀ r ∈ [some (w9.heap.size + 1), some w9.heap.size], r ≠ some b := fun b hb r hr e => by
          simp only [List.mem_cons, List.not_mem_nil, or_false] at hr
          rcases hr with rfl | rfl <;> (injection e with e; omega)
        have q8 : w8.cell? ⟨w.heap.size, 0, none⟩ = some (.pointer (some ⟨p, 0, none⟩)) := by
          have := hF8.keep w.heap.size lw5 (hne2 w.heap.size lw9)
          rw [← q5]; unfold World.cell?; rw [this]
        have yp8 := hF8.block YP5.out (hne2 p lp9)
        have YX8 := Lib.hid (hF8.block YX5.out (hne2 (w.heap.size + 1) lx9))
        obtain ⟨c8, d8⟩ := box2R yp8
        have h4 : w8.cell? ⟨w9.heap.size + 1, 4, none⟩ = some (.int .i64 (s1 : Int)) := cell_of_block hHd8 4
        have F8 : Hid (Frm [] w w8) := Lib.hid (((Frm.ofBelow CW5.out).trans hF8 (S := [some (w9.heap.size + 1), some w9.heap.size]) (by intro r hr; exact .inl hr)).shed (by intro r hr; simp only [List.mem_cons, List.not_mem_nil, or_false] at hr; exact hr.elim (fun e => .inr ⟨_, e, by omega⟩) (fun e => .inr ⟨_, e, by omega⟩)))
        have YP8 := Lib.hid yp8
        have HH8 := Lib.hid hHd8
        clear yp8 hHd8 hF8
        by_cases hshort : n < fs
        · have hv : Hid (nextS l = .wait) := by refine Lib.hid ?_; rw [hnx, if_neg (by decide), if_pos (by have := HN.out; have := HF4.out; have := HFS.out; omega)]
          have d3 : decide ((n : Int) < (fs : Int)) = true := decide_eq_true (by omega)
          have y8 := YX8.out
          have f8 := free_of_block y8
          obtain ⟨e0, e1, e2, e3, e4⟩ := box5R y8
          clear y8
          go_quiet (fail)
          go_wp2_with fail
          obtain ⟨z0, z1, z2, z3, z4⟩ := box5R (sets5 (w := w8.drewN nq) YX8.out (.string ⟨#[]⟩) (.string ⟨#[]⟩) (.string ⟨#[]⟩) (.string ⟨#[]⟩) (.int .i64 0))
          refine bodyPost_ret (v := .tuple #[gotV (refG 0), .bool false]) (by simp [gotV, refG, bytesL, results, Tryz.results21, go_sem, z0, z1, z2, z3, z4]) rfl ?_
          rw [hv.out]
          have CW8 : Below w.heap.size w w8 := F8.out.toBelow (Nat.le_refl _) (by intro r hr; cases hr)
          exact ⟨rfl, (((((below_drewN CW8 nq).setCell (by simp) _).setCell (by simp) _).setCell (by simp) _).setCell (by simp) _).setCell (by simp) _⟩
        · have hv : Hid (nextS l = .got ⟨bytesL m1, bytesL p1, bytesL k1', bytesL ((l.drop f).take s1), 0⟩ (l.drop fs)) := by refine Lib.hid ?_; rw [hnx, if_neg (by decide), if_neg (by have := HN.out; have := HF4.out; have := HFS.out; omega), ← HFS.out, ← HF4.out]
          have d3 : decide ((n : Int) < (fs : Int)) = false := decide_eq_false (by omega)
          have hnc : n ≤ c := by have := HN.out; omega
          have hb3 : w8.cell? ⟨w9.heap.size + 1, 3, none⟩ = some (.string (bytesL [])) := cell_of_block HH8.out 3
          have fh8 := free_of_block HH8.out
          have hBd : ∀ W : World, Below w8.heap.size w8 W → ∀ i, i < n → W.cell? ⟨g, o + i, none⟩ = some (.int .u8 ((u8s l).getD i 0)) := fun W hW i hi => by
            have hk := F8.out.keep g hgl (by intro r hr; cases hr)
            have h8 : w8.cell? ⟨g, o + i, none⟩ = some (.int .u8 ((u8s l).getD i 0)) := by
              rw [← HAt.out i (by have := HN.out; omega)]; unfold World.cell?; rw [hk]
            rw [Below.cellB hW (Nat.lt_of_lt_of_le hgl F8.out.size)]; exact h8
          have hcvE : Hid (∀ W : World, Below w8.heap.size w8 W → ∀ cc, (convert 27 9 (.slice (some ⟨g, o + f, none⟩) s1 cc)).run Tryz.prog W = .ok (.string (bytesL ((l.drop f).take s1))) W) := by
            refine Lib.hid (fun W hW cc => ?_)
            have h := run_convert_bytes_arg (P := Tryz.prog) W 27 5 Tryz.underlying27 Tryz.underlying5 g (o + f) s1 cc (u8s ((l.drop f).take s1)) (by rw [u8s_len, List.length_take, List.length_drop]; have := HN.out; have := HFS.out; omega) (fun i hi => by
              rw [u8s_sub (by rw [List.length_take, List.length_drop]; have := HN.out; have := HFS.out; omega), Nat.add_assoc]
              exact hBd W hW (f + i) (by have := HFS.out; omega)) 9 Tryz.underlying9
            rw [u8s_str] at h
            exact h
          have hfsc : (fs : Int) ≤ (c : Int) := by omega
          have hfsn : (fs : Int) ≤ (n : Int) := by omega
          have hwr : IntKind.i64.wrap (fs : Int) = (fs : Int) := IntWalk.i64_in _ (by omega)
          have hwr : IntKind.i64.wrap (fs : Int) = (fs : Int) := IntWalk.i64_in _ (by omega)
          by_cases hA : fs < c
          · have hA1 : ¬ c = f := by have := HFS.out; omega
            have hA2 : ¬ c = fs := by omega
            have hc1 : ∀ q cc, (convert 27 9 (.slice (some ⟨g, o + f, none⟩) s1 cc)).run Tryz.prog (w8.drewN q) = .ok (.string (bytesL ((l.drop f).take s1))) (w8.drewN q) := fun q cc => hcvE.out _ (below_drewN (Below.refl _ _) q) cc
            clear hnx
            go_quiet (fail)
            go_wp2_with fail
            go_cut [] (fun wx => ∃ w7, w7 = wx ∧ HdB w7 (w9.heap.size + 1) (bytesL m1) (bytesL p1) (bytesL k1') (bytesL ((l.drop f).take s1)) (s1 : Int) w9.heap.size ∧ Frm [some (w9.heap.size + 1)] w8 w7)
            case first =>
              go_region_law (fail)
              all_goals go_wp2_with fail
              all_goals go_meet
              all_goals exact ⟨_, rfl, hd_body HH8.out _, ((Frm.refl [some (w9.heap.size + 1)] w8).drwN _).set _ (by simp)⟩
            case rest =>
              obtain ⟨w7, rfl, hd7, hF7⟩ := hcut
              have hne3 : ∀ b, b < w9.heap.size → ∀ r ∈ [some (w9.heap.size + 1)], r ≠ some b := fun b hb r hr e => by
                simp only [List.mem_singleton] at hr
                subst hr; injection e with e; omega
              have q7 : w7.cell? ⟨w.heap.size, 0, none⟩ = some (.pointer (some ⟨p, 0, none⟩)) := by
                have := hF7.keep w.heap.size (lt_of_cellW q8) (hne3 w.heap.size lw9)
                rw [← q8]; unfold World.cell?; rw [this]
              have yp7 := hF7.block YP8.out (hne3 p lp9)
              have YX7 := Lib.hid (hF7.block YX8.out (hne3 (w.heap.size + 1) lx9))
              obtain ⟨c7, d7⟩ := box2R yp7
              have h7 : w7.cell? ⟨w9.heap.size + 1, 4, none⟩ = some (.int .i64 (s1 : Int)) := cell_of_block hd7 4
              have fp7 := free_of_block yp7
              have YP7 := Lib.hid yp7
              have HD7 := Lib.hid hd7
              have HF7 := Lib.hid hF7
              clear yp7 hd7 hF7 hc1
              go_upto_region 15 with fail
              go_cut [] (fun wx => ∃ w6, w6 = wx ∧ w6.heap[p]? = some (.cells #[.slice (some ⟨g, o + fs, none⟩) (n - fs) (c - fs), .bool false] 55) ∧ Frm [some p] w7 w6)
              case first =>
                go_region_law (fail)
                all_goals go_wp2_with fail
                all_goals go_meet
                all_goals exact ⟨_, rfl, set_selfR _ YP7.out, ((Frm.refl [some p] w7).drwN _).set _ (by simp)⟩
              case rest =>
                obtain ⟨w6, rfl, hp6, hF6⟩ := hcut
                have hne4 : ∀ b, b ≠ p → ∀ r ∈ [some p], r ≠ some b := fun b hb r hr e => by
                  simp only [List.mem_singleton] at hr
                  subst hr; injection e with e; exact hb e.symm
                have hd6 : HdB w6 (w9.heap.size + 1) (bytesL m1) (bytesL p1) (bytesL k1') (bytesL ((l.drop f).take s1)) (s1 : Int) w9.heap.size := hF6.block HD7.out (hne4 _ (by omega))
                have y6 := hF6.block YX7.out (hne4 _ (by omega))
                have a0 : w6.cell? ⟨w9.heap.size + 1, 0, none⟩ = some (.string (bytesL m1)) := cell_of_block hd6 0
                have a1 : w6.cell? ⟨w9.heap.size + 1, 1, none⟩ = some (.string (bytesL p1)) := cell_of_block hd6 1
                have a2 : w6.cell? ⟨w9.heap.size + 1, 2, none⟩ = some (.string (bytesL k1')) := cell_of_block hd6 2
                have a3 : w6.cell? ⟨w9.heap.size + 1, 3, none⟩ = some (.string (bytesL ((l.drop f).take s1))) := cell_of_block hd6 3
                have f6 := free_of_block y6
                obtain ⟨e0, e1, e2, e3, e4⟩ := box5R y6
                have Y6 := Lib.hid y6
                have HP6 := Lib.hid hp6
                have HF6 := Lib.hid hF6
                clear y6 hd6 hp6 hF6
                go_wp2_with fail
                obtain ⟨z0, z1, z2, z3, z4⟩ := box5R (sets5 Y6.out (.string (bytesL m1)) (.string (bytesL p1)) (.string (bytesL k1')) (.string (bytesL ((l.drop f).take s1))) (.int .i64 0))
                refine bodyPost_ret (v := .tuple #[.agg #[.string (bytesL m1), .string (bytesL p1), .string (bytesL k1'), .string (bytesL ((l.drop f).take s1)), .int .i64 0], .bool true]) (by simp [results, Tryz.results21, go_sem, z0, z1, z2, z3, z4]) rfl ?_
                rw [hv.out]
                have F : Frm [some (w9.heap.size + 1), some p, some (w.heap.size + 1)] w w6 := (((F8.out.mono (T := [some (w9.heap.size + 1), some p, some (w.heap.size + 1)]) (by intro r hr; cases hr)).trans HF7.out (by intro r hr; simp only [List.mem_singleton] at hr; subst hr; exact .inl (by simp))).trans HF6.out (by intro r hr; simp only [List.mem_singleton] at hr; subst hr; exact .inl (by simp)))
                have F5 := ((((F.set (b := w.heap.size + 1) (i := 0) (.string (bytesL m1)) (by simp)).set (b := w.heap.size + 1) (i := 1) (.string (bytesL p1)) (by simp)).set (b := w.heap.size + 1) (i := 2) (.string (bytesL k1')) (by simp)).set (b := w.heap.size + 1) (i := 3) (.string (bytesL ((l.drop f).take s1))) (by simp)).set (b := w.heap.size + 1) (i := 4) (.int .i64 0) (by simp)
                refine ⟨rfl, F5.shed (by intro r hr; simp only [List.mem_cons, List.not_mem_nil, or_false] at hr; exact hr.elim (fun e => .inr ⟨_, e, by omega⟩) (fun hr => hr.elim (fun e => .inl (by rw [e]; simp)) (fun e => .inr ⟨_, e, by omega⟩))), .slice (some ⟨g, o + fs, none⟩) (n - fs) (c - fs), ?_, ?_⟩
                · rw [heap_setCell_other _ _ _ _ (by simp; omega), heap_setCell_other _ _ _ _ (by simp; omega), heap_setCell_other _ _ _ _ (by simp; omega), heap_setCell_other _ _ _ _ (by simp; omega), heap_setCell_other _ _ _ _ (by simp; omega)]
                  exact HP6.out
                · exact rest_row l g o c fs n F5 HN.out hgb hgl (by omega) (by omega) hz HAt.out (by intro r hr; simp only [List.mem_cons, List.not_mem_nil, or_false] at hr; rcases hr with e | e | e <;> (intro e2; rw [e] at e2; injection e2 with e2; omega)) HTY.out
            
          · by_cases hfc' : ¬ c = f
            · obtain rfl : fs = c := by omega
              obtain rfl : n = fs := by omega
              have hA1 : ¬ n = f := hfc'
              have hc1 : ∀ q cc, (convert 27 9 (.slice (some ⟨g, o + f, none⟩) s1 cc)).run Tryz.prog (w8.drewN q) = .ok (.string (bytesL ((l.drop f).take s1))) (w8.drewN q) := fun q cc => hcvE.out _ (below_drewN (Below.refl _ _) q) cc
              clear hnx
              go_quiet (fail)
              go_wp2_with fail
              go_cut [] (fun wx => ∃ w7, w7 = wx ∧ HdB w7 (w9.heap.size + 1) (bytesL m1) (bytesL p1) (bytesL k1') (bytesL ((l.drop f).take s1)) (s1 : Int) w9.heap.size ∧ Frm [some (w9.heap.size + 1)] w8 w7)
              case first =>
                go_region_law (fail)
                all_goals go_wp2_with fail
                all_goals go_meet
                all_goals exact ⟨_, rfl, hd_body HH8.out _, ((Frm.refl [some (w9.heap.size + 1)] w8).drwN _).set _ (by simp)⟩
              case rest =>
                obtain ⟨w7, rfl, hd7, hF7⟩ := hcut
                have hne3 : ∀ b, b < w9.heap.size → ∀ r ∈ [some (w9.heap.size + 1)], r ≠ some b := fun b hb r hr e => by
                  simp only [List.mem_singleton] at hr
                  subst hr; injection e with e; omega
                have q7 : w7.cell? ⟨w.heap.size, 0, none⟩ = some (.pointer (some ⟨p, 0, none⟩)) := by
                  have := hF7.keep w.heap.size (lt_of_cellW q8) (hne3 w.heap.size lw9)
                  rw [← q8]; unfold World.cell?; rw [this]
                have yp7 := hF7.block YP8.out (hne3 p lp9)
                have YX7 := Lib.hid (hF7.block YX8.out (hne3 (w.heap.size + 1) lx9))
                obtain ⟨c7, d7⟩ := box2R yp7
                have h7 : w7.cell? ⟨w9.heap.size + 1, 4, none⟩ = some (.int .i64 (s1 : Int)) := cell_of_block hd7 4
                have fp7 := free_of_block yp7
                have YP7 := Lib.hid yp7
                have HD7 := Lib.hid hd7
                have HF7 := Lib.hid hF7
                clear yp7 hd7 hF7 hc1
                go_upto_region 15 with fail
                go_cut [] (fun wx => ∃ w6, w6 = wx ∧ w6.heap[p]? = some (.cells #[.slice (some ⟨g, o, none⟩) 0 0, .bool false] 55) ∧ Frm [some p] w7 w6)
                case first =>
                  go_region_law (fail)
                  all_goals go_wp2_with fail
                  all_goals go_meet
                  all_goals exact ⟨_, rfl, set_selfR _ YP7.out, ((Frm.refl [some p] w7).drwN _).set _ (by simp)⟩
                case rest =>
                  obtain ⟨w6, rfl, hp6, hF6⟩ := hcut
                  have hne4 : ∀ b, b ≠ p → ∀ r ∈ [some p], r ≠ some b := fun b hb r hr e => by
                    simp only [List.mem_singleton] at hr
                    subst hr; injection e with e; exact hb e.symm
                  have hd6 : HdB w6 (w9.heap.size + 1) (bytesL m1) (bytesL p1) (bytesL k1') (bytesL ((l.drop f).take s1)) (s1 : Int) w9.heap.size := hF6.block HD7.out (hne4 _ (by omega))
                  have y6 := hF6.block YX7.out (hne4 _ (by omega))
                  have a0 : w6.cell? ⟨w9.heap.size + 1, 0, none⟩ = some (.string (bytesL m1)) := cell_of_block hd6 0
                  have a1 : w6.cell? ⟨w9.heap.size + 1, 1, none⟩ = some (.string (bytesL p1)) := cell_of_block hd6 1
                  have a2 : w6.cell? ⟨w9.heap.size + 1, 2, none⟩ = some (.string (bytesL k1')) := cell_of_block hd6 2
                  have a3 : w6.cell? ⟨w9.heap.size + 1, 3, none⟩ = some (.string (bytesL ((l.drop f).take s1))) := cell_of_block hd6 3
                  have f6 := free_of_block y6
                  obtain ⟨e0, e1, e2, e3, e4⟩ := box5R y6
                  have Y6 := Lib.hid y6
                  have HP6 := Lib.hid hp6
                  have HF6 := Lib.hid hF6
                  clear y6 hd6 hp6 hF6
                  go_wp2_with fail
                  obtain ⟨z0, z1, z2, z3, z4⟩ := box5R (sets5 Y6.out (.string (bytesL m1)) (.string (bytesL p1)) (.string (bytesL k1')) (.string (bytesL ((l.drop f).take s1))) (.int .i64 0))
                  refine bodyPost_ret (v := .tuple #[.agg #[.string (bytesL m1), .string (bytesL p1), .string (bytesL k1'), .string (bytesL ((l.drop f).take s1)), .int .i64 0], .bool true]) (by simp [results, Tryz.results21, go_sem, z0, z1, z2, z3, z4]) rfl ?_
                  rw [hv.out]
                  have F : Frm [some (w9.heap.size + 1), some p, some (w.heap.size + 1)] w w6 := (((F8.out.mono (T := [some (w9.heap.size + 1), some p, some (w.heap.size + 1)]) (by intro r hr; cases hr)).trans HF7.out (by intro r hr; simp only [List.mem_singleton] at hr; subst hr; exact .inl (by simp))).trans HF6.out (by intro r hr; simp only [List.mem_singleton] at hr; subst hr; exact .inl (by simp)))
                  have F5 := ((((F.set (b := w.heap.size + 1) (i := 0) (.string (bytesL m1)) (by simp)).set (b := w.heap.size + 1) (i := 1) (.string (bytesL p1)) (by simp)).set (b := w.heap.size + 1) (i := 2) (.string (bytesL k1')) (by simp)).set (b := w.heap.size + 1) (i := 3) (.string (bytesL ((l.drop f).take s1))) (by simp)).set (b := w.heap.size + 1) (i := 4) (.int .i64 0) (by simp)
                  refine ⟨rfl, F5.shed (by intro r hr; simp only [List.mem_cons, List.not_mem_nil, or_false] at hr; exact hr.elim (fun e => .inr ⟨_, e, by omega⟩) (fun hr => hr.elim (fun e => .inl (by rw [e]; simp)) (fun e => .inr ⟨_, e, by omega⟩))), .slice (some ⟨g, o, none⟩) 0 0, ?_, ?_⟩
                  · rw [heap_setCell_other _ _ _ _ (by simp; omega), heap_setCell_other _ _ _ _ (by simp; omega), heap_setCell_other _ _ _ _ (by simp; omega), heap_setCell_other _ _ _ _ (by simp; omega), heap_setCell_other _ _ _ _ (by simp; omega)]
                    exact HP6.out
                  · exact rest_none l g o n F5 HN.out hgb hgl (by intro r hr; simp only [List.mem_cons, List.not_mem_nil, or_false] at hr; rcases hr with e | e | e <;> (intro e2; rw [e] at e2; injection e2 with e2; omega)) HTY.out
              
            · obtain rfl : fs = c := by omega
              obtain rfl : n = fs := by omega
              obtain rfl : f = n := by omega
              obtain rfl : s1 = 0 := by omega
              have hc1 : ∀ q cc, (convert 27 9 (.slice (some ⟨g, o, none⟩) 0 cc)).run Tryz.prog (w8.drewN q) = .ok (.string (bytesL [])) (w8.drewN q) := fun q cc => by
                have h := run_convert_bytes_arg (P := Tryz.prog) (w8.drewN q) 27 5 Tryz.underlying27 Tryz.underlying5 g o 0 cc [] rfl (fun i hi => by omega) 9 Tryz.underlying9
                exact h
              clear hnx
              go_quiet (fail)
              go_wp2_with fail
              go_cut [] (fun wx => ∃ w7, w7 = wx ∧ HdB w7 (w9.heap.size + 1) (bytesL m1) (bytesL p1) (bytesL k1') (bytesL []) (0 : Int) w9.heap.size ∧ Frm [some (w9.heap.size + 1)] w8 w7)
              case first =>
                go_region_law (fail)
                all_goals go_wp2_with fail
                all_goals go_meet
                all_goals exact ⟨_, rfl, hd_body HH8.out _, ((Frm.refl [some (w9.heap.size + 1)] w8).drwN _).set _ (by simp)⟩
              case rest =>
                obtain ⟨w7, rfl, hd7, hF7⟩ := hcut
                have hne3 : ∀ b, b < w9.heap.size → ∀ r ∈ [some (w9.heap.size + 1)], r ≠ some b := fun b hb r hr e => by
                  simp only [List.mem_singleton] at hr
                  subst hr; injection e with e; omega
                have q7 : w7.cell? ⟨w.heap.size, 0, none⟩ = some (.pointer (some ⟨p, 0, none⟩)) := by
                  have := hF7.keep w.heap.size (lt_of_cellW q8) (hne3 w.heap.size lw9)
                  rw [← q8]; unfold World.cell?; rw [this]
                have yp7 := hF7.block YP8.out (hne3 p lp9)
                have YX7 := Lib.hid (hF7.block YX8.out (hne3 (w.heap.size + 1) lx9))
                obtain ⟨c7, d7⟩ := box2R yp7
                have h7 : w7.cell? ⟨w9.heap.size + 1, 4, none⟩ = some (.int .i64 (0 : Int)) := cell_of_block hd7 4
                have fp7 := free_of_block yp7
                have YP7 := Lib.hid yp7
                have HD7 := Lib.hid hd7
                have HF7 := Lib.hid hF7
                clear yp7 hd7 hF7 hc1
                go_upto_region 15 with fail
                go_cut [] (fun wx => ∃ w6, w6 = wx ∧ w6.heap[p]? = some (.cells #[.slice (some ⟨g, o, none⟩) 0 0, .bool false] 55) ∧ Frm [some p] w7 w6)
                case first =>
                  go_region_law (fail)
                  all_goals go_wp2_with fail
                  all_goals go_meet
                  all_goals exact ⟨_, rfl, set_selfR _ YP7.out, ((Frm.refl [some p] w7).drwN _).set _ (by simp)⟩
                case rest =>
                  obtain ⟨w6, rfl, hp6, hF6⟩ := hcut
                  have hne4 : ∀ b, b ≠ p → ∀ r ∈ [some p], r ≠ some b := fun b hb r hr e => by
                    simp only [List.mem_singleton] at hr
                    subst hr; injection e with e; exact hb e.symm
                  have hd6 : HdB w6 (w9.heap.size + 1) (bytesL m1) (bytesL p1) (bytesL k1') (bytesL []) (0 : Int) w9.heap.size := hF6.block HD7.out (hne4 _ (by omega))
                  have y6 := hF6.block YX7.out (hne4 _ (by omega))
                  have a0 : w6.cell? ⟨w9.heap.size + 1, 0, none⟩ = some (.string (bytesL m1)) := cell_of_block hd6 0
                  have a1 : w6.cell? ⟨w9.heap.size + 1, 1, none⟩ = some (.string (bytesL p1)) := cell_of_block hd6 1
                  have a2 : w6.cell? ⟨w9.heap.size + 1, 2, none⟩ = some (.string (bytesL k1')) := cell_of_block hd6 2
                  have a3 : w6.cell? ⟨w9.heap.size + 1, 3, none⟩ = some (.string (bytesL [])) := cell_of_block hd6 3
                  have f6 := free_of_block y6
                  obtain ⟨e0, e1, e2, e3, e4⟩ := box5R y6
                  have Y6 := Lib.hid y6
                  have HP6 := Lib.hid hp6
                  have HF6 := Lib.hid hF6
                  clear y6 hd6 hp6 hF6
                  go_wp2_with fail
                  obtain ⟨z0, z1, z2, z3, z4⟩ := box5R (sets5 Y6.out (.string (bytesL m1)) (.string (bytesL p1)) (.string (bytesL k1')) (.string (bytesL [])) (.int .i64 0))
                  refine bodyPost_ret (v := .tuple #[.agg #[.string (bytesL m1), .string (bytesL p1), .string (bytesL k1'), .string (bytesL []), .int .i64 0], .bool true]) (by simp [results, Tryz.results21, go_sem, z0, z1, z2, z3, z4]) rfl ?_
                  rw [hv.out]
                  have F : Frm [some (w9.heap.size + 1), some p, some (w.heap.size + 1)] w w6 := (((F8.out.mono (T := [some (w9.heap.size + 1), some p, some (w.heap.size + 1)]) (by intro r hr; cases hr)).trans HF7.out (by intro r hr; simp only [List.mem_singleton] at hr; subst hr; exact .inl (by simp))).trans HF6.out (by intro r hr; simp only [List.mem_singleton] at hr; subst hr; exact .inl (by simp)))
                  have F5 := ((((F.set (b := w.heap.size + 1) (i := 0) (.string (bytesL m1)) (by simp)).set (b := w.heap.size + 1) (i := 1) (.string (bytesL p1)) (by simp)).set (b := w.heap.size + 1) (i := 2) (.string (bytesL k1')) (by simp)).set (b := w.heap.size + 1) (i := 3) (.string (bytesL [])) (by simp)).set (b := w.heap.size + 1) (i := 4) (.int .i64 0) (by simp)
                  refine ⟨rfl, F5.shed (by intro r hr; simp only [List.mem_cons, List.not_mem_nil, or_false] at hr; exact hr.elim (fun e => .inr ⟨_, e, by omega⟩) (fun hr => hr.elim (fun e => .inl (by rw [e]; simp)) (fun e => .inr ⟨_, e, by omega⟩))), .slice (some ⟨g, o, none⟩) 0 0, ?_, ?_⟩
                  · rw [heap_setCell_other _ _ _ _ (by simp; omega), heap_setCell_other _ _ _ _ (by simp; omega), heap_setCell_other _ _ _ _ (by simp; omega), heap_setCell_other _ _ _ _ (by simp; omega), heap_setCell_other _ _ _ _ (by simp; omega)]
                    exact HP6.out
                  · exact rest_none l g o f F5 HN.out hgb hgl (by intro r hr; simp only [List.mem_cons, List.not_mem_nil, or_false] at hr; rcases hr with e | e | e <;> (intro e2; rw [e] at e2; injection e2 with e2; omega)) HTY.out
              
      · have hv : Hid (nextS l = .refuse r1) := by refine Lib.hid ?_; rw [hnx, if_pos hr1]
        have e1 : (r1 == 0) = false := beq_eq_false_iff_ne.2 hr1
        clear hnx hr1
        go_upto_region 10 with (go_at_call 35; refine HRd.out.mono ?_; rintro e w8 ⟨rfl, hF8, -⟩)
        have hne2 : ∀ b, b < w9.heap.size → ∀ r ∈ [some (w9.heap.size + 1), some w9.heap.size], r ≠ some b := fun b hb r hr e => by
          simp only [List.mem_cons, List.not_mem_nil, or_false] at hr
          rcases hr with rfl | rfl <;> (injection e with e; omega)
        have q8 : w8.cell? ⟨w.heap.size, 0, none⟩ = some (.pointer (some ⟨p, 0, none⟩)) := by
          have := hF8.keep w.heap.size lw5 (hne2 w.heap.size lw9)
          rw [← q5]; unfold World.cell?; rw [this]
        have yp8 := hF8.block YP5.out (hne2 p lp9)
        have YX := Lib.hid (hF8.block YX5.out (hne2 (w.heap.size + 1) lx9))
        have HR := Lib.hid (refused_lit w8 w.heap.size p _ _ q8 (by omega) (Nat.lt_of_lt_of_le lw5 hF8.size) yp8 r1)
        have F8 := Lib.hid hF8
        clear yp8 hF8
        go_wp2_with (go_at_call 33; fail)
        refine HR.out.mono ?_
        rintro e w10 ⟨rfl, hp10, hF10⟩
        have y10 := hF10.block YX.out (by intro r hr; simp only [List.mem_singleton] at hr; subst hr; intro e; injection e with e; omega)
        have f10 := free_of_block y10
        obtain ⟨e0, e1, e2, e3, e4⟩ := box5R y10
        have Y := Lib.hid y10
        have HP10 := Lib.hid hp10
        have HF10 := Lib.hid hF10
        clear y10 hp10 hF10
        go_wp2_with fail
        obtain ⟨z0, z1, z2, z3, z4⟩ := box5R (sets5 Y.out (.string ⟨#[]⟩) (.string ⟨#[]⟩) (.string ⟨#[]⟩) (.string ⟨#[]⟩) (.int .i64 r1))
        refine bodyPost_ret (v := .tuple #[gotV (refG r1), .bool true]) (by simp [gotV, refG, bytesL, results, Tryz.results21, go_sem, z0, z1, z2, z3, z4]) rfl ?_
        rw [hv.out]
        refine ⟨rfl, ?_, .slice none 0 0, ?_, .nil⟩
        · have F : Frm [some p, some (w.heap.size + 1)] w w10 := (((Frm.ofBelow CW5.out).trans F8.out (by intro r hr; simp only [List.mem_cons, List.not_mem_nil, or_false] at hr; rcases hr with rfl | rfl <;> exact .inr ⟨_, rfl, by omega⟩)).trans HF10.out (by intro r hr; simp only [List.mem_singleton] at hr; subst hr; simp))
          have F5 := ((((F.set (b := w.heap.size + 1) (i := 0) (.string ⟨#[]⟩) (by simp)).set (b := w.heap.size + 1) (i := 1) (.string ⟨#[]⟩) (by simp)).set (b := w.heap.size + 1) (i := 2) (.string ⟨#[]⟩) (by simp)).set (b := w.heap.size + 1) (i := 3) (.string ⟨#[]⟩) (by simp)).set (b := w.heap.size + 1) (i := 4) (.int .i64 r1) (by simp)
          exact F5.shed (by intro r hr; simp only [List.mem_cons, List.not_mem_nil, or_false] at hr; exact hr.elim (fun e => .inl (by rw [e]; simp)) (fun e => .inr ⟨_, e, Nat.le_succ _⟩))
        · rw [heap_setCell_other _ _ _ _ (by simp; omega), heap_setCell_other _ _ _ _ (by simp; omega), heap_setCell_other _ _ _ _ (by simp; omega), heap_setCell_other _ _ _ _ (by simp; omega), heap_setCell_other _ _ _ _ (by simp; omega)]
          exact HP10.out
        
end Go.Proofs.YtlgfhbfdjckdnaaGreatDoor
