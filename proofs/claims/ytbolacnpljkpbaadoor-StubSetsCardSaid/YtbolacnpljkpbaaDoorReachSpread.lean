/- home's inner function 'spread': all that is reached from a marking, by a function that tells the next ones. -/
import Derived.Test.YtbolacnpljkpbaaDoorReachBack
set_option maxRecDepth 100000
namespace Go.Proofs.YtbolacnpljkpbaaDoor
open Go.RowKit Go.Maps Go.WideMaps

theorem info_bool : (Tryd.prog.info? 4).map (fun i => (i.zero, i.size, i.bytes)) = some (some (.bool false), 1, 1) := by kernel_rfl

/-- A function that tells the next ones. -/
def NextOk (w : World) (fid : Nat) (caps : Array Value) (E : List (List (Int × Int))) (fw : Bool) : Prop :=
  ∀ W, Below w.heap.size w W → ∀ k : Nat, k < E.length → Calls Tryd.prog fid (#[.int .i64 (k : Int)] ++ caps) W fun e W' =>
    ∃ v l, e = .returned v ∧ Ints W' W'.heap.size v l ∧ (∀ x, x ∈ l ↔ ∃ j : Nat, x = (j : Int) ∧ Nx E fw k j) ∧ (∀ a n c, v = .slice (some a) n c → a.block < w.heap.size ∨ W.heap.size ≤ a.block) ∧ Below W.heap.size W W'

theorem OwnI.pop {w : World} {base : Nat} {a : Option Addr} {n cap : Nat} {l : List Int} {x : Int} (h : OwnI w base (.slice a n cap) (l ++ [x])) : ∃ g, a = some ⟨g, 0, none⟩ ∧ n = l.length + 1 ∧ OwnI w base (.slice (some ⟨g, 0, none⟩) l.length cap) l ∧ w.cell? ⟨g, l.length, none⟩ = some (.int .i64 x) := by
  rcases h.val with ⟨_, h0⟩ | ⟨g, cap', hv, hb, hg⟩
  · simp at h0
  · cases hv
    have h1 := h
    have hat := (h.at (i := l.length) (by simp)).1
    refine ⟨g, rfl, by simp, ?_, by simpa using hat⟩
    rcases h.2 with ⟨h0, _⟩ | ⟨g', cap', cur, hv, hb', hg', hc, hm, hs, ht⟩
    · cases h0
    · cases hv
      refine ⟨by simp, Or.inr ⟨g, cap, cur, rfl, hb', hg', ?_, hm, hs, ?_⟩⟩
      · simp at hc; omega
      · simp only [List.length_append, List.length_singleton, Nat.mul_one, List.map_append, List.map_cons, List.map_nil] at ht ⊢
        have := congrArg (List.take l.length) ht
        rw [List.take_take, List.take_append_of_le_length (by simp)] at this
        rw [Nat.min_eq_left (by omega)] at this
        rw [this, List.take_of_length_le (by simp)]

theorem cellB_map (l : List Bool) : cellsF cellB l = l.map Value.bool := by
  induction l with
  | nil => rfl
  | cons x l ih => simp only [cellsF, List.flatMap_cons, List.map_cons] at *; rw [ih]; rfl
theorem made_bools (k q : Nat) : ((madeCells #[Value.bool false] k).setIfInBounds q (.bool true)).toList = cellsF cellB ((List.replicate k false).set q true) := by
  rw [Array.toList_setIfInBounds, toList_madeCells_one, cellB_map, List.map_set, List.map_replicate]
theorem made_bools0 (k : Nat) : (madeCells #[Value.bool false] k).toList = cellsF cellB (List.replicate k false) := by
  rw [toList_madeCells_one, cellB_map, List.map_replicate]

theorem Frm.step {S : List (Option Nat)} {w w1 w2 : World} {r : Option Nat} (h : Frm S w w1) (hg : w1.grownBy w2 r) (hr : ∀ b, r = some b → some b ∈ S ∨ w.heap.size ≤ b) : Frm S w w2 :=
  ⟨hg.os.trans h.os, hg.tape.trans h.tape, hg.output.trans h.output, Nat.le_trans h.size hg.size, fun k hk hn => (hg.block k (Nat.lt_of_lt_of_le hk h.size) (fun e => by
    rcases hr k e.symm with h1 | h1
    · exact hn _ h1 rfl
    · omega)).trans (h.keep k hk hn)⟩
theorem Frm.cell {S : List (Option Nat)} {w w1 : World} (h : Frm S w w1) {b : Nat} (hb : b < w.heap.size) (hn : ∀ r ∈ S, r ≠ some b) (o : Nat) : w1.cell? ⟨b, o, none⟩ = w.cell? ⟨b, o, none⟩ := by
  simp [World.cell?, h.keep b hb hn]

theorem Nx.lt {E : List (List (Int × Int))} (hE : EdgeOk E) {fw : Bool} {i j : Nat} (h : Nx E fw i j) : j < E.length := by
  cases fw with
  | true => exact (Edg.lt hE (i := i) (j := j) h).2
  | false => exact (Edg.lt hE (i := j) (j := i) h).1

def SpreadPost (w : World) (E : List (List (Int × Int))) (fw : Bool) (i : Nat) (e : Ending) (w' : World) : Prop :=
  ∃ v, e = .returned v ∧ OwnF cellB 4 1 w' w.heap.size v ((List.range E.length).map (ldsB E fw i)) ∧ Below w.heap.size w w'

set_option maxHeartbeats 2000000 in
theorem spread_any (w : World) (B p : Nat) (hB : B ≤ w.heap.size) (E : List (List (Int × Int))) (h : GrE w B p E.length E) (hE : EOk E) (bx : Nat) (_hbx : bx < w.heap.size) (hbc : w.cell? ⟨bx, 0, none⟩ = some (.pointer (some ⟨p, 0, none⟩)))
    (fw : Bool) (i : Nat) (hi : i < E.length) (fid : Nat) (caps : Array Value) (hrun : ∀ (x : Value) (W : World), (callFunc fid (#[x] ++ caps)).run Tryd.prog W = .ok (.enter fid (#[x] ++ caps)) W) (hf : NextOk w fid caps E fw) :
    Calls Tryd.prog 59 #[.int .i64 (i : Int), .func (.func fid) #[] caps, .pointer (some ⟨bx, 0, none⟩)] w (SpreadPost w E fw i) := by
  obtain ⟨aM, cM, vE, k4, k6, hp, hv⟩ := h
  have hl := hE.len
  obtain ⟨i0, hti, hz0, hz1, hz2⟩ := info_parts info_int
  have hmk := run_make_row' (P := Tryd.prog) 36 4 (.bool false) 1 Tryd.underlying36 info_bool rfl .i64 .i64 E.length (by omega) (by omega)
  have hpw : p < w.heap.size := by omega
  have hmc : (madeCells #[Value.bool false] E.length)[i]? = some (.bool false) := by simp [madeCells, hi, Nat.mod_one]
  have HF := Lib.hid hf
  clear hf
  have hS := World.ownsRow_lit (base := w.heap.size) (e := 4) (size := 1) w ((madeCells #[Value.bool false] E.length).setIfInBounds i (.bool true)) E.length (Nat.le_refl _) (by unfold maxLen; omega) (by simp [size_madeCells])
  rw [made_bools] at hS
  have hS1 : OwnF cellB 4 1 (w.alloc (.cells ((madeCells #[Value.bool false] E.length).setIfInBounds i (.bool true)) 4)) w.heap.size (.slice (some ⟨w.heap.size, 0, none⟩) E.length E.length) ((List.replicate E.length false).set i true) := by
    unfold OwnF
    rw [List.length_set, List.length_replicate]; exact hS
  have hT1 := World.ownsRow_lit (base := w.heap.size) (e := 3) (size := 1) (w.alloc (.cells ((madeCells #[Value.bool false] E.length).setIfInBounds i (.bool true)) 4)) #[.int .i64 (i : Int)] 1 (by simp) (by decide) rfl
  have hb1 : Below w.heap.size w ((w.alloc (.cells ((madeCells #[Value.bool false] E.length).setIfInBounds i (.bool true)) 4)).alloc (.cells #[.int .i64 (i : Int)] 3)) := ((Below.refl _ _).alloc (Nat.le_refl _) _).alloc (by simp) _
  obtain ⟨W1, hW1⟩ : ∃ W1, (w.alloc (.cells ((madeCells #[Value.bool false] E.length).setIfInBounds i (.bool true)) 4)).alloc (.cells #[.int .i64 (i : Int)] 3) = W1 := ⟨_, rfl⟩
  have HS : Hid (OwnF cellB 4 1 W1 w.heap.size (.slice (some ⟨w.heap.size, 0, none⟩) E.length E.length) ((List.replicate E.length false).set i true)) := by
    rw [← hW1]; exact OwnF.kept hS1 ((Below.refl _ _).alloc (Nat.le_refl _) _)
  have HT : Hid (OwnI W1 w.heap.size (.slice (some ⟨w.heap.size + 1, 0, none⟩) 1 1) [(i : Int)]) := by
    rw [← hW1]; unfold OwnI; rw [World.size_alloc] at hT1; exact hT1
  rw [hW1] at hb1
  have HP := Lib.hid (Spr.first E fw hi)
  have HU : Hid (unseen ((List.replicate E.length false).set i true) + 1 = E.length) := by
    have := unseen_set (seen := List.replicate E.length false) (x := i) (by simpa using hi) (by simp [List.getD_eq_getElem?_getD, hi])
    rw [this]; unfold unseen; refine Lib.hid ?_; simp
  clear hS hS1 hT1
  go_enter Tryd.func59, Tryd.ntmps59
  go_wp2_with fail
  clear hW1
  go_loopg [7] E.length (fun gh s7 wr => ∃ (seen : List Bool) (todo : List Int), Hid (Spr E fw i seen todo) ∧ Hid (unseen seen + todo.length = gh) ∧ gh ≤ E.length ∧ Hid (OwnF cellB 4 1 wr w.heap.size (.slice (some ⟨w.heap.size, 0, none⟩) E.length E.length) seen) ∧ OwnI wr w.heap.size s7 todo ∧ Below w.heap.size w wr)
  case atStart => exact ⟨_, _, HP, HU, Nat.le_refl _, HS, HT.out, hb1⟩
  case round =>
    clear HP HU HS HT hb1
    obtain ⟨seen, todo, hP, hU, hgl, hS, hT, hbel⟩ := hrel
    rcases List.eq_nil_or_concat todo with rfl | ⟨td, x, hx⟩
    · obtain ⟨a7, c7, rfl⟩ := hT.shape
      go_wp2_with fail
      go_ret
      exact ⟨_, rfl, by rw [← hP.out.done]; exact hS.out, hbel⟩
    · rw [List.concat_eq_append] at hx
      subst hx
      obtain ⟨k, rfl, hk, _⟩ := hP.out.todo_ x (by simp)
      obtain ⟨a7, c7, rfl⟩ := hT.shape
      have hcap := hT.cap
      obtain ⟨g, rfl, hlen, hpop, hcx⟩ := hT.pop
      have hn : td.length + 1 ≤ E.length := by have := hU.out; simp at this; omega
      have HLen : Hid ((td ++ [(k : Int)]).length = td.length + 1) := hlen
      rw [HLen.out] at hcap ⊢
      have hgw := hT.lt
      have HPop := Lib.hid hpop
      have hgs : w.heap.size ≠ g := by
        intro e
        obtain ⟨⟨c, hc⟩, _⟩ := OwnF.ty hS.out (q := w.heap.size) rfl
        rcases hT.2 with ⟨h0, _⟩ | ⟨g', cap', cur, hv', _, hg', _⟩
        · cases h0
        · cases hv'
          rw [← e, hc] at hg'
          injection hg' with hg'
          injection hg' with _ e2 _
          exact absurd e2 (by decide)
      clear hlen hT hpop
      go_wp2_with fail
      refine (HF.out wr hbel k hk).mono ?_
      rintro e w2 ⟨v, l, rfl, hli, hmem, hsep, hb2⟩
      obtain ⟨av, cv, rfl⟩ := hli.val
      have hll := hli.len
      have HMem := Lib.hid hmem
      have HSep := Lib.hid hsep
      have hwr := hbel.size
      have hw2 := hb2.size
      have HI : Hid (SprIn E fw i k (l.take 0) seen td) := hP.out.take
      have HU2 : Hid (unseen seen + td.length + 1 = gk) := by have := hU.out; refine Lib.hid ?_; simp at this; omega
      have HS2 := Lib.hid (OwnF.kept hS.out hb2)
      have hT2 := HPop.out.kept hb2 (Nat.le_refl _)
      have hB2 := hbel.trans (hb2.mono hwr)
      have hfr := Frm.refl [some w.heap.size, some g] w2
      obtain ⟨N0, hN0⟩ : ∃ N0, gk = N0 := ⟨_, rfl⟩
      rw [hN0] at HU2
      have HN0 := Lib.hid hN0
      clear hmem hsep hP hU hS HPop hN0 hbel hcap hcx
      go_wp2_with fail
      go_loopg [7, 40] l.length (fun gh s7 s40 wx => ∃ (q : Nat) (seen : List Bool) (td : List Int), q + gh = l.length ∧ s40 = .int .i64 (q : Int) ∧ Hid (SprIn E fw i k (l.take q) seen td) ∧ Hid (unseen seen + td.length + 1 = N0) ∧ td.length ≤ E.length ∧
        Hid (OwnF cellB 4 1 wx w.heap.size (.slice (some ⟨w.heap.size, 0, none⟩) E.length E.length) seen) ∧ OwnI wx w.heap.size s7 td ∧ Hid (∀ b, s7.ownBlock = some b → b = g ∨ w2.heap.size ≤ b) ∧ Hid (Frm [some w.heap.size, some g] w2 wx) ∧ Below w.heap.size w wx)
      case atStart => exact ⟨0, seen, td, by omega, rfl, HI, HU2, by omega, HS2, hT2, fun b hb => Or.inl (Option.some.inj hb).symm, hfr, hB2⟩
      case round =>
        clear HI HU2 HS2 hT2 hB2 hfr hn HLen
        obtain ⟨q, seen, td, hqg, rfl, hI, hU, htd, hS, hT, hblk, hfr, hbel⟩ := hrel
        obtain ⟨a7, c7, rfl⟩ := hT.shape
        by_cases hq : q < l.length
        · obtain ⟨b, o, rfl, hbw, hcl⟩ := hli.col q hq
          obtain ⟨j, hj, hnx⟩ := (HMem.out l[q]).1 (List.getElem_mem hq)
          have hjl := Nx.lt hE.to_ hnx
          have HJ := Lib.hid hj
          have HNx := Lib.hid hnx
          have hbn : b ≠ w.heap.size ∧ b ≠ g := by
            have := HSep.out _ _ _ rfl
            simp at this
            omega
          have hcl2 : wr.cell? ⟨b, o + q, none⟩ = some (.int .i64 (j : Int)) := by
            rw [hfr.out.cell hbw (by intro r hr e; simp at hr; rcases hr with rfl | rfl <;> (have := Option.some.inj e; omega)), hcl, hj]
          have htk : Hid (l.take (q + 1) = l.take q ++ [(j : Int)]) := by
            refine Lib.hid ?_; rw [← hj, List.take_succ_eq_append_getElem hq]
          have hsl : seen.length = E.length := hI.out.len
          have hjs : j < seen.length := by omega
          have hsc := OwnF.at cellB_len hS.out hjs (j := 0) (by omega)
          rw [Nat.mul_one, Nat.add_zero] at hsc
          have hsf := OwnF.free hS.out j
          have hgd : seen.getD j false = seen[j] := by simp [hjs]
          cases hsj : seen[j] with
          | true =>
            rw [hsj] at hsc hgd
            have hsc' : wr.cell? ⟨w.heap.size, j, none⟩ = some (.bool true) := hsc
            have HG := Lib.hid hgd
            clear hsc hgd hsj hj hnx hsl hcl hbn
            go_wp2_with fail
            go_roundg (gk - 1)
            case measure => omega
            case rel => exact ⟨q + 1, seen, td, by omega, by go_num, by rw [htk.out]; exact hI.out.old HG.out, hU, htd, hS, hT, hblk, hfr, hbel⟩
          | false =>
            rw [hsj] at hsc hgd
            have hsc' : wr.cell? ⟨w.heap.size, j, none⟩ = some (.bool false) := hsc
            have HG := Lib.hid hgd
            have hgS := grownBy_setCell wr w.heap.size j (.bool true)
            have hS3 := OwnF.set cellB_len hS.out hjs (j := 0) (by omega) (.bool true) true rfl
            rw [Nat.mul_one, Nat.add_zero] at hS3
            obtain ⟨⟨cS, hcS⟩, _⟩ := OwnF.ty hS.out (q := w.heap.size) rfl
            have hT3 := hT.turned hgS (fun cur e => type_ne hcS e (by decide) rfl)
            have hf3 := hfr.out.step hgS (fun b hb => Or.inl (by rw [hb]; simp))
            have hb3 : Below w.heap.size w (wr.setCell ⟨w.heap.size, j, none⟩ (.bool true)) := hbel.setCell (Nat.le_refl _) _
            obtain ⟨W3, hW3⟩ : ∃ W3, wr.setCell ⟨w.heap.size, j, none⟩ (.bool true) = W3 := ⟨_, rfl⟩
            rw [hW3] at hS3 hT3 hf3 hb3
            have hx3 := (Below.refl W3.heap.size W3).alloc (Nat.le_refl _) (.cells #[.int .i64 (j : Int)] 3)
            have hT4 := hT3.kept hx3 (Nat.le_refl _)
            have hS4 := OwnF.kept hS3 hx3
            have hf4 := hf3.below hx3
            have hb4 := hb3.trans (hx3.mono hb3.size)
            have hwz : w.heap.size < w2.heap.size := by have := hgw; omega
            have hne : ∀ q : Nat, some q = (Value.slice a7 td.length c7).ownBlock → q ≠ w.heap.size := by
              intro q hq2 e
              rcases hblk.out q hq2.symm with h1 | h1 <;> omega
            have hblo := fun b hb => hT4.lower (Nat.le_refl w.heap.size) |>.2 |> fun _ => World.ownsRow.lt hT4 b hb
            have HX := Lib.hid (And.intro hS4 (And.intro hf4 (And.intro hb4 (And.intro hne hblo))))
            have htd1 : td.length + 1 ≤ E.length := by
              have h1 := hU.out
              have h2 := unseen_set hjs HG.out
              have h3 := HN0.out
              omega
            have HUS : Hid (unseen (seen.set j true) + (td ++ [(j : Int)]).length + 1 = N0) := by
              have h1 := hU.out
              have h2 := unseen_set hjs HG.out
              refine Lib.hid ?_
              simp; omega
            clear hsc hgd hsj hj hnx hsl hcl hbn hgS hS3 hf3 hb3 hx3 hS4 hf4 hb4 hne hblo hcS
            go_wp2_with (at_builtin; refine wpList_append_own_at _ rfl _ _ 26 rfl w.heap.size 3 i0 (.int .i64 0) 1 8 Tryd.underlying26 hti hz0 hz1 hz2 rfl (by decide) _ _ _ rfl hT4 ⟨W3.heap.size, 0, none⟩ 1 1 [.int .i64 (j : Int)] rfl rfl (cell_one_new _ _ _) (by intro u hu; simp at hu; subst hu; rfl) (by unfold maxLen; omega) (by omega) (by have := HX.out.2.2.1.size; omega) ?_; intro v6 w6 hown6 hg6 _ hat6)
            go_roundg (gk - 1)
            case measure => omega
            case rel =>
              obtain ⟨hS4, hf4, hb4, hne, hblo⟩ := HX.out
              refine ⟨q + 1, seen.set j true, td ++ [(j : Int)], by omega, by go_num, by rw [htk.out]; exact hI.out.new hjl HNx.out, HUS, by simp; omega, Lib.hid (hS4.grown hg6 ?_), ?_, Lib.hid ?_, Lib.hid (hf4.step hg6 ?_), hb4.grown hg6 hb4.size (fun k hk => (hblo k hk).1)⟩
              · intro q hq2 e
                obtain rfl : w.heap.size = q := Option.some.inj hq2
                exact hne _ e rfl
              · unfold OwnI; simpa using hown6
              · intro b hb
                rcases hat6 with h1 | h1
                · rw [h1] at hb; exact hblk.out b hb
                · rw [h1] at hb
                  obtain rfl := Option.some.inj hb
                  exact Or.inr hf4.size
              · intro b hb
                rcases hblk.out b hb with rfl | h1
                · exact Or.inl (by simp)
                · exact Or.inr h1
        · have hq' : ¬ ((q : Int) < (l.length : Int)) := by omega
          have HD : Hid (Spr E fw i seen td) := by
            refine Lib.hid (hI.out.out (fun j hj => ?_))
            rw [List.take_of_length_le (by omega)]
            exact (HMem.out _).2 ⟨j, rfl, hj⟩
          have HU3 : Hid (unseen seen + td.length = N0 - 1) := by have := hU.out; refine Lib.hid ?_; omega
          have hN := hU.out
          have hN1 := HN0.out
          go_wp2_with fail
          go_roundg (N0 - 1)
          case measure => omega
          case rel => exact ⟨seen, td, HD, HU3, by omega, hS, hT, hbel⟩

end Go.Proofs.YtbolacnpljkpbaaDoor
