/- shares: do two transitions have a place in common? -/
import Derived.Test.YtopgakpggnkkmaaAppCol
import Derived.Test.YtopgakpggnkkmaaNetRowsPlain
import Derived.Test.YtopgakpggnkkmaaLNetEffect
namespace Go.Proofs.Ytopgakpggnkkmaa
open Go.RowKit

/-- Is one of a list's places a place of the transition? -/
def sharesGo : List Int → Tr → Bool
  | [], _ => false
  | p :: l, t => decide (0 < hasI t.inn p + hasI t.out p) || sharesGo l t
def sharesB (a b : Tr) : Bool := sharesGo (a.inn ++ a.out) b
theorem sharesGo_drop {l : List Int} {t : Tr} {k : Nat} (h : k < l.length) : sharesGo (l.drop k) t = (decide (0 < hasI t.inn l[k] + hasI t.out l[k]) || sharesGo (l.drop (k + 1)) t) := by
  rw [List.drop_eq_getElem_cons h]; rfl
theorem sharesGo_no : ∀ {l : List Int} {t : Tr}, sharesGo l t = false → ∀ p ∈ l, p ∉ t.inn ∧ p ∉ t.out
  | [], _, _, p, hp => by cases hp
  | q :: l, t, h, p, hp => by
    simp only [sharesGo, Bool.or_eq_false_iff, decide_eq_false_iff_not] at h
    rcases List.mem_cons.1 hp with rfl | hp
    · have r1 := hasI_range t.inn p
      have r2 := hasI_range t.out p
      refine ⟨fun e => ?_, fun e => ?_⟩
      · have := hasI_yes e; omega
      · have := hasI_yes e; omega
    · exact sharesGo_no h.2 p hp
theorem sharesB_no {a b : Tr} (h : sharesB a b = false) : Apart a b := fun p hp => sharesGo_no h p (by rcases hp with hp | hp <;> simp [hp])

set_option maxHeartbeats 2000000 in
theorem shares_any (w : World) (B : Nat) (hB : B ≤ w.heap.size) (a b : Tr) (vi vo wi wo : Value) (hi : Ints w B vi a.inn) (ho : Ints w B vo a.out) (ki : Ints w B wi b.inn) (ko : Ints w B wo b.out) (hli : a.inn.length ≤ 4096) (hlo : a.out.length ≤ 4096) :
    Calls Try.prog 18 #[.agg #[.string a.label, vi, vo], .agg #[.string b.label, wi, wo]] w fun e w' => e = .returned (.bool (sharesB a b)) ∧ Below w.heap.size w w' := by
  obtain ⟨i0, hti, hz0, hz1, hz2⟩ := info_parts info_int
  have hb2 := ((Below.refl w.heap.size w).alloc (Nat.le_refl _) (.cells #[.string a.label, vi, vo] 38)).alloc (by simp) (.cells #[.string b.label, wi, wo] 38)
  obtain ⟨ai, ci, rfl⟩ := hi.val
  obtain ⟨ao, co, rfl⟩ := ho.val
  obtain ⟨bi, di, rfl⟩ := ki.val
  obtain ⟨bo, do_, rfl⟩ := ko.val
  obtain ⟨W, hW⟩ : ∃ W, (w.alloc (.cells #[.string a.label, .slice ai a.inn.length ci, .slice ao a.out.length co] 38)).alloc (.cells #[.string b.label, .slice bi b.inn.length di, .slice bo b.out.length do_] 38) = W := ⟨_, rfl⟩
  have hsz : W.heap.size = w.heap.size + 2 := by rw [← hW]; simp
  rw [hW] at hb2
  have hbxa : W.heap[w.heap.size]? = some (.cells #[.string a.label, .slice ai a.inn.length ci, .slice ao a.out.length co] 38) := by rw [← hW]; exact heap_alloc2_old _ _ _
  have hbxb : W.heap[w.heap.size + 1]? = some (.cells #[.string b.label, .slice bi b.inn.length di, .slice bo b.out.length do_] 38) := by rw [← hW]; exact heap_alloc2_new _ _ _
  have ca1 : W.cell? ⟨w.heap.size, 1, none⟩ = some (.slice ai a.inn.length ci) := by rw [cell_of_block hbxa]; rfl
  have ca2 : W.cell? ⟨w.heap.size, 2, none⟩ = some (.slice ao a.out.length co) := by rw [cell_of_block hbxa]; rfl
  have hi2 := hi.mono (hb2.mono hB) (Nat.le_refl _)
  have ho2 := ho.mono (hb2.mono hB) (Nat.le_refl _)
  have HS := Lib.hid hsz
  have HBX := Lib.hid (And.intro hbxa hbxb)
  clear hbxa hbxb hsz
  go_enter Try.func18, Try.ntmps18
  go_wp2_with fail
  clear hW
  go_cut [5] (fun s5 wx => OwnI wx W.heap.size s5 (a.inn ++ a.out) ∧ Below W.heap.size W wx)
  case first =>
    have hlt : w.heap.size < W.heap.size := by have := HS.out; omega
    have hBW : B ≤ W.heap.size := by omega
    have A0 : Below W.heap.size W ((W.alloc (.cells #[] 3)).drew) := ((Below.refl W.heap.size W).alloc (Nat.le_refl _) _).drew
    have hi3 : Ints ((W.alloc (.cells #[] 3)).drew) B (.slice ai a.inn.length ci) a.inn := hi2.mono (A0.mono hBW) (Nat.le_refl _)
    have own0 : ((W.alloc (.cells #[] 3)).drew).ownsRow W.heap.size 3 1 (.slice (some ⟨W.heap.size, 0, none⟩) 0 0) 0 [] := World.ownsRow_made W #[] 0 (Nat.le_refl _) (by simp) (by simp)
    go_region_held3 (fun w' => w'.cell? ⟨w.heap.size, 1, none⟩ = some (.slice ai a.inn.length ci) ∧ w'.cell? ⟨w.heap.size, 2, none⟩ = some (.slice ao a.out.length co))
      (first
        | go_keep
        | (refine ⟨?_, ?_⟩ <;> (rw [Below.cellB BB hlt]; assumption))
        | (refine ⟨?_, ?_⟩ <;> (rw [Below.cellB BA hlt]; assumption)))
      (first
        | (refine step_append_col _ (by rfl) (.tmp 7) (.tmp 9) 22 (by rfl) (fun _ => rfl) W.heap.size 3 i0 (.int .i64 0) 8 Try.underlying22 hti hz0 hz1 hz2 rfl (.slice (some ⟨W.heap.size, 0, none⟩) 0 0) 0 [] (by rfl) own0 17592186044416 B (.slice ai a.inn.length ci) a.inn (by rfl) hi3 (by unfold maxLen; omega) (by omega) (by simp) ?_
           intro v1 wA hown1 hgrow1
           have BA : Below W.heap.size W wA := A0.grown hgrow1 (by simp) (fun k hk => by cases hk; exact Nat.le_refl _))
        | (refine step_append_col _ (by rfl) (.tmp 10) (.tmp 12) 22 (by rfl) (fun _ => rfl) W.heap.size 3 i0 (.int .i64 0) 8 Try.underlying22 hti hz0 hz1 hz2 rfl v1 (0 + a.inn.length) ([] ++ a.inn.map (Value.int .i64)) (by rfl) hown1 17592186044416 B (.slice ao a.out.length co) a.out (by rfl) (ho2.mono (BA.mono hBW) (Nat.le_refl _)) (by unfold maxLen; omega) (by omega) BA.size ?_
           intro v2 wB hown2 hgrow2
           have BB : Below W.heap.size W wB := BA.grown hgrow2 BA.size (fun k hk => (World.ownsRow.lt hown1 k hk).1)))
    go_wp2_with fail
    go_meet
    case rel =>
      refine ⟨?_, BB⟩
      unfold OwnI
      simpa using hown2
  case rest =>
    obtain ⟨hown, hbel⟩ := hcut
    have hll : (a.inn ++ a.out).length ≤ 17592186044416 := by simp; omega
    have hlI := hown.col hll (Nat.le_refl _)
    obtain ⟨al, cl, rfl⟩ := hown.shape
    have hwc := hbel.size
    have cb1 : wc.cell? ⟨w.heap.size + 1, 1, none⟩ = some (.slice bi b.inn.length di) := by
      rw [Below.cellB hbel (by have := HS.out; omega), cell_of_block HBX.out.2]; rfl
    have cb2 : wc.cell? ⟨w.heap.size + 1, 2, none⟩ = some (.slice bo b.out.length do_) := by
      rw [Below.cellB hbel (by have := HS.out; omega), cell_of_block HBX.out.2]; rfl
    have B2 : Below w.heap.size w wc := hb2.trans (hbel.mono hb2.size)
    have ki2 := ki.mono (B2.mono hB) (Nat.le_refl _)
    have ko2 := ko.mono (B2.mono hB) (Nat.le_refl _)
    obtain ⟨l, hl⟩ : ∃ l, a.inn ++ a.out = l := ⟨_, rfl⟩
    rw [hl] at hlI hll
    rw [hl]
    have HL : Hid (sharesGo l b = sharesB a b) := by rw [← hl]; exact rfl
    clear hl hown ca1 ca2 hi2 ho2 hi ho ki ko
    go_wp2_with fail
    go_loopg [6] l.length (fun g s6 wr => ∃ k j : Nat, k + g = l.length ∧ s6 = .int .i64 k ∧ Hid (sharesGo (l.drop k) b = sharesGo l b) ∧ wr = wc.drewN j)
    case atStart => exact ⟨0, 0, by omega, rfl, rfl, rfl⟩
    case round =>
      obtain ⟨k, j, hkg, rfl, hI, rfl⟩ := hrel
      by_cases hk : k < l.length
      · obtain ⟨bl, ol, rfl, _, hc⟩ := hlI.col k hk
        have hd := Lib.hid (sharesGo_drop (t := b) hk)
        obtain ⟨p, hp⟩ : ∃ p, l[k] = p := ⟨_, rfl⟩
        rw [hp] at hc hd
        clear hp
        have r1 := hasI_range b.inn p
        have r2 := hasI_range b.out p
        obtain ⟨x, hx⟩ : ∃ x, hasI b.inn p = x := ⟨_, rfl⟩
        obtain ⟨y, hy⟩ : ∃ x, hasI b.out p = x := ⟨_, rfl⟩
        rw [hx] at r1 hd
        rw [hy] at r2 hd
        have Hi := Lib.hid (fun z => has_is (wc.drewN z) _ _ _ p (ki2.drewN z) hx)
        have Ho := Lib.hid (fun z => has_is (wc.drewN z) _ _ _ p (ko2.drewN z) hy)
        have hw1 : IntKind.i64.wrap (x + y) = x + y := IntWalk.i64_in _ (by omega)
        have hkI : (k : Int) < (l.length : Int) := by omega
        clear hx hy
        by_cases hs : 0 < x + y
        · have Hf : Hid (true = sharesB a b) := by rw [← HL.out, ← hI.out, hd.out, decide_eq_true hs]; exact rfl
          go_wp2_with fail
          go_quiet (first | (go_at_call_of 21 (Value.slice bi b.inn.length di); exact quiet_add_left (Hi.out _)) | (go_at_call_of 21 (Value.slice bo b.out.length do_); exact quiet_add_left (Ho.out _)))
          go_wp2_with fail
          go_ret
          exact ⟨ret_bool Hf.out, below_drewN (below_drewN B2 _) _⟩
        · have Hf : Hid (sharesGo (l.drop (k + 1)) b = sharesGo l b) := by rw [← hI.out, hd.out, decide_eq_false hs]; exact rfl
          go_wp2_with fail
          go_quiet (first | (go_at_call_of 21 (Value.slice bi b.inn.length di); exact quiet_add_left (Hi.out _)) | (go_at_call_of 21 (Value.slice bo b.out.length do_); exact quiet_add_left (Ho.out _)))
          go_wp2_with fail
          go_roundg (gk - 1)
          case measure => omega
          case rel => exact ⟨k + 1, _, by omega, by go_num, Hf, rfl⟩
      · have hk' : ¬ ((k : Int) < (l.length : Int)) := by omega
        have Hf : Hid (false = sharesB a b) := by rw [← HL.out, ← hI.out, List.drop_eq_nil_of_le (by omega)]; exact rfl
        go_wp2_with fail
        go_ret
        exact ⟨ret_bool Hf.out, below_drewN B2 _⟩

end Go.Proofs.Ytopgakpggnkkmaa
