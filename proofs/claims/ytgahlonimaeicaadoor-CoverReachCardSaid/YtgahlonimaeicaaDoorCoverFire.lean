/- cover.fired: the wide marking behind a transition. -/
import Derived.Test.YtgahlonimaeicaaDoorNetFire
import Derived.Test.YtgahlonimaeicaaDoorAppCol
set_option maxRecDepth 100000
namespace Go.Proofs.YtgahlonimaeicaaDoor
open Go.RowKit

/-- A token more or less on one place, where it has not tokens without end. -/
def add1 (by_ : Int) (o : List Int) (p : Int) : List Int := if getI o p = -1 then o else addI o p by_
def addW (by_ : Int) : List Int → List Int → List Int
  | o, [] => o
  | o, p :: ps => addW by_ (add1 by_ o p) ps
/-- The wide marking behind a transition; false: it is not enabled. -/
def Tr.wideE (t : Tr) (m : List Int) : List Int := addW 1 (addW (-1) m t.inn) t.out

theorem len_add1 (by_ : Int) (o : List Int) (p : Int) : (add1 by_ o p).length = o.length := by unfold add1; split <;> simp [len_addI]
theorem len_addW (by_ : Int) : ∀ (ps o : List Int), (addW by_ o ps).length = o.length
  | [], _ => rfl
  | p :: ps, o => by rw [addW, len_addW by_ ps, len_add1]
theorem len_wideE (t : Tr) (m : List Int) : (t.wideE m).length = m.length := by unfold Tr.wideE; rw [len_addW, len_addW]
theorem addW_drop {by_ : Int} {o ps : List Int} {k : Nat} (h : k < ps.length) : addW by_ o (ps.drop k) = addW by_ (add1 by_ o ps[k]) (ps.drop (k + 1)) := by
  rw [List.drop_eq_getElem_cons h]; rfl

/-- Wide numbers within a bound. -/
def Wide (U : Int) (m : List Int) : Prop := ∀ x ∈ m, -1 ≤ x ∧ x ≤ U
theorem Wide.up {U V : Int} {m : List Int} (h : Wide U m) (hu : U ≤ V) : Wide V m := fun x hx => ⟨(h x hx).1, by have := (h x hx).2; omega⟩
theorem Wide.add1 {U : Int} {m : List Int} (h : Wide U m) {by_ : Int} (hb : by_ = 1 ∨ by_ = -1) (p : Int) (hp : 0 ≤ p ∧ p < (m.length : Int)) : Wide (U + 1) (add1 by_ m p) := by
  obtain ⟨q, rfl⟩ := Int.eq_ofNat_of_zero_le hp.1
  have hq : q < m.length := by omega
  unfold Go.Proofs.YtgahlonimaeicaaDoor.add1
  rw [getI_eq hq, addI_eq _ hq]
  have hx := h _ (List.getElem_mem hq)
  split
  · exact h.up (by omega)
  · intro x hx2
    rcases mem_set_cases hx2 with rfl | h2
    · omega
    · have := h x h2; omega
theorem Wide.addW {by_ : Int} (hb : by_ = 1 ∨ by_ = -1) : ∀ (ps : List Int) {U : Int} {m : List Int}, Wide U m → PlacesOk m.length ps → Wide (U + ps.length) (addW by_ m ps)
  | [], U, m, h, _ => h.up (by simp)
  | p :: ps, U, m, h, hp => by
    have h1 := h.add1 hb p (hp p (by simp))
    have h2 := Wide.addW hb ps h1 (by rw [len_add1]; exact fun x hx => hp x (by simp [hx]))
    refine (Wide.up h2 ?_)
    simp; omega
theorem Wide.wideE {t : Tr} {U : Int} {m : List Int} (h : Wide U m) (hi : PlacesOk m.length t.inn) (ho : PlacesOk m.length t.out) : Wide (U + t.inn.length + t.out.length) (t.wideE m) :=
  Wide.addW (Or.inl rfl) t.out (Wide.addW (Or.inr rfl) t.inn h hi) (by rw [len_addW]; exact ho)

theorem grownBy_setCell (W : World) (b i : Nat) (v : Value) : W.grownBy (W.setCell ⟨b, i, none⟩ v) (some b) :=
  ⟨rfl, rfl, rfl, by simp, fun k _ hk => heap_setCell_ne _ _ (fun e => hk (by rw [e]))⟩
theorem run_fired2 (b : Nat) (v : Value) (x : Int) (W : World) : (callFunc 68 (#[v, Value.int .i64 x] ++ #[.pointer (some ⟨b, 0, none⟩)])).run Tryd.prog W = .ok (.enter 68 (#[v, Value.int .i64 x] ++ #[.pointer (some ⟨b, 0, none⟩)])) W := by kernel_rfl

set_option maxHeartbeats 1000000 in
theorem addW_any (w : World) (c g cap B : Nat) (by_ : Int) (hby : by_ = 1 ∨ by_ = -1) (ps m : List Int) (vl : Value) (U : Int) (hU : U + ps.length ≤ 4611686018427387904)
    (hown : OwnI w g (.slice (some ⟨g, 0, none⟩) m.length cap) m) (hc : w.cell? ⟨c, 0, none⟩ = some (.slice (some ⟨g, 0, none⟩) m.length cap)) (hcg : c ≠ g) (hB : B ≤ g) (hps : Ints w B vl ps)
    (hpo : PlacesOk m.length ps) (hm : Wide U m) (_hml : m.length ≤ 17592186044416) :
    Calls Tryd.prog 68 #[vl, .int .i64 by_, .pointer (some ⟨c, 0, none⟩)] w fun e w' => e = .returned (.tuple #[]) ∧ OwnI w' g (.slice (some ⟨g, 0, none⟩) m.length cap) (addW by_ m ps) ∧ w.grownBy w' (some g) := by
  obtain ⟨al, cl, rfl⟩ := hps.val
  have hpl := hps.len
  have hg := hown.lt.2
  go_enter Tryd.func68, Tryd.ntmps68
  go_wp2_with fail
  go_loopg [9] ps.length (fun gh s9 wr => ∃ (k : Nat) (cur : List Int), k + gh = ps.length ∧ s9 = .int .i64 (k : Int) ∧ Hid (addW by_ cur (ps.drop k) = addW by_ m ps) ∧ Hid (cur.length = m.length) ∧ Hid (Wide (U + k) cur) ∧
    OwnI wr g (.slice (some ⟨g, 0, none⟩) m.length cap) cur ∧ w.grownBy wr (some g))
  case atStart => exact ⟨0, m, by omega, rfl, rfl, rfl, hm.up (by simp), hown, World.grownBy.refl _ _⟩
  case round =>
    obtain ⟨k, cur, hkg, rfl, hA, hL, hW, how, hgr⟩ := hrel
    have hbelg : Below g w wr := (Below.refl g w).grown hgr (by omega) (fun k hk => by cases hk; exact Nat.le_refl _)
    by_cases hk : k < ps.length
    · obtain ⟨bi, oi, rfl, hbi, hci⟩ := hps.col k hk
      rw [← Below.cellB hbelg (by omega)] at hci
      have hcw := hgr.cell hc (by simpa using hcg)
      have hp := hpo _ (List.getElem_mem hk)
      obtain ⟨q, hq⟩ : ∃ q : Nat, ps[k] = (q : Int) := ⟨_, (Int.toNat_of_nonneg hp.1).symm⟩
      have hd := Lib.hid (addW_drop (by_ := by_) (o := cur) hk)
      rw [hq] at hci hp hd
      have hqc : q < cur.length := by have := hL.out; omega
      have hget := Lib.hid (getI_eq hqc)
      have hset := Lib.hid (addI_eq by_ hqc)
      obtain ⟨hc0, hf0⟩ := how.at hqc
      obtain ⟨hlo1, hhi1⟩ := hW.out _ (List.getElem_mem hqc)
      have hqm : q < m.length := by omega
      have hw1 : Hid (Wide (U + (k + 1 : Nat)) (add1 by_ cur (q : Int))) := Wide.up (Wide.add1 hW.out hby _ (by omega)) (by omega)
      obtain ⟨x, hx⟩ : ∃ x, cur[q] = x := ⟨_, rfl⟩
      rw [hx] at hc0 hlo1 hhi1 hget hset
      have How := how.set q (x + by_)
      clear hq hp
      by_cases hm1 : x = -1
      · subst hm1
        have hn : Hid (add1 by_ cur (q : Int) = cur) := by unfold add1; rw [hget.out, if_pos rfl]; exact rfl
        go_wp2_with fail
        go_roundg (gk - 1)
        case measure => omega
        case rel => exact ⟨k + 1, cur, by omega, by go_num, Lib.hid (by rw [← hA.out, hd.out, hn.out]), hL, Lib.hid (by rw [← hn.out]; exact hw1.out), how, hgr⟩
      · have hn : Hid (add1 by_ cur (q : Int) = cur.set q (x + by_)) := by unfold add1; rw [hget.out, if_neg hm1, hset.out]; exact rfl
        go_wp2_with fail
        go_roundg (gk - 1)
        case measure => omega
        case rel => exact ⟨k + 1, cur.set q (x + by_), by omega, by go_num, Lib.hid (by rw [← hA.out, hd.out, hn.out]), Lib.hid (by rw [List.length_set]; exact hL.out), Lib.hid (by rw [← hn.out]; exact hw1.out), How, hgr.trans (grownBy_setCell _ _ _ _)⟩
    · have hA2 : Hid (cur = addW by_ m ps) := by rw [← hA.out, List.drop_eq_nil_of_le (by omega)]; exact rfl
      go_wp2_with fail
      refine bodyPost_end (results_none rfl _ _ _) rfl ?_
      exact ⟨rfl, by rw [← hA2.out]; exact how, hgr⟩

theorem run_fired1 (b : Nat) (x : Int) (W : World) : (callFunc 67 (#[Value.int .i64 x] ++ #[.pointer (some ⟨b, 0, none⟩)])).run Tryd.prog W = .ok (.enter 67 (#[Value.int .i64 x] ++ #[.pointer (some ⟨b, 0, none⟩)])) W := by kernel_rfl

set_option maxHeartbeats 400000 in
theorem fired1 (w : World) (B : Nat) (b : Nat) (p : Int) (v : Value) (m : List Int) (hm : Ints w B v m) (hb : w.cell? ⟨b, 0, none⟩ = some v) (h0 : 0 ≤ p) (h1 : p < (m.length : Int)) :
    Calls Tryd.prog 67 #[.int .i64 p, .pointer (some ⟨b, 0, none⟩)] w fun e w' => e = .returned (.bool (zeroAt m p)) ∧ w = w' := by
  obtain ⟨q, rfl⟩ := Int.eq_ofNat_of_zero_le h0
  have hq : q < m.length := by omega
  have hz := Lib.hid (getI_eq hq)
  obtain ⟨a, c, rfl⟩ := hm.val
  obtain ⟨bm, om, rfl, _, hc⟩ := hm.col q hq
  have hl := hm.len
  go_enter Tryd.func67, Tryd.ntmps67
  go_wp2_with fail
  go_ret
  exact ⟨ret_bool (by unfold zeroAt; rw [hz.out]), rfl⟩

/-- What fired hands back. -/
def FiredPost (w : World) (t : Tr) (m : List Int) (e : Ending) (w' : World) : Prop :=
  Below w.heap.size w w' ∧ ((t.enB m = false ∧ e = .returned (.tuple #[.slice none 0 0, .bool false])) ∨
    (t.enB m = true ∧ ∃ v, e = .returned (.tuple #[v, .bool true]) ∧ OwnI w' w.heap.size v (t.wideE m)))

set_option maxHeartbeats 1600000 in
theorem fired_any (w : World) (B : Nat) (hB : B ≤ w.heap.size) (t : Tr) (vi vo vm : Value) (m : List Int) (hi : Ints w B vi t.inn) (ho : Ints w B vo t.out) (hm : Ints w B vm m) (hpi : PlacesOk m.length t.inn) (hpo : PlacesOk m.length t.out)
    (U : Int) (hU : U + t.inn.length + t.out.length ≤ 4611686018427387904) (hw : Wide U m) (hne : 0 < m.length) :
    Calls Tryd.prog 40 #[.agg #[.string t.label, vi, vo], vm] w (FiredPost w t m) := by
  have hb2 := ((Below.refl w.heap.size w).alloc (Nat.le_refl _) (.cells #[.string t.label, vi, vo] 42)).alloc (by simp) (.cells #[vm] 33)
  have hi2 := hi.mono (hb2.mono hB) (Nat.le_refl _)
  have ho2 := ho.mono (hb2.mono hB) (Nat.le_refl _)
  have hm2 := hm.mono (hb2.mono hB) (Nat.le_refl _)
  have hml := hm.len
  obtain ⟨ai, ci, rfl⟩ := hi.val
  obtain ⟨ao, co, rfl⟩ := ho.val
  obtain ⟨am, cm, rfl⟩ := hm.val
  obtain ⟨s, hs⟩ : ∃ s, t.inn.any (zeroAt m) = s := ⟨_, rfl⟩
  have Hs := Lib.hid hs
  have Hf : Hid ((!s) = t.enB m) := by unfold Tr.enB; rw [hs]; exact rfl
  clear hs
  have hcall := Lib.hid (containsFunc_any _ B _ _ hi2 67 #[.pointer (some ⟨w.heap.size + 1, 0, none⟩)] (zeroAt m) s Hs.out (fun x W => run_fired1 _ x W)
    (fun x hx => fired1 _ B (w.heap.size + 1) x _ m hm2 (by simp [go_sem]) (hpi x hx).1 (hpi x hx).2))
  go_enter Tryd.func40, Tryd.ntmps40
  go_wp2_with (go_at_call 57; go_must (refine hcall.out.mono ?_; rintro e w2 ⟨rfl, rfl⟩; refine Hid.out ?_))
  refine Lib.hid ?_
  cases s with
  | true =>
    go_wp2_with fail
    go_ret2
    exact ⟨hb2, Or.inl ⟨by rw [← Hf.out]; rfl, rfl⟩⟩
  | false =>
    obtain ⟨W, hW⟩ : ∃ W, (w.alloc (.cells #[.string t.label, .slice ai t.inn.length ci, .slice ao t.out.length co] 42)).alloc (.cells #[.slice am m.length cm] 33) = W := ⟨_, rfl⟩
    have hsz : W.heap.size = w.heap.size + 2 := by rw [← hW]; simp
    have hbx : W.heap[w.heap.size]? = some (.cells #[.string t.label, .slice ai t.inn.length ci, .slice ao t.out.length co] 42) := by rw [← hW]; exact heap_alloc2_old _ _ _
    rw [hW] at hb2 hi2 ho2 hm2
    have HC := Lib.hid (clone_any W B _ m hm2 (by omega))
    have HS := Lib.hid hsz
    have HBX := Lib.hid hbx
    have hc3 : W.cell? ⟨w.heap.size + 1, 0, none⟩ = some (.slice am m.length cm) := by rw [← hW, cell_of_block (heap_alloc2_new _ _ _)]; rfl
    have hc1 : W.cell? ⟨w.heap.size, 1, none⟩ = some (.slice ai t.inn.length ci) := by rw [cell_of_block hbx]; rfl
    have hc2 : W.cell? ⟨w.heap.size, 2, none⟩ = some (.slice ao t.out.length co) := by rw [cell_of_block hbx]; rfl
    clear hbx hsz hcall
    rw [hW]
    go_wp2_with (go_at_call 42; go_must (refine HC.out.mono ?_; rintro e w3 ⟨v3, rfl, how3, hb3⟩; refine Hid.out ?_))
    clear hW
    refine Lib.hid ?_
    rcases how3.val with ⟨-, h0⟩ | ⟨g, cap, rfl, hg0, hg1⟩
    · exact absurd hne (by rw [h0]; simp)
    have hWs := HS.out
    obtain ⟨W4, hW4⟩ : ∃ W4, w3.alloc (.cells #[.slice (some ⟨g, 0, none⟩) m.length cap] 33) = W4 := ⟨_, rfl⟩
    have hb4 : Below w3.heap.size w3 W4 := by rw [← hW4]; exact (Below.refl _ _).alloc (Nat.le_refl _) _
    have hcc : W4.cell? ⟨w3.heap.size, 0, none⟩ = some (.slice (some ⟨g, 0, none⟩) m.length cap) := by rw [← hW4, cell_of_block (heap_alloc_new _ _)]; rfl
    have hB4 : Below W.heap.size W W4 := hb3.trans (hb4.mono hb3.size)
    rw [← Below.cellB hB4 (by omega)] at hc1 hc2
    have hi4 := hi2.mono (hB4.mono (by omega)) (Nat.le_refl _)
    have ho4 := ho2.mono (hB4.mono (by omega)) (Nat.le_refl _)
    have how4 : OwnI W4 g (.slice (some ⟨g, 0, none⟩) m.length cap) m := (how3.raise (Nat.le_refl _)).kept hb4 (Nat.le_refl _)
    have HA1 := Lib.hid (addW_any W4 w3.heap.size g cap B (-1) (Or.inr rfl) t.inn m _ U (by omega) how4 hcc (by omega) (by omega) hi4 hpi hw hml)
    go_wp2_with (go_at_call 68; go_must (refine HA1.out.mono ?_; rintro e w5 ⟨rfl, how5, hg5⟩; refine Hid.out ?_))
    refine Lib.hid ?_
    have hs4 := hB4.size
    have hs5 := hg5.size
    have hg4 : g < W4.heap.size := how4.lt.2
    have hb5 : Below g W4 w5 := (Below.refl g W4).grown hg5 (by omega) (fun k hk => by cases hk; exact Nat.le_refl _)
    have hcc5 := hg5.cell hcc (by simp; omega)
    rw [← Below.cellB hb5 (by omega)] at hc2
    have hl5 : Hid ((addW (-1) m t.inn).length = m.length) := len_addW _ _ _
    have how5' : OwnI w5 g (.slice (some ⟨g, 0, none⟩) (addW (-1) m t.inn).length cap) (addW (-1) m t.inn) := by rw [hl5.out]; exact how5
    have HA2 := Lib.hid (addW_any w5 w3.heap.size g cap B 1 (Or.inl rfl) t.out (addW (-1) m t.inn) _ (U + t.inn.length) (by omega) how5' (by rw [hl5.out]; exact hcc5) (by omega) (by omega) (ho4.mono (hb5.mono (by omega)) (Nat.le_refl _)) (by rw [hl5.out]; exact hpo) (Wide.addW (Or.inr rfl) _ hw hpi) (by rw [hl5.out]; exact hml))
    clear how5' how5
    go_wp2_with (go_at_call 68; go_must (refine HA2.out.mono ?_; rintro e w6 ⟨rfl, how6, hg6⟩; refine Hid.out ?_))
    refine Lib.hid ?_
    have hcc6 := hg6.cell hcc5 (by simp; omega)
    go_wp2_with fail
    go_ret2
    have hb6 : Below g w5 w6 := (Below.refl g w5).grown hg6 (by omega) (fun k hk => by cases hk; exact Nat.le_refl _)
    refine ⟨hb2.trans (((hB4.mono (by omega)).trans (hb5.mono (by omega))).trans (hb6.mono (by omega))), Or.inr ⟨by rw [← Hf.out]; rfl, _, rfl, ?_⟩⟩
    rw [hl5.out] at how6
    exact how6.lower (by omega)

end Go.Proofs.YtgahlonimaeicaaDoor
