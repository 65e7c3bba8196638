/- cover.Grow: a net's tree. -/
import Derived.Test.YtgahlonimaeicaaDoorCoverWiden
import Derived.Test.YtgahlonimaeicaaDoorCoverRow
import Derived.Test.YtgahlonimaeicaaDoorCoverKey
import Derived.Maps.OwnOps
set_option maxRecDepth 100000
namespace Go.Proofs.YtgahlonimaeicaaDoor
open Go.RowKit Go.Maps Go.WideMaps

def growR (n : Nt) (most : Int) : Sum Int (List Nd) :=
  if n.okB then (if most < 1 then .inl 1 else if 4096 < most then .inl 1 else match growE n most.toNat with | none => .inl 170 | some l => .inr l) else .inl 1
/-- What Grow hands back. -/
def GrowPost (w : World) (n : Nt) (most : Int) (e : Ending) (w' : World) : Prop :=
  Below w.heap.size w w' ∧ ((∃ c, growR n most = .inl c ∧ e = .returned (.tuple #[.pointer none, .int .i64 c])) ∨
    (∃ l p, growR n most = .inr l ∧ e = .returned (.tuple #[.pointer (some ⟨p, 0, none⟩), .int .i64 0]) ∧ TreeR w' w'.heap.size p l ∧ GOk n most.toNat l ∧ most ≤ 4096))

theorem box4' {w : World} {b : Nat} {v0 v1 v2 v3 : Value} {t : TypeId} {fr : Nat × Nat} (h : w.heap[b]? = some (.cells #[v0, v1, v2, v3] t fr)) :
    w.cell? ⟨b, 0, none⟩ = some v0 ∧ w.cell? ⟨b, 1, none⟩ = some v1 ∧ w.cell? ⟨b, 2, none⟩ = some v2 ∧ w.cell? ⟨b, 3, none⟩ = some v3 := by
  refine ⟨?_, ?_, ?_, ?_⟩ <;> (rw [cell_of_block h]; rfl)
theorem alloc_get' (w : World) (o : Obj) (k : Nat) : (w.alloc o).heap[k]? = if k = w.heap.size then some o else w.heap[k]? := by
  show (w.heap.push o)[k]? = _
  rw [Array.getElem?_push]
theorem law_str : Keyed Tryd.prog 9 := string_keyed Tryd.underlying9
theorem zero_int (w : World) : (zeroValue 3).run Tryd.prog w = .ok (.int .i64 0) w := by kernel_rfl

/-- An entry of a map literal. -/
theorem wpList_insert_own {H : Type} {P : Program} (w : World) {ops : Array Oper} {rest : List Oper} {o : Oper} {a : Act} {Q : Exit → Act → World → Prop}
    (hg : o.guard = none) (m x v : Operand) (t : TypeId) (hop : o.op = Op.insert t m x v)
    (k e : TypeId) (K : Keyed P k) (ht : P.underlying t = some (.map k e)) (R : Value → Option (DataW H × List MemPlace)) (b n : Nat) (D : DataW H)
    (hm : a.eval m = .map (some b)) (hown : w.ownsMap P k R b n D) (hn : n < maxLen) (key val : Value) (kl : Lit) (hx : a.eval x = key) (hv : a.eval v = val) (hkey : keyOf P k key = some kl)
    (d : DataW H) (ps : List MemPlace) (hval : R val = some (d, ps))
    (hK : ∀ w', w'.ownsMap P k R b (n + 1) (D.put kl d) → w.grownBy w' (some b) → wpList P ops Q rest (a.put o.dst undef) w') :
    wpList P ops Q (o :: rest) a w := by
  refine wpList_plain hg fun K' hK' => ?_
  obtain ⟨w', hrun, r1, r2⟩ := hown.update K ht hn hkey hval
  unfold Oper.wp
  simp [execOp, hop, hm, hx, hv, hrun, Result.andThen]
  exact hK' _ _ (hK w' r1 r2)

theorem fired_no (w : World) (B : Nat) (hB : B ≤ w.heap.size) (t : Tr) (vi vo vm : Value) (m : List Int) (hi : Ints w B vi t.inn) (ho : Ints w B vo t.out) (hm : Ints w B vm m) (hpi : PlacesOk m.length t.inn) (hpo : PlacesOk m.length t.out)
    (U : Int) (hU : U + t.inn.length + t.out.length ≤ 4611686018427387904) (hw : Wide U m) (hne : 0 < m.length) (h : t.enB m = false) :
    Calls Tryd.prog 40 #[.agg #[.string t.label, vi, vo], vm] w fun e w' => e = .returned (.tuple #[.slice none 0 0, .bool false]) ∧ Below w.heap.size w w' :=
  (fired_any w B hB t vi vo vm m hi ho hm hpi hpo U hU hw hne).mono fun e w' hp => by
    obtain ⟨hb, ⟨-, rfl⟩ | ⟨h2, -⟩⟩ := hp
    · exact ⟨rfl, hb⟩
    · rw [h] at h2; cases h2
theorem fired_yes (w : World) (B : Nat) (hB : B ≤ w.heap.size) (t : Tr) (vi vo vm : Value) (m : List Int) (hi : Ints w B vi t.inn) (ho : Ints w B vo t.out) (hm : Ints w B vm m) (hpi : PlacesOk m.length t.inn) (hpo : PlacesOk m.length t.out)
    (U : Int) (hU : U + t.inn.length + t.out.length ≤ 4611686018427387904) (hw : Wide U m) (hne : 0 < m.length) (h : t.enB m = true) :
    Calls Tryd.prog 40 #[.agg #[.string t.label, vi, vo], vm] w fun e w' => ∃ g cap, e = .returned (.tuple #[.slice (some ⟨g, 0, none⟩) m.length cap, .bool true]) ∧ OwnI w' w.heap.size (.slice (some ⟨g, 0, none⟩) m.length cap) (t.wideE m) ∧ Below w.heap.size w w' :=
  (fired_any w B hB t vi vo vm m hi ho hm hpi hpo U hU hw hne).mono fun e w' hp => by
    obtain ⟨hb, ⟨h2, -⟩ | ⟨-, v, rfl, how⟩⟩ := hp
    · rw [h] at h2; cases h2
    · rcases how.val with ⟨-, h0⟩ | ⟨g, cap, rfl, _, _⟩
      · have := congrArg List.length h0; rw [len_wideE, List.length_nil] at this; omega
      · rw [len_wideE] at how ⊢
        exact ⟨g, cap, rfl, how, hb⟩

/-- 'm[k] = v' in a region that draws its order. -/
theorem step_mapUpdate_own {H : Type} {P : Program} (w : World) {ops : Array Oper} {o : Oper} {a : Act} {K : Act → World → Prop} {Q : Exit → Act → World → Prop} {E : Prop}
    (hg : o.guard = none) (m x v : Operand) (t : TypeId) (hop : o.op = Op.mapUpdate t m x v)
    (k e : TypeId) (Kd : Keyed P k) (ht : P.underlying t = some (.map k e)) (R : Value → Option (DataW H × List MemPlace)) (b n : Nat) (D : DataW H)
    (hm : a.eval m = .map (some b)) (hown : w.ownsMap P k R b n D) (hn : n < maxLen) (key val : Value) (kl : Lit) (hx : a.eval x = key) (hv : a.eval v = val) (hkey : keyOf P k key = some kl)
    (d : DataW H) (ps : List MemPlace) (hval : R val = some (d, ps))
    (hK : ∀ w', w'.ownsMap P k R b (n + 1) (D.put kl d) → w.grownBy w' (some b) → K (a.put o.dst undef) w') :
    if Region.wanted o (yielded ops a.tmps) = true then Oper.wp P o a w K Q else E := by
  have hw : Region.wanted o (yielded ops a.tmps) = true := by simp [Region.wanted, hg]
  rw [if_pos hw]
  obtain ⟨w', hrun, r1, r2⟩ := hown.update Kd ht hn hkey hval
  unfold Oper.wp
  simp [execOp, hop, hm, hx, hv, hrun, Result.andThen]
  exact hK w' r1 r2

abbrev MapR (w : World) (mp k : Nat) (D : DataW Unit) : Prop := w.ownsMap Tryd.prog 9 (plainElem Tryd.prog 3) mp k D
theorem key_of {m : List Int} (hw : ∀ x ∈ m, In64 x) (hl : m.length ≤ 4096) : keyOf Tryd.prog 9 (.string (keyS m)) = some (.string (keyL m)) := by
  rw [keyOf_string_mk Tryd.underlying9 (by rw [keyS_size]; have := keyL_le hw; unfold maxLen; omega), keyS_list]

set_option maxHeartbeats 2000000 in
theorem grow_any (w : World) (B : Nat) (hB : B ≤ w.heap.size) (vp vt : Value) (n : Nt) (hn : NtR w B vp vt n) (most : Int) (htab : Pow10 B w) :
    Calls Tryd.prog 12 #[.agg #[vp, vt, .int .i64 n.init, .int .i64 n.final], .int .i64 most] w (GrowPost w n most) := by
  have hbel1 := (Below.refl w.heap.size w).alloc (Nat.le_refl _) (.cells #[vp, vt, .int .i64 n.init, .int .i64 n.final] 25)
  have hn1 := hn.mono (hbel1.mono hB) (Nat.le_refl _)
  have hlt := hn.2.len
  obtain ⟨ap, cp, rfl⟩ := hn.1.val
  obtain ⟨at_, ct, rfl⟩ := hn.2.val
  have Hc := Lib.hid (first_any _ _ _ n B (by simp; omega) hn1)
  cases hok : n.okB with
  | false =>
    have Hf : Hid (growR n most = .inl 1) := by unfold growR; rw [hok]; exact rfl
    have hce : n.checkE = 1 := by simp [Nt.checkE, hok]
    rw [hce] at Hc
    clear hok hce
    go_enter Tryd.func12, Tryd.ntmps12
    go_wp2_with (go_at_call 30; go_must (refine Hc.out.mono ?_; rintro e w2 ⟨v, rfl, how, hb⟩))
    go_ret2
    exact ⟨hbel1.trans (hb.mono (by simp)), Or.inl ⟨1, Hf.out, rfl⟩⟩
  | true =>
    have hce : n.checkE = 0 := by simp [Nt.checkE, hok]
    rw [hce] at Hc
    have ok := Lib.hid (Nt.ok_of hok)
    clear hce
    by_cases h1 : most < 1
    · have Hf : Hid (growR n most = .inl 1) := by unfold growR; rw [hok, if_pos rfl, if_pos h1]; exact rfl
      clear hok
      go_enter Tryd.func12, Tryd.ntmps12
      go_wp2_with (go_at_call 30; go_must (refine Hc.out.mono ?_; rintro e w2 ⟨v, rfl, how, hb⟩))
      go_ret2
      exact ⟨hbel1.trans (hb.mono (by simp)), Or.inl ⟨1, Hf.out, rfl⟩⟩
    · by_cases h2 : 4096 < most
      · have Hf : Hid (growR n most = .inl 1) := by unfold growR; rw [hok, if_pos rfl, if_neg h1, if_pos h2]; exact rfl
        clear hok
        go_enter Tryd.func12, Tryd.ntmps12
        go_wp2_with (go_at_call 30; go_must (refine Hc.out.mono ?_; rintro e w2 ⟨v, rfl, how, hb⟩))
        go_ret2
        exact ⟨hbel1.trans (hb.mono (by simp)), Or.inl ⟨1, Hf.out, rfl⟩⟩
      · obtain ⟨M, rfl⟩ := Int.eq_ofNat_of_zero_le (show 0 ≤ most by omega)
        have Hf : Hid (growR n (M : Int) = match growE n M with | none => .inl 170 | some l => .inr l) := by unfold growR; rw [hok, if_pos rfl, if_neg h1, if_neg h2]; exact rfl
        have Hone : Hid (n.oneE n.init = oneL n.places.length n.init) := by unfold Nt.oneE; rw [hok, if_pos rfl]; exact rfl
        rw [Hone.out] at Hc
        have h1' : 1 ≤ M := by omega
        have h2' : M ≤ 4096 := by omega
        have hd1 : decide ((M : Int) < 1) = false := decide_eq_false h1
        have hd2 : decide (4096 < (M : Int)) = false := decide_eq_false h2
        have htwo := ok.out.two
        have hmany := ok.out.many
        have hol : Hid ((oneL n.places.length n.init).length = n.places.length) := by simp [oneL, Hid]
        have hmm := @run_makeMap Tryd.prog
        obtain ⟨W1, hW1⟩ : ∃ W1, w.alloc (.cells #[.slice ap n.places.length cp, .slice at_ n.trans.length ct, .int .i64 n.init, .int .i64 n.final] 25) = W1 := ⟨_, rfl⟩
        have hbox : Hid (W1.heap[w.heap.size]? = some (.cells #[.slice ap n.places.length cp, .slice at_ n.trans.length ct, .int .i64 n.init, .int .i64 n.final] 25)) := by rw [← hW1]; exact heap_alloc_new _ _
        have hs1 : Hid (W1.heap.size = w.heap.size + 1) := by rw [← hW1]; exact World.size_alloc _ _
        have hB1 : B ≤ W1.heap.size := by have := hs1.out; omega
        have hlt1 : w.heap.size < W1.heap.size := by have := hs1.out; omega
        rw [hW1] at Hc hbel1 hn1
        have htab1 : Pow10 B W1 := htab.on (hbel1.mono hB)
        obtain ⟨c0, c1, c2, c3⟩ := box4' hbox.out
        clear hok h1 h2
        go_enter Tryd.func12, Tryd.ntmps12
        go_wp2_with (go_at_call 30; go_must (refine Hc.out.mono ?_; rintro e w2 ⟨v, rfl, how, hb⟩; refine Hid.out ?_))
        refine Lib.hid ?_
        clear hW1 c0 c1 c2 c3
        rcases how.val with ⟨-, h0⟩ | ⟨g1, cap1, rfl, hg10, hg11⟩
        · exact absurd (congrArg List.length h0) (by rw [hol.out, List.length_nil]; omega)
        rw [hol.out] at how
        rw [hol.out]
        obtain ⟨W, hW⟩ : ∃ W, ((w2.alloc (.cells #[.int .i64 (-1), .int .i64 (-1), .slice (some ⟨g1, 0, none⟩) n.places.length cap1, .int .i64 (-1)] 36)).alloc (.cells #[.slice (some ⟨w2.heap.size, 0, none⟩) 1 1] 76)).alloc (.map #[] 0) = W := ⟨_, rfl⟩
        have hszW : W.heap.size = w2.heap.size + 3 := by rw [← hW]; simp
        have hbW : Below w2.heap.size w2 W := by rw [← hW]; exact (((Below.refl _ _).alloc (Nat.le_refl _) _).alloc (by simp) _).alloc (by simp; omega) _
        have howW := how.kept hbW (Nat.le_refl _)
        have hsz2 := hb.size
        have hmark : Hid (∀ x ∈ oneL n.places.length n.init, In64 x) := (GOk.first (n := n) h1').in64 h2' (d := ⟨-1, -1, oneL n.places.length n.init, -1⟩) (by simp [rootE])
        have hB2 : Below W1.heap.size W1 W := hb.trans (hbW.mono hsz2)
        have howW' : Ints W W.heap.size (.slice (some ⟨g1, 0, none⟩) n.places.length cap1) (oneL n.places.length n.init) := by
          have := howW.col (by rw [hol.out]; omega) (Nat.le_refl W.heap.size)
          exact this
        have HK := Lib.hid (key_any W _ (oneL n.places.length n.init) W.heap.size (Nat.le_refl _) howW' hmark.out (by rw [hol.out]; omega) (tab_up (htab1.on (hB2.mono hB1)) (by have := hB2.size; omega)))
        have hkey := Lib.hid (key_of hmark.out (by rw [hol.out]; omega))
        have HM : Hid (MapR W (w2.heap.size + 2) 0 (.map [])) := by
          rw [← hW]
          have := World.ownsMap_made (H := Unit) ((w2.alloc (.cells #[.int .i64 (-1), .int .i64 (-1), .slice (some ⟨g1, 0, none⟩) n.places.length cap1, .int .i64 (-1)] 36)).alloc (.cells #[.slice (some ⟨w2.heap.size, 0, none⟩) 1 1] 76)) Tryd.prog 9 (plainElem Tryd.prog 3)
          rw [World.size_alloc, World.size_alloc] at this
          exact this
        have HN : Hid (Nodes W W1.heap.size (w2.heap.size + 1) w2.heap.size 1 (rootE n) [(⟨-1, -1, oneL n.places.length n.init, -1⟩, .slice (some ⟨g1, 0, none⟩) n.places.length cap1)]) := by
          refine ⟨rfl, ?_, ?_, ?_⟩
          · rw [← hW]
            have := World.ownsRow_lit (e := 36) (size := 4) (base := W1.heap.size) w2 #[.int .i64 (-1), .int .i64 (-1), .slice (some ⟨g1, 0, none⟩) n.places.length cap1, .int .i64 (-1)] 1 hsz2 (by decide) rfl
            exact (this.alloc _).alloc _
          · rw [← hW]
            rw [alloc_get', if_neg (by simp), alloc_get', if_pos (by simp)]; rfl
          · intro x hx
            obtain rfl : x = _ := by simpa using hx
            exact howW
        go_wp2_with (first | (go_at_call 39; go_must (refine HK.out.mono ?_; rintro e w3 ⟨rfl, hb3⟩; refine Hid.out ?_)))
        refine Lib.hid ?_
        clear hW
        have HM3 := Lib.hid (HM.out.kept (below_grownBy hb3 none) (by simp))
        go_wp2_with (refine wpList_insert_own _ rfl _ _ _ 78 rfl 9 3 law_str Tryd.underlying78 (plainElem Tryd.prog 3) _ 0 _ rfl HM3.out (by unfold maxLen; omega) _ _ _ rfl rfl hkey.out (.lit (.int .i64 0)) [] (plainElem_int Tryd.underlying3 (by decide)) ?_; intro w4 hown4 hg4)
        have hsz3 := hb3.size
        have hg4s := hg4.size
        have hb34 : Below (w2.heap.size + 2) w3 w4 := (Below.refl _ _).grown hg4 (by omega) (fun k hk => by cases hk; exact Nat.le_refl _)
        have hB4 : Below W1.heap.size W1 w4 := (hB2.trans (hb3.mono hB2.size)).trans (hb34.mono (by omega))
        have HN4 : Hid (∃ L, Nodes w4 W1.heap.size (w2.heap.size + 1) w2.heap.size 1 (rootE n) L) := by
          refine ⟨_, (HN.out.kept hb3).turned hg4 (by omega) (by omega) ?_⟩
          intro x hx
          obtain rfl : x = _ := by simpa using hx
          simp [Value.ownBlock]
          omega
        have HM4 : Hid (∃ D, MapR w4 (w2.heap.size + 2) (rootE n).length D ∧ MapOk D (rootE n)) := ⟨_, hown4, MapOk.first n⟩
        have HG : Hid (growF n.trans M (M + 1) 0 (rootE n) = growE n M) := rfl
        have HO : Hid (GOk n M (rootE n)) := GOk.first h1'
        have hr1 : (rootE n).length ≤ M := by simpa [rootE] using h1'
        obtain ⟨pt, hpt⟩ : ∃ pt, w2.heap.size + 1 = pt := ⟨_, rfl⟩
        obtain ⟨mp, hmp⟩ : ∃ mp, w2.heap.size + 2 = mp := ⟨_, rfl⟩
        rw [hpt] at HN4
        rw [hmp] at HM4
        rw [show w2.heap.size + 1 + 1 = mp from hmp, hpt]
        have hpt4 : pt < w4.heap.size := by omega
        have hptb : W1.heap.size ≤ pt := by omega
        have hmpb : W1.heap.size ≤ mp := by omega
        obtain ⟨g4, cap4, HN4'⟩ : ∃ g cap, Hid (∃ L, Nodes w4 W1.heap.size pt g cap (rootE n) L) := ⟨_, _, HN4⟩
        clear HN HM HK hkey HM3 hown4 hg4 HN4 hpt hmp hb34 hb3 hg4s howW' howW hbW hB2 hszW hmark Hc how
        go_loopg [10] (M + 1) (fun gh s10 wr => ∃ (i g cap : Nat) (l : List Nd), i + gh = M + 1 ∧ s10 = .int .i64 (i : Int) ∧ Hid (growF n.trans M (M + 1 - i) i l = growE n M) ∧ Hid (GOk n M l) ∧ l.length ≤ M ∧ i ≤ l.length ∧
          Hid (∃ L, Nodes wr W1.heap.size pt g cap l L) ∧ Hid (∃ D, MapR wr mp l.length D ∧ MapOk D l) ∧ Below W1.heap.size W1 wr)
        case atStart => exact ⟨0, g4, cap4, rootE n, by omega, rfl, HG, HO, hr1, by omega, HN4', HM4, hB4⟩
        case round =>
          obtain ⟨i, g, cap, l, hig, rfl, hG, hO, hlM, hil, hN, hM, hbel⟩ := hrel
          clear HG HO HN4' HM4 hr1
          have hwr := hbel.size
          have hcT : wr.cell? ⟨pt, 0, none⟩ = some (.slice (some ⟨g, 0, none⟩) l.length cap) := by
            obtain ⟨L, hL⟩ := hN.out
            rw [cell_of_block hL.tree]; rfl
          by_cases hi : i < l.length
          · have hdi : Hid (growF n.trans M (M + 1 - i) i l = if 0 ≤ (ndAt l i).again then growF n.trans M (M + 1 - (i + 1)) (i + 1) l else (growIn M i n.trans 0 l).bind (growF n.trans M (M + 1 - (i + 1)) (i + 1))) := by
              refine Lib.hid ?_
              rw [show M + 1 - i = (M + 1 - (i + 1)) + 1 by omega, growF, if_pos hi]
            obtain ⟨vm, n0, n1, n2, n3, hvm⟩ : ∃ v, wr.cell? ⟨g, i * 4, none⟩ = some (.int .i64 l[i].par) ∧ wr.cell? ⟨g, i * 4 + 1, none⟩ = some (.int .i64 l[i].tr) ∧ wr.cell? ⟨g, i * 4 + 2, none⟩ = some v ∧ wr.cell? ⟨g, i * 4 + 3, none⟩ = some (.int .i64 l[i].again) ∧ OwnI wr W1.heap.size v l[i].mark := by
              obtain ⟨L, hL⟩ := hN.out
              exact hL.at hi
            rw [ndAt_eq hi] at hdi
            obtain ⟨d, hd⟩ : ∃ d, l[i] = d := ⟨_, rfl⟩
            have HD := Lib.hid hd
            rw [hd] at n0 n1 n3 hvm hdi
            clear hd
            by_cases hag : 0 ≤ d.again
            · rw [if_pos hag] at hdi
              go_wp2_with fail
              go_roundg (gk - 1)
              case measure => omega
              case rel => exact ⟨i + 1, g, cap, l, by omega, by go_num, Lib.hid (by rw [← hdi.out]; exact hG.out), hO, hlM, by omega, hN, hM, hbel⟩
            · rw [if_neg hag] at hdi
              have hI : Hid ((growIn M i (n.trans.drop 0) 0 l).bind (growF n.trans M (M + 1 - (i + 1)) (i + 1)) = growE n M) := by rw [← hG.out, hdi.out]; exact rfl
              have hcN : wr.cell? ⟨w.heap.size, 1, none⟩ = some (.slice at_ n.trans.length ct) := by rw [Below.cellB hbel hlt1, cell_of_block hbox.out]; rfl
              clear hdi hG HD
              go_wp2_with fail
              go_loopg [62] n.trans.length (fun gh s62 wr => ∃ (k g cap : Nat) (l : List Nd), k + gh = n.trans.length ∧ s62 = .int .i64 (k : Int) ∧ Hid ((growIn M i (n.trans.drop k) k l).bind (growF n.trans M (M + 1 - (i + 1)) (i + 1)) = growE n M) ∧ Hid (GOk n M l) ∧ l.length ≤ M ∧ i < l.length ∧
                Hid (∃ L, Nodes wr W1.heap.size pt g cap l L) ∧ Hid (∃ D, MapR wr mp l.length D ∧ MapOk D l) ∧ Below W1.heap.size W1 wr)
              case atStart => exact ⟨0, g, cap, l, by omega, rfl, hI, hO, hlM, hi, hN, hM, hbel⟩
              case round =>
                clear hI hO hlM hi hN hM hbel hil hcT hcN n0 n1 n2 n3 hvm hwr
                obtain ⟨k, g, cap, l, hkg, rfl, hI, hO, hlM, hi, hN, hM, hbel⟩ := hrel
                have hwr := hbel.size
                have hbw : Below w.heap.size w wr := hbel1.trans (hbel.mono (by omega))
                by_cases hk : k < n.trans.length
                · obtain ⟨bt, ot, vi, vo, rfl, hbt2, h0, h1, h2, hii, hoo⟩ := hn.2.col k hk
                  rw [← Below.cellB hbw (by omega)] at h0 h1 h2
                  have hmem := List.getElem_mem hk
                  have hin := ok.out.inn _ hmem
                  have hout := ok.out.out _ hmem
                  have hdr := Lib.hid (growIn_drop (most := M) (i := i) (l := l) hk)
                  have hgs := Lib.hid (fun hlt => hO.out.step ok.out hi k hmem hlt)
                  have hws := wide_step hO.out ok.out hi hmem
                  obtain ⟨hwd, hinl, houl⟩ := hws
                  obtain ⟨x, hx⟩ : ∃ x, n.trans[k] = x := ⟨_, rfl⟩
                  rw [hx] at h0 hin hout hdr hgs hwd hinl houl hii hoo
                  clear hx hmem
                  obtain ⟨ai, ci, rfl⟩ := hii.val
                  obtain ⟨ao, co, rfl⟩ := hoo.val
                  have hcT : wr.cell? ⟨pt, 0, none⟩ = some (.slice (some ⟨g, 0, none⟩) l.length cap) := by
                    obtain ⟨L, hL⟩ := hN.out
                    rw [cell_of_block hL.tree]; rfl
                  have hptw : pt < wr.heap.size := by
                    obtain ⟨L, hL⟩ := hN.out
                    exact lt_of_block hL.tree
                  have hgw : g < wr.heap.size := by
                    obtain ⟨L, hL⟩ := hN.out
                    obtain ⟨cur, hc, _⟩ := row_block hL.row
                    exact lt_of_block hc
                  obtain ⟨vm, n2, hvm⟩ : ∃ v, wr.cell? ⟨g, i * 4 + 2, none⟩ = some v ∧ OwnI wr W1.heap.size v l[i].mark := by
                    obtain ⟨L, hL⟩ := hN.out
                    obtain ⟨v, _, _, hv, _, how⟩ := hL.at hi
                    exact ⟨v, hv, how⟩
                  rw [ndAt_eq hi] at hdr hwd
                  have hml := hO.out.len _ (List.getElem_mem hi)
                  have hwdi := hO.out.wide i hi
                  obtain ⟨mk, hmk⟩ : ∃ mk, l[i].mark = mk := ⟨_, rfl⟩
                  have HMK := Lib.hid hmk
                  rw [hmk] at hvm hdr hwd hml hwdi
                  clear hmk
                  obtain ⟨avm, cvm, rfl⟩ := hvm.shape
                  obtain ⟨Wx, hWx⟩ : ∃ Wx, wr.alloc (.cells #[.string x.label, .slice ai x.inn.length ci, .slice ao x.out.length co] 42) = Wx := ⟨_, rfl⟩
                  have hszx : Wx.heap.size = wr.heap.size + 1 := by rw [← hWx]; exact World.size_alloc _ _
                  have hbx : Below wr.heap.size wr Wx := by rw [← hWx]; exact (Below.refl _ _).alloc (Nat.le_refl _) _
                  have hxb : Hid (Wx.heap[wr.heap.size]? = some (.cells #[.string x.label, .slice ai x.inn.length ci, .slice ao x.out.length co] 42)) := by rw [← hWx]; exact heap_alloc_new _ _
                  have hD : Below Wx.heap.size Wx Wx.drew := (Below.refl _ _).drew
                  have hbD : Below wr.heap.size wr Wx.drew := hbx.trans (hD.mono (by omega))
                  have hbDB : Below B w Wx.drew := (hbw.mono hB).trans (hbD.mono (by omega))
                  have hix := hii.mono hbDB (show B ≤ Wx.heap.size by omega)
                  have hox := hoo.mono hbDB (show B ≤ Wx.heap.size by omega)
                  have hvI : Ints Wx.drew Wx.heap.size (.slice avm mk.length cvm) mk := (hvm.kept hbD (Nat.le_refl _)).col (by omega) (Nat.le_refl _)
                  have hU : 1 + 8192 * (i : Int) + x.inn.length + x.out.length ≤ 4611686018427387904 := by omega
                  have hpi : Hid (PlacesOk mk.length x.inn) := by rw [hml]; exact hin.1
                  have hpo : Hid (PlacesOk mk.length x.out) := by rw [hml]; exact hout.1
                  have hne : 0 < mk.length := by omega
                  have hm17 : mk.length ≤ 17592186044416 := by omega
                  have k0 : Wx.cell? ⟨wr.heap.size, 0, none⟩ = some (.string x.label) := by rw [cell_of_block hxb.out]; rfl
                  have k1 : Wx.cell? ⟨wr.heap.size, 1, none⟩ = some (.slice ai x.inn.length ci) := by rw [cell_of_block hxb.out]; rfl
                  have k2 : Wx.cell? ⟨wr.heap.size, 2, none⟩ = some (.slice ao x.out.length co) := by rw [cell_of_block hxb.out]; rfl
                  have hcTx := hcT
                  have n2x := n2
                  rw [← Below.cellB hbx hptw] at hcTx
                  rw [← Below.cellB hbx hgw] at n2x
                  have HML := Lib.hid hml
                  have Hin := Lib.hid hin
                  have Hout := Lib.hid hout
                  have hwx0 : wr.heap.size < Wx.heap.size := by omega
                  have hptx : pt < Wx.heap.size := by omega
                  have hgx : g < Wx.heap.size := by omega
                  cases hen : x.enB mk with
                  | false =>
                    have HF := Lib.hid (fired_no Wx.drew Wx.heap.size (Nat.le_refl _) x _ _ _ mk hix hox hvI hpi.out hpo.out _ hU hwdi hne hen)
                    rw [hen, if_neg (by simp)] at hdr
                    clear hen hml hin hout hszx
                    go_wp2_with fail
                    clear hWx
                    go_cut [13, 14] (fun s13 s14 wx => s13 = .slice none 0 0 ∧ s14 = .bool false ∧ Below Wx.heap.size Wx wx)
                    case first =>
                      go_region_held3 (fun w' => w'.cell? ⟨wr.heap.size, 0, none⟩ = some (.string x.label) ∧ w'.cell? ⟨wr.heap.size, 1, none⟩ = some (.slice ai x.inn.length ci) ∧ w'.cell? ⟨wr.heap.size, 2, none⟩ = some (.slice ao x.out.length co) ∧ w'.cell? ⟨pt, 0, none⟩ = some (.slice (some ⟨g, 0, none⟩) l.length cap) ∧ w'.cell? ⟨g, i * 4 + 2, none⟩ = some (.slice avm mk.length cvm))
                        (first | go_keep | (refine ⟨?_, ?_, ?_, ?_, ?_⟩ <;> (first | (rw [Below.cellB HB3 hwx0]; assumption) | (rw [Below.cellB HB3 hptx]; assumption) | (rw [Below.cellB HB3 hgx]; assumption))))
                        (first | (go_at_call 40; refine HF.out.mono ?_; rintro e w3 ⟨rfl, hb3⟩; have HB3 : Below Wx.heap.size Wx w3 := hD.trans hb3))
                      go_wp2_with fail
                      go_meet
                      case rel => exact ⟨rfl, rfl, HB3⟩
                    case rest =>
                      obtain ⟨rfl, rfl, hb3⟩ := hcut
                      go_wp2_with fail
                      go_roundg (gk - 1)
                      case measure => omega
                      case rel =>
                        have hB3 := hbx.trans (hb3.mono (Nat.le_of_lt hwx0))
                        refine ⟨k + 1, g, cap, l, by omega, by go_num, Lib.hid (by rw [← hI.out, hdr.out]), hO, hlM, hi, Lib.hid ?_, Lib.hid ?_, hbel.trans (hB3.mono hwr)⟩
                        · obtain ⟨L, hL⟩ := hN.out
                          exact ⟨L, hL.kept hB3⟩
                        · obtain ⟨D, hD1, hD2⟩ := hM.out
                          exact ⟨D, hD1.kept (below_grownBy hB3 none) (by simp), hD2⟩
                  | true =>
                    have HF := Lib.hid (fired_yes Wx.drew Wx.heap.size (Nat.le_refl _) x _ _ _ mk hix hox hvI hpi.out hpo.out _ hU hwdi hne hen)
                    rw [hen, if_pos rfl] at hdr
                    clear hen hml hin hout hszx
                    go_wp2_with fail
                    clear hWx
                    go_cut [13, 14] (fun s13 s14 wx => ∃ gm cm, s13 = .slice (some ⟨gm, 0, none⟩) mk.length cm ∧ s14 = .bool true ∧ OwnI wx Wx.heap.size (.slice (some ⟨gm, 0, none⟩) mk.length cm) (x.wideE mk) ∧ Below Wx.heap.size Wx wx)
                    case first =>
                      go_region_held3 (fun w' => w'.cell? ⟨wr.heap.size, 0, none⟩ = some (.string x.label) ∧ w'.cell? ⟨wr.heap.size, 1, none⟩ = some (.slice ai x.inn.length ci) ∧ w'.cell? ⟨wr.heap.size, 2, none⟩ = some (.slice ao x.out.length co) ∧ w'.cell? ⟨pt, 0, none⟩ = some (.slice (some ⟨g, 0, none⟩) l.length cap) ∧ w'.cell? ⟨g, i * 4 + 2, none⟩ = some (.slice avm mk.length cvm))
                        (first | go_keep | (refine ⟨?_, ?_, ?_, ?_, ?_⟩ <;> (first | (rw [Below.cellB HB3 hwx0]; assumption) | (rw [Below.cellB HB3 hptx]; assumption) | (rw [Below.cellB HB3 hgx]; assumption))))
                        (first | (go_at_call 40; refine HF.out.mono ?_; rintro e w3 ⟨gm, cm, rfl, how3, hb3⟩; have HB3 : Below Wx.heap.size Wx w3 := hD.trans hb3))
                      go_wp2_with fail
                      go_meet
                      case rel => exact ⟨gm, cm, rfl, rfl, how3, HB3⟩
                    case rest =>
                      obtain ⟨gm, cm, rfl, rfl, how3, hb3⟩ := hcut
                      have hB3 := hbx.trans (hb3.mono (Nat.le_of_lt hwx0))
                      rw [← Below.cellB hb3 hptx] at hcTx
                      by_cases hfull : l.length = M
                      · have hnone : Hid (growE n M = none) := by rw [← hI.out, hdr.out, if_pos hfull]; exact rfl
                        have hq : ((l.length : Int) == (M : Int)) = true := by rw [hfull]; simp
                        clear hfull
                        go_wp2_with fail
                        go_ret2
                        exact ⟨hbel1.trans ((hbel.trans (hB3.mono hwr)).mono (by omega)), Or.inl ⟨170, by rw [Hf.out, hnone.out], rfl⟩⟩
                      · have hq : ((l.length : Int) == (M : Int)) = false := by simpa using fun e => hfull (by omega)
                        rw [if_neg hfull] at hdr
                        have hTr : TreeR wr wr.heap.size pt l := by
                          obtain ⟨L, hL⟩ := hN.out
                          exact hL.read (Nat.le_refl _) (by omega) (fun d hd => by rw [hO.out.len d hd]; exact hmany)
                        have hT3 := hTr.mono hB3 (Nat.le_of_lt hwx0)
                        have hgm := how3.lt
                        have HW := widen_any _ _ pt gm cm l (x.wideE mk) (i : Int) hT3 hgm.1 (by rw [len_wideE]; exact how3.raise (Nat.le_refl _)) hO.out.up (by omega) (by omega) (fun d hd => by rw [len_wideE, hO.out.len d hd]; exact HML.out.symm) (by rw [len_wideE]; omega)
                        rw [len_wideE] at HW
                        have hkid0 : kidE l i k x = ⟨i, k, widenE l i (x.wideE mk), againE l (widenE l i (x.wideE mk))⟩ := by unfold kidE; rw [ndAt_eq hi, HMK.out]
                        have hw3 : Wide (1 + 8192 * (i : Int) + x.inn.length + x.out.length) (widenE l i (x.wideE mk)) := Wide.widenE (by omega) l i _ hwd
                        have hl3 : Hid ((widenE l i (x.wideE mk)).length = mk.length) := by rw [len_widenE, len_wideE]; exact rfl
                        obtain ⟨m3, hm3⟩ : ∃ m3, widenE l i (x.wideE mk) = m3 := ⟨_, rfl⟩
                        rw [hm3] at HW hkid0 hw3 hl3
                        clear hm3
                        have hin3 : Hid (∀ y ∈ m3, In64 y) := fun y hy => by have := hw3 y hy; unfold In64; omega
                        have HW' := Lib.hid HW
                        have hH := hB3.size
                        have hlM2 : l.length < M := by omega
                        clear HW hfull
                        go_wp2_with (first | (go_at_call 41; go_must (refine HW'.out.mono ?_; rintro e w4 ⟨rfl, how4, hg4⟩; refine Hid.out ?_)))
                        refine Lib.hid ?_
                        have hb34 := (Below.refl Wx.heap.size _).grown hg4 (by have := hb3.size; omega) (fun j hj => by cases hj; exact hgm.1)
                        have hB4 := hB3.trans (hb34.mono (Nat.le_of_lt hwx0))
                        have hs4 := hg4.size
                        have hbel4 := hbel.trans (hB4.mono hwr)
                        have HK4 := Lib.hid (key_any w4 _ m3 w4.heap.size (Nat.le_refl _) (how4.col (by have := hl3.out; omega) (Nat.le_refl _)) hin3.out (by have := hl3.out; have := HML.out; omega) (tab_up (htab1.on (hbel4.mono hB1)) (by have := hbel4.size; omega)))
                        go_wp2_with (first | (go_at_call 39; go_must (refine HK4.out.mono ?_; rintro e w5 ⟨rfl, hb5⟩; refine Hid.out ?_)))
                        refine Lib.hid ?_
                        have hB5 := hB4.trans (hb5.mono hB4.size)
                        have hbel5 := hbel4.trans (hb5.mono hbel4.size)
                        have how5 := (how4.kept hb5 (Nat.le_refl _))
                        have HN5 : Hid (∃ L, Nodes w5 W1.heap.size pt g cap l L) := by
                          obtain ⟨L, hL⟩ := hN.out
                          exact ⟨L, hL.kept hB5⟩
                        have HM5 : Hid (∃ D, MapR w5 mp l.length D ∧ MapOk D l) := by
                          obtain ⟨D, hD1, hD2⟩ := hM.out
                          exact ⟨D, hD1.kept (below_grownBy hB5 none) (by simp), hD2⟩
                        have hkey3 := Lib.hid (key_of hin3.out (by have := hl3.out; have := HML.out; omega))
                        obtain ⟨i1, hti, hz0, hz1, hz2⟩ := info_parts info_nd
                        clear HK4 HW' hTr hT3 hcTx n2x k0 k1 k2 hvI hix hox hD hbD hbDB hcT n2 hw3 hwd
                        obtain ⟨D, hD1, hD2⟩ := HM5.out
                        have HD1 := Lib.hid hD1
                        have HD2 := Lib.hid hD2
                        clear hD1 hD2
                        have hag0 := againE_range l m3
                        by_cases hag : 0 ≤ againE l m3
                        · have hhas : Hid (Maps.has D (.string (keyL m3)) = true) := by rw [(HD2.out.2 m3).1]; exact decide_eq_true hag
                          have hat0 := Lib.hid ((HD2.out.2 m3).2 hag)
                          have HMz : Hid (∃ D', MapR w5 mp (l.length + 1) D' ∧ MapOk D' (l ++ [⟨i, k, m3, againE l m3⟩])) := ⟨D, World.ownsMap.mono HD1.out (by omega), HD2.out.old (d := ⟨i, k, m3, againE l m3⟩) hag⟩
                          obtain ⟨ag, hage⟩ : ∃ ag, againE l m3 = ag := ⟨_, rfl⟩
                          have hkid : Hid (kidE l i k x = ⟨i, k, m3, ag⟩) := by rw [hkid0, hage]; exact rfl
                          rw [hage] at hat0 HMz hag hag0
                          clear hkid0 hage
                          go_wp2_with (first | (at_lookup; refine wpList_lookup_own_ok_int _ rfl _ _ 78 rfl 9 3 .i64 law_str Tryd.underlying78 Tryd.underlying3 (zero_int _) mp l.length _ rfl HD1.out _ _ rfl hkey3.out ?_; intro c hat hwc; obtain rfl : ag = c := (by rw [hat0.out] at hat; injection hat with hat; injection hat); rw [hhas.out]; clear hat hwc; refine Hid.out ?_))
                          refine Lib.hid ?_
                          have HNz := HN5
                          have howz := how5
                          have Bz := hbel5
                          obtain ⟨L, hL⟩ := HNz.out
                          have hzT := hL.tree
                          have cz : w5.cell? ⟨pt, 0, none⟩ = some (.slice (some ⟨g, 0, none⟩) l.length cap) := by rw [cell_of_block hzT]; rfl
                          have hLk := Lib.hid ((hL.kept ((Below.refl w5.heap.size w5).alloc (Nat.le_refl _) (.cells #[.int .i64 i, .int .i64 k, .slice (some ⟨gm, 0, none⟩) mk.length cm, .int .i64 ag] 36))))
                          have hnews := Lib.hid (cells_new w5 #[.int .i64 i, .int .i64 k, .slice (some ⟨gm, 0, none⟩) mk.length cm, .int .i64 ag] 36)
                          have hL' := Lib.hid hL
                          have hszz := Bz.size
                          have hpg : pt ≠ g := by obtain ⟨cur, hc, _⟩ := row_block hL.row; exact type_ne hzT hc (by decide)
                          clear hL
                          go_wp2_with (at_builtin; refine wpList_append_own _ rfl _ _ 69 rfl W1.heap.size 36 i1 (.agg #[.int .i64 0, .int .i64 0, .slice none 0 0, .int .i64 0]) 4 48 Tryd.underlying69 hti hz0 hz1 hz2 rfl (by decide) _ l.length (cellsN L) rfl hLk.out.row ⟨w5.heap.size, 0, none⟩ 1 1 (cell4 (⟨i, k, m3, ag⟩, .slice (some ⟨gm, 0, none⟩) mk.length cm)) rfl rfl hnews.out (cell4_one rfl) (by unfold maxLen; omega) (by omega) (by simp; omega) ?_; intro v' w8 hown8 hg8 _; obtain ⟨g', cap', rfl, _, _⟩ := hown8.form (by omega); have ht8 := (hg8.block pt (by have := lt_of_block hzT; simp; omega) (fun e => hpg (Option.some.inj e))).trans hLk.out.tree; have c8 := cell_of_block ht8 0; have f8 := free_of_block ht8 0; refine Hid.out ?_)
                          refine Lib.hid ?_
                          have Ht8 := Lib.hid ht8
                          clear ht8
                          go_wp2_with fail
                          go_roundg (gk - 1)
                          case measure => omega
                          case rel =>
                            have hpush := hLk.out.push (d := ⟨i, k, m3, ag⟩) hg8 hown8 ((how5.kept ((Below.refl w5.heap.size w5).alloc (Nat.le_refl _) _) (Nat.le_refl _)).lower (by omega))
                            refine ⟨k + 1, g', cap', l ++ [⟨i, k, m3, ag⟩], by omega, by go_num, Lib.hid (by rw [← hI.out, hdr.out, hkid.out]), Lib.hid (by rw [← hkid.out]; exact hgs.out (by omega)), by simp; omega, by simp; omega, Lib.hid ⟨_, hpush⟩, Lib.hid ?_, ?_⟩
                            · obtain ⟨D, hD1, hD2⟩ := HMz.out
                              refine ⟨D, ?_, hD2⟩
                              obtain ⟨es, ck, hmz, hrest⟩ := hD1
                              have hmp : mp ≠ pt := fun e => by rw [e, hzT] at hmz; injection hmz with hmz; cases hmz
                              have hmg : mp ≠ g := fun e => by obtain ⟨cur, hc, _⟩ := row_block hL'.out.row; rw [e, hc] at hmz; injection hmz with hmz; cases hmz
                              have hall : MapR w5 mp (l.length + 1) D := ⟨es, ck, hmz, hrest⟩
                              rw [List.length_append, List.length_singleton]
                              exact ((hall.alloc _).kept hg8 (fun e => hmg (Option.some.inj e))).kept (grownBy_setCell _ _ _ _) (by simpa using hmp)
                            · exact ((Bz.alloc hszz _).grown hg8 (by simp; omega) (fun j hj => by cases hj; obtain ⟨cur, hc, hb⟩ := row_block hL'.out.row; exact hb)).setCell hptb _
                        · have hagm : againE l m3 = -1 := by omega
                          have hhas : Hid (Maps.has D (.string (keyL m3)) = false) := by rw [(HD2.out.2 m3).1]; exact decide_eq_false hag
                          have hnewD := Lib.hid (HD2.out.new (d := ⟨i, k, m3, -1⟩) (by show againE l m3 < 0; omega))
                          have hkid : Hid (kidE l i k x = ⟨i, k, m3, -1⟩) := by rw [hkid0, hagm]; exact rfl
                          clear hkid0 hagm hag hag0
                          go_wp2_with (first | (at_lookup; refine wpList_lookup_own_ok_int _ rfl _ _ 78 rfl 9 3 .i64 law_str Tryd.underlying78 Tryd.underlying3 (zero_int _) mp l.length _ rfl HD1.out _ _ rfl hkey3.out ?_; intro c hat hwc; rw [hhas.out]; clear hat hwc; refine Hid.out ?_))
                          refine Lib.hid ?_
                          have hD5 : Below w5.heap.size w5 w5.drew := (Below.refl _ _).drew
                          have hbel5d := hbel5.trans (hD5.mono hbel5.size)
                          have HK5 := Lib.hid (key_any w5.drew _ m3 w5.heap.size (Nat.le_refl _) ((how5.kept hD5 (Nat.le_refl _)).col (by have := hl3.out; omega) (Nat.le_refl _)) hin3.out (by have := hl3.out; have := HML.out; omega) (tab_up (htab1.on (hbel5d.mono hB1)) (by have := hbel5.size; omega)))
                          have cT5 : w5.cell? ⟨pt, 0, none⟩ = some (.slice (some ⟨g, 0, none⟩) l.length cap) := by
                            obtain ⟨L, hL⟩ := HN5.out
                            rw [cell_of_block hL.tree]; rfl
                          have hpt5 : pt < w5.heap.size := by have := hB5.size; omega
                          have hwfl : Hid ((Lit.int .i64 (l.length : Int)).wf = true) := WalkArith.wf_i64 (by omega)
                          have hmapb : Hid (∃ es ck, w5.heap[mp]? = some (.map es ck)) := by
                            obtain ⟨es, ck, hmz, _⟩ := HD1.out
                            exact ⟨es, ck, hmz⟩
                          have hptmp : pt ≠ mp := fun e => by
                            obtain ⟨L, hL⟩ := HN5.out
                            obtain ⟨es, ck, hmz⟩ := hmapb.out
                            rw [← e, hL.tree] at hmz
                            injection hmz with hmz
                            cases hmz
                          go_wp2_with fail
                          go_cut [] (fun wx => ∃ w7, w7 = wx ∧ Hid (∃ D', MapR w7 mp (l.length + 1) D' ∧ MapOk D' (l ++ [⟨i, k, m3, -1⟩])) ∧ w5.grownBy w7 (some mp))
                          case first =>
                            go_region_held3 (fun w' => w'.cell? ⟨pt, 0, none⟩ = some (.slice (some ⟨g, 0, none⟩) l.length cap))
                              (first | go_keep | (rw [Below.cellB HB6 hpt5]; assumption) | (exact hg7.cell (by rw [Below.cellB HB6 hpt5]; exact cT5) (by simpa using hptmp)))
                              (first | (go_at_call 39; refine HK5.out.mono ?_; rintro e w6 ⟨rfl, hb6⟩; have HB6 : Below w5.heap.size w5 w6 := hD5.trans hb6; obtain ⟨w7, hrun7, hown7, hg7⟩ := World.ownsMap.update (HD1.out.kept (below_grownBy HB6 none) (by simp)) law_str Tryd.underlying78 (by unfold maxLen; omega) hkey3.out (plainElem_int (H := Unit) Tryd.underlying3 hwfl.out); have Hown7 := Lib.hid (And.intro hown7 hg7); clear hown7))
                            go_wp2_with fail
                            go_meet
                            case rel => exact ⟨_, rfl, Lib.hid ⟨_, Hown7.out.1, hnewD.out⟩, (below_grownBy HB6 _).trans Hown7.out.2⟩
                          case rest =>
                            obtain ⟨w7, rfl, HMz, hg7⟩ := hcut
                            have HN7 : Hid (∃ L, Nodes w7 W1.heap.size pt g cap l L) := by
                              obtain ⟨L, hL⟩ := HN5.out
                              exact ⟨L, hL.turnedMap hmapb.out hg7⟩
                            have how7 := how5.turnedMap hmapb.out hg7
                            have hbel7 : Below W1.heap.size W1 w7 := hbel5.grown hg7 hbel5.size (fun j hj => by cases hj; exact hmpb)
                            have hs7 := hg7.size
                            have HNz := HN7
                            have howz := how7
                            have Bz := hbel7
                            obtain ⟨L, hL⟩ := HNz.out
                            have hzT := hL.tree
                            have cz : w7.cell? ⟨pt, 0, none⟩ = some (.slice (some ⟨g, 0, none⟩) l.length cap) := by rw [cell_of_block hzT]; rfl
                            have hLk := Lib.hid ((hL.kept ((Below.refl w7.heap.size w7).alloc (Nat.le_refl _) (.cells #[.int .i64 i, .int .i64 k, .slice (some ⟨gm, 0, none⟩) mk.length cm, .int .i64 (-1)] 36))))
                            have hnews := Lib.hid (cells_new w7 #[.int .i64 i, .int .i64 k, .slice (some ⟨gm, 0, none⟩) mk.length cm, .int .i64 (-1)] 36)
                            have hL' := Lib.hid hL
                            have hszz := Bz.size
                            have hpg : pt ≠ g := by obtain ⟨cur, hc, _⟩ := row_block hL.row; exact type_ne hzT hc (by decide)
                            clear hL
                            go_wp2_with (at_builtin; refine wpList_append_own _ rfl _ _ 69 rfl W1.heap.size 36 i1 (.agg #[.int .i64 0, .int .i64 0, .slice none 0 0, .int .i64 0]) 4 48 Tryd.underlying69 hti hz0 hz1 hz2 rfl (by decide) _ l.length (cellsN L) rfl hLk.out.row ⟨w7.heap.size, 0, none⟩ 1 1 (cell4 (⟨i, k, m3, -1⟩, .slice (some ⟨gm, 0, none⟩) mk.length cm)) rfl rfl hnews.out (cell4_one rfl) (by unfold maxLen; omega) (by omega) (by simp; omega) ?_; intro v' w8 hown8 hg8 _; obtain ⟨g', cap', rfl, _, _⟩ := hown8.form (by omega); have ht8 := (hg8.block pt (by have := lt_of_block hzT; simp; omega) (fun e => hpg (Option.some.inj e))).trans hLk.out.tree; have c8 := cell_of_block ht8 0; have f8 := free_of_block ht8 0; refine Hid.out ?_)
                            refine Lib.hid ?_
                            have Ht8 := Lib.hid ht8
                            clear ht8
                            go_wp2_with fail
                            go_roundg (gk - 1)
                            case measure => omega
                            case rel =>
                              have hpush := hLk.out.push (d := ⟨i, k, m3, -1⟩) hg8 hown8 ((how7.kept ((Below.refl w7.heap.size w7).alloc (Nat.le_refl _) _) (Nat.le_refl _)).lower (by omega))
                              refine ⟨k + 1, g', cap', l ++ [⟨i, k, m3, -1⟩], by omega, by go_num, Lib.hid (by rw [← hI.out, hdr.out, hkid.out]), Lib.hid (by rw [← hkid.out]; exact hgs.out (by omega)), by simp; omega, by simp; omega, Lib.hid ⟨_, hpush⟩, Lib.hid ?_, ?_⟩
                              · obtain ⟨D, hD1, hD2⟩ := HMz.out
                                refine ⟨D, ?_, hD2⟩
                                obtain ⟨es, ck, hmz, hrest⟩ := hD1
                                have hmp : mp ≠ pt := fun e => by rw [e, hzT] at hmz; injection hmz with hmz; cases hmz
                                have hmg : mp ≠ g := fun e => by obtain ⟨cur, hc, _⟩ := row_block hL'.out.row; rw [e, hc] at hmz; injection hmz with hmz; cases hmz
                                have hall : MapR w7 mp (l.length + 1) D := ⟨es, ck, hmz, hrest⟩
                                rw [List.length_append, List.length_singleton]
                                exact ((hall.alloc _).kept hg8 (fun e => hmg (Option.some.inj e))).kept (grownBy_setCell _ _ _ _) (by simpa using hmp)
                              · exact ((Bz.alloc hszz _).grown hg8 (by simp; omega) (fun j hj => by cases hj; obtain ⟨cur, hc, hb⟩ := row_block hL'.out.row; exact hb)).setCell hptb _
                · have hfin : Hid (growF n.trans M (M + 1 - (i + 1)) (i + 1) l = growE n M) := by
                    rw [← hI.out, List.drop_eq_nil_of_le (by omega)]; exact rfl
                  go_wp2_with fail
                  go_roundg (M - i)
                  case measure => omega
                  case rel => exact ⟨i + 1, g, cap, l, by omega, by go_num, hfin, hO, hlM, by omega, hN, hM, hbel⟩
          · have hex : Hid (growE n M = some l) := by
              rw [← hG.out, show M + 1 - i = (M - i) + 1 by omega, growF, if_neg hi]; exact rfl
            have hfin : Hid (TreeR wr wr.heap.size pt l) := by
              obtain ⟨L, hL⟩ := hN.out
              exact hL.read (Nat.le_refl _) (by omega) (fun d hd => by rw [hO.out.len d hd]; exact hmany)
            go_wp2_with fail
            go_ret2
            refine ⟨hbel1.trans (hbel.mono (by omega)), Or.inr ⟨l, pt, by rw [Hf.out, hex.out], rfl, hfin.out, ?_, by omega⟩⟩
            exact hO.out

end Go.Proofs.YtgahlonimaeicaaDoor
