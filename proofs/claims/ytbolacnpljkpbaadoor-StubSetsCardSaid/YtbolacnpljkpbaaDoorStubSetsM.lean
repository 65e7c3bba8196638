/- Texts merged by merge2.py: RefNet, RefNet2, RefTwin, RefSame, StubRB, StubRef, StubRef2, StubRef3, StubNum, LStubSets. -/
import Derived.Test.YtbolacnpljkpbaaDoorNetRow
import Derived.Test.YtbolacnpljkpbaaDoorNetOne
import Derived.Test.YtbolacnpljkpbaaDoorBoxes
import Derived.Test.YtbolacnpljkpbaaDoorRowsF
import Derived.Deep.RegionLaw
import Derived.Laws.NewBlocks
import Derived.Test.YtbolacnpljkpbaaDoorNetCmp
import Derived.Test.YtbolacnpljkpbaaDoorStubXM
import Derived.Test.YtbolacnpljkpbaaDoorReachRead3
import Derived.Test.YtbolacnpljkpbaaDoorOpenNet
set_option maxRecDepth 100000
/- The document's nets (tollgateref15): lists of places, Check, One; tollgateref19's has. -/
namespace Go.Proofs.YtbolacnpljkpbaaDoor
open Go.RowKit

set_option maxHeartbeats 1000000 in
theorem reflist_any (w : World) (B : Nat) (v : Value) (l : List Int) (many : Int) (h : Ints w B v l) :
    Calls Tryd.prog 45 #[v, .int .i64 many] w fun e w' => e = .returned (.bool (listOk many l)) ∧ ∃ n, w' = w.drewN n := by
  obtain ⟨a, c, rfl⟩ := h.val
  have hl := h.len
  go_enter Tryd.func45, Tryd.ntmps45
  go_wp2_with fail
  go_loopg [5] l.length (fun g s5 wr => ∃ (k n : Nat), k + g = l.length ∧ s5 = .int .i64 (k : Int) ∧ Hid (∀ m, m < k → listOkAt many l m = true) ∧ wr = w.drewN n)
  case atStart => exact ⟨0, 0, by omega, rfl, fun m h => by omega, rfl⟩
  case round =>
    obtain ⟨k, n, hkg, rfl, hall, rfl⟩ := hrel
    by_cases hk : k < l.length
    · obtain ⟨b, o, rfl, _, hc⟩ := h.col k hk
      have hno := Lib.hid (fun e => (listOk_no (many := many) hk e).symm)
      have hatp := Lib.hid (fun e => at_place (many := many) hk e)
      cases k with
      | zero =>
        have hz := Lib.hid (fun e => at_zero (many := many) hk e)
        rw [Nat.add_zero] at hc
        obtain ⟨x, hx⟩ : ∃ x, l[0] = x := ⟨_, rfl⟩
        rw [hx] at hc hatp hz
        clear hx
        by_cases h1 : x < 0
        · have hd1 : decide (x < 0) = true := decide_eq_true h1
          have Hf : Hid (false = listOk many l) := hno.out (hatp.out (by simp [placeB]; omega))
          go_wp2_with fail
          go_quiet (fail)
          go_wp2_with fail
          go_ret
          exact ⟨ret_bool Hf.out, drewN2 _ _ _⟩
        · have hd1 : decide (x < 0) = false := decide_eq_false h1
          by_cases h2 : many ≤ x
          · have hd2 : decide (many ≤ x) = true := decide_eq_true h2
            have Hf : Hid (false = listOk many l) := hno.out (hatp.out (by simp [placeB]; omega))
            go_wp2_with fail
            go_quiet (fail)
            go_wp2_with fail
            go_ret
            exact ⟨ret_bool Hf.out, drewN2 _ _ _⟩
          · have hd2 : decide (many ≤ x) = false := decide_eq_false h2
            have Hn : Hid (∀ m, m < 1 → listOkAt many l m = true) := fun m hm => by
              obtain rfl : m = 0 := by omega
              exact hz.out (by simp [placeB]; omega)
            go_wp2_with fail
            go_quiet (fail)
            go_wp2_with fail
            go_roundg (gk - 1)
            case measure => omega
            case rel => exact ⟨1, _, by omega, by go_num, Hn, rfl⟩
      | succ j =>
        obtain ⟨b2, o2, hb2, _, hc2⟩ := h.col j (by omega)
        cases hb2
        have hz := Lib.hid (fun e e2 => at_succ (many := many) hk e e2)
        have hdn := Lib.hid (fun e => at_down (many := many) hk e)
        obtain ⟨x, hx⟩ : ∃ x, l[j + 1] = x := ⟨_, rfl⟩
        obtain ⟨y, hy⟩ : ∃ y, l[j] = y := ⟨_, rfl⟩
        rw [hx] at hc hatp
        rw [hy] at hc2
        rw [hx, hy] at hz hdn
        clear hx hy
        have hk0 : (0 : Int) < ((j + 1 : Nat) : Int) := by omega
        have hdk : decide ((0 : Int) < ((j + 1 : Nat) : Int)) = true := decide_eq_true hk0
        by_cases h1 : x < 0
        · have hd1 : decide (x < 0) = true := decide_eq_true h1
          have Hf : Hid (false = listOk many l) := hno.out (hatp.out (by simp [placeB]; omega))
          go_wp2_with fail
          go_quiet (fail)
          go_wp2_with fail
          go_ret
          exact ⟨ret_bool Hf.out, drewN2 _ _ _⟩
        · have hd1 : decide (x < 0) = false := decide_eq_false h1
          by_cases h2 : many ≤ x
          · have hd2 : decide (many ≤ x) = true := decide_eq_true h2
            have Hf : Hid (false = listOk many l) := hno.out (hatp.out (by simp [placeB]; omega))
            go_wp2_with fail
            go_quiet (fail)
            go_wp2_with fail
            go_ret
            exact ⟨ret_bool Hf.out, drewN2 _ _ _⟩
          · have hd2 : decide (many ≤ x) = false := decide_eq_false h2
            by_cases h3 : x ≤ y
            · have hd3 : decide (x ≤ y) = true := decide_eq_true h3
              have Hf : Hid (false = listOk many l) := hno.out (hdn.out h3)
              go_wp2_with fail
              go_quiet (fail)
              go_wp2_with fail
              go_ret
              exact ⟨ret_bool Hf.out, drewN2 _ _ _⟩
            · have hd3 : decide (x ≤ y) = false := decide_eq_false h3
              have Hn : Hid (∀ m, m < j + 2 → listOkAt many l m = true) := fun m hm => by
                by_cases e : m < j + 1
                · exact hall.out m e
                · obtain rfl : m = j + 1 := by omega
                  exact hz.out (by simp [placeB]; omega) (by omega)
              go_wp2_with fail
              go_quiet (fail)
              go_wp2_with fail
              go_roundg (gk - 1)
              case measure => omega
              case rel => exact ⟨j + 2, _, by omega, by go_num, Hn, rfl⟩
    · have hk' : ¬ ((k : Int) < (l.length : Int)) := by omega
      have Hf : Hid (true = listOk many l) := (listOk_of fun m hm => hall.out m (by omega)).symm
      go_wp2_with fail
      go_ret
      exact ⟨ret_bool Hf.out, _, rfl⟩

theorem reflist_is {t : Bool} (w : World) (B : Nat) (v : Value) (l : List Int) (many : Int) (h : Ints w B v l) (ht : listOk many l = t) :
    Calls Tryd.prog 45 #[v, .int .i64 many] w fun e w' => e = .returned (.bool t) ∧ ∃ n, w' = w.drewN n := by
  rw [← ht]; exact reflist_any w B v l many h

end Go.Proofs.YtbolacnpljkpbaaDoor

/- The document's One and Check (tollgateref15). -/
namespace Go.Proofs.YtbolacnpljkpbaaDoor
open Go.RowKit

/-- The marking of one token, by the document. -/
def oneR (a : Int) (k : Nat) : List Int := (List.range k).map (fun i : Nat => if (i : Int) = a then 1 else 0)
theorem oneR_succ (a : Int) (k : Nat) : oneR a (k + 1) = oneR a k ++ [if (k : Int) = a then 1 else 0] := by simp [oneR, List.range_succ]
theorem oneR_len (a : Int) (k : Nat) : (oneR a k).length = k := by simp [oneR]
theorem oneR_one {a : Int} {k : Nat} (h0 : 0 ≤ a) (h1 : a < (k : Int)) : oneR a k = oneL k a := by
  obtain ⟨q, rfl⟩ := Int.eq_ofNat_of_zero_le h0
  apply List.ext_getElem
  · simp [oneR, oneL]
  · intro i h2 h3
    simp [oneR] at h2
    simp only [oneR, oneL, List.getElem_map, List.getElem_range, Int.toNat_natCast, List.getElem_set, List.getElem_replicate]
    by_cases e : i = q
    · subst e; simp
    · rw [if_neg (by omega), if_neg (by omega)]

/-- A list handed back. -/
def ListRet (w : World) (l : List Int) (e : Ending) (w' : World) : Prop := ∃ v, e = .returned v ∧ OwnI w' w.heap.size v l ∧ Below w.heap.size w w'

theorem okB_init {n : Nt} (h : n.okB = true) : 2 ≤ n.places.length := (Nt.ok_of h).two

set_option maxHeartbeats 2000000 in
theorem refcheck_any (w : World) (vp vt : Value) (n : Nt) (B : Nat) (hB : B ≤ w.heap.size) (hn : NtR w B vp vt n) :
    Calls Tryd.prog 27 #[.agg #[vp, vt, .int .i64 n.init, .int .i64 n.final]] w fun e w' => e = .returned (.int .i64 n.checkE) ∧ Below w.heap.size w w' := by
  have hbA := (Below.refl w.heap.size w).alloc (Nat.le_refl _) (.cells #[vp, vt, .int .i64 n.init, .int .i64 n.final] 25)
  have hboxA := heap_alloc_new w (.cells #[vp, vt, .int .i64 n.init, .int .i64 n.final] 25)
  obtain ⟨W1, hW1⟩ : ∃ W1, w.alloc (.cells #[vp, vt, .int .i64 n.init, .int .i64 n.final] 25) = W1 := ⟨_, rfl⟩
  have hs1 : W1.heap.size = w.heap.size + 1 := by rw [← hW1]; exact World.size_alloc _ _
  rw [hW1] at hbA hboxA
  have hn1 := hn.mono (hbA.mono hB) (show B ≤ W1.heap.size by omega)
  have hlp := hn.1.len
  have hlt := hn.2.len
  obtain ⟨ap, cp, rfl⟩ := hn.1.val
  obtain ⟨at_, ct, rfl⟩ := hn.2.val
  have hs1a : w.heap.size + 1 ≤ W1.heap.size := by omega
  obtain ⟨c0, c1, c2, c3⟩ := box4' hboxA
  clear hs1
  cases hok : okB0 n with
  | false =>
    have Hf : Hid (1 = n.checkE) := by unfold Nt.checkE Nt.okB; rw [hok]; exact rfl
    have Hok := Lib.hid hok
    clear hok
    go_enter Tryd.func27, Tryd.ntmps27
    go_wp2_with fail
    all_goals first
      | (go_ret; exact ⟨ret_int Hf.out, hbA⟩)
      | (exfalso
         have hh := Hok.out
         simp only [okB0, placeB, Bool.and_eq_false_iff, decide_eq_false_iff_not, Bool.not_eq_false', beq_iff_eq] at hh
         simp only [beq_eq_false_iff_ne, ne_eq] at *
         omega)
  | true =>
    have hh := hok
    simp only [okB0, placeB, Bool.and_eq_true, decide_eq_true_eq, Bool.not_eq_true', beq_eq_false_iff_ne, ne_eq] at hh
    obtain ⟨e1, e2, ⟨e3, e4⟩, ⟨e5, e6⟩, e7⟩ := hh
    have d0 : decide ((n.places.length : Int) < 2) = false := decide_eq_false (by omega)
    have d1 : decide ((4096 : Int) < (n.places.length : Int)) = false := decide_eq_false (by omega)
    have d2 : decide ((8192 : Int) < (n.trans.length : Int)) = false := decide_eq_false (by omega)
    have d3 : decide (n.init < 0) = false := decide_eq_false (by omega)
    have d4 : decide (n.final < 0) = false := decide_eq_false (by omega)
    have d5 : decide ((n.places.length : Int) ≤ n.init) = false := decide_eq_false (by omega)
    have d6 : decide ((n.places.length : Int) ≤ n.final) = false := decide_eq_false (by omega)
    have d7 : (n.init == n.final) = false := by simpa using e7
    have Hok := Lib.hid hok
    clear hok e7
    go_enter Tryd.func27, Tryd.ntmps27
    go_wp2_with fail
    clear d0 d1 d2 d3 d4 d5 d6 d7
    go_loopg [3] n.trans.length (fun gh s3 wr => ∃ k m : Nat, k + gh = n.trans.length ∧ s3 = .int .i64 (k : Int) ∧ Hid (∀ j (hj : j < n.trans.length), j < k → transOk n.places.length n.trans[j] = true) ∧ wr = W1.drewN m)
    case atStart => exact ⟨0, 0, by omega, rfl, fun j hj h => absurd h (by omega), rfl⟩
    case round =>
      obtain ⟨k, m, hkg, rfl, hall, rfl⟩ := hrel
      by_cases hk : k < n.trans.length
      · obtain ⟨b, o, vi, vo, rfl, hbB, h0, h1, h2, hi, ho⟩ := hn1.2.col k hk
        obtain ⟨ai, ci, rfl⟩ := hi.val
        obtain ⟨ao, co, rfl⟩ := ho.val
        have hno := Lib.hid (fun e => checkE_no (okB_no hk e))
        have hyes : Hid (transOk n.places.length n.trans[k] = (listOk n.places.length n.trans[k].inn && listOk n.places.length n.trans[k].out)) := rfl
        have Hall : Hid (transOk n.places.length n.trans[k] = true → ∀ j (hj : j < n.trans.length), j < k + 1 → transOk n.places.length n.trans[j] = true) := fun e j hj h => by
          by_cases ej : j < k
          · exact hall.out j hj ej
          · obtain rfl : j = k := by omega
            exact e
        obtain ⟨x, hx⟩ : ∃ x, n.trans[k] = x := ⟨_, rfl⟩
        rw [hx] at h0 hi ho hno hyes Hall
        rw [hx] at h1 h2
        clear hx
        cases hA : listOk n.places.length x.inn with
        | false =>
          have Hf : Hid (1 = n.checkE) := (hno.out (by rw [hyes.out, hA]; rfl)).symm
          have HA := Lib.hid hA
          clear hA
          go_wp2_with fail
          go_quiet ((go_at_call 45; exact quiet_add (reflist_is _ _ _ _ _ (hi.drewN _) HA.out)))
          go_wp2_with fail
          go_ret
          exact ⟨ret_int Hf.out, below_drewN (below_drewN hbA _) _⟩
        | true =>
          have HA := Lib.hid hA
          cases hO : listOk n.places.length x.out with
          | false =>
            have Hf : Hid (1 = n.checkE) := (hno.out (by rw [hyes.out, hA, hO]; rfl)).symm
            have HO := Lib.hid hO
            clear hA hO
            go_wp2_with fail
            go_quiet (first | (go_at_call 45; exact quiet_add (reflist_is _ _ _ _ _ (hi.drewN _) HA.out)) | (go_at_call 45; exact quiet_add (reflist_is _ _ _ _ _ (ho.drewN _) HO.out)))
            go_wp2_with fail
            go_ret
            exact ⟨ret_int Hf.out, below_drewN (below_drewN hbA _) _⟩
          | true =>
            have Hf := Lib.hid (Hall.out (by rw [hyes.out, hA, hO]; rfl))
            have HO := Lib.hid hO
            clear hA hO
            go_wp2_with fail
            go_quiet (first | (go_at_call 45; exact quiet_add (reflist_is _ _ _ _ _ (hi.drewN _) HA.out)) | (go_at_call 45; exact quiet_add (reflist_is _ _ _ _ _ (ho.drewN _) HO.out)))
            go_wp2_with fail
            go_roundg (gk - 1)
            case measure => omega
            case rel => exact ⟨k + 1, _, by omega, by go_num, Hf, rfl⟩
      · have Hf : Hid (0 = n.checkE) := by unfold Nt.checkE; rw [okB_yes (n := n) (fun m hm => hall.out m hm (by omega)), Hok.out]; exact rfl
        go_wp2_with fail
        go_ret
        exact ⟨ret_int Hf.out, below_drewN hbA _⟩

end Go.Proofs.YtbolacnpljkpbaaDoor

/- tollgateref15.Twin: a net in memory of its own. -/
namespace Go.Proofs.YtbolacnpljkpbaaDoor
open Go.RowKit

def cellT (x : Tr × Value × Value) : List Value := [.string x.1.label, x.2.1, x.2.2]
theorem cellT_len (x : Tr × Value × Value) : (cellT x).length = 3 := rfl
/-- Transitions in memory of the call's own. -/
def OwnT (w : World) (base : Nat) (v : Value) (A : List (Tr × Value × Value)) : Prop := OwnF cellT 57 3 w base v A ∧ ∀ x ∈ A, OwnI w base x.2.1 x.1.inn ∧ OwnI w base x.2.2 x.1.out
theorem OwnT.nil (w : World) (base : Nat) : OwnT w base (.slice none 0 0) [] := ⟨OwnF.nil _ _, fun x hx => by cases hx⟩
theorem OwnT.kept {w w' : World} {base : Nat} {v : Value} {A : List (Tr × Value × Value)} (h : OwnT w base v A) (hb : Below w.heap.size w w') : OwnT w' base v A :=
  ⟨h.1.kept hb, fun x hx => ⟨(h.2 x hx).1.kept hb (Nat.le_refl _), (h.2 x hx).2.kept hb (Nat.le_refl _)⟩⟩
/-- They stand where a block of another type is turned. -/
theorem OwnT.turned {w w' : World} {base b : Nat} {v : Value} {A : List (Tr × Value × Value)} (h : OwnT w base v A) (hg : w.grownBy w' (some b)) (h1 : ∀ cur, w.heap[b]? ≠ some (.cells cur 3 (0, 0))) (h2 : ∀ cur, w.heap[b]? ≠ some (.cells cur 57 (0, 0))) : OwnT w' base v A := by
  refine ⟨h.1.turned hg ?_, fun x hx => ⟨(h.2 x hx).1.turned hg h1, (h.2 x hx).2.turned hg h1⟩⟩
  rintro g m cap rfl e
  cases e
  obtain ⟨cur, hc, _⟩ := h.1.block
  exact h2 cur hc
theorem OwnT.read {w : World} {base B : Nat} {v : Value} {A : List (Tr × Value × Value)} (h : OwnT w base v A) (hB : w.heap.size ≤ B) (hl : A.length ≤ 2199023255552) (hm : ∀ x ∈ A, x.1.inn.length ≤ 17592186044416 ∧ x.1.out.length ≤ 17592186044416) : Trs w B v (A.map Prod.fst) := by
  obtain ⟨a, cap, rfl⟩ := h.1.shape
  refine ⟨a, cap, by simp, by simpa using hl, fun i hi => ?_⟩
  have hiA : i < A.length := by simpa using hi
  obtain ⟨b, o, rfl, hb, hc⟩ := h.1.col cellT_len hB i hiA
  have hx := h.2 _ (List.getElem_mem hiA)
  have hl := hm _ (List.getElem_mem hiA)
  refine ⟨b, o, A[i].2.1, A[i].2.2, rfl, hb, ?_, ?_, ?_, ?_, ?_⟩
  · have := hc 0 (by omega); rw [List.getElem_map]; exact this
  · have := hc 1 (by omega); exact this
  · have := hc 2 (by omega); exact this
  · simpa using hx.1.col (by simpa using hl.1) hB
  · simpa using hx.2.col (by simpa using hl.2) hB

theorem OwnI.turnedO {w w' : World} {base : Nat} {r : Option Nat} {v : Value} {l : List Int} (h : OwnI w base v l) (hg : w.grownBy w' r) (hne : ∀ b cur, r = some b → w.heap[b]? ≠ some (.cells cur 3 (0, 0))) : OwnI w' base v l := by
  cases r with
  | none => exact h.kept ((Below.refl _ _).grown hg (Nat.le_refl _) (fun k hk => by cases hk)) (Nat.le_refl _)
  | some b => exact h.turned hg (fun cur => hne b cur rfl)
theorem OwnT.push {w w' : World} {base : Nat} {v v' vi vo : Value} {A : List (Tr × Value × Value)} {x : Tr} (h : OwnT w base v A) (hg : w.grownBy w' v.ownBlock) (hown : w'.ownsRow base 57 3 v' (A.length + 1) (cellsF cellT A ++ cellT (x, vi, vo)))
    (hi : OwnI w base vi x.inn) (ho : OwnI w base vo x.out) : OwnT w' base v' (A ++ [(x, vi, vo)]) := by
  have hne : ∀ b cur, v.ownBlock = some b → w.heap[b]? ≠ some (.cells cur 3 (0, 0)) := by
    intro b cur hb e
    rcases h.1.val with ⟨rfl, _⟩ | ⟨g, cap, rfl, _⟩
    · cases hb
    · obtain ⟨cur', hc, _⟩ := h.1.block
      obtain rfl : g = b := Option.some.inj hb
      rw [hc] at e; injection e with e; injection e with _ e _; exact absurd e (by decide)
  refine ⟨?_, fun y hy => ?_⟩
  · unfold OwnF
    rw [List.length_append, List.length_singleton, cellsF_app]
    exact hown
  · rcases List.mem_append.1 hy with hy | hy
    · exact ⟨(h.2 y hy).1.turnedO hg hne, (h.2 y hy).2.turnedO hg hne⟩
    · obtain rfl : y = (x, vi, vo) := by simpa using hy
      exact ⟨hi.turnedO hg hne, ho.turnedO hg hne⟩

/-- Strings in memory of the call's own. -/
def OwnS (w : World) (base : Nat) (v : Value) (l : List ByteArray) : Prop := w.ownsRow base 9 1 v l.length (l.map Value.string)
theorem OwnS.kept {w w' : World} {base : Nat} {v : Value} {l : List ByteArray} (h : OwnS w base v l) (hb : Below w.heap.size w w') : OwnS w' base v l := by
  refine World.ownsRow.kept h (below_grownBy hb none) ?_
  rcases h.2 with ⟨rfl, _⟩ | ⟨g, cap, cur, rfl, _⟩
  · exact Or.inl rfl
  · exact Or.inr (by simp [Value.ownBlock])
theorem OwnS.turned {w w' : World} {base b : Nat} {v : Value} {l : List ByteArray} (h : OwnS w base v l) (hg : w.grownBy w' (some b)) (h1 : ∀ cur, w.heap[b]? ≠ some (.cells cur 9 (0, 0))) : OwnS w' base v l := by
  refine World.ownsRow.kept h hg ?_
  rcases h.2 with ⟨rfl, _⟩ | ⟨g, cap, cur, rfl, _, hg2, _⟩
  · exact Or.inl rfl
  · exact Or.inr fun e => by cases e; exact h1 cur hg2
theorem OwnS.shape {w : World} {base : Nat} {v : Value} {l : List ByteArray} (h : OwnS w base v l) : ∃ a cap, v = .slice a l.length cap := by
  rcases h.2 with ⟨rfl, h0⟩ | ⟨g, cap, cur, rfl, _⟩
  · exact ⟨none, 0, by rw [h0]⟩
  · exact ⟨_, cap, rfl⟩
theorem OwnS.read {w : World} {base B : Nat} {v : Value} {l : List ByteArray} (h : OwnS w base v l) (hB : w.heap.size ≤ B) (hl : l.length ≤ 8796093022208) : Strs w B v l := by
  have h0 := h
  rcases h.2 with ⟨rfl, h1⟩ | ⟨g, cap, cur, rfl, hb, hg, hc, _⟩
  · obtain rfl : l = [] := List.eq_nil_of_length_eq_zero h1
    exact ColV.nil _ _ _ _
  · refine ⟨_, cap, rfl, hl, hc, fun i hi => ⟨g, 0, rfl, by have := lt_of_block hg; omega, ?_⟩⟩
    have := World.ownsRow.cellAt h0 i (by omega)
    rw [Nat.zero_add, this]
    simp [hi]
theorem info_str : (Tryd.prog.info? 9).map (fun i => (i.zero, i.size, i.bytes)) = some (some (.string ⟨#[]⟩), 1, 16) := by kernel_rfl
theorem info_tr : (Tryd.prog.info? 57).map (fun i => (i.zero, i.size, i.bytes)) = some (some (.agg #[.string ⟨#[]⟩, .slice none 0 0, .slice none 0 0]), 3, 64) := by kernel_rfl

/-- A net handed back in memory of the call's own. -/
def TwinPost (w : World) (n : Nt) (e : Ending) (w' : World) : Prop :=
  ∃ vp vt, e = .returned (.agg #[vp, vt, .int .i64 n.init, .int .i64 n.final]) ∧ NtR w' w'.heap.size vp vt n ∧ Below w.heap.size w w'

set_option maxHeartbeats 4000000 in
theorem twin_any (w : World) (B : Nat) (hB : B ≤ w.heap.size) (vp vt : Value) (n : Nt) (hn : NtR w B vp vt n) :
    Calls Tryd.prog 9 #[.agg #[vp, vt, .int .i64 n.init, .int .i64 n.final]] w (TwinPost w n) := by
  obtain ⟨i0, hti, hz0, hz1, hz2⟩ := info_parts info_int
  obtain ⟨i1, htr, hr0, hr1, hr2⟩ := info_parts info_tr
  obtain ⟨i2, hts, hs0, hs1, hs2⟩ := info_parts info_str
  have hlp := hn.1.len
  have hlt := hn.2.len
  have hbA := ((Below.refl w.heap.size w).alloc (Nat.le_refl _) (.cells #[vp, vt, .int .i64 n.init, .int .i64 n.final] 25)).alloc (by simp) (.cells #[.slice none 0 0, .slice none 0 0, .int .i64 0, .int .i64 0] 25)
  have hboxA : ((w.alloc (.cells #[vp, vt, .int .i64 n.init, .int .i64 n.final] 25)).alloc (.cells #[.slice none 0 0, .slice none 0 0, .int .i64 0, .int .i64 0] 25)).heap[w.heap.size]? = some (.cells #[vp, vt, .int .i64 n.init, .int .i64 n.final] 25) := heap_alloc2_old _ _ _
  have hboxB : ((w.alloc (.cells #[vp, vt, .int .i64 n.init, .int .i64 n.final] 25)).alloc (.cells #[.slice none 0 0, .slice none 0 0, .int .i64 0, .int .i64 0] 25)).heap[w.heap.size + 1]? = some (.cells #[.slice none 0 0, .slice none 0 0, .int .i64 0, .int .i64 0] 25) := heap_alloc2_new _ _ _
  obtain ⟨W1, hW1⟩ : ∃ W1, (w.alloc (.cells #[vp, vt, .int .i64 n.init, .int .i64 n.final] 25)).alloc (.cells #[.slice none 0 0, .slice none 0 0, .int .i64 0, .int .i64 0] 25) = W1 := ⟨_, rfl⟩
  have hs1 : W1.heap.size = w.heap.size + 2 := by rw [← hW1]; simp
  rw [hW1] at hbA hboxA hboxB
  obtain ⟨ap, cp, rfl⟩ := hn.1.val
  obtain ⟨at_, ct, rfl⟩ := hn.2.val
  obtain ⟨c0, c1, c2, c3⟩ := box4' hboxA
  have hs1a : w.heap.size + 2 ≤ W1.heap.size := by omega
  have hs1b : W1.heap.size ≤ w.heap.size + 2 := by omega
  clear hs1
  go_enter Tryd.func9, Tryd.ntmps9
  go_upto_region 2 with fail
  obtain ⟨W2, hW2⟩ : ∃ W2, W1.alloc (.cells #[.slice none 0 0, .slice none 0 0, .int .i64 n.init, .int .i64 n.final] 25) = W2 := ⟨_, rfl⟩
  have hb12 : Below W1.heap.size W1 W2 := by rw [← hW2]; exact (Below.refl _ _).alloc (Nat.le_refl _) _
  have hxN : W2.heap[W1.heap.size]? = some (.cells #[.slice none 0 0, .slice none 0 0, .int .i64 n.init, .int .i64 n.final] 25) := by rw [← hW2]; exact heap_alloc_new _ _
  have hxA := (hb12.block w.heap.size (by omega)).trans hboxA
  have hxB := (hb12.block (w.heap.size + 1) (by omega)).trans hboxB
  have hzz : W1.heap.size + 1 ≤ W2.heap.size := by rw [← hW2]; simp
  have hB2 := hbA.trans (hb12.mono (by omega))
  have hn2 := hn.mono (hB2.mono hB) (show B ≤ W2.heap.size by omega)
  rw [hW2]
  clear c0 c1 c2 c3
  obtain ⟨c0, c1, c2, c3⟩ := box4' hxA
  obtain ⟨d0, d1, d2, d3⟩ := box4' hxN
  have f0 := free_of_block hxN 0
  have hsv := hn2.1
  clear hW1 hW2
  go_wp2_with (at_builtin; refine wpList_append_col _ rfl _ _ 22 rfl (fun _ => rfl) W2.heap.size 9 i2 (.string ⟨#[]⟩) 16 Tryd.underlying22 hts hs0 hs1 hs2 rfl (.slice none 0 0) 0 [] rfl (World.ownsRow_nil _ _ _ _) 8796093022208 W2.heap.size _ n.places rfl hsv (by unfold maxLen; omega) (by omega) (Nat.le_refl _) ?_; intro v' w3 hown hg3; refine Hid.out ?_)
  refine Lib.hid ?_
  have hb3 : Below W2.heap.size W2 w3 := (Below.refl _ _).grown hg3 (Nat.le_refl _) (fun k hk => by cases hk)
  have hx3 := (hb3.block W1.heap.size (by omega)).trans hxN
  have hz3 := hb3.size
  have e0 := free_of_block hx3 0
  have hS3 : OwnS w3 W2.heap.size v' n.places := by unfold OwnS; simpa using hown
  have hB3 : Below W1.heap.size W1 w3 := hb12.trans (hb3.mono (by omega))
  clear hown hg3 d0 d1 d2 d3 c0 c1 c2 c3 f0 hsv
  obtain ⟨av, cv, rfl⟩ := hS3.shape
  obtain ⟨d0, d1, d2, d3⟩ := box4' hx3
  go_wp2_with fail
  have hx4 := heap_setCell_self (i := 0) (.slice av n.places.length cv) hx3
  have hg4 := grownBy_setCell w3 W1.heap.size 0 (.slice av n.places.length cv)
  have hB4 : Below W1.heap.size W1 (w3.setCell ⟨W1.heap.size, 0, none⟩ (.slice av n.places.length cv)) := hB3.setCell (Nat.le_refl _) _
  have hS4 := hS3.turned hg4 (fun cur e => by rw [hx3] at e; injection e with e; injection e with _ e _; exact absurd e (by decide))
  have hz4 : W2.heap.size ≤ (w3.setCell ⟨W1.heap.size, 0, none⟩ (.slice av n.places.length cv)).heap.size := by rw [World.size_setCell]; exact hz3
  clear d0 d1 d2 d3 e0 hg4
  go_loopg [4] n.trans.length (fun gh s4 wr => ∃ (k : Nat) (A : List (Tr × Value × Value)) (vT : Value), k + gh = n.trans.length ∧ s4 = .int .i64 (k : Int) ∧ Hid (A.map Prod.fst = n.trans.take k) ∧ A.length ≤ k ∧ W2.heap.size ≤ wr.heap.size ∧
    Hid (wr.heap[W1.heap.size]? = some (.cells #[.slice av n.places.length cv, vT, .int .i64 n.init, .int .i64 n.final] 25)) ∧ OwnS wr W2.heap.size (.slice av n.places.length cv) n.places ∧ OwnT wr W2.heap.size vT A ∧ Below W1.heap.size W1 wr)
  case atStart => exact ⟨0, [], _, by omega, rfl, by simp [Hid], by simp, hz4, hx4, hS4, OwnT.nil _ _, hB4⟩
  case round =>
    obtain ⟨k, A, vT, hkg, rfl, hA, hAk, hzr, hN, hS, hT, hbr⟩ := hrel
    have hrA := (hbr.block w.heap.size (by omega)).trans hboxA
    have hrB := (hbr.block (w.heap.size + 1) (by omega)).trans hboxB
    obtain ⟨c0, c1, c2, c3⟩ := box4' hrA
    obtain ⟨aT, cT, rfl⟩ := hT.1.shape
    have hBr := hbA.trans (hbr.mono (by omega))
    have f0 : w.heap.size < wr.heap.size := by omega
    have f1 : W1.heap.size < wr.heap.size := by omega
    by_cases hk : k < n.trans.length
    · obtain ⟨bt, ot, vi, vo, rfl, hbt, h0, h1, h2, hi, ho⟩ := hn.2.col k hk
      rw [← Below.cellB hBr (by omega)] at h0 h1 h2
      have htk : Hid (n.trans.take (k + 1) = n.trans.take k ++ [n.trans[k]]) := List.take_succ_eq_append_getElem hk
      obtain ⟨x, hx⟩ : ∃ x, n.trans[k] = x := ⟨_, rfl⟩
      rw [hx] at h0 hi ho htk
      clear hx
      have hil := hi.len
      have hol := ho.len
      obtain ⟨ai, ci, rfl⟩ := hi.val
      obtain ⟨ao, co, rfl⟩ := ho.val
      have f2 : bt < wr.heap.size := by omega
      go_upto_region 7 with fail
      obtain ⟨W5, hW5⟩ : ∃ W5, wr.alloc (.cells #[.string x.label, .slice none 0 0, .slice none 0 0] 57) = W5 := ⟨_, rfl⟩
      have hb5 : Below wr.heap.size wr W5 := by rw [← hW5]; exact (Below.refl _ _).alloc (Nat.le_refl _) _
      have hX5 : W5.heap[wr.heap.size]? = some (.cells #[.string x.label, .slice none 0 0, .slice none 0 0] 57) := by rw [← hW5]; exact heap_alloc_new _ _
      have hz5 : wr.heap.size + 1 ≤ W5.heap.size := by rw [← hW5]; simp
      rw [hW5]
      have hB5 := hBr.trans (hb5.mono (by omega))
      clear c0 c1 c2 c3
      rw [← Below.cellB hb5 f2] at h0 h1 h2
      have hA5 := (hb5.block w.heap.size f0).trans hrA
      obtain ⟨c0, c1, c2, c3⟩ := box4' hA5
      obtain ⟨d0, d1, d2⟩ := box3 hX5
      have hi5 := hi.mono (hB5.mono hB) (show B ≤ W5.drew.heap.size by simp; omega)
      have ho5 := ho.mono (hB5.mono hB) (show B ≤ W5.heap.size by omega)
      clear hW5
      go_cut [] (fun wx => ∃ w7 vi', w7 = wx ∧ Hid (w7.heap[wr.heap.size]? = some (.cells #[.string x.label, vi', .slice none 0 0] 57)) ∧ OwnI w7 W2.heap.size vi' x.inn ∧ Below wr.heap.size wr w7 ∧ wr.heap.size + 1 ≤ w7.heap.size)
      case first =>
        go_region_law (first
          | (refine step_append_col _ (by rfl) (.tmp 32) (.tmp 38) 26 (by rfl) (fun _ => rfl) W2.heap.size 3 i0 (.int .i64 0) 8 Tryd.underlying26 hti hz0 hz1 hz2 rfl (.slice none 0 0) 0 [] (by rfl) (World.ownsRow_nil _ _ _ _) 17592186044416 _ (.slice ai x.inn.length ci) x.inn (by rfl) (hi5.mono ((Below.refl _ _).drew.mono (Nat.le_refl _)) (Nat.le_refl _)) (by unfold maxLen; omega) (by omega) (by simp; omega) ?_; intro v6 w6 hown6 hg6; have hO6 : OwnI w6 W2.heap.size v6 x.inn := by unfold OwnI; simpa using hown6
             obtain ⟨a6, c6, rfl⟩ := hO6.shape; have hX6 := (hg6.block wr.heap.size (by simp; omega) (by simp [Value.ownBlock])).trans hX5; obtain ⟨g0, g1, g2⟩ := box3 hX6; have gf := free_of_block hX6 1))
        all_goals go_wp2_with fail
        all_goals go_meet
        all_goals exact ⟨_, _, rfl, Lib.hid (heap_setCell_self (i := 1) _ hX6), hO6.turned (grownBy_setCell _ _ _ _) (fun cur e => by rw [hX6] at e; injection e with e; injection e with _ e _; exact absurd e (by decide)), ((hb5.drew).grown hg6 (by simp; omega) (fun j hj => by cases hj)).setCell (Nat.le_refl _) _, by have := hg6.size; simp at this ⊢; omega⟩
      case rest =>
        obtain ⟨w7, vi', rfl, hX7, hI7, hb7, hz7⟩ := hcut
        obtain ⟨a7, c7, rfl⟩ := hI7.shape
        have hB7 := hBr.trans (hb7.mono (by omega))
        rw [Below.cellB hb5 f2, ← Below.cellB hb7 f2] at h0 h1 h2
        have hA7 := (hb7.block w.heap.size f0).trans hrA
        clear c0 c1 c2 c3 d0 d1 d2
        obtain ⟨c0, c1, c2, c3⟩ := box4' hA7
        obtain ⟨d0, d1, d2⟩ := box3 hX7.out
        have ho7 := ho.mono (hB7.mono hB) (show B ≤ w7.drew.heap.size by simp; omega)
        go_upto_region 8 with fail
        go_cut [] (fun wx => ∃ w8 vo', w8 = wx ∧ Hid (w8.heap[wr.heap.size]? = some (.cells #[.string x.label, .slice a7 x.inn.length c7, vo'] 57)) ∧ OwnI w8 W2.heap.size (.slice a7 x.inn.length c7) x.inn ∧ OwnI w8 W2.heap.size vo' x.out ∧ Below wr.heap.size wr w8 ∧ wr.heap.size + 1 ≤ w8.heap.size)
        case first =>
          go_region_law (first
            | (refine step_append_col _ (by rfl) (.tmp 42) (.tmp 48) 26 (by rfl) (fun _ => rfl) W2.heap.size 3 i0 (.int .i64 0) 8 Tryd.underlying26 hti hz0 hz1 hz2 rfl (.slice none 0 0) 0 [] (by rfl) (World.ownsRow_nil _ _ _ _) 17592186044416 _ (.slice ao x.out.length co) x.out (by rfl) (ho7.mono ((Below.refl _ _).drew.mono (Nat.le_refl _)) (Nat.le_refl _)) (by unfold maxLen; omega) (by omega) (by simp; omega) ?_; intro v8 w8 hown8 hg8; have hO8 : OwnI w8 W2.heap.size v8 x.out := by unfold OwnI; simpa using hown8
               obtain ⟨a8, c8, rfl⟩ := hO8.shape; have hX8 := (hg8.block wr.heap.size (by simp; omega) (by simp [Value.ownBlock])).trans hX7.out; obtain ⟨g0, g1, g2⟩ := box3 hX8; have gf := free_of_block hX8 2))
          all_goals go_wp2_with fail
          all_goals go_meet
          all_goals
            have hne : ∀ cur, w8.heap[wr.heap.size]? ≠ some (.cells cur 3 (0, 0)) := fun cur e => by rw [hX8] at e; injection e with e; injection e with _ e _; exact absurd e (by decide)
            have hIk : OwnI w8 W2.heap.size (.slice a7 x.inn.length c7) x.inn := (hI7.drewN 1).turned (b := wr.heap.size) ⟨hg8.os, hg8.tape, hg8.output, hg8.size, fun k hk _ => hg8.block k hk (by simp [Value.ownBlock])⟩ (fun cur e => by rw [show (w7.drewN 1).heap = w7.heap from rfl, hX7.out] at e; injection e with e; injection e with _ e _; exact absurd e (by decide))
            exact ⟨_, _, rfl, Lib.hid (heap_setCell_self (i := 2) _ hX8), hIk.turned (grownBy_setCell _ _ _ _) hne, hO8.turned (grownBy_setCell _ _ _ _) hne, ((hb7.drew).grown hg8 (by simp; omega) (fun j hj => by cases hj)).setCell (Nat.le_refl _) _, by have := hg8.size; simp at this ⊢; omega⟩
        case rest =>
          obtain ⟨w8, vo', rfl, hX8, hI8, hO8, hb8, hz8⟩ := hcut
          obtain ⟨a8, c8, rfl⟩ := hO8.shape
          clear c0 c1 c2 c3 d0 d1 d2
          obtain ⟨d0, d1, d2⟩ := box3 hX8.out
          have hN8 := (hb8.block W1.heap.size f1).trans hN.out
          obtain ⟨c0, c1, c2, c3⟩ := box4' hN8
          have hT8 := (hT.kept hb8).kept ((Below.refl w8.heap.size w8).alloc (Nat.le_refl _) (.cells #[.string x.label, .slice a7 x.inn.length c7, .slice a8 x.out.length c8] 57))
          have HT8 := Lib.hid hT8.1
          have hnews := Lib.hid (cells_new w8 #[.string x.label, .slice a7 x.inn.length c7, .slice a8 x.out.length c8] 57)
          go_wp2_with (at_builtin; refine wpList_append_own _ rfl _ _ 23 rfl W2.heap.size 57 i1 (.agg #[.string ⟨#[]⟩, .slice none 0 0, .slice none 0 0]) 3 64 Tryd.underlying23 htr hr0 hr1 hr2 rfl (by decide) _ A.length (cellsF cellT A) rfl HT8.out ⟨w8.heap.size, 0, none⟩ 1 1 (cellT (x, .slice a7 x.inn.length c7, .slice a8 x.out.length c8)) rfl rfl hnews.out (fun u hu => by simp [cellT] at hu; rcases hu with rfl | rfl | rfl <;> rfl) (by unfold maxLen; omega) (by omega) (by simp; omega) ?_; intro v' w9 hown9 hg9 _; refine Hid.out ?_)
          refine Lib.hid ?_
          obtain ⟨g', cap', rfl, _, _⟩ := hown9.form (by omega)
          have hNa : (w8.alloc (.cells #[.string x.label, .slice a7 x.inn.length c7, .slice a8 x.out.length c8] 57)).heap[W1.heap.size]? = some (.cells #[.slice av n.places.length cv, .slice aT A.length cT, .int .i64 n.init, .int .i64 n.final] 25) := by rw [heap_alloc_old _ _ (by omega)]; exact hN8
          have hNb : ∀ b, (Value.slice aT A.length cT).ownBlock = some b → b ≠ W1.heap.size := by
            intro b hb e
            subst e
            rcases hT8.1.val with ⟨e, _⟩ | ⟨g, cap, e, _⟩
            · rw [e] at hb; cases hb
            · have hq := hT8.1
              rw [e] at hb hq
              obtain ⟨cur', hc, _⟩ := hq.block
              obtain rfl : g = W1.heap.size := Option.some.inj hb
              rw [hNa] at hc; injection hc with hc; injection hc with _ hc _; exact absurd hc (by decide)
          have hN9 := (hg9.block W1.heap.size (by simp; omega) (fun e => hNb _ e.symm rfl)).trans hNa
          clear d0 d1 d2 c0 c1 c2 c3
          obtain ⟨c0, c1, c2, c3⟩ := box4' hN9
          have gf := free_of_block hN9 1
          have halc := (Below.refl w8.heap.size w8).alloc (Nat.le_refl _) (.cells #[.string x.label, .slice a7 x.inn.length c7, .slice a8 x.out.length c8] 57)
          have hT9 := hT8.push hg9 hown9 (hI8.kept halc (Nat.le_refl _)) (hO8.kept halc (Nat.le_refl _))
          have hSa := (hS.kept hb8).kept halc
          have hS9 : OwnS w9 W2.heap.size (.slice av n.places.length cv) n.places := by
            refine World.ownsRow.kept hSa hg9 ?_
            rcases hSa.2 with ⟨e, _⟩ | ⟨g, cap, cur, e, _, hgs, _⟩
            · exact Or.inl (by rw [e]; rfl)
            · right
              rw [e]
              intro hb
              rcases hT8.1.val with ⟨e2, _⟩ | ⟨g2, cap2, e2, _⟩
              · rw [e2] at hb; cases hb
              · have hq := hT8.1
                rw [e2] at hb hq
                obtain ⟨cur', hc, _⟩ := hq.block
                obtain rfl : g = g2 := Option.some.inj hb
                rw [hgs] at hc; injection hc with hc; injection hc with _ hc _; exact absurd hc (by decide)
          have hB9 : Below W1.heap.size W1 w9 := ((hbr.trans (hb8.mono (by omega))).alloc (by omega) _).grown hg9 (by simp; omega) (fun j hj => by have := (World.ownsRow.lt hT8.1 j hj).1; omega)
          have hz9 : W2.heap.size ≤ w9.heap.size := by have := hg9.size; simp at this; omega
          have hAx : Hid ((A ++ [(x, Value.slice a7 x.inn.length c7, Value.slice a8 x.out.length c8)]).map Prod.fst = n.trans.take (k + 1)) := by rw [List.map_append, hA.out, htk.out]; exact rfl
          go_wp2_with fail
          go_roundg (gk - 1)
          case measure => omega
          case rel =>
            refine ⟨k + 1, A ++ [(x, .slice a7 x.inn.length c7, .slice a8 x.out.length c8)], _, by omega, by go_num, hAx, by simp; omega, by rw [World.size_setCell]; exact hz9, Lib.hid (heap_setCell_self (i := 1) _ hN9), ?_, ?_, hB9.setCell (Nat.le_refl _) _⟩
            · exact hS9.turned (grownBy_setCell _ _ _ _) (fun cur e => by rw [hN9] at e; injection e with e; injection e with _ e _; exact absurd e (by decide))
            · exact hT9.turned (grownBy_setCell _ _ _ _) (fun cur e => by rw [hN9] at e; injection e with e; injection e with _ e _; exact absurd e (by decide)) (fun cur e => by rw [hN9] at e; injection e with e; injection e with _ e _; exact absurd e (by decide))
    · have hAe : Hid (A.map Prod.fst = n.trans) := by rw [hA.out, List.take_of_length_le (by omega)]; exact rfl
      obtain ⟨d0, d1, d2, d3⟩ := box4' hN.out
      have hkf : decide ((k : Int) < (n.trans.length : Int)) = false := decide_eq_false (by omega)
      have gf := free_of_block hrB 0
      have gf := free_of_block hrB 1
      have gf := free_of_block hrB 2
      have gf := free_of_block hrB 3
      obtain ⟨e0, e1, e2, e3⟩ := box4' hrB
      go_wp2_with fail
      have q1 := heap_setCell_self (i := 0) (.slice av n.places.length cv) hrB
      have q2 := heap_setCell_self (i := 1) (.slice aT A.length cT) q1
      have q3 := heap_setCell_self (i := 2) (.int .i64 n.init) q2
      have q4 := heap_setCell_self (i := 3) (.int .i64 n.final) q3
      have hg := (((grownBy_setCell wr (w.heap.size + 1) 0 (.slice av n.places.length cv)).trans (grownBy_setCell _ (w.heap.size + 1) 1 (.slice aT A.length cT))).trans (grownBy_setCell _ (w.heap.size + 1) 2 (.int .i64 n.init))).trans (grownBy_setCell _ (w.heap.size + 1) 3 (.int .i64 n.final))
      have hBel := (((hBr.setCell (p := ⟨w.heap.size + 1, 0, none⟩) (Nat.le_succ _) (.slice av n.places.length cv)).setCell (p := ⟨w.heap.size + 1, 1, none⟩) (Nat.le_succ _) (.slice aT A.length cT)).setCell (p := ⟨w.heap.size + 1, 2, none⟩) (Nat.le_succ _) (.int .i64 n.init)).setCell (p := ⟨w.heap.size + 1, 3, none⟩) (Nat.le_succ _) (.int .i64 n.final)
      obtain ⟨W9, hW9⟩ : ∃ W9, ((((wr.setCell ⟨w.heap.size + 1, 0, none⟩ (.slice av n.places.length cv)).setCell ⟨w.heap.size + 1, 1, none⟩ (.slice aT A.length cT)).setCell ⟨w.heap.size + 1, 2, none⟩ (.int .i64 n.init)).setCell ⟨w.heap.size + 1, 3, none⟩ (.int .i64 n.final)) = W9 := ⟨_, rfl⟩
      rw [hW9] at q4 hg hBel ⊢
      obtain ⟨r0, r1, r2, r3⟩ := box4' (v0 := .slice av n.places.length cv) (v1 := .slice aT A.length cT) (v2 := .int .i64 n.init) (v3 := .int .i64 n.final) q4
      have hS9 := hS.turned hg (fun cur e => by rw [hrB] at e; injection e with e; injection e with _ e _; exact absurd e (by decide))
      have hT9 := hT.turned hg (fun cur e => by rw [hrB] at e; injection e with e; injection e with _ e _; exact absurd e (by decide)) (fun cur e => by rw [hrB] at e; injection e with e; injection e with _ e _; exact absurd e (by decide))
      have hlen : ∀ y ∈ A, y.1.inn.length ≤ 17592186044416 ∧ y.1.out.length ≤ 17592186044416 := fun y hy => by
        have hm : y.1 ∈ n.trans := by rw [← hAe.out]; exact List.mem_map_of_mem hy
        obtain ⟨j, hj, e⟩ := List.getElem_of_mem hm
        obtain ⟨b, o, vi, vo, _, _, _, _, _, hi, ho⟩ := hn.2.col j hj
        rw [e] at hi ho
        exact ⟨hi.len, ho.len⟩
      have hTr := hT9.read (Nat.le_refl _) (by omega) hlen
      rw [hAe.out] at hTr
      refine bodyPost_ret (v := .agg #[.slice av n.places.length cv, .slice aT A.length cT, .int .i64 n.init, .int .i64 n.final]) (by simp [results, Tryd.results9, go_sem, r0, r1, r2, r3]) rfl ⟨_, _, rfl, ⟨hS9.read (Nat.le_refl _) hlp, hTr⟩, hBel⟩

end Go.Proofs.YtbolacnpljkpbaaDoor

/- tollgateref15.Same: a net is the same as itself, wherever it lies. -/
namespace Go.Proofs.YtbolacnpljkpbaaDoor
open Go.RowKit

theorem refcmp_is {x : Int} (w : World) (B : Nat) (va vb : Value) (a b : List Int) (ha : Ints w B va a) (hb : Ints w B vb b) (h : cmpL a b = x) :
    Calls Tryd.prog 32 #[va, vb] w fun e w' => e = .returned (.int .i64 x) ∧ Below w.heap.size w w' := by
  rw [← h]
  exact (refcmp_any w B va vb a b ha hb).mono fun e w' ⟨he, n, hw⟩ => ⟨he, by rw [hw]; exact below_drewN' n⟩

set_option maxHeartbeats 4000000 in
theorem refsame_any (w : World) (B : Nat) (hB : B ≤ w.heap.size) (vp vt vq vu : Value) (n : Nt) (hn : NtR w B vp vt n) (hm : NtR w B vq vu n) :
    Calls Tryd.prog 13 #[.agg #[vp, vt, .int .i64 n.init, .int .i64 n.final], .agg #[vq, vu, .int .i64 n.init, .int .i64 n.final]] w fun e w' => e = .returned (.bool true) ∧ Below w.heap.size w w' := by
  have hbA := ((Below.refl w.heap.size w).alloc (Nat.le_refl _) (.cells #[vp, vt, .int .i64 n.init, .int .i64 n.final] 25)).alloc (by simp) (.cells #[vq, vu, .int .i64 n.init, .int .i64 n.final] 25)
  have hboxA : ((w.alloc (.cells #[vp, vt, .int .i64 n.init, .int .i64 n.final] 25)).alloc (.cells #[vq, vu, .int .i64 n.init, .int .i64 n.final] 25)).heap[w.heap.size]? = some (.cells #[vp, vt, .int .i64 n.init, .int .i64 n.final] 25) := heap_alloc2_old _ _ _
  have hboxB : ((w.alloc (.cells #[vp, vt, .int .i64 n.init, .int .i64 n.final] 25)).alloc (.cells #[vq, vu, .int .i64 n.init, .int .i64 n.final] 25)).heap[w.heap.size + 1]? = some (.cells #[vq, vu, .int .i64 n.init, .int .i64 n.final] 25) := heap_alloc2_new _ _ _
  obtain ⟨W1, hW1⟩ : ∃ W1, (w.alloc (.cells #[vp, vt, .int .i64 n.init, .int .i64 n.final] 25)).alloc (.cells #[vq, vu, .int .i64 n.init, .int .i64 n.final] 25) = W1 := ⟨_, rfl⟩
  have hs1 : W1.heap.size = w.heap.size + 2 := by rw [← hW1]; simp
  rw [hW1] at hbA hboxA hboxB
  have hlp := hn.1.len
  have hlt := hn.2.len
  obtain ⟨ap, cp, rfl⟩ := hn.1.val
  obtain ⟨at_, ct, rfl⟩ := hn.2.val
  obtain ⟨aq, cq, rfl⟩ := hm.1.val
  obtain ⟨au, cu, rfl⟩ := hm.2.val
  have hs1a : w.heap.size + 2 ≤ W1.heap.size := by omega
  obtain ⟨c0, c1, c2, c3⟩ := box4' hboxA
  obtain ⟨d0, d1, d2, d3⟩ := box4' hboxB
  have hi1 : (n.init != n.init) = false := bne_self_eq_false _
  have hi2 : (n.final != n.final) = false := bne_self_eq_false _
  have hi3 : ((n.places.length : Int) != (n.places.length : Int)) = false := bne_self_eq_false _
  have hi4 : ((n.trans.length : Int) != (n.trans.length : Int)) = false := bne_self_eq_false _
  clear hs1
  go_enter Tryd.func13, Tryd.ntmps13
  go_wp2_with fail
  clear hi1 hi2 hi3 hi4
  go_loopg [5] n.places.length (fun gh s5 wr => ∃ k m : Nat, k + gh = n.places.length ∧ s5 = .int .i64 (k : Int) ∧ wr = W1.drewN m)
  case atStart => exact ⟨0, 0, by omega, rfl, rfl⟩
  case round =>
    obtain ⟨k, m, hkg, rfl, rfl⟩ := hrel
    by_cases hk : k < n.places.length
    · obtain ⟨b1, o1, rfl, hb1, h1⟩ := hn.1.col k hk
      obtain ⟨b2, o2, rfl, hb2, h2⟩ := hm.1.col k hk
      rw [← Below.cellB hbA (by omega)] at h1 h2
      obtain ⟨x, hx⟩ : ∃ x, n.places[k] = x := ⟨_, rfl⟩
      rw [hx] at h1 h2
      clear hx
      go_wp2_with fail
      go_quiet (fail)
      go_wp2_with fail
      go_roundg (gk - 1)
      case measure => omega
      case rel => exact ⟨k + 1, _, by omega, by go_num, rfl⟩
    · have hkf : decide ((k : Int) < (n.places.length : Int)) = false := decide_eq_false (by omega)
      have hkg : decide (k < n.places.length) = false := decide_eq_false hk
      clear hk
      obtain ⟨W2, hW2⟩ : ∃ W2, W2 = W1.drewN m := ⟨_, rfl⟩
      have hb12 : Below W1.heap.size W1 W2 := by rw [hW2]; exact below_drewN' m
      rw [← hW2]
      have hx2 := (hb12.block w.heap.size (by omega)).trans hboxA
      have hy2 := (hb12.block (w.heap.size + 1) (by omega)).trans hboxB
      have hz2 := hb12.size
      clear hW2 c0 c1 c2 c3 d0 d1 d2 d3
      obtain ⟨c0, c1, c2, c3⟩ := box4' hx2
      obtain ⟨d0, d1, d2, d3⟩ := box4' hy2
      go_wp2_with fail
      go_loopg [6] n.trans.length (fun gh s6 wr => ∃ k : Nat, k + gh = n.trans.length ∧ s6 = .int .i64 (k : Int) ∧ Below W2.heap.size W2 wr)
      case atStart => exact ⟨0, by omega, rfl, Below.refl _ _⟩
      case round =>
        obtain ⟨k, hkg, rfl, hbr⟩ := hrel
        have hzr := hbr.size
        have hB1 := hbA.trans ((hb12.trans (hbr.mono hz2)).mono (by omega))
        have hx3 := (hbr.block w.heap.size (by omega)).trans hx2
        have hy3 := (hbr.block (w.heap.size + 1) (by omega)).trans hy2
        clear c0 c1 c2 c3 d0 d1 d2 d3
        obtain ⟨c0, c1, c2, c3⟩ := box4' hx3
        obtain ⟨d0, d1, d2, d3⟩ := box4' hy3
        by_cases hk : k < n.trans.length
        · obtain ⟨b1, o1, vi, vo, rfl, hb1, h0, h1, h2, hi, ho⟩ := hn.2.col k hk
          obtain ⟨b2, o2, wi, wo, rfl, hb2, g0, g1, g2, hj, hp⟩ := hm.2.col k hk
          rw [← Below.cellB hB1 (by omega)] at h0 h1 h2 g0 g1 g2
          obtain ⟨x, hx⟩ : ∃ x, n.trans[k] = x := ⟨_, rfl⟩
          rw [hx] at h0 g0 hi ho hj hp
          clear hx
          obtain ⟨ai, ci, rfl⟩ := hi.val
          obtain ⟨ao, co, rfl⟩ := ho.val
          obtain ⟨aj, cj, rfl⟩ := hj.val
          obtain ⟨aq', cp', rfl⟩ := hp.val
          have f0 : w.heap.size < wr.heap.size := by omega
          have f1 : w.heap.size + 1 < wr.heap.size := by omega
          have f2 : b1 < wr.heap.size := by omega
          have f3 : b2 < wr.heap.size := by omega
          go_upto_region 13 with fail
          obtain ⟨W3, hW3⟩ : ∃ W3, (wr.alloc (.cells #[.string x.label, .slice ai x.inn.length ci, .slice ao x.out.length co] 57)).alloc (.cells #[.string x.label, .slice aj x.inn.length cj, .slice aq' x.out.length cp'] 57) = W3 := ⟨_, rfl⟩
          have hb3 : Below wr.heap.size wr W3 := by rw [← hW3]; exact ((Below.refl _ _).alloc (Nat.le_refl _) _).alloc (by simp) _
          have hX : W3.heap[wr.heap.size]? = some (.cells #[.string x.label, .slice ai x.inn.length ci, .slice ao x.out.length co] 57) := by rw [← hW3]; exact heap_alloc2_old _ _ _
          have hY : W3.heap[wr.heap.size + 1]? = some (.cells #[.string x.label, .slice aj x.inn.length cj, .slice aq' x.out.length cp'] 57) := by rw [← hW3]; exact heap_alloc2_new _ _ _
          have hz3 := hb3.size
          have hB3 := hB1.trans (hb3.mono (by omega))
          have hi3 := hi.mono (hB3.mono hB) (show B ≤ W3.heap.size by omega)
          have ho3 := ho.mono (hB3.mono hB) (show B ≤ W3.heap.size by omega)
          have hj3 := hj.mono (hB3.mono hB) (show B ≤ W3.heap.size by omega)
          have hp3 := hp.mono (hB3.mono hB) (show B ≤ W3.heap.size by omega)
          rw [hW3]
          clear hW3 h0 h1 h2 g0 g1 g2 c0 c1 c2 c3 d0 d1 d2 d3
          obtain ⟨c0, c1, c2⟩ := box3 hX
          obtain ⟨d0, d1, d2⟩ := box3 hY
          go_wp2_with (first | (go_at_call 32; refine (refcmp_is _ _ _ _ _ _ hi3 hj3 (cmpL_self _)).mono ?_; rintro e w4 ⟨rfl, hb4⟩; refine Hid.out ?_))
          refine Lib.hid ?_
          have hX4 := (hb4.block wr.heap.size (by have := lt_of_block hX; omega)).trans hX
          have hY4 := (hb4.block (wr.heap.size + 1) (by have := lt_of_block hY; omega)).trans hY
          have hz4 := hb4.size
          clear c0 c1 c2 d0 d1 d2
          obtain ⟨c0, c1, c2⟩ := box3 hX4
          obtain ⟨d0, d1, d2⟩ := box3 hY4
          have ho4 := ho3.mono hb4 (Nat.le_refl _)
          have hp4 := hp3.mono hb4 (Nat.le_refl _)
          go_wp2_with (first | (go_at_call 32; refine (refcmp_is _ _ _ _ _ _ ho4 hp4 (cmpL_self _)).mono ?_; rintro e w5 ⟨rfl, hb5⟩; refine Hid.out ?_))
          refine Lib.hid ?_
          have hb25 : Below W2.heap.size W2 w5 := ((hbr.trans (hb3.mono hzr)).trans (hb4.mono (by omega))).trans (hb5.mono (by omega))
          go_wp2_with fail
          go_roundg (gk - 1)
          case measure => omega
          case rel => exact ⟨k + 1, by omega, by go_num, hb25⟩
        · go_wp2_with fail
          go_ret
          exact ⟨rfl, hB1⟩

end Go.Proofs.YtbolacnpljkpbaaDoor

/- Rows of truths that tell which numbers below N are in a list. -/
namespace Go.Proofs.YtbolacnpljkpbaaDoor
open Go.RowKit
open Classical

theorem box_up {w w' : World} {N : Nat} {o : Obj} (h : w.heap[N]? = some o) (hb : Below w.heap.size w w') : w'.heap[N]? = some o := (hb.block N (lt_of_block h)).trans h

/-- A row of truths: which numbers below N are in a list. -/
def rowB (N : Nat) (S : List Int) : List Bool := (List.range N).map (fun (j : Nat) => S.contains (j : Int))
theorem rowB_len (N : Nat) (S : List Int) : (rowB N S).length = N := by simp [rowB]
theorem rowB_at {N : Nat} {S : List Int} {j : Nat} (h : j < N) : (rowB N S)[j]? = some (S.contains (j : Int)) := by simp [rowB, h]
theorem rowB_nil (N : Nat) : rowB N [] = List.replicate N false := by
  refine List.ext_getElem? fun j => ?_
  by_cases h : j < N
  · rw [rowB_at h, List.getElem?_replicate, if_pos h]; rfl
  · rw [List.getElem?_eq_none (by rw [rowB_len]; omega), List.getElem?_eq_none (by simp; omega)]
theorem rowB_set {N : Nat} {S : List Int} {j : Nat} (h : j < N) : (rowB N S).set j true = rowB N (S ++ [(j : Int)]) := by
  refine List.ext_getElem? fun i => ?_
  by_cases hi : i < N
  · rw [rowB_at hi, List.getElem?_set]
    by_cases e : j = i
    · subst e
      rw [if_pos rfl, if_pos (by rw [rowB_len]; exact h)]
      simp
    · rw [if_neg e, rowB_at hi]
      simp
      omega
  · rw [List.getElem?_eq_none (by rw [List.length_set, rowB_len]; omega), List.getElem?_eq_none (by rw [rowB_len]; omega)]
/-- Such a row in memory of the call's own. -/
def RB (w : World) (base g N : Nat) (S : List Int) : Prop := OwnF cellB 4 1 w base (.slice (some ⟨g, 0, none⟩) N N) (rowB N S)
theorem RB.made {w : World} {N : Nat} (hN : N ≤ maxLen) {base : Nat} (hb : base ≤ w.heap.size) : RB (w.alloc (.cells (madeCells #[Value.bool false] N) 4)) base w.heap.size N [] := by
  have := World.ownsRow_lit (base := base) (e := 4) (size := 1) w (madeCells #[Value.bool false] N) N hb hN (by simp [size_madeCells])
  rw [made_bools0, ← rowB_nil] at this
  unfold RB OwnF
  rw [rowB_len]
  exact this
theorem RB.at {w : World} {base g N : Nat} {S : List Int} (h : RB w base g N S) {j : Nat} (hj : j < N) : w.cell? ⟨g, j, none⟩ = some (.bool (S.contains (j : Int))) := by
  have hj2 : j < (rowB N S).length := by rw [rowB_len]; exact hj
  have := OwnF.at cellB_len h hj2 (j := 0) (by omega)
  rw [Nat.mul_one, Nat.add_zero] at this
  rw [this]
  have e : (rowB N S)[j] = S.contains (j : Int) := by
    have := rowB_at (S := S) hj
    rw [List.getElem?_eq_getElem hj2] at this
    exact Option.some.inj this
  rw [e]; rfl
theorem RB.free {w : World} {base g N : Nat} {S : List Int} (h : RB w base g N S) (j : Nat) : w.frozen? ⟨g, j, none⟩ = false := OwnF.free h j
theorem RB.set {w : World} {base g N : Nat} {S : List Int} (h : RB w base g N S) {j : Nat} (hj : j < N) : RB (w.setCell ⟨g, j, none⟩ (.bool true)) base g N (S ++ [(j : Int)]) := by
  have := OwnF.set cellB_len h (i := j) (by rw [rowB_len]; exact hj) (j := 0) (by omega) (.bool true) true rfl
  rw [Nat.mul_one, Nat.add_zero, rowB_set hj] at this
  exact this
theorem RB.kept {w w' : World} {base g N : Nat} {S : List Int} (h : RB w base g N S) (hb : Below w.heap.size w w') : RB w' base g N S := OwnF.kept h hb
theorem RB.lt {w : World} {base g N : Nat} {S : List Int} (h : RB w base g N S) : base ≤ g ∧ g < w.heap.size := by
  obtain ⟨⟨c2, hc2⟩, h⟩ := OwnF.ty h (q := g) rfl
  exact ⟨h, lt_of_block hc2⟩
theorem RB.other {w : World} {base b2 g g2 N j : Nat} {S T : List Int} (h : RB w base g N S) (_h2 : RB w b2 g2 N T) (hne : g ≠ g2) : RB (w.setCell ⟨g2, j, none⟩ (.bool true)) base g N S :=
  OwnF.grown h (grownBy_setCell w g2 j _) (fun q hq e => by obtain rfl : g = q := Option.some.inj hq; exact hne (Option.some.inj e))
theorem RB.ints {w : World} {base b2 g N j : Nat} {S : List Int} {v : Value} {l : List Int} (h : RB w base g N S) (hv : OwnI w b2 v l) : OwnI (w.setCell ⟨g, j, none⟩ (.bool true)) b2 v l := by
  refine hv.turned (grownBy_setCell w g j _) (fun cur e => ?_)
  obtain ⟨⟨c2, hc2⟩, _⟩ := OwnF.ty h (q := g) rfl
  exact type_ne hc2 e (by decide) rfl
theorem RB.grown {w w6 : World} {base b2 g N : Nat} {S : List Int} {v : Value} {l : List Int} (h : RB w base g N S) (hv : OwnI w b2 v l) (hg : w.grownBy w6 v.ownBlock) : RB w6 base g N S :=
  OwnF.offType h (tyOf (own_cellI.2 hv)) (by decide) hg
theorem take_snoc {l : List Int} {k : Nat} (h : k < l.length) : l.take (k + 1) = l.take k ++ [l[k]] := List.take_succ_eq_append_getElem h
end Go.Proofs.YtbolacnpljkpbaaDoor

/- The document's stubborn sets (tollgateref18): has, needs; the document's Is and Marks (tollgateref15). -/
namespace Go.Proofs.YtbolacnpljkpbaaDoor
open Go.RowKit
open Classical

theorem contains_drop {l : List Int} {p : Int} {k : Nat} (h : k < l.length) : (l.drop k).contains p = (l[k] == p || (l.drop (k + 1)).contains p) := by
  rw [List.drop_eq_getElem_cons h, List.contains_cons]
  congr 1
  rw [Bool.eq_iff_iff, beq_iff_eq, beq_iff_eq]
  exact ⟨Eq.symm, Eq.symm⟩

set_option maxHeartbeats 400000 in
theorem rhas_any (w : World) (B : Nat) (v : Value) (l : List Int) (p : Int) (h : Ints w B v l) :
    Calls Tryd.prog 81 #[v, .int .i64 p] w fun e w' => e = .returned (.bool (l.contains p)) ∧ w = w' := by
  obtain ⟨a, c, rfl⟩ := h.val
  have hl := h.len
  go_enter Tryd.func81, Tryd.ntmps81
  go_wp2_with fail
  go_loopg [5] l.length (fun g s5 wr => ∃ k : Nat, k + g = l.length ∧ s5 = .int .i64 k ∧ Hid ((l.drop k).contains p = l.contains p) ∧ w = wr)
  case atStart => exact ⟨0, by omega, rfl, rfl, rfl⟩
  case round =>
    obtain ⟨k, hkg, rfl, hI, rfl⟩ := hrel
    by_cases hk : k < l.length
    · obtain ⟨b, o, rfl, _, hc⟩ := h.col k hk
      have hd := Lib.hid (contains_drop (p := p) hk)
      cases hp : (l[k] == p) with
      | true =>
        have Hf : Hid (true = l.contains p) := by rw [← hI.out, hd.out, hp]; exact rfl
        go_wp2_with fail
        go_ret
        exact ⟨ret_bool Hf.out, rfl⟩
      | false =>
        have Hf : Hid ((l.drop (k + 1)).contains p = l.contains p) := by rw [← hI.out, hd.out, hp, Bool.false_or]; exact rfl
        go_wp2_with fail
        go_roundg (gk - 1)
        case measure => omega
        case rel => exact ⟨k + 1, by omega, by go_num, Hf, rfl⟩
    · have hk' : ¬ ((k : Int) < (l.length : Int)) := by omega
      have Hf : Hid (false = l.contains p) := by rw [← hI.out, List.drop_eq_nil_of_le (by omega)]; exact rfl
      go_wp2_with fail
      go_ret
      exact ⟨ret_bool (by rw [Hf.out, List.contains_eq_mem]), rfl⟩

theorem enB_drop {m inn : List Int} {k : Nat} (h : k < inn.length) : (inn.drop k).any (zeroAt m) = (zeroAt m inn[k] || (inn.drop (k + 1)).any (zeroAt m)) := by
  rw [List.drop_eq_getElem_cons h, List.any_cons]

set_option maxHeartbeats 1000000 in
theorem ris_any (w : World) (B : Nat) (hB : B ≤ w.heap.size) (t : Tr) (vi vo vm : Value) (m : List Int) (hi : Ints w B vi t.inn) (ho : Ints w B vo t.out) (hm : Ints w B vm m) (hp : PlacesOk m.length t.inn) (hT : Tokens m) :
    Calls Tryd.prog 46 #[.agg #[.string t.label, vi, vo], vm] w fun e w' => e = .returned (.bool (t.enB m)) ∧ Below w.heap.size w w' := by
  have hb2 := (Below.refl w.heap.size w).alloc (Nat.le_refl _) (.cells #[.string t.label, vi, vo] 57)
  have hx := heap_alloc_new w (.cells #[.string t.label, vi, vo] 57)
  obtain ⟨W1, hW1⟩ : ∃ W1, w.alloc (.cells #[.string t.label, vi, vo] 57) = W1 := ⟨_, rfl⟩
  rw [hW1] at hb2 hx
  have hi2 := hi.mono (hb2.mono hB) (Nat.le_refl _)
  have hm2 := hm.mono (hb2.mono hB) (Nat.le_refl _)
  have hil := hi.len
  have hml := hm.len
  obtain ⟨ai, ci, rfl⟩ := hi.val
  obtain ⟨ao, co, rfl⟩ := ho.val
  obtain ⟨am, cm, rfl⟩ := hm.val
  have HI := Lib.hid hi2
  have HM := Lib.hid hm2
  obtain ⟨c0, c1, c2⟩ := box3 hx
  obtain ⟨s, hs⟩ : ∃ s, t.inn.any (zeroAt m) = s := ⟨_, rfl⟩
  have Hf : Hid ((!s) = t.enB m) := by unfold Tr.enB; rw [hs]; exact rfl
  have HS := Lib.hid hs
  clear hs hi ho hm hi2 hm2
  go_enter Tryd.func46, Tryd.ntmps46
  go_wp2_with fail
  go_loopg [5] t.inn.length (fun g s5 wr => ∃ k : Nat, k + g = t.inn.length ∧ s5 = .int .i64 k ∧ Hid ((t.inn.drop k).any (zeroAt m) = s) ∧ W1 = wr)
  case atStart => exact ⟨0, by omega, rfl, HS, rfl⟩
  case round =>
    obtain ⟨k, hkg, rfl, hI, rfl⟩ := hrel
    by_cases hk : k < t.inn.length
    · obtain ⟨b, o, rfl, _, hc⟩ := HI.out.col k hk
      have hd := Lib.hid (enB_drop (m := m) hk)
      have hpl := hp _ (List.getElem_mem hk)
      obtain ⟨q, hq⟩ := Int.eq_ofNat_of_zero_le hpl.1
      have hqm : q < m.length := by omega
      obtain ⟨b2, o2, rfl, _, hc2⟩ := HM.out.col q hqm
      have htok := hT _ (List.getElem_mem hqm)
      rw [hq] at hc hd
      have hg := getI_eq hqm
      obtain ⟨x, hx2⟩ : ∃ x, m[q] = x := ⟨_, rfl⟩
      rw [hx2] at hc2 htok hg
      clear hx2 hq hpl
      by_cases h0 : x < 1
      · have d1 : decide (x < 1) = true := decide_eq_true h0
        have hz : zeroAt m (q : Int) = true := by unfold zeroAt; rw [hg]; simp; omega
        have Hs : Hid (s = true) := by rw [← hI.out, hd.out, hz]; exact rfl
        clear hz h0 hg
        go_wp2_with fail
        go_ret
        exact ⟨ret_bool (by rw [← Hf.out, Hs.out]; rfl), hb2⟩
      · have d1 : decide (x < 1) = false := decide_eq_false h0
        have hz : zeroAt m (q : Int) = false := by unfold zeroAt; rw [hg]; simp; omega
        have Hs : Hid ((t.inn.drop (k + 1)).any (zeroAt m) = s) := by rw [← hI.out, hd.out, hz, Bool.false_or]; exact rfl
        clear hz h0 hg
        go_wp2_with fail
        go_roundg (gk - 1)
        case measure => omega
        case rel => exact ⟨k + 1, by omega, by go_num, Hs, rfl⟩
    · have hk' : ¬ ((k : Int) < (t.inn.length : Int)) := by omega
      have Hs : Hid (s = false) := by rw [← hI.out, List.drop_eq_nil_of_le (by omega)]; exact rfl
      go_wp2_with fail
      go_ret
      exact ⟨ret_bool (by rw [← Hf.out, Hs.out]; rfl), hb2⟩

theorem badB_drop {m : List Int} {k : Nat} (h : k < m.length) : (m.drop k).any badB = (badB m[k] || (m.drop (k + 1)).any badB) := by
  rw [List.drop_eq_getElem_cons h, List.any_cons]
set_option maxHeartbeats 1000000 in
theorem rmarks_any (w : World) (vp vt vm : Value) (n : Nt) (m : List Int) (B : Nat) (hB : B ≤ w.heap.size) (hn : NtR w B vp vt n) (hm : Ints w B vm m) :
    Calls Tryd.prog 28 #[.agg #[vp, vt, .int .i64 n.init, .int .i64 n.final], vm] w fun e w' => e = .returned (.bool (decide (m.length = n.places.length) && !m.any badB)) ∧ Below w.heap.size w w' := by
  have hb2 := (Below.refl w.heap.size w).alloc (Nat.le_refl _) (.cells #[vp, vt, .int .i64 n.init, .int .i64 n.final] 25)
  have hx := heap_alloc_new w (.cells #[vp, vt, .int .i64 n.init, .int .i64 n.final] 25)
  obtain ⟨W1, hW1⟩ : ∃ W1, w.alloc (.cells #[vp, vt, .int .i64 n.init, .int .i64 n.final] 25) = W1 := ⟨_, rfl⟩
  rw [hW1] at hb2 hx
  have hm2 := hm.mono (hb2.mono hB) (Nat.le_refl _)
  have hml := hm.len
  obtain ⟨ap, cp, rfl⟩ := hn.1.val
  obtain ⟨at_, ct, rfl⟩ := hn.2.val
  obtain ⟨am, cm, rfl⟩ := hm.val
  have hpl := hn.1.len
  have HM := Lib.hid hm2
  obtain ⟨c0, c1, c2, c3⟩ := box4' hx
  clear hn hm hm2
  by_cases hl : m.length = n.places.length
  · have hz : ((m.length : Int) != (n.places.length : Int)) = false := by simp [hl]
    obtain ⟨s, hs⟩ : ∃ s, m.any badB = s := ⟨_, rfl⟩
    have Hf : Hid ((decide (m.length = n.places.length) && !m.any badB) = !s) := by rw [decide_eq_true hl, hs]; exact rfl
    have HS := Lib.hid hs
    clear hs hl
    rw [Hf.out]
    go_enter Tryd.func28, Tryd.ntmps28
    go_wp2_with fail
    go_loopg [5] m.length (fun g s5 wr => ∃ k : Nat, k + g = m.length ∧ s5 = .int .i64 k ∧ Hid ((m.drop k).any badB = s) ∧ W1 = wr)
    case atStart => exact ⟨0, by omega, rfl, HS, rfl⟩
    case round =>
      obtain ⟨k, hkg, rfl, hI, rfl⟩ := hrel
      by_cases hk : k < m.length
      · obtain ⟨b, o, rfl, _, hc⟩ := HM.out.col k hk
        have hd := Lib.hid (badB_drop hk)
        obtain ⟨x, hx2⟩ : ∃ x, m[k] = x := ⟨_, rfl⟩
        rw [hx2] at hc hd
        clear hx2
        by_cases h0 : x < 0
        · have d1 : decide (x < 0) = true := decide_eq_true h0
          have Hs : Hid (s = true) := by rw [← hI.out, hd.out]; unfold badB; rw [d1]; exact rfl
          clear h0
          go_wp2_with fail
          go_ret
          exact ⟨ret_bool (by rw [Hs.out]; rfl), hb2⟩
        · have d1 : decide (x < 0) = false := decide_eq_false h0
          by_cases h1 : 2147483647 < x
          · have d2 : decide (2147483647 < x) = true := decide_eq_true h1
            have Hs : Hid (s = true) := by rw [← hI.out, hd.out]; unfold badB; rw [d1, d2]; exact rfl
            clear h0 h1
            go_wp2_with fail
            go_ret
            exact ⟨ret_bool (by rw [Hs.out]; rfl), hb2⟩
          · have d2 : decide (2147483647 < x) = false := decide_eq_false h1
            have Hs : Hid ((m.drop (k + 1)).any badB = s) := by rw [← hI.out, hd.out, show badB x = false from by unfold badB; rw [d1, d2]; rfl, Bool.false_or]; exact rfl
            clear h0 h1
            go_wp2_with fail
            go_roundg (gk - 1)
            case measure => omega
            case rel => exact ⟨k + 1, by omega, by go_num, Hs, rfl⟩
      · have hk' : ¬ ((k : Int) < (m.length : Int)) := by omega
        have Hs : Hid (s = false) := by rw [← hI.out, List.drop_eq_nil_of_le (by omega)]; exact rfl
        go_wp2_with fail
        go_ret
        exact ⟨ret_bool (by rw [Hs.out]; rfl), hb2⟩
  · have hz : ((m.length : Int) != (n.places.length : Int)) = true := by simp; omega
    have Hf : Hid ((decide (m.length = n.places.length) && !m.any badB) = false) := by rw [decide_eq_false hl]; exact rfl
    clear hl
    rw [Hf.out]
    go_enter Tryd.func28, Tryd.ntmps28
    go_wp2_with fail
    go_ret
    exact ⟨rfl, hb2⟩
theorem anyC_drop {inn u : List Int} {k : Nat} (h : k < inn.length) : (inn.drop k).any (fun p => u.contains p) = (u.contains inn[k] || (inn.drop (k + 1)).any (fun p => u.contains p)) := by
  rw [List.drop_eq_getElem_cons h, List.any_cons]
theorem findZ_drop {m inn : List Int} {k : Nat} (h : k < inn.length) : (inn.drop k).find? (zeroAt m) = if zeroAt m inn[k] then some inn[k] else (inn.drop (k + 1)).find? (zeroAt m) := by
  rw [List.drop_eq_getElem_cons h, List.find?_cons]
  split <;> simp_all
theorem rhas_is {r : Bool} (w : World) (B : Nat) (v : Value) (l : List Int) (p : Int) (h : Ints w B v l) (hr : l.contains p = r) :
    Calls Tryd.prog 81 #[v, .int .i64 p] w fun e w' => e = .returned (.bool r) ∧ w = w' := by rw [← hr]; exact rhas_any w B v l p h
theorem ris_is {r : Bool} (w : World) (B : Nat) (hB : B ≤ w.heap.size) (t : Tr) (vi vo vm : Value) (m : List Int) (hi : Ints w B vi t.inn) (ho : Ints w B vo t.out) (hm : Ints w B vm m) (hp : PlacesOk m.length t.inn) (hT : Tokens m) (hr : t.enB m = r) :
    Calls Tryd.prog 46 #[.agg #[.string t.label, vi, vo], vm] w fun e w' => e = .returned (.bool r) ∧ Below w.heap.size w w' := by rw [← hr]; exact ris_any w B hB t vi vo vm m hi ho hm hp hT

set_option maxHeartbeats 2000000 in
theorem rneeds_any (w : World) (B : Nat) (hB : B ≤ w.heap.size) (vp vt : Value) (n : Nt) (hn : NtR w B vp vt n) (vm : Value) (m : List Int) (hm : Ints w B vm m) (hT : Tokens m) (t u : Tr) (ti to_ ui uo : Value) (hti : Ints w B ti t.inn) (hto : Ints w B to_ t.out) (hui : Ints w B ui u.inn) (huo : Ints w B uo u.out) (hp : PlacesOk m.length t.inn)
    (r : Bool) (hr : needB m t u = r) :
    Calls Tryd.prog 68 #[.agg #[vp, vt, .int .i64 n.init, .int .i64 n.final], vm, .agg #[.string t.label, ti, to_], .agg #[.string u.label, ui, uo]] w fun e w' => e = .returned (.bool r) ∧ Below w.heap.size w w' := by
  obtain ⟨ap, cp, rfl⟩ := hn.1.val
  obtain ⟨at_, ct, rfl⟩ := hn.2.val
  have htl := hti.len
  have hml := hm.len
  have HM := Lib.hid hm
  have HTI := Lib.hid hti
  have HUI := Lib.hid hui
  have HUO := Lib.hid huo
  have HTO := Lib.hid hto
  obtain ⟨am, cm, rfl⟩ := hm.val
  obtain ⟨a1, c1', rfl⟩ := hti.val
  obtain ⟨a2, c2', rfl⟩ := hto.val
  obtain ⟨a3, c3', rfl⟩ := hui.val
  obtain ⟨a4, c4', rfl⟩ := huo.val
  clear hn hm hti hto hui huo
  have hbA := (((Below.refl w.heap.size w).alloc (Nat.le_refl _) (.cells #[.slice ap n.places.length cp, .slice at_ n.trans.length ct, .int .i64 n.init, .int .i64 n.final] 25)).alloc (by simp) (.cells #[.string t.label, .slice a1 t.inn.length c1', .slice a2 t.out.length c2'] 57)).alloc (by simp; omega) (.cells #[.string u.label, .slice a3 u.inn.length c3', .slice a4 u.out.length c4'] 57)
  have hx1 := heap_alloc_new (w.alloc (.cells #[.slice ap n.places.length cp, .slice at_ n.trans.length ct, .int .i64 n.init, .int .i64 n.final] 25)) (.cells #[.string t.label, .slice a1 t.inn.length c1', .slice a2 t.out.length c2'] 57)
  have hx1' := lit_alloc (o := .cells #[.string u.label, .slice a3 u.inn.length c3', .slice a4 u.out.length c4'] 57) hx1
  have hx2 := heap_alloc_new ((w.alloc (.cells #[.slice ap n.places.length cp, .slice at_ n.trans.length ct, .int .i64 n.init, .int .i64 n.final] 25)).alloc (.cells #[.string t.label, .slice a1 t.inn.length c1', .slice a2 t.out.length c2'] 57)) (.cells #[.string u.label, .slice a3 u.inn.length c3', .slice a4 u.out.length c4'] 57)
  rw [World.size_alloc] at hx1'
  rw [World.size_alloc, World.size_alloc] at hx2
  obtain ⟨W1, hW1⟩ : ∃ W1, ((w.alloc (.cells #[.slice ap n.places.length cp, .slice at_ n.trans.length ct, .int .i64 n.init, .int .i64 n.final] 25)).alloc (.cells #[.string t.label, .slice a1 t.inn.length c1', .slice a2 t.out.length c2'] 57)).alloc (.cells #[.string u.label, .slice a3 u.inn.length c3', .slice a4 u.out.length c4'] 57) = W1 := ⟨_, rfl⟩
  rw [hW1] at hbA hx1' hx2
  have hz1 := hbA.size
  have HX1 := Lib.hid hx1'
  have HX2 := Lib.hid hx2
  obtain ⟨e0, e1, e2⟩ := box3 hx1'
  obtain ⟨s, hs⟩ : ∃ s, t.enB m = s := ⟨_, rfl⟩
  have HI := Lib.hid (ris_is W1 B (by omega) t _ _ _ m (HTI.out.mono (hbA.mono hB) (Nat.le_refl _)) (HTO.out.mono (hbA.mono hB) (Nat.le_refl _)) (HM.out.mono (hbA.mono hB) (Nat.le_refl _)) hp hT hs)
  unfold needB at hr
  rw [hs] at hr
  clear hs hx1 hx1' hx2
  go_enter Tryd.func68, Tryd.ntmps68
  cases s with
  | true =>
    rw [if_pos rfl] at hr
    have HR := Lib.hid hr
    clear hr
    go_wp2_with (first | (go_at_call 46; refine HI.out.mono ?_; rintro e w2 ⟨rfl, hb2⟩; refine Hid.out ?_))
    refine Lib.hid ?_
    have hB2 := hbA.trans (hb2.mono hz1)
    have HB2 := Lib.hid hB2
    have HR0 : Hid ((t.inn.drop 0).any (fun p => u.inn.contains p) = r) := HR
    clear hW1 e0 e1 e2
    go_wp2_with fail
    go_loopg [9] t.inn.length (fun g s9 wr => ∃ k : Nat, k + g = t.inn.length ∧ s9 = .int .i64 k ∧ Hid ((t.inn.drop k).any (fun p => u.inn.contains p) = r) ∧ Below w2.heap.size w2 wr)
    case atStart => exact ⟨0, by omega, rfl, HR0, Below.refl _ _⟩
    case round =>
      obtain ⟨k, hkg, rfl, hI, hbel⟩ := hrel
      have hBr := hb2.trans (hbel.mono hb2.size)
      have hWr := HB2.out.trans (hbel.mono HB2.out.size)
      obtain ⟨e0, e1, e2⟩ := box3 (box_up HX1.out hBr)
      obtain ⟨f0, f1, f2⟩ := box3 (box_up HX2.out hBr)
      by_cases hk : k < t.inn.length
      · obtain ⟨b, o, rfl, hbB, hc⟩ := HTI.out.col k hk
        rw [← Below.cellB hWr (by omega)] at hc
        have hd := Lib.hid (anyC_drop (u := u.inn) hk)
        obtain ⟨x, hx⟩ : ∃ x, t.inn[k] = x := ⟨_, rfl⟩
        rw [hx] at hc hd
        obtain ⟨y, hy⟩ : ∃ y, u.inn.contains x = y := ⟨_, rfl⟩
        have HH := Lib.hid (fun V (hV : Below wr.heap.size wr V) => rhas_is V B _ u.inn x (HUI.out.mono ((hWr.trans (hV.mono hWr.size)).mono hB) (Nat.le_refl _)) hy)
        rw [hy] at hd
        clear hx hy
        cases y with
        | true =>
          have Hs : Hid (r = true) := by rw [← hI.out, hd.out]; exact rfl
          go_upto_region 5 with fail
          go_quiet ((go_at_call 81; first | exact quiet_add_left (HH.out _ (below_drewN' _)) | exact quiet_left (HH.out _ (below_drewN' _))))
          go_wp2_with fail
          go_ret
          exact ⟨ret_bool Hs.out.symm, below_drewN hWr _⟩
        | false =>
          have Hs : Hid ((t.inn.drop (k + 1)).any (fun p => u.inn.contains p) = r) := by rw [← hI.out, hd.out, Bool.false_or]; exact rfl
          go_upto_region 5 with fail
          go_quiet ((go_at_call 81; first | exact quiet_add_left (HH.out _ (below_drewN' _)) | exact quiet_left (HH.out _ (below_drewN' _))))
          go_wp2_with fail
          go_roundg (gk - 1)
          case measure => omega
          case rel => exact ⟨k + 1, by omega, by go_num, Hs, below_drewN hbel _⟩
      · have hk' : ¬ ((k : Int) < (t.inn.length : Int)) := by omega
        have Hs : Hid (r = false) := by rw [← hI.out, List.drop_eq_nil_of_le (by omega)]; exact rfl
        go_wp2_with fail
        go_ret
        exact ⟨ret_bool Hs.out.symm, hWr⟩
  | false =>
    rw [if_neg (by simp)] at hr
    have HR0 : Hid ((match (t.inn.drop 0).find? (zeroAt m) with | some p => u.out.contains p | none => false) = r) := hr
    clear hr
    go_wp2_with (first | (go_at_call 46; refine HI.out.mono ?_; rintro e w2 ⟨rfl, hb2⟩; refine Hid.out ?_))
    refine Lib.hid ?_
    have HB2 := Lib.hid (hbA.trans (hb2.mono hz1))
    clear hW1 e0 e1 e2
    go_wp2_with fail
    go_loopg [10] t.inn.length (fun g s10 wr => ∃ k : Nat, k + g = t.inn.length ∧ s10 = .int .i64 k ∧ Hid ((match (t.inn.drop k).find? (zeroAt m) with | some p => u.out.contains p | none => false) = r) ∧ Below w2.heap.size w2 wr)
    case atStart => exact ⟨0, by omega, rfl, HR0, Below.refl _ _⟩
    case round =>
      obtain ⟨k, hkg, rfl, hI, hbel⟩ := hrel
      have hBr := hb2.trans (hbel.mono hb2.size)
      have hWr := HB2.out.trans (hbel.mono HB2.out.size)
      obtain ⟨e0, e1, e2⟩ := box3 (box_up HX1.out hBr)
      obtain ⟨f0, f1, f2⟩ := box3 (box_up HX2.out hBr)
      by_cases hk : k < t.inn.length
      · obtain ⟨b, o, rfl, hbB, hc⟩ := HTI.out.col k hk
        rw [← Below.cellB hWr (by omega)] at hc
        have hd := Lib.hid (findZ_drop (m := m) hk)
        have hpl := hp _ (List.getElem_mem hk)
        obtain ⟨q, hq⟩ := Int.eq_ofNat_of_zero_le hpl.1
        have hqm : q < m.length := by omega
        obtain ⟨b2, o2, rfl, hb2B, hc2⟩ := HM.out.col q hqm
        rw [← Below.cellB hWr (by omega)] at hc2
        rw [hq] at hc hd
        have hg := getI_eq hqm
        obtain ⟨x, hx⟩ : ∃ x, m[q] = x := ⟨_, rfl⟩
        rw [hx] at hc2 hg
        clear hx hq hpl
        by_cases h0 : x = 0
        · have d1 : (x == 0) = true := by simp [h0]
          have d2 : decide (x = 0) = true := decide_eq_true h0
          have hz : zeroAt m (q : Int) = true := by unfold zeroAt; rw [hg]; exact d1
          have Hs : Hid (u.out.contains (q : Int) = r) := by rw [← hI.out, hd.out, hz]; exact rfl
          have HH := Lib.hid (fun V (hV : Below wr.heap.size wr V) => rhas_is V B _ u.out (q : Int) (HUO.out.mono ((hWr.trans (hV.mono hWr.size)).mono hB) (Nat.le_refl _)) Hs.out)
          clear hz h0 hg
          go_upto_region 12 with fail
          go_quiet ((go_at_call 81; first | exact quiet_add_left (HH.out _ (below_drewN' _)) | exact quiet_left (HH.out _ (below_drewN' _))))
          go_wp2_with fail
          go_ret
          exact ⟨rfl, below_drewN hWr _⟩
        · have d1 : (x == 0) = false := by simp [h0]
          have d2 : decide (x = 0) = false := decide_eq_false h0
          have hz : zeroAt m (q : Int) = false := by unfold zeroAt; rw [hg]; exact d1
          have Hs : Hid ((match (t.inn.drop (k + 1)).find? (zeroAt m) with | some p => u.out.contains p | none => false) = r) := by rw [← hI.out, hd.out, hz]; exact rfl
          clear hz h0 hg
          go_wp2_with fail
          go_roundg (gk - 1)
          case measure => omega
          case rel => exact ⟨k + 1, by omega, by go_num, Hs, hbel⟩
      · have hk' : ¬ ((k : Int) < (t.inn.length : Int)) := by omega
        have Hs : Hid (r = false) := by rw [← hI.out, List.drop_eq_nil_of_le (by omega)]; exact rfl
        go_wp2_with fail
        go_ret
        exact ⟨ret_bool Hs.out.symm, hWr⟩
end Go.Proofs.YtbolacnpljkpbaaDoor

/- The document's stubborn sets (tollgateref18): of, set, Set. -/
namespace Go.Proofs.YtbolacnpljkpbaaDoor
open Go.RowKit
open Classical

/-- A set under way, by passes. -/
structure WkR (n : Nt) (m : List Int) (t : Int) (S : List Int) : Prop where
  nodup : S.Nodup
  cl : ∀ a ∈ S, Cl n m t a
  has : t ∈ S
def ClosedS (n : Nt) (m : List Int) (S : List Int) : Prop := ∀ a ∈ S, ∀ b, InT n b → needB m (n.tr a) (n.tr b) = true → b ∈ S
theorem WkR.end_ {n : Nt} {m : List Int} {t : Int} {S : List Int} (h : WkR n m t S) (hc : ClosedS n m S) (x : Int) : x ∈ S ↔ Cl n m t x := by
  refine ⟨h.cl x, fun hx => ?_⟩
  induction hx with
  | self => exact h.has
  | step _ hb hn ih => exact hc _ ih _ hb hn
theorem WkR.len {n : Nt} {m : List Int} {t : Int} {S : List Int} (h : WkR n m t S) (ht : InT n t) : S.length ≤ n.trans.length := inT_len h.nodup fun a ha => (h.cl a ha).inT ht
theorem WkR.add {n : Nt} {m : List Int} {t a b : Int} {S : List Int} (h : WkR n m t S) (ha : a ∈ S) (hb : InT n b) (hn : needB m (n.tr a) (n.tr b) = true) (hno : b ∉ S) : WkR n m t (S ++ [b]) := by
  refine ⟨?_, fun x hx => ?_, List.mem_append_left _ h.has⟩
  · rw [List.nodup_append]
    refine ⟨h.nodup, by simp, fun p hp q hq => ?_⟩
    obtain rfl : q = b := by simpa using hq
    rintro rfl
    exact hno hp
  · rcases List.mem_append.1 hx with hx | hx
    · exact h.cl x hx
    · obtain rfl : x = b := by simpa using hx
      exact (h.cl a ha).step hb hn
/-- A pass under way: S0 at its beginning, S now; i transitions are looked through, and k for the next one. -/
structure Pass (n : Nt) (m : List Int) (t : Int) (S0 S : List Int) (i k : Nat) (b : Bool) : Prop where
  wk : WkR n m t S
  le : S0.length ≤ S.length
  turned : b = decide (S0.length < S.length)
  done : b = false → S = S0 ∧ (∀ a ∈ S, a < (i : Int) → ∀ c, InT n c → needB m (n.tr a) (n.tr c) = true → c ∈ S) ∧ ∀ c : Nat, c < k → needB m (n.tr (i : Int)) (n.tr (c : Int)) = true → (c : Int) ∈ S
theorem Pass.first {n : Nt} {m : List Int} {t : Int} {S : List Int} (ht : InT n t) (h : WkR n m t S) : Pass n m t S S 0 0 false :=
  ⟨h, Nat.le_refl _, by simp, fun _ => ⟨rfl, fun a ha h0 => by have := ((h.cl a ha).inT ht).1; omega, fun c hc => by omega⟩⟩
section
variable {n : Nt} {m : List Int} {t : Int} {S0 S : List Int} {i k : Nat} {b : Bool}
theorem Pass.next (h : Pass n m t S0 S i k b) (hk : needB m (n.tr (i : Int)) (n.tr (k : Int)) = true → (k : Int) ∈ S) : Pass n m t S0 S i (k + 1) b := by
  refine ⟨h.wk, h.le, h.turned, fun hb => ?_⟩
  obtain ⟨h1, h2, h3⟩ := h.done hb
  refine ⟨h1, h2, fun c hc hn => ?_⟩
  by_cases e : c = k
  · subst e; exact hk hn
  · exact h3 c (by omega) hn
theorem Pass.add (h : Pass n m t S0 S i k b) (hi : (i : Int) ∈ S) (hk : InT n (k : Int)) (hn : needB m (n.tr (i : Int)) (n.tr (k : Int)) = true) (hno : (k : Int) ∉ S) : Pass n m t S0 (S ++ [(k : Int)]) i (k + 1) true := by
  have := h.le
  refine ⟨h.wk.add hi hk hn hno, by simp; omega, ?_, fun hb => by cases hb⟩
  rw [List.length_append, List.length_singleton]
  exact (decide_eq_true (by omega)).symm
theorem Pass.row (h : Pass n m t S0 S i n.trans.length b) : Pass n m t S0 S (i + 1) 0 b := by
  refine ⟨h.wk, h.le, h.turned, fun hb => ?_⟩
  obtain ⟨h1, h2, h3⟩ := h.done hb
  refine ⟨h1, fun a ha hlt c hc hn => ?_, fun c hc => by omega⟩
  by_cases e : a = (i : Int)
  · subst e
    obtain ⟨q, rfl⟩ := Int.eq_ofNat_of_zero_le hc.1
    exact h3 q (by have := hc.2; omega) hn
  · exact h2 a ha (by omega) c hc hn
theorem Pass.skip (h : Pass n m t S0 S i 0 b) (hi : (i : Int) ∉ S) : Pass n m t S0 S (i + 1) 0 b := by
  refine ⟨h.wk, h.le, h.turned, fun hb => ?_⟩
  obtain ⟨h1, h2, _⟩ := h.done hb
  refine ⟨h1, fun a ha hlt c hc hn => ?_, fun c hc => by omega⟩
  have : a ≠ (i : Int) := fun e => hi (e ▸ ha)
  exact h2 a ha (by omega) c hc hn
theorem Pass.fin (ht : InT n t) (h : Pass n m t S0 S n.trans.length 0 b) (hb : b = false) : S = S0 ∧ ClosedS n m S := by
  obtain ⟨h1, h2, _⟩ := h.done hb
  exact ⟨h1, fun a ha c hc hn => h2 a ha ((h.wk.cl a ha).inT ht).2 c hc hn⟩
end
theorem rowB_congr {N : Nat} {S T : List Int} (h : ∀ x : Int, x ∈ S ↔ x ∈ T) : rowB N S = rowB N T := by
  unfold rowB
  refine List.map_congr_left fun j _ => ?_
  rw [Bool.eq_iff_iff, List.contains_iff_mem, List.contains_iff_mem]
  exact h _

def ROfPost (w : World) (n : Nt) (m : List Int) (t : Int) (e : Ending) (w' : World) : Prop :=
  ∃ g, e = .returned (.slice (some ⟨g, 0, none⟩) n.trans.length n.trans.length) ∧ RB w' w.heap.size g n.trans.length (clL n m t) ∧ Below w.heap.size w w'

set_option maxHeartbeats 4000000 in
theorem rof_any (w : World) (B : Nat) (hB : B ≤ w.heap.size) (vp vt : Value) (n : Nt) (hn : NtR w B vp vt n) (vm : Value) (m : List Int) (hm : Ints w B vm m) (hM : n.Mark m) (t : Int) (ht : InT n t) :
    Calls Tryd.prog 47 #[.agg #[vp, vt, .int .i64 n.init, .int .i64 n.final], vm, .int .i64 t] w (ROfPost w n m t) := by
  have hbA := (Below.refl w.heap.size w).alloc (Nat.le_refl _) (.cells #[vp, vt, .int .i64 n.init, .int .i64 n.final] 25)
  have hbx := heap_alloc_new w (.cells #[vp, vt, .int .i64 n.init, .int .i64 n.final] 25)
  obtain ⟨W1, hW1⟩ : ∃ W1, w.alloc (.cells #[vp, vt, .int .i64 n.init, .int .i64 n.final] 25) = W1 := ⟨_, rfl⟩
  rw [hW1] at hbA hbx
  have hlt1 := lt_of_block hbx
  have hz1 := hbA.size
  have HN := Lib.hid hn
  have HM := Lib.hid hm
  have HMK := Lib.hid hM
  have HT := Lib.hid ht
  have HBX := Lib.hid hbx
  have hnt := hM.ok.trans
  obtain ⟨ap, cp, rfl⟩ := hn.1.val
  obtain ⟨at_, ct, rfl⟩ := hn.2.val
  obtain ⟨am, cm, rfl⟩ := hm.val
  obtain ⟨c0, c1, c2, c3⟩ := box4' hbx
  obtain ⟨q, rfl⟩ := Int.eq_ofNat_of_zero_le ht.1
  have hqn : q < n.trans.length := by have := ht.2; omega
  have hmk1 := run_make_row' (P := Tryd.prog) 36 4 (.bool false) 1 Tryd.underlying36 info_bool rfl .i64 .i64 n.trans.length (by omega) (by omega)
  have hmc : (madeCells #[Value.bool false] n.trans.length)[q]? = some (.bool false) := by simp [madeCells, hqn, Nat.mod_one]
  have hRB0 := RB.made (w := W1) (N := n.trans.length) (by unfold maxLen; omega) (Nat.le_refl _)
  have hRB1 := hRB0.set hqn
  have hb2 : Below W1.heap.size W1 ((W1.alloc (.cells (madeCells #[Value.bool false] n.trans.length) 4)).setCell ⟨W1.heap.size, q, none⟩ (.bool true)) := ((Below.refl W1.heap.size W1).alloc (Nat.le_refl _) _).setCell (p := ⟨W1.heap.size, q, none⟩) (Nat.le_refl _) _
  have h00 := hRB0.at hqn
  have h01 := hRB0.free q
  obtain ⟨W2, hW2⟩ : ∃ W2, W1.alloc (.cells (madeCells #[Value.bool false] n.trans.length) 4) = W2 := ⟨_, rfl⟩
  rw [hW2] at hRB0 hRB1 hb2 h00 h01
  rw [show (([] : List Int).contains (q : Int)) = false from rfl] at h00
  obtain ⟨W3, hW3⟩ : ∃ W3, W2.setCell ⟨W1.heap.size, q, none⟩ (.bool true) = W3 := ⟨_, rfl⟩
  rw [hW3] at hRB1 hb2
  have HRB : Hid (RB W3 W1.heap.size W1.heap.size n.trans.length [(q : Int)]) := hRB1
  have HB := Lib.hid hb2
  have HW : Hid (WkR n m (q : Int) [(q : Int)]) := ⟨by simp, fun a ha => by obtain rfl : a = (q : Int) := by simpa using ha
                                                                            exact .self, by simp⟩
  have HU : Hid (2 * (n.trans.length - [(q : Int)].length) + (if true = true then 1 else 0) = 2 * n.trans.length - 1) := by refine Lib.hid ?_; simp; omega
  clear hn hm hM ht hbx hRB0 hRB1 hb2
  go_enter Tryd.func47, Tryd.ntmps47
  go_wp2_with fail
  clear hW1 hW2 hW3 c0 c1 c2 c3 h00 h01
  go_loopg [8] (2 * n.trans.length - 1) (fun gh s8 wr => ∃ (S : List Int) (b : Bool), s8 = .bool b ∧ Hid (WkR n m (q : Int) S) ∧ Hid (b = false → ClosedS n m S) ∧ Hid (2 * (n.trans.length - S.length) + (if b = true then 1 else 0) = gh) ∧ Hid (RB wr W1.heap.size W1.heap.size n.trans.length S) ∧ Below W1.heap.size W1 wr)
  case atStart => exact ⟨[(q : Int)], true, rfl, HW, Lib.hid (fun h => absurd h (by simp)), HU, HRB, HB.out⟩
  case round =>
    clear HRB HB HW HU
    obtain ⟨S, b, rfl, hW, hC, hU, hRB, hbel⟩ := hrel
    have hwr := hbel.size
    cases b with
    | false =>
      go_wp2_with fail
      go_ret
      refine ⟨_, rfl, ?_, hbA.trans (hbel.mono hz1)⟩
      have e : rowB n.trans.length S = rowB n.trans.length (clL n m (q : Int)) := rowB_congr fun x => (hW.out.end_ (hC.out (by trivial)) x).trans (mem_clL HT.out).symm
      have := hRB.out
      unfold RB at this ⊢
      rw [← e]
      have h2 := OwnF.lower this (show w.heap.size ≤ W1.heap.size by omega)
      exact h2
    | true =>
      have HP : Hid (Pass n m (q : Int) S S 0 0 false) := Pass.first HT.out hW.out
      have HU : Hid (2 * (n.trans.length - S.length) + 1 = gk) := by have := hU.out; rw [if_pos rfl] at this; exact this
      have hSl : S.length ≤ n.trans.length := hW.out.len HT.out
      obtain ⟨N0, hN0⟩ : ∃ N0, gk = N0 := ⟨_, rfl⟩
      rw [hN0] at HU
      have HN0 := Lib.hid hN0
      have HB := Lib.hid hbel
      clear hN0 hU hC hW hbel
      obtain ⟨W5, rfl⟩ : ∃ W5 : World, W5 = wr := ⟨_, rfl⟩
      go_wp2_with fail
      go_loopg [8, 9] n.trans.length (fun gh s8 s9 wx => ∃ (i : Nat) (S1 : List Int) (b1 : Bool), i + gh = n.trans.length ∧ s9 = .int .i64 (i : Int) ∧ s8 = .bool b1 ∧ Hid (Pass n m (q : Int) S S1 i 0 b1) ∧ Hid (RB wx W1.heap.size W1.heap.size n.trans.length S1) ∧ Below W1.heap.size W1 wx)
      case atStart => exact ⟨0, S, false, by omega, rfl, rfl, HP, hRB, HB.out⟩
      case round =>
        clear HP hRB HB
        obtain ⟨i, S1, b1, hig, rfl, rfl, hP, hRB, hbel⟩ := hrel
        have hbw := hbA.trans (hbel.mono hz1)
        obtain ⟨c0, c1, c2, c3⟩ := box4' (box_up HBX.out hbel)
        by_cases hi : i < n.trans.length
        · have hic := hRB.out.at hi
          by_cases hin : (i : Int) ∈ S1
          · rw [List.contains_iff_mem.2 hin] at hic
            obtain ⟨bt, ot, vi, vo, rfl, hbt2, h0, h1, h2, hii, hoo⟩ := HN.out.2.col i hi
            have hii' := hii
            have hpin := (HMK.out.ok.inn _ (List.getElem_mem hi)).1
            rw [← HMK.out.len] at hpin
            have htri : Hid (n.tr (i : Int) = n.trans[i]) := by refine Lib.hid ?_; simp [Nt.tr, hi]
            obtain ⟨ti, hti⟩ : ∃ ti, n.trans[i] = ti := ⟨_, rfl⟩
            rw [hti] at h0 hii hoo htri hpin hii'
            obtain ⟨ai, ci, rfl⟩ := hii.val
            obtain ⟨ao, co, rfl⟩ := hoo.val
            have HII := Lib.hid hii
            have HOO := Lib.hid hoo
            have HC3 := Lib.hid (And.intro h0 (And.intro h1 h2))
            have HIN := Lib.hid hin
            have HPI := Lib.hid hpin
            clear hti hii hoo hii' h0 h1 h2 hin hpin
            obtain ⟨W6, rfl⟩ : ∃ W6 : World, W6 = wr := ⟨_, rfl⟩
            have HB := Lib.hid hbel
            clear hbel
            go_wp2_with fail
            clear c0 c1 c2 c3 hic
            go_loopg [8, 10] n.trans.length (fun gh s8 s10 wx => ∃ (k : Nat) (S2 : List Int) (b2 : Bool), k + gh = n.trans.length ∧ s10 = .int .i64 (k : Int) ∧ s8 = .bool b2 ∧ Hid (Pass n m (q : Int) S S2 i k b2) ∧ Hid ((i : Int) ∈ S2) ∧ Hid (RB wx W1.heap.size W1.heap.size n.trans.length S2) ∧ Below W1.heap.size W1 wx)
            case atStart => exact ⟨0, S1, b1, by omega, rfl, rfl, hP, HIN, hRB, HB.out⟩
            case round =>
              clear hP HIN hRB HB
              obtain ⟨k, S2, b2, hkg, rfl, rfl, hP, hIn, hRB, hbel⟩ := hrel
              have hwr2 := hbel.size
              have hbw := hbA.trans (hbel.mono hz1)
              have hbx6 := box_up HBX.out hbel
              obtain ⟨c0, c1, c2, c3⟩ := box4' hbx6
              by_cases hk : k < n.trans.length
              · have hkc := hRB.out.at hk
                have hgl := hRB.out.lt
                obtain ⟨h0, h1, h2⟩ := HC3.out
                rw [← Below.cellB hbw (by omega)] at h0 h1 h2
                obtain ⟨b3, o3, ui, uo, e3, _, k0, k1, k2, hui, huo⟩ := HN.out.2.col k hk
                obtain ⟨rfl, rfl⟩ : bt = b3 ∧ ot = o3 := by injection e3 with e3; injection e3 with e3 e4; exact ⟨e3, e4⟩
                rw [← Below.cellB hbw (by omega)] at k0 k1 k2
                have htrk : Hid (n.tr (k : Int) = n.trans[k]) := by refine Lib.hid ?_; simp [Nt.tr, hk]
                obtain ⟨tk, htk⟩ : ∃ tk, n.trans[k] = tk := ⟨_, rfl⟩
                rw [htk] at k0 hui huo htrk
                obtain ⟨au, cu, rfl⟩ := hui.val
                obtain ⟨aq, cq, rfl⟩ := huo.val
                have HKI : Hid (InT n (k : Int)) := ⟨by omega, by omega⟩
                clear htk
                by_cases hkin : (k : Int) ∈ S2
                · rw [List.contains_iff_mem.2 hkin] at hkc
                  have HP2 : Hid (Pass n m (q : Int) S S2 i (k + 1) b2) := hP.out.next fun _ => hkin
                  clear hkin hui huo
                  go_upto_region 13 with fail
                  go_quiet (fail)
                  go_wp2_with fail
                  go_roundg (gk - 1)
                  case measure => omega
                  case rel => exact ⟨k + 1, S2, b2, by omega, by go_num, rfl, HP2, hIn, Lib.hid (hRB.out.kept (below_drewN' _)), below_drewN hbel _⟩
                · have hkf : S2.contains (k : Int) = false := by rw [← Bool.not_eq_true, List.contains_iff_mem]; exact hkin
                  rw [hkf] at hkc
                  obtain ⟨y, hy⟩ : ∃ y, needB m ti tk = y := ⟨_, rfl⟩
                  have HY : Hid (needB m (n.tr (i : Int)) (n.tr (k : Int)) = y) := by rw [htri.out, htrk.out, hy]; exact rfl
                  have HNd := Lib.hid (fun V (hV : Below wr.heap.size wr V) => rneeds_any V B (Nat.le_trans hB (hbw.trans (hV.mono hbw.size)).size) _ _ n (HN.out.mono ((hbw.trans (hV.mono hbw.size)).mono hB) (Nat.le_refl _)) _ m (HM.out.mono ((hbw.trans (hV.mono hbw.size)).mono hB) (Nat.le_refl _)) HMK.out.tok ti tk _ _ _ _ (HII.out.mono ((hbw.trans (hV.mono hbw.size)).mono hB) (Nat.le_refl _)) (HOO.out.mono ((hbw.trans (hV.mono hbw.size)).mono hB) (Nat.le_refl _)) (hui.mono ((hbw.trans (hV.mono hbw.size)).mono hB) (Nat.le_refl _)) (huo.mono ((hbw.trans (hV.mono hbw.size)).mono hB) (Nat.le_refl _)) HPI.out y hy)
                  have cur := Below.refl wr.heap.size wr
                  have hltx := lt_of_block hbx6
                  have HNo := Lib.hid hkin
                  clear hy hkin hkf hui huo
                  go_upto_region 13 with fail
                  go_cut [57] (fun s57 wx => ∃ w9, w9 = wx ∧ s57 = .bool y ∧ Below wr.heap.size wr w9)
                  case first =>
                    go_region_held3 (fun w' => w'.cell? ⟨w.heap.size, 0, none⟩ = some (.slice ap n.places.length cp) ∧ w'.cell? ⟨w.heap.size, 1, none⟩ = some (.slice (some ⟨bt, ot, none⟩) n.trans.length ct) ∧ w'.cell? ⟨w.heap.size, 2, none⟩ = some (.int .i64 n.init) ∧ w'.cell? ⟨w.heap.size, 3, none⟩ = some (.int .i64 n.final) ∧
                        w'.cell? ⟨bt, ot + i * 3, none⟩ = some (.string ti.label) ∧ w'.cell? ⟨bt, ot + i * 3 + 1, none⟩ = some (.slice ai ti.inn.length ci) ∧ w'.cell? ⟨bt, ot + i * 3 + 2, none⟩ = some (.slice ao ti.out.length co) ∧
                        w'.cell? ⟨bt, ot + k * 3, none⟩ = some (.string tk.label) ∧ w'.cell? ⟨bt, ot + k * 3 + 1, none⟩ = some (.slice au tk.inn.length cu) ∧ w'.cell? ⟨bt, ot + k * 3 + 2, none⟩ = some (.slice aq tk.out.length cq) ∧ w'.cell? ⟨W1.heap.size, k, none⟩ = some (.bool false))
                      (first | go_keep | (refine ⟨?_, ?_, ?_, ?_, ?_, ?_, ?_, ?_, ?_, ?_, ?_⟩ <;> (rw [Below.cellB cur9 (by omega)]; assumption)))
                      (first | (go_at_call 68; refine (HNd.out _ (by first | exact cur | exact cur.drew)).mono ?_; rintro e w9 ⟨rfl, hb9⟩; have cur9 : Below wr.heap.size wr w9 := (by first | exact cur.trans hb9 | exact cur.drew.trans hb9)))
                    go_wp2_with fail
                    go_meet
                    case rel => exact ⟨_, rfl, rfl, cur9⟩
                  case rest =>
                    obtain ⟨w9, rfl, rfl, hb9⟩ := hcut
                    have hB9 := hbel.trans (hb9.mono hwr2)
                    have hRB9 := hRB.out.kept hb9
                    cases y with
                    | false =>
                      have HP2 : Hid (Pass n m (q : Int) S S2 i (k + 1) b2) := hP.out.next fun h => by rw [HY.out] at h; cases h
                      go_wp2_with fail
                      go_roundg (gk - 1)
                      case measure => omega
                      case rel => exact ⟨k + 1, S2, b2, by omega, by go_num, rfl, HP2, hIn, hRB9, hB9⟩
                    | true =>
                      have HP2 : Hid (Pass n m (q : Int) S (S2 ++ [(k : Int)]) i (k + 1) true) := hP.out.add hIn.out HKI.out HY.out HNo.out
                      have hk9 := hRB9.at hk
                      have hf9 := hRB9.free k
                      have HR9 := Lib.hid (hRB9.set hk)
                      have HI9 : Hid ((i : Int) ∈ S2 ++ [(k : Int)]) := List.mem_append_left _ hIn.out
                      have HB9 := Lib.hid (hB9.setCell (p := ⟨W1.heap.size, k, none⟩) (Nat.le_refl _) (.bool true))
                      clear hRB9 hB9
                      go_wp2_with fail
                      go_roundg (gk - 1)
                      case measure => omega
                      case rel => exact ⟨k + 1, _, true, by omega, by go_num, rfl, HP2, HI9, HR9, HB9.out⟩
              · have hk' : ¬ ((k : Int) < (n.trans.length : Int)) := by omega
                have HP2 : Hid (Pass n m (q : Int) S S2 (i + 1) 0 b2) := by have := hP.out; rw [show k = n.trans.length by omega] at this; exact this.row
                go_wp2_with fail
                go_roundg (n.trans.length - (i + 1))
                case measure => omega
                case rel => exact ⟨i + 1, S2, b2, by omega, by go_num, rfl, HP2, hRB, hbel⟩
          · have hif : S1.contains (i : Int) = false := by rw [← Bool.not_eq_true, List.contains_iff_mem]; exact hin
            rw [hif] at hic
            have HP2 : Hid (Pass n m (q : Int) S S1 (i + 1) 0 b1) := hP.out.skip hin
            clear hin hif
            go_wp2_with fail
            go_roundg (gk - 1)
            case measure => omega
            case rel => exact ⟨i + 1, S1, b1, by omega, by go_num, rfl, HP2, hRB, hbel⟩
        · have hi' : ¬ ((i : Int) < (n.trans.length : Int)) := by omega
          have hP2 : Pass n m (q : Int) S S1 n.trans.length 0 b1 := by have := hP.out; rw [show i = n.trans.length by omega] at this; exact this
          have HWk := Lib.hid hP2.wk
          have HCl : Hid (b1 = false → ClosedS n m S1) := fun h => (hP2.fin HT.out h).2
          have hle := hP2.le
          have htu := hP2.turned
          have hS1l := hP2.wk.len HT.out
          have hgN := HU.out
          have hgN0 := HN0.out
          have hnew : 2 * (n.trans.length - S1.length) + (if b1 = true then 1 else 0) < N0 := by
            by_cases hlt : S.length < S1.length
            · split <;> omega
            · rw [decide_eq_false hlt] at htu
              rw [htu, if_neg (by simp)]
              omega
          have HUn : Hid (2 * (n.trans.length - S1.length) + (if b1 = true then 1 else 0) = 2 * (n.trans.length - S1.length) + (if b1 = true then 1 else 0)) := rfl
          obtain ⟨z, hz⟩ : ∃ z, 2 * (n.trans.length - S1.length) + (if b1 = true then 1 else 0) = z := ⟨_, rfl⟩
          rw [hz] at hnew
          have HZ := Lib.hid hz
          clear hP2 hP htu hz HUn
          go_wp2_with fail
          go_roundg z
          case measure => omega
          case rel => exact ⟨S1, b1, rfl, HWk, HCl, HZ, hRB, hbel⟩
end Go.Proofs.YtbolacnpljkpbaaDoor

/- The document's stubborn set of a marking (tollgateref18): set, Set. -/
namespace Go.Proofs.YtbolacnpljkpbaaDoor
open Go.RowKit
open Classical

def idxTo (k : Nat) : List Int := (List.range k).map (fun (q : Nat) => (q : Int))
theorem idxTo_succ (k : Nat) : idxTo (k + 1) = idxTo k ++ [(k : Int)] := by unfold idxTo; rw [List.range_succ, List.map_append]; rfl
theorem idxTo_all (n : Nt) : idxTo n.trans.length = idxL n := rfl
def cntTo (n : Nt) (m : List Int) (S : List Int) (k : Nat) : Nat := (idxTo k).countP (fun t => S.contains t && (n.tr t).enB m)
theorem cntTo_succ (n : Nt) (m : List Int) (S : List Int) (k : Nat) : cntTo n m S (k + 1) = cntTo n m S k + (if S.contains (k : Int) && (n.tr (k : Int)).enB m then 1 else 0) := by
  unfold cntTo
  rw [idxTo_succ, List.countP_append]
  simp [List.countP_cons]
theorem cntTo_le (n : Nt) (m : List Int) (S : List Int) (k : Nat) : cntTo n m S k ≤ k := Nat.le_trans List.countP_le_length (by simp [idxTo])
theorem cntTo_all {n : Nt} {m : List Int} {t : Int} (ht : InT n t) : cntTo n m (clL n m t) n.trans.length = enCnt n m (clL n m t) := by
  unfold cntTo enCnt
  rw [idxTo_all]
  have e : (idxL n).filter (fun x => (clL n m t).contains x) = clL n m t := by
    refine sorted_eq ((range_sorted _).filter _) (clL_sorted n m t) fun x => ?_
    rw [List.mem_filter, List.contains_iff_mem]
    exact ⟨fun h => h.2, fun h => ⟨mem_idxL.2 (((mem_clL ht).1 h).inT ht), h⟩⟩
  have h2 : enCnt n m ((idxL n).filter (fun x => (clL n m t).contains x)) = (idxL n).countP (fun x => (clL n m t).contains x && (n.tr x).enB m) := by
    unfold enCnt
    rw [List.countP_filter]
    refine List.countP_congr fun x _ => ?_
    rw [Bool.and_comm]
  rw [e] at h2
  exact h2.symm
def selTo (S : List Int) (k : Nat) : List Int := (idxTo k).filter (fun t => S.contains t)
theorem selTo_succ (S : List Int) (k : Nat) : selTo S (k + 1) = selTo S k ++ (if S.contains (k : Int) then [(k : Int)] else []) := by
  unfold selTo
  rw [idxTo_succ, List.filter_append]
  simp only [List.filter_cons, List.filter_nil]
  try rfl
theorem selTo_len (S : List Int) (k : Nat) : (selTo S k).length ≤ k := Nat.le_trans (List.length_filter_le _ _) (by simp [idxTo])
theorem selTo_all {n : Nt} {S : List Int} (hs : S.Pairwise (· < ·)) (hi : ∀ x ∈ S, InT n x) : selTo S n.trans.length = S := by
  unfold selTo
  rw [idxTo_all]
  refine sorted_eq ((range_sorted _).filter _) hs fun x => ?_
  rw [List.mem_filter, List.contains_iff_mem]
  exact ⟨fun h => h.2, fun h => ⟨mem_idxL.2 (hi x h), h⟩⟩

/-- The best row so far. -/
def BestW (n : Nt) (w : World) (base : Nat) (v l : Value) (bS : List Int) (bk : Nat) : Prop :=
  (v = .slice none 0 0 ∧ l = .int .i64 0 ∧ bS = [] ∧ bk = n.trans.length + 1) ∨
    ∃ g, v = .slice (some ⟨g, 0, none⟩) n.trans.length n.trans.length ∧ l = .int .i64 (bk : Int) ∧ RB w base g n.trans.length bS ∧ bk ≤ n.trans.length ∧ bS.Pairwise (· < ·) ∧ ∀ x ∈ bS, InT n x
theorem BestW.kept {n : Nt} {w w' : World} {base : Nat} {v l : Value} {bS : List Int} {bk : Nat} (h : BestW n w base v l bS bk) (hb : Below w.heap.size w w') : BestW n w' base v l bS bk := by
  rcases h with h | ⟨g, h1, h2, h3, h4⟩
  · exact .inl h
  · exact .inr ⟨g, h1, h2, h3.kept hb, h4⟩
theorem RB.lower {w : World} {base b2 g N : Nat} {S : List Int} (h : RB w base g N S) (hb : b2 ≤ base) : RB w b2 g N S := OwnF.lower h hb

def RSetPost (w : World) (n : Nt) (m : List Int) (e : Ending) (w' : World) : Prop := ∃ v, e = .returned v ∧ OwnI w' w.heap.size v (setL n m) ∧ Below w.heap.size w w'

set_option maxHeartbeats 4000000 in
theorem rset_any (w : World) (B : Nat) (hB : B ≤ w.heap.size) (vp vt : Value) (n : Nt) (hn : NtR w B vp vt n) (vm : Value) (m : List Int) (hm : Ints w B vm m) (hM : n.Mark m) :
    Calls Tryd.prog 29 #[.agg #[vp, vt, .int .i64 n.init, .int .i64 n.final], vm] w (RSetPost w n m) := by
  have hbA := (Below.refl w.heap.size w).alloc (Nat.le_refl _) (.cells #[vp, vt, .int .i64 n.init, .int .i64 n.final] 25)
  have hbx := heap_alloc_new w (.cells #[vp, vt, .int .i64 n.init, .int .i64 n.final] 25)
  obtain ⟨W1, hW1⟩ : ∃ W1, w.alloc (.cells #[vp, vt, .int .i64 n.init, .int .i64 n.final] 25) = W1 := ⟨_, rfl⟩
  rw [hW1] at hbA hbx
  have hlt1 := lt_of_block hbx
  have hz1 := hbA.size
  have HN := Lib.hid hn
  have HM := Lib.hid hm
  have HMK := Lib.hid hM
  have HBX := Lib.hid hbx
  have hnt := hM.ok.trans
  obtain ⟨i0, hti, hz0, hz1', hz2⟩ := info_parts info_int
  obtain ⟨ap, cp, rfl⟩ := hn.1.val
  obtain ⟨at_, ct, rfl⟩ := hn.2.val
  obtain ⟨am, cm, rfl⟩ := hm.val
  obtain ⟨c0, c1, c2, c3⟩ := box4' hbx
  have q22 : ∀ (w : World) (a : Option Addr) (n c n' c' : Nat), (binOp .eql 36 (.slice a n c) (.slice none n' c')).run Tryd.prog w = .ok (.bool a.isNone) w := fun w a n c n' c' => Lib.run_eql_slice_nil w _ _ a n c n' c' Tryd.underlying36
  have HG0 : Hid (bestGo n m (enGo m (n.trans.drop 0) 0) ([], n.trans.length + 1) = bestGo n m (n.enE m) ([], n.trans.length + 1)) := rfl
  have HB0 : Hid (BestW n W1 W1.heap.size (.slice none 0 0) (.int .i64 0) [] (n.trans.length + 1)) := Or.inl ⟨rfl, rfl, rfl, rfl⟩
  clear hn hm hM hbx
  go_enter Tryd.func29, Tryd.ntmps29
  go_wp2_with fail
  clear hW1 c0 c1 c2 c3
  go_loopg [5, 6, 7] n.trans.length (fun gh s5 s6 s7 wr => ∃ (i : Nat) (bS : List Int) (bk : Nat), i + gh = n.trans.length ∧ s7 = .int .i64 (i : Int) ∧ Hid (bestGo n m (enGo m (n.trans.drop i) i) (bS, bk) = bestGo n m (n.enE m) ([], n.trans.length + 1)) ∧ Hid (BestW n wr W1.heap.size s5 s6 bS bk) ∧ Below W1.heap.size W1 wr)
  case atStart => exact ⟨0, [], _, by omega, rfl, HG0, HB0, Below.refl _ _⟩
  case round =>
    clear HG0 HB0
    obtain ⟨i, bS, bk, hig, rfl, hGo, hBe, hbel⟩ := hrel
    have hwr := hbel.size
    have hbw := hbA.trans (hbel.mono hz1)
    have hbx2 := box_up HBX.out hbel
    obtain ⟨c0, c1, c2, c3⟩ := box4' hbx2
    by_cases hi : i < n.trans.length
    · obtain ⟨bt, ot, vi, vo, rfl, hbt2, h0, h1, h2, hii, hoo⟩ := HN.out.2.col i hi
      rw [← Below.cellB hbw (by omega)] at h0 h1 h2
      have hpin := (HMK.out.ok.inn _ (List.getElem_mem hi)).1
      rw [← HMK.out.len] at hpin
      have hd := Lib.hid (enGo_drop (m := m) hi)
      have htri : Hid (n.tr (i : Int) = n.trans[i]) := by refine Lib.hid ?_; simp [Nt.tr, hi]
      obtain ⟨ti, hti2⟩ : ∃ ti, n.trans[i] = ti := ⟨_, rfl⟩
      rw [hti2] at h0 hii hoo htri hpin hd
      obtain ⟨en, hen⟩ : ∃ en, ti.enB m = en := ⟨_, rfl⟩
      have HIs := Lib.hid (ris_is wr B (by have := hbw.size; omega) ti _ _ _ m (hii.mono (hbw.mono hB) (Nat.le_refl _)) (hoo.mono (hbw.mono hB) (Nat.le_refl _)) (HM.out.mono (hbw.mono hB) (Nat.le_refl _)) hpin HMK.out.tok hen)
      obtain ⟨ai, ci, rfl⟩ := hii.val
      obtain ⟨ao, co, rfl⟩ := hoo.val
      rw [hen] at hd
      clear hti2 hen hii hoo hpin
      cases en with
      | false =>
        have HG1 : Hid (bestGo n m (enGo m (n.trans.drop (i + 1)) (i + 1)) (bS, bk) = bestGo n m (n.enE m) ([], n.trans.length + 1)) := by rw [← hGo.out, hd.out]; exact rfl
        go_wp2_with (first | (go_at_call 46; refine HIs.out.mono ?_; rintro e w2 ⟨rfl, hb2⟩))
        go_roundg (gk - 1)
        case measure => omega
        case rel => exact ⟨i + 1, bS, bk, by omega, by go_num, HG1, hBe.out.kept hb2, hbel.trans (hb2.mono hwr)⟩
      | true =>
        have hiT : InT n (i : Int) := ⟨by omega, by omega⟩
        have HIT := Lib.hid hiT
        have HG1 : Hid (bestGo n m (enGo m (n.trans.drop (i + 1)) (i + 1)) (if enCnt n m (clL n m (i : Int)) < bk then (clL n m (i : Int), enCnt n m (clL n m (i : Int))) else (bS, bk)) = bestGo n m (n.enE m) ([], n.trans.length + 1)) := by rw [← hGo.out, hd.out]; exact rfl
        clear hGo hd hiT
        go_wp2_with (first | (go_at_call 46; refine HIs.out.mono ?_; rintro e w2 ⟨rfl, hb2⟩; refine Hid.out ?_))
        refine Lib.hid ?_
        have hB2 := hbel.trans (hb2.mono hwr)
        have hbw2 := hbA.trans (hB2.mono hz1)
        have hz2' := hb2.size
        have HBe2 := Lib.hid (hBe.out.kept hb2)
        clear c0 c1 c2 c3 h0 h1 h2 hBe
        obtain ⟨c0, c1, c2, c3⟩ := box4' (box_up hbx2 hb2)
        have HOf := Lib.hid (rof_any w2 B (Nat.le_trans hB hbw2.size) _ _ n (HN.out.mono (hbw2.mono hB) (Nat.le_refl _)) _ m (HM.out.mono (hbw2.mono hB) (Nat.le_refl _)) HMK.out (i : Int) HIT.out)
        go_wp2_with (first | (go_at_call 47; refine HOf.out.mono ?_; rintro e w3 ⟨g, rfl, hR3, hb3⟩; refine Hid.out ?_))
        refine Lib.hid ?_
        have hB3 := hB2.trans (hb3.mono (by omega))
        have hz3 := hB3.size
        have HR3 := Lib.hid hR3
        have HBe3 := Lib.hid (HBe2.out.kept hb3)
        have hbx3 := box_up (box_up hbx2 hb2) hb3
        have HBX3 := Lib.hid hbx3
        have HB3 := Lib.hid hB3
        obtain ⟨C, hC⟩ : ∃ C, clL n m (i : Int) = C := ⟨_, rfl⟩
        have HCn : Hid (cntTo n m C n.trans.length = enCnt n m C) := by rw [← hC]; exact cntTo_all HIT.out
        have HCs : Hid (C.Pairwise (· < ·) ∧ (∀ x ∈ C, InT n x)) := by rw [← hC]; exact ⟨clL_sorted _ _ _, fun x hx => ((mem_clL HIT.out).1 hx).inT HIT.out⟩
        rw [hC] at HG1 HR3
        have HC0 : Hid (cntTo n m C 0 = 0) := rfl
        clear c0 c1 c2 c3 hC hR3 hbx3 HBe2
        go_wp2_with fail
        go_loopg [9, 10] n.trans.length (fun gh s9 s10 wx => ∃ (k : Nat) (c : Nat), k + gh = n.trans.length ∧ s10 = .int .i64 (k : Int) ∧ s9 = .int .i64 (c : Int) ∧ Hid (cntTo n m C k = c) ∧ Below w3.heap.size w3 wx)
        case atStart => exact ⟨0, 0, by omega, rfl, rfl, HC0, Below.refl _ _⟩
        case round =>
          clear HC0
          obtain ⟨k, c, hkg, rfl, rfl, hc, hbl⟩ := hrel
          have hwl := hbl.size
          have hBl := HB3.out.trans (hbl.mono hz3)
          have hbwl := hbA.trans (hBl.mono hz1)
          have hbxl := box_up HBX3.out hbl
          obtain ⟨c0, c1, c2, c3⟩ := box4' hbxl
          have hRl := HR3.out.kept hbl
          have hcl : c ≤ k := by rw [← hc.out]; exact cntTo_le _ _ _ _
          by_cases hk : k < n.trans.length
          · have hkc := hRl.at hk
            obtain ⟨b3, o3, ui, uo, e3, hbt3, k0, k1, k2, hui, huo⟩ := HN.out.2.col k hk
            obtain ⟨rfl, rfl⟩ : bt = b3 ∧ ot = o3 := by injection e3 with e3; injection e3 with e3 e4; exact ⟨e3, e4⟩
            rw [← Below.cellB hbwl (by omega)] at k0 k1 k2
            have hpk := (HMK.out.ok.inn _ (List.getElem_mem hk)).1
            rw [← HMK.out.len] at hpk
            have htrk : Hid (n.tr (k : Int) = n.trans[k]) := by refine Lib.hid ?_; simp [Nt.tr, hk]
            obtain ⟨tk, htk⟩ : ∃ tk, n.trans[k] = tk := ⟨_, rfl⟩
            rw [htk] at k0 hui huo htrk hpk
            have hsc := Lib.hid (cntTo_succ n m C k)
            rw [htrk.out] at hsc
            obtain ⟨ek, hek⟩ : ∃ ek, tk.enB m = ek := ⟨_, rfl⟩
            rw [hek, hc.out] at hsc
            have HIk := Lib.hid (ris_is wr B (by have := hbwl.size; omega) tk _ _ _ m (hui.mono (hbwl.mono hB) (Nat.le_refl _)) (huo.mono (hbwl.mono hB) (Nat.le_refl _)) (HM.out.mono (hbwl.mono hB) (Nat.le_refl _)) hpk HMK.out.tok hek)
            obtain ⟨au, cu, rfl⟩ := hui.val
            obtain ⟨aq, cq, rfl⟩ := huo.val
            obtain ⟨ic, hic⟩ : ∃ ic, C.contains (k : Int) = ic := ⟨_, rfl⟩
            rw [hic] at hsc hkc
            clear htk hek hic hui huo hpk
            cases ic with
            | false =>
              have hs1 : Hid (cntTo n m C (k + 1) = c) := by rw [hsc.out]; exact rfl
              go_wp2_with fail
              go_roundg (gk - 1)
              case measure => omega
              case rel => exact ⟨k + 1, c, by omega, by go_num, rfl, hs1, hbl⟩
            | true =>
              cases ek with
              | false =>
                have hs1 : Hid (cntTo n m C (k + 1) = c) := by rw [hsc.out]; exact rfl
                go_wp2_with (first | (go_at_call 46; refine HIk.out.mono ?_; rintro e w4 ⟨rfl, hb4⟩))
                go_roundg (gk - 1)
                case measure => omega
                case rel => exact ⟨k + 1, c, by omega, by go_num, rfl, hs1, hbl.trans (hb4.mono hwl)⟩
              | true =>
                have hs1 : Hid (cntTo n m C (k + 1) = c + 1) := by rw [hsc.out]; exact rfl
                go_wp2_with (first | (go_at_call 46; refine HIk.out.mono ?_; rintro e w4 ⟨rfl, hb4⟩))
                go_roundg (gk - 1)
                case measure => omega
                case rel => exact ⟨k + 1, c + 1, by omega, by go_num, by go_num, hs1, hbl.trans (hb4.mono hwl)⟩
          · have hk' : ¬ ((k : Int) < (n.trans.length : Int)) := by omega
            have hcE : Hid (c = enCnt n m C) := by rw [← HCn.out, ← hc.out, show k = n.trans.length by omega]; exact rfl
            have HBl := Lib.hid hBl
            have HRl := Lib.hid (hRl.lower (show W1.heap.size ≤ w2.heap.size by have := hB2.size; omega))
            have hcN : c ≤ n.trans.length := by omega
            rw [← hcE.out] at HG1
            clear hRl hBl hc hcE
            rcases HBe3.out with ⟨e5, e6, rfl, rfl⟩ | ⟨g0, e5, e6, hR0, hbk, hs0, hi0⟩
            · subst e5 e6
              have HG2 : Hid (bestGo n m (enGo m (n.trans.drop (i + 1)) (i + 1)) (C, c) = bestGo n m (n.enE m) ([], n.trans.length + 1)) := by have := HG1.out; rw [if_pos (by omega)] at this; exact this
              clear HG1
              go_wp2_with fail
              go_roundg (n.trans.length - (i + 1))
              case measure => omega
              case rel => exact ⟨i + 1, C, c, by omega, by go_num, HG2, Or.inr ⟨g, rfl, rfl, HRl.out, hcN, HCs.out.1, HCs.out.2⟩, HBl.out⟩
            · subst e5 e6
              have HX0 := Lib.hid (And.intro (hR0.kept hbl) (And.intro hs0 hi0))
              clear hR0 hs0 hi0
              by_cases hlt : c < bk
              · have d1 : decide (c < bk) = true := decide_eq_true hlt
                have d1' : decide ((c : Int) < (bk : Int)) = true := decide_eq_true (by omega)
                have HG2 : Hid (bestGo n m (enGo m (n.trans.drop (i + 1)) (i + 1)) (C, c) = bestGo n m (n.enE m) ([], n.trans.length + 1)) := by have := HG1.out; rw [if_pos hlt] at this; exact this
                clear HG1
                go_wp2_with fail
                go_roundg (n.trans.length - (i + 1))
                case measure => omega
                case rel => exact ⟨i + 1, C, c, by omega, by go_num, HG2, Or.inr ⟨g, rfl, rfl, HRl.out, hcN, HCs.out.1, HCs.out.2⟩, HBl.out⟩
              · have d1 : decide (c < bk) = false := decide_eq_false hlt
                have d1' : decide ((c : Int) < (bk : Int)) = false := decide_eq_false (by omega)
                have HG2 : Hid (bestGo n m (enGo m (n.trans.drop (i + 1)) (i + 1)) (bS, bk) = bestGo n m (n.enE m) ([], n.trans.length + 1)) := by have := HG1.out; rw [if_neg hlt] at this; exact this
                clear HG1
                go_wp2_with fail
                go_roundg (n.trans.length - (i + 1))
                case measure => omega
                case rel => exact ⟨i + 1, bS, bk, by omega, by go_num, HG2, Or.inr ⟨g0, rfl, rfl, HX0.out.1, hbk, HX0.out.2.1, HX0.out.2.2⟩, HBl.out⟩
    · have hi' : ¬ ((i : Int) < (n.trans.length : Int)) := by omega
      have hbS : Hid (bS = setL n m) := by
        have := hGo.out
        rw [List.drop_eq_nil_of_le (by omega)] at this
        unfold setL
        rw [← this]
        exact rfl
      have HBw := Lib.hid hbw
      rcases hBe.out with ⟨e5, e6, rfl, rfl⟩ | ⟨g0, e5, e6, hR0, hbk, hs0, hi0⟩
      · subst e5 e6
        clear hGo hBe
        go_wp2_with fail
        go_loopg [11, 12] 0 (fun gh s11 s12 wx => s11 = .slice none 0 0 ∧ s12 = .int .i64 0 ∧ wr = wx)
        case atStart => exact ⟨rfl, rfl, rfl⟩
        case round =>
          obtain ⟨rfl, rfl, rfl⟩ := hrel
          go_wp2_with fail
          go_ret
          exact ⟨_, rfl, by rw [← hbS.out]; exact OwnI.nil _ _, HBw.out⟩
      · subst e5 e6
        have HR0 := Lib.hid hR0
        have hsel := Lib.hid (selTo_all (n := n) hs0 hi0)
        have HO0 : Hid (OwnI wr wr.heap.size (.slice none 0 0) (selTo bS 0)) := OwnI.nil _ _
        obtain ⟨w4, rfl⟩ : ∃ w4 : World, w4 = wr := ⟨_, rfl⟩
        clear hGo hBe hR0 hs0 hi0
        go_wp2_with fail
        go_loopg [11, 12] n.trans.length (fun gh s11 s12 wx => ∃ k : Nat, k + gh = n.trans.length ∧ s12 = .int .i64 (k : Int) ∧ Hid (OwnI wx w4.heap.size s11 (selTo bS k)) ∧ Below w4.heap.size w4 wx)
        case atStart => exact ⟨0, by omega, rfl, HO0, Below.refl _ _⟩
        case round =>
          clear HO0
          obtain ⟨k, hkg, rfl, hO, hbl⟩ := hrel
          have hwl := hbl.size
          have hRl := HR0.out.kept hbl
          obtain ⟨a11, c11, h11⟩ := hO.out.shape
          have hsl := selTo_len bS k
          by_cases hk : k < n.trans.length
          · have hkc := hRl.at hk
            have hsn := Lib.hid (selTo_succ bS k)
            obtain ⟨L, hL⟩ : ∃ L, selTo bS k = L := ⟨_, rfl⟩
            rw [hL] at hO hsn h11 hsl
            subst h11
            obtain ⟨ic, hic⟩ : ∃ ic, bS.contains (k : Int) = ic := ⟨_, rfl⟩
            rw [hic] at hkc hsn
            clear hL hic hRl
            cases ic with
            | false =>
              have hs1 : Hid (selTo bS (k + 1) = L) := by rw [hsn.out, if_neg (by simp), List.append_nil]; exact rfl
              go_wp2_with fail
              go_roundg (gk - 1)
              case measure => omega
              case rel => exact ⟨k + 1, by omega, by go_num, by rw [hs1.out]; exact hO, hbl⟩
            | true =>
              have hs1 : Hid (selTo bS (k + 1) = L ++ [(k : Int)]) := by rw [hsn.out, if_pos rfl]; exact rfl
              have hx := (Below.refl wr.heap.size wr).alloc (Nat.le_refl _) (.cells #[.int .i64 (k : Int)] 3)
              have HO2 := Lib.hid (hO.out.kept hx (Nat.le_refl _))
              have HBx := Lib.hid (hbl.trans (hx.mono hwl))
              have hT := HO2.out
              clear hx hO
              go_wp2_with (at_builtin; go_must (refine wpList_append_own_at _ rfl _ _ 26 rfl w4.heap.size 3 i0 (.int .i64 0) 1 8 Tryd.underlying26 hti hz0 hz1' hz2 rfl (by decide) _ _ _ rfl hT ⟨wr.heap.size, 0, none⟩ 1 1 [.int .i64 (k : Int)] rfl rfl (cell_one_new _ _ _) (by intro u hu; simp at hu; subst hu; rfl) (by unfold maxLen; omega) (by omega) (by simp; omega) ?_; intro v6 w6 hown6 hg6 _ hat6))
              have hoR : OwnI w6 w4.heap.size v6 (L ++ [(k : Int)]) := by unfold OwnI; simpa using hown6
              go_roundg (gk - 1)
              case measure => omega
              case rel => exact ⟨k + 1, by omega, by go_num, by rw [hs1.out]; exact hoR, HBx.out.grown hg6 HBx.out.size (fun j hj => (OwnF.ty (own_cellI.2 HO2.out) hj).2)⟩
          · have hk' : ¬ ((k : Int) < (n.trans.length : Int)) := by omega
            rw [show k = n.trans.length by omega, hsel.out] at hO h11
            subst h11
            go_wp2_with fail
            go_ret
            exact ⟨_, rfl, by rw [← hbS.out]; exact hO.out.lower HBw.out.size, HBw.out.trans (hbl.mono HBw.out.size)⟩

theorem markB_split (n : Nt) (m : List Int) : n.markB m = (n.okB && (decide (m.length = n.places.length) && !m.any badB)) := rfl
set_option maxHeartbeats 1000000 in
theorem rsets_any (w : World) (B : Nat) (hB : B ≤ w.heap.size) (vp vt : Value) (n : Nt) (hn : NtR w B vp vt n) (vm : Value) (m : List Int) (hm : Ints w B vm m) :
    Calls Tryd.prog 10 #[.agg #[vp, vt, .int .i64 n.init, .int .i64 n.final], vm] w (ListPost w (n.setS m) (n.markE m)) := by
  have hbA := (Below.refl w.heap.size w).alloc (Nat.le_refl _) (.cells #[vp, vt, .int .i64 n.init, .int .i64 n.final] 25)
  have hbx := heap_alloc_new w (.cells #[vp, vt, .int .i64 n.init, .int .i64 n.final] 25)
  obtain ⟨W1, hW1⟩ : ∃ W1, w.alloc (.cells #[vp, vt, .int .i64 n.init, .int .i64 n.final] 25) = W1 := ⟨_, rfl⟩
  rw [hW1] at hbA hbx
  have hz1 := hbA.size
  have HN := Lib.hid hn
  have HM := Lib.hid hm
  have HBX := Lib.hid hbx
  have HCk := Lib.hid (refcheck_any W1 vp vt n B (by omega) (hn.mono (hbA.mono hB) (Nat.le_refl _)))
  obtain ⟨ap, cp, rfl⟩ := hn.1.val
  obtain ⟨at_, ct, rfl⟩ := hn.2.val
  obtain ⟨am, cm, rfl⟩ := hm.val
  obtain ⟨c0, c1, c2, c3⟩ := box4' hbx
  clear hn hm hbx
  cases hok : n.okB with
  | false =>
    have hce : n.checkE = 1 := by simp [Nt.checkE, hok]
    have hf : Hid (n.setS m = [] ∧ n.markE m = 1) := by
      have : n.markB m = false := by rw [markB_split, hok]; rfl
      exact ⟨by simp [Nt.setS, this], markE_no this⟩
    rw [hce] at HCk
    clear hok hce
    go_enter Tryd.func10, Tryd.ntmps10
    go_wp2_with (first | (go_at_call 27; refine HCk.out.mono ?_; rintro e w2 ⟨rfl, hb2⟩))
    go_ret2
    rw [hf.out.1, hf.out.2]
    exact ⟨_, rfl, OwnI.nil _ _, hbA.trans (hb2.mono hz1)⟩
  | true =>
    have hce : n.checkE = 0 := by simp [Nt.checkE, hok]
    rw [hce] at HCk
    obtain ⟨b, hb⟩ : ∃ b, (decide (m.length = n.places.length) && !m.any badB) = b := ⟨_, rfl⟩
    have hmb : n.markB m = b := by rw [markB_split, hok, hb]; rfl
    have HMB := Lib.hid hmb
    have HB := Lib.hid hb
    clear hok hce hmb hb
    go_enter Tryd.func10, Tryd.ntmps10
    go_wp2_with (first | (go_at_call 27; refine HCk.out.mono ?_; rintro e w2 ⟨rfl, hb2⟩; refine Hid.out ?_))
    refine Lib.hid ?_
    have hbw2 := hbA.trans (hb2.mono hz1)
    have HMk := Lib.hid (rmarks_any w2 _ _ _ n m B (Nat.le_trans hB hbw2.size) (HN.out.mono (hbw2.mono hB) (Nat.le_refl _)) (HM.out.mono (hbw2.mono hB) (Nat.le_refl _)))
    rw [HB.out] at HMk
    clear hW1 c0 c1 c2 c3
    obtain ⟨c0, c1, c2, c3⟩ := box4' (box_up HBX.out hb2)
    cases b with
    | false =>
      have hf : Hid (n.setS m = [] ∧ n.markE m = 1) := ⟨by simp [Nt.setS, HMB.out], markE_no HMB.out⟩
      go_wp2_with (first | (go_at_call 28; refine HMk.out.mono ?_; rintro e w3 ⟨rfl, hb3⟩))
      go_ret2
      rw [hf.out.1, hf.out.2]
      exact ⟨_, rfl, OwnI.nil _ _, hbw2.trans (hb3.mono hbw2.size)⟩
    | true =>
      have hf : Hid (n.setS m = setL n m ∧ n.markE m = 0) := ⟨by simp [Nt.setS, HMB.out], markE_yes HMB.out⟩
      go_wp2_with (first | (go_at_call 28; refine HMk.out.mono ?_; rintro e w3 ⟨rfl, hb3⟩; refine Hid.out ?_))
      refine Lib.hid ?_
      have hbw3 := hbw2.trans (hb3.mono hbw2.size)
      have HSt := Lib.hid (rset_any w3 B (Nat.le_trans hB hbw3.size) _ _ n (HN.out.mono (hbw3.mono hB) (Nat.le_refl _)) _ m (HM.out.mono (hbw3.mono hB) (Nat.le_refl _)) (Nt.mark_of HMB.out))
      clear c0 c1 c2 c3
      obtain ⟨c0, c1, c2, c3⟩ := box4' (box_up (box_up HBX.out hb2) hb3)
      go_wp2_with (first | (go_at_call 29; refine HSt.out.mono ?_; rintro e w4 ⟨v4, rfl, ho4, hb4⟩))
      go_ret2
      rw [hf.out.1, hf.out.2]
      exact ⟨_, rfl, ho4.lower hbw3.size, hbw3.trans (hb4.mono hbw3.size)⟩
end Go.Proofs.YtbolacnpljkpbaaDoor

/- numbers: are two lists the same? -/
namespace Go.Proofs.YtbolacnpljkpbaaDoor
open Go.RowKit

set_option maxHeartbeats 2000000 in
theorem numbers_any (w : World) (va vb : Value) (a b : List Int) (ha : Ints w w.heap.size va a) (hb : Ints w w.heap.size vb b) :
    Calls Tryd.prog 12 #[va, vb] w fun e w' => e = .returned (.bool (a == b)) ∧ ∃ n, w' = w.drewN n := by
  obtain ⟨aa, ca, rfl⟩ := ha.val
  obtain ⟨ab, cb, rfl⟩ := hb.val
  have hla := ha.len
  have hlb := hb.len
  have HA := Lib.hid ha.col
  have HB := Lib.hid hb.col
  clear ha hb
  by_cases hl : a.length = b.length
  · obtain ⟨n, hn⟩ : ∃ n, a.length = n := ⟨_, rfl⟩
    have hnb : b.length = n := by rw [← hl]; exact hn
    have d1 : decide (n = n) = true := by simp
    rw [hn] at hla
    rw [hn, hnb]
    have HN := Lib.hid hn
    have HNb := Lib.hid hnb
    clear hn hnb hl hlb
    go_enter Tryd.func12, Tryd.ntmps12
    go_wp2_with fail
    go_loopg [5] n (fun gh s5 wx => ∃ i : Nat, i + gh = n ∧ s5 = .int .i64 (i : Int) ∧ Hid (a.take i = b.take i) ∧ ∃ k, wx = w.drewN k)
    case atStart => exact ⟨0, by omega, rfl, Lib.hid (by simp), 0, rfl⟩
    case round =>
      obtain ⟨i, hig, rfl, he, nd, rfl⟩ := hrel
      by_cases hi : i < n
      · obtain ⟨b1, o1, rfl, _, c1⟩ := HA.out i (by rw [HN.out]; exact hi)
        obtain ⟨b2, o2, rfl, _, c2⟩ := HB.out i (by rw [HNb.out]; exact hi)
        obtain ⟨x, hx⟩ : ∃ x, a[i]'(by rw [HN.out]; exact hi) = x := ⟨_, rfl⟩
        obtain ⟨y, hy⟩ : ∃ y, b[i]'(by rw [HNb.out]; exact hi) = y := ⟨_, rfl⟩
        rw [hx] at c1
        rw [hy] at c2
        have i1 : (0 : Int) ≤ (i : Int) := by omega
        have i2 : (i : Int) < (n : Int) := by omega
        have HX := Lib.hid hx
        have HY := Lib.hid hy
        clear hx hy
        by_cases hxy : x = y
        · have d2 : (x != y) = false := by simp [hxy]
          have hE : Hid (a.take (i + 1) = b.take (i + 1)) := Lib.hid (by
            rw [List.take_succ_eq_append_getElem (by rw [HN.out]; exact hi), List.take_succ_eq_append_getElem (by rw [HNb.out]; exact hi), HX.out, HY.out, he.out, hxy])
          clear hxy
          go_wp2_with fail
          go_quiet (fail)
          go_wp2_with fail
          go_roundg (n - (i + 1))
          case measure => omega
          case rel => exact ⟨i + 1, by omega, by go_num, hE, _, rfl⟩
        · have d2 : (x != y) = true := by simpa using hxy
          have hE : Hid ((a == b) = false) := Lib.hid (by
            rw [beq_eq_false_iff_ne]
            intro e
            subst e
            exact hxy (HX.out.symm.trans HY.out))
          clear hxy
          go_wp2_with fail
          go_quiet (fail)
          go_wp2_with fail
          go_ret
          exact ⟨ret_bool hE.out.symm, drewN2 _ _ _⟩
      · have e : i = n := by omega
        subst e
        have hE : Hid ((a == b) = true) := Lib.hid (by
          have := he.out
          rw [List.take_of_length_le (by rw [HN.out]; omega), List.take_of_length_le (by rw [HNb.out]; omega)] at this
          rw [this]; simp)
        go_wp2_with fail
        go_ret
        exact ⟨ret_bool hE.out.symm, _, rfl⟩
  · have hE : Hid ((a == b) = false) := Lib.hid (by
      rw [beq_eq_false_iff_ne]
      intro e
      subst e
      exact hl rfl)
    have d1 : ((a.length : Int) != (b.length : Int)) = true := by simp; omega
    clear hl
    go_enter Tryd.func12, Tryd.ntmps12
    go_wp2_with fail
    go_ret
    exact ⟨ret_bool hE.out.symm, 0, rfl⟩
end Go.Proofs.YtbolacnpljkpbaaDoor

/- The walk of the law StubSets. -/
namespace Go.Proofs.YtbolacnpljkpbaaDoor
open Go.RowKit
open Classical

theorem TwoO.setA {w : World} {base g n cap : Nat} {v5 : Value} {A F : List Int} (h : TwoO w base (.slice (some ⟨g, 0, none⟩) n cap) v5 A F) (i : Nat) (x : Int) :
    TwoO (w.setCell ⟨g, i, none⟩ (.int .i64 x)) base (.slice (some ⟨g, 0, none⟩) n cap) v5 (A.set i x) F :=
  ⟨h.a.set i x, own_cellI.1 ((own_cellI.2 h.f).grown (grownBy_setCell w g i _) fun q hq e => h.ap g rfl (by rw [← e]; exact hq)), h.ap⟩
theorem numbers_same (w : World) (va vb : Value) (a : List Int) (ha : Ints w w.heap.size va a) (hb : Ints w w.heap.size vb a) :
    Calls Tryd.prog 12 #[va, vb] w fun e w' => e = .returned (.bool true) ∧ Below w.heap.size w w' :=
  (numbers_any w va vb a a ha hb).mono fun e w' ⟨h1, k, h2⟩ => ⟨by rw [h1]; simp, by rw [h2]; exact below_drewN' _⟩

set_option maxHeartbeats 4000000 in
theorem stubSets_walk (W : World) (htab : Pow10 W.heap.size W) (vp vt : Value) (n : Nt) (hn : NtR W W.heap.size vp vt n) (_gn : NtI n) (vm : Value) (m : List Int) (hm : Ints W W.heap.size vm m) (_gm : I64s m) :
    Calls Tryd.prog 3 #[.agg #[vp, vt, .int .i64 n.init, .int .i64 n.final], vm] W fun e w' => e = .returned (.bool true) ∧ Below W.heap.size W w' := by
  have hbA := (Below.refl W.heap.size W).alloc (Nat.le_refl _) (.cells #[vp, vt, .int .i64 n.init, .int .i64 n.final] 25)
  have hbx := heap_alloc_new W (.cells #[vp, vt, .int .i64 n.init, .int .i64 n.final] 25)
  obtain ⟨W1, hW1⟩ : ∃ W1, W.alloc (.cells #[vp, vt, .int .i64 n.init, .int .i64 n.final] 25) = W1 := ⟨_, rfl⟩
  rw [hW1] at hbA hbx
  have hz1 := hbA.size
  have HN := Lib.hid hn
  have HM := Lib.hid hm
  have HBX := Lib.hid hbx
  have hn1 := hn.mono hbA (show W.heap.size ≤ W1.heap.size by omega)
  have HT1 := Lib.hid (tab_up (htab.on hbA) (show W.heap.size ≤ W1.heap.size by omega))
  obtain ⟨ap, cp, rfl⟩ := hn.1.val
  obtain ⟨at_, ct, rfl⟩ := hn.2.val
  obtain ⟨am, cm, rfl⟩ := hm.val
  have hml := hm.len
  obtain ⟨c0, c1, c2, c3⟩ := box4' hbx
  cases hlg : largeB n with
  | true =>
    have HLg := Lib.hid (large_is W1 _ _ n W1.heap.size (Nat.le_refl _) hn1 hlg)
    clear hlg hn hm hn1 hbx
    go_enter Tryd.func3, Tryd.ntmps3
    go_wp2_with (first | (go_at_call 7; refine HLg.out.mono ?_; rintro e w2 ⟨rfl, hb2⟩; refine Hid.out ?_))
    refine Lib.hid ?_
    have HA2 := Lib.hid (awake_any w2 w2.heap.size (Nat.le_refl _) (tab_up (HT1.out.on hb2) hb2.size))
    go_wp2_with (first | (go_at_call 8; refine HA2.out.mono ?_; rintro e w3 ⟨rfl, hb3⟩))
    go_ret
    exact ⟨rfl, hbA.trans ((hb2.trans (hb3.mono hb2.size)).mono hz1)⟩
  | false =>
    have HLg := Lib.hid (large_is W1 _ _ n W1.heap.size (Nat.le_refl _) hn1 hlg)
    clear hlg hn hm hn1 hbx
    by_cases hm2 : 200 < m.length
    · have e1 : decide ((200 : Int) < (m.length : Int)) = true := decide_eq_true (by omega)
      have e1' : decide (200 < m.length) = true := decide_eq_true hm2
      clear hm2
      go_enter Tryd.func3, Tryd.ntmps3
      go_wp2_with (first | (go_at_call 7; refine HLg.out.mono ?_; rintro e w2 ⟨rfl, hb2⟩; refine Hid.out ?_))
      refine Lib.hid ?_
      have HA2 := Lib.hid (awake_any w2 w2.heap.size (Nat.le_refl _) (tab_up (HT1.out.on hb2) hb2.size))
      go_wp2_with (first | (go_at_call 8; refine HA2.out.mono ?_; rintro e w3 ⟨rfl, hb3⟩))
      go_ret
      exact ⟨rfl, hbA.trans ((hb2.trans (hb3.mono hb2.size)).mono hz1)⟩
    · have e1 : decide ((200 : Int) < (m.length : Int)) = false := decide_eq_false (by omega)
      have e1' : decide (200 < m.length) = false := decide_eq_false hm2
      clear hm2
      obtain ⟨i0, hti, hz0, hz1', hz2⟩ := info_parts info_int
      go_enter Tryd.func3, Tryd.ntmps3
      go_wp2_with (first | (go_at_call 7; refine HLg.out.mono ?_; rintro e w2 ⟨rfl, hb2⟩; refine Hid.out ?_))
      refine Lib.hid ?_
      have hb02 := hbA.trans (hb2.mono hz1)
      have hx2 := box_up HBX.out hb2
      clear hW1 c0 c1 c2 c3
      obtain ⟨c0, c1, c2, c3⟩ := box4' hx2
      have HTw := Lib.hid (twin_any w2 W.heap.size hb02.size _ _ n (HN.out.mono hb02 (Nat.le_refl _)))
      go_wp2_with (first | (go_at_call 9; refine HTw.out.mono ?_; rintro e w3 ⟨vq, vu, rfl, hn3, hb3⟩; refine Hid.out ?_))
      refine Lib.hid ?_
      have hb03 := hb02.trans (hb3.mono hb02.size)
      have hx3 := box_up hx2 hb3
      obtain ⟨aq, cq, hvq⟩ := hn3.1.val
      obtain ⟨au, cu, hvu⟩ := hn3.2.val
      subst hvq hvu
      have hb34 := (Below.refl w3.heap.size w3).alloc (Nat.le_refl _) (.cells #[.slice aq n.places.length cq, .slice au n.trans.length cu, .int .i64 n.init, .int .i64 n.final] 25)
      have hy4 := heap_alloc_new w3 (.cells #[.slice aq n.places.length cq, .slice au n.trans.length cu, .int .i64 n.init, .int .i64 n.final] 25)
      have hb45 := (Below.refl (w3.alloc (.cells #[.slice aq n.places.length cq, .slice au n.trans.length cu, .int .i64 n.init, .int .i64 n.final] 25)).heap.size (w3.alloc (.cells #[.slice aq n.places.length cq, .slice au n.trans.length cu, .int .i64 n.init, .int .i64 n.final] 25))).alloc (Nat.le_refl _) (.cells #[] 3)
      have hemp0 := World.ownsRow_made (w3.alloc (.cells #[.slice aq n.places.length cq, .slice au n.trans.length cu, .int .i64 n.init, .int .i64 n.final] 25)) #[] 0 (Nat.le_refl _) (by simp) (by simp) (e := 3) (size := 1)
      have hb35 := hb34.trans (hb45.mono (by simp))
      have hy5 := (hb45.block _ (lt_of_block hy4)).trans hy4
      have hmI := (HM.out.mono hb03 (Nat.le_refl _)).mono (hb35.mono hb03.size) (Nat.le_refl _)
      rw [World.size_alloc] at hemp0
      obtain ⟨w5, hw5⟩ : ∃ w5, (w3.alloc (.cells #[.slice aq n.places.length cq, .slice au n.trans.length cu, .int .i64 n.init, .int .i64 n.final] 25)).alloc (.cells #[] 3) = w5 := ⟨_, rfl⟩
      rw [hw5] at hb35 hy5 hmI hemp0
      have hz5 : w3.heap.size + 2 ≤ w5.heap.size := by rw [← hw5]; simp
      have HX3 := Lib.hid hx3
      have HY5 := Lib.hid hy5
      have HB5 := Lib.hid hb35
      have HN3 := Lib.hid hn3
      clear c0 c1 c2 c3 hy4 hb34 hb45 hn3 hy5 hx2 hx3
      go_wp2_with (at_builtin; refine wpList_append_col (mk := Value.int .i64) _ rfl _ _ 26 rfl (fun _ => rfl) (w3.heap.size + 1) 3 i0 (.int .i64 0) 8 Tryd.underlying26 hti hz0 hz1' hz2 rfl _ 0 [] rfl hemp0 17592186044416 W.heap.size _ m rfl hmI (by unfold maxLen; omega) (by omega) (by omega) ?_; intro v6 w6 hown6 hg6; refine Hid.out ?_)
      refine Lib.hid ?_
      have hat : OwnI w6 (w3.heap.size + 1) v6 m := by unfold OwnI; simpa using hown6
      obtain ⟨a6, k6, rfl⟩ := hat.shape
      have hb56 : Below (w3.heap.size + 1) w5 w6 := (Below.refl _ _).grown hg6 (by omega) (fun j hj => by cases hj; exact Nat.le_refl _)
      have hb36 : Below w3.heap.size w3 w6 := HB5.out.trans (hb56.mono (by omega))
      have hb06 := hb03.trans (hb36.mono hb03.size)
      have hz6 := hb36.size
      have HX6 := Lib.hid (box_up HX3.out hb36)
      have HY6 := Lib.hid ((hb56.block _ (by omega)).trans HY5.out)
      have HN6 := Lib.hid (HN3.out.mono hb36 (Nat.le_refl _))
      have HMK := Lib.hid (hat.col (B := w6.heap.size) (by omega) (Nat.le_refl _))
      have HR := Lib.hid (rsets_any w6 W.heap.size hb06.size _ _ n (HN.out.mono hb06 (Nat.le_refl _)) _ m (HM.out.mono hb06 (Nat.le_refl _)))
      obtain ⟨c0, c1, c2, c3⟩ := box4' HX6.out
      obtain ⟨S, hS⟩ : ∃ S, n.setS m = S := ⟨_, rfl⟩
      obtain ⟨ec, hec⟩ : ∃ ec, n.markE m = ec := ⟨_, rfl⟩
      have hSl : S.length ≤ 8192 := by
        rw [← hS]
        unfold Nt.setS
        split
        · next h => exact Nat.le_trans (setL_len n m) (Nt.ok_of (markB_ok h)).trans
        · simp
      have HS := Lib.hid hS
      have HEc := Lib.hid hec
      rw [hS, hec] at HR
      clear hw5 hown6 hg6 hat hmI hemp0 hb56 hS hec
      go_wp2_with (first | (go_at_call 10; refine HR.out.mono ?_; rintro e w7 ⟨vw, rfl, how7, hb7⟩; refine Hid.out ?_))
      refine Lib.hid ?_
      have hz7 := hb7.size
      have hb07 := hb06.trans (hb7.mono hb06.size)
      obtain ⟨aw, kw, rfl⟩ := how7.shape
      have HW7 := Lib.hid (how7.col (B := w7.heap.size) (by omega) (Nat.le_refl _))
      have HY7 := Lib.hid (box_up HY6.out hb7)
      have HX7 := Lib.hid (box_up HX6.out hb7)
      have HN7 := Lib.hid (HN6.out.mono (hb7.mono (by omega)) (show w3.heap.size ≤ w7.heap.size by omega))
      have HMK7 := Lib.hid (HMK.out.mono hb7 hz7)
      have HA := Lib.hid (sset_any w7 _ _ _ n m w7.heap.size (Nat.le_refl _) HN7.out HMK7.out)
      rw [HS.out, HEc.out] at HA
      clear c0 c1 c2 c3 how7
      obtain ⟨c0, c1, c2, c3⟩ := box4' HY7.out
      go_wp2_with (first | (go_at_call 11; refine HA.out.mono ?_; rintro e w8 ⟨va, rfl, ho8, hb8⟩; refine Hid.out ?_))
      refine Lib.hid ?_
      have hz8 := hb8.size
      have HB8 := Lib.hid hb8
      obtain ⟨aa, ka, rfl⟩ := ho8.shape
      have HA8 := Lib.hid ho8
      have HY8 := Lib.hid (box_up HY7.out hb8)
      have HX8 := Lib.hid (box_up HX7.out hb8)
      have HN8 := Lib.hid (HN7.out.mono hb8 hz8)
      have HMK8 := Lib.hid (HMK7.out.mono hb8 hz8)
      have HBb := Lib.hid (sset_any w8 _ _ _ n m w8.heap.size (Nat.le_refl _) HN8.out HMK8.out)
      rw [HS.out, HEc.out] at HBb
      clear c0 c1 c2 c3 ho8 hb8
      obtain ⟨c0, c1, c2, c3⟩ := box4' HY8.out
      go_wp2_with (first | (go_at_call 11; refine HBb.out.mono ?_; rintro e w9 ⟨vb, rfl, ho9, hb9⟩; refine Hid.out ?_))
      refine Lib.hid ?_
      have hz9 := hb9.size
      have HB79 := Lib.hid (HB8.out.trans (hb9.mono hz8))
      obtain ⟨ab, kb, rfl⟩ := ho9.shape
      have HTO : Hid (TwoO w9 w7.heap.size (.slice aa S.length ka) (.slice ab S.length kb) S S) := by
        refine Lib.hid ⟨HA8.out.kept hb9 (Nat.le_refl _), ho9.lower hz8, fun q hq e => ?_⟩
        obtain ⟨⟨c, hc⟩, _⟩ := OwnF.ty (own_cellI.2 HA8.out) hq
        have := lt_of_block hc
        have := (OwnF.ty (own_cellI.2 ho9) e).2
        omega
      have HW9 := Lib.hid (HW7.out.mono HB79.out HB79.out.size)
      have HA9 := Lib.hid (HTO.out.a.col (B := w9.heap.size) (by omega) (Nat.le_refl _))
      have HMK9 := Lib.hid (HMK8.out.mono hb9 hz9)
      have HNu1 := Lib.hid (numbers_same w9 _ _ S HA9.out HW9.out)
      have hcc : (ec != ec) = false := by simp
      have HY9 := Lib.hid (box_up HY8.out hb9)
      have HX9 := Lib.hid (box_up HX8.out hb9)
      have HN9 := Lib.hid (HN8.out.mono hb9 hz9)
      have hb09 := hb07.trans (HB79.out.mono hb07.size)
      clear c0 c1 c2 c3 ho9
      go_wp2_with (first | (go_at_call 12; refine HNu1.out.mono ?_; rintro e w10 ⟨rfl, hb10⟩; refine Hid.out ?_))
      refine Lib.hid ?_
      have hb010 := hb09.trans (hb10.mono hb09.size)
      have HNu2 := Lib.hid (numbers_same w10 _ _ m (HMK9.out.mono hb10 hb10.size) (HM.out.mono hb010 hb010.size))
      go_wp2_with (first | (go_at_call 12; refine HNu2.out.mono ?_; rintro e w11 ⟨rfl, hb11⟩; refine Hid.out ?_))
      refine Lib.hid ?_
      have hb911 := hb10.trans (hb11.mono hb10.size)
      have hb011 := hb09.trans (hb911.mono hb09.size)
      have HSm := Lib.hid (refsame_any w11 w11.heap.size (Nat.le_refl _) _ _ _ _ n (HN9.out.mono hb911 hb911.size) (HN.out.mono hb011 hb011.size))
      obtain ⟨c0, c1, c2, c3⟩ := box4' (box_up HY9.out hb911)
      obtain ⟨d0, d1, d2, d3⟩ := box4' (box_up HX9.out hb911)
      go_wp2_with (first | (go_at_call 13; refine HSm.out.mono ?_; rintro e w12 ⟨rfl, hb12⟩; refine Hid.out ?_))
      refine Lib.hid ?_
      have hb912 := hb911.trans (hb12.mono hb911.size)
      have HT12 := Lib.hid (HTO.out.kept hb912)
      have HB12 := Lib.hid (HB79.out.trans (hb912.mono (by omega)))
      have hz12 : w7.heap.size ≤ w12.heap.size := HB12.out.size
      clear c0 c1 c2 c3 d0 d1 d2 d3 hcc
      go_wp2_with fail
      go_loopg [13] S.length (fun gh s13 wr => ∃ (i : Nat) (A : List Int), i + gh = S.length ∧ s13 = .int .i64 (i : Int) ∧ Hid (A.length = S.length) ∧ Hid (TwoO wr w7.heap.size (.slice aa S.length ka) (.slice ab S.length kb) A S) ∧ Below w7.heap.size w7 wr)
      case atStart => exact ⟨0, S, by omega, rfl, rfl, HT12, HB12.out⟩
      case round =>
        obtain ⟨i, A, hig, rfl, hAl, hTO, hbel⟩ := hrel
        by_cases hi : i < S.length
        · have hown := hTO.out.a
          rcases hown.val with ⟨h0, h1⟩ | ⟨g, cap, hv, hbg, hg⟩
          · exfalso
            have := hAl.out
            rw [h1] at this
            simp at this
            omega
          · rw [hAl.out] at hv
            obtain ⟨rfl, rfl⟩ : aa = some ⟨g, 0, none⟩ ∧ ka = cap := by injection hv with e1 _ e2; exact ⟨e1, e2⟩
            obtain ⟨hc, hf⟩ := hown.at (i := i) (by rw [hAl.out]; exact hi)
            have HT2 := Lib.hid (hTO.out.setA i (-1))
            have HAl2 : Hid ((A.set i (-1)).length = S.length) := by rw [List.length_set]; exact hAl
            have HBe := Lib.hid (hbel.setCell (p := ⟨g, i, none⟩) hbg (.int .i64 (-1)))
            clear hown hv hTO hbel
            go_wp2_with fail
            go_roundg (gk - 1)
            case measure => omega
            case rel => exact ⟨i + 1, _, by omega, by go_num, HAl2, HT2, HBe.out⟩
        · have hi' : ¬ ((i : Int) < (S.length : Int)) := by omega
          have HAl0 : Hid (A.length = S.length + 0) := hAl
          have HBe := Lib.hid hbel
          clear hbel hAl
          go_wp2_with fail
          go_loopg [9, 14] 9 (fun gh s9 s14 wx => ∃ (k : Nat) (A : List Int), k + gh = 9 ∧ s14 = .int .i64 (k : Int) ∧ Hid (A.length = S.length + k) ∧ Hid (TwoO wx w7.heap.size s9 (.slice ab S.length kb) A S) ∧ Below w7.heap.size w7 wx)
          case atStart => exact ⟨0, A, by omega, rfl, HAl0, hTO, HBe.out⟩
          case round =>
            clear HAl0 hTO HBe
            obtain ⟨k, A, hkg, rfl, hAl, hTO, hbel⟩ := hrel
            have hwr := hbel.size
            obtain ⟨a9, c9, rfl⟩ := hTO.out.a.shape
            by_cases hk : k < 9
            · have d1 : decide ((k : Int) < 9) = true := decide_eq_true (by omega)
              have hAb : A.length ≤ 10000 := by rw [hAl.out]; omega
              have hx := (Below.refl wr.heap.size wr).alloc (Nat.le_refl _) (.cells #[.int .i64 7] 3)
              have HT2 := Lib.hid (hTO.out.kept hx)
              have HBx := Lib.hid (hbel.trans (hx.mono hwr))
              have hT := HT2.out.a
              clear hx hTO
              go_wp2_with (at_builtin; go_must (refine wpList_append_own_at _ rfl _ _ 26 rfl w7.heap.size 3 i0 (.int .i64 0) 1 8 Tryd.underlying26 hti hz0 hz1' hz2 rfl (by decide) _ _ _ rfl hT ⟨wr.heap.size, 0, none⟩ 1 1 [.int .i64 7] rfl rfl (cell_one_new _ _ _) (by intro u hu; simp at hu; subst hu; rfl) (by unfold maxLen; omega) (by omega) (by simp; omega) ?_; intro v13 w13 hown13 hg13 _ hat13))
              have hoR : OwnI w13 w7.heap.size v13 (A ++ [7]) := by unfold OwnI; simpa using hown13
              go_roundg (gk - 1)
              case measure => omega
              case rel => exact ⟨k + 1, A ++ [7], by omega, by go_num, by rw [List.length_append, hAl.out]; exact rfl, HT2.out.push hg13 hoR hat13, HBx.out.grown hg13 HBx.out.size (fun j hj => (OwnF.ty (own_cellI.2 HT2.out.a) hj).2)⟩
            · have d1 : decide ((k : Int) < 9) = false := decide_eq_false (by omega)
              obtain rfl : k = 9 := by omega
              rw [hAl.out]
              have e9 : (((S.length + 9 : Nat) : Int) == (S.length : Int) + 9) = true := by simp
              have HNu3 := Lib.hid (numbers_same wr _ _ S (hTO.out.f.col (by omega) (Nat.le_refl _)) (HW7.out.mono hbel hbel.size))
              have hb0r := hb07.trans (hbel.mono hb07.size)
              clear hTO
              go_wp2_with (first | (go_at_call 12; refine HNu3.out.mono ?_; rintro e w13 ⟨rfl, hb13⟩; refine Hid.out ?_))
              refine Lib.hid ?_
              have hb013 := hb0r.trans (hb13.mono hb0r.size)
              have HA13 := Lib.hid (awake_any w13 w13.heap.size (Nat.le_refl _) (tab_up (htab.on hb013) hb013.size))
              go_wp2_with (first | (go_at_call 8; refine HA13.out.mono ?_; rintro e w14 ⟨rfl, hb14⟩))
              go_ret
              exact ⟨rfl, hb013.trans (hb14.mono hb013.size)⟩
end Go.Proofs.YtbolacnpljkpbaaDoor
