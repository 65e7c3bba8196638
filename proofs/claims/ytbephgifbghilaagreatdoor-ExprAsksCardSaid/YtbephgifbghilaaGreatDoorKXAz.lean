/- Of XAz: what XFAs uses (shake.py). -/
import Derived.Test.YtbephgifbghilaaGreatDoorKXTyl
import Derived.Test.YtbephgifbghilaaGreatDoorKXAu
import Derived.Test.YtbephgifbghilaaGreatDoorKXNam
import Derived.Test.YtbephgifbghilaaGreatDoorKXBk
import Derived.Test.YtbephgifbghilaaGreatDoorKXAs
import Derived.Deep.CutBlock
import Derived.Laws.Tables
/- Texts fused by fuse.py: AskNamP, AskNam10, AskNam, AskBack, AskSame, AskTwo, LExprAsks. -/
/- The document's Names: names put in their places, once; it is the sorted row (plain; seat expr). -/
set_option maxRecDepth 100000
namespace Go.Proofs.YtbephgifbghilaaGreatDoor
open Go.Lib
theorem rises_ext : ∀ {l l' : List (List UInt8)}, Rises l → Rises l' → (∀ x, x ∈ l ↔ x ∈ l') → l = l'
  | [], [], _, _, _ => rfl
  | [], b :: r, _, _, h => by have := (h b).2 (by simp); simp at this
  | a :: r, [], _, _, h => by have := (h a).1 (by simp); simp at this
  | a :: r, b :: r', h, h', hm => by
    have h1 := List.pairwise_cons.1 h
    have h2 := List.pairwise_cons.1 h'
    have hab : a = b := by
      rcases List.mem_cons.1 ((hm a).1 (by simp)) with e | e
      · exact e
      · rcases List.mem_cons.1 ((hm b).2 (by simp)) with e2 | e2
        · exact e2.symm
        · exact absurd (h1.1 b e2) (List.lt_asymm (h2.1 a e))
    subst hab
    congr 1
    refine rises_ext h1.2 h2.2 (fun x => ⟨fun hx => ?_, fun hx => ?_⟩)
    · rcases List.mem_cons.1 ((hm x).1 (List.mem_cons_of_mem _ hx)) with rfl | e
      · exact absurd (h1.1 _ hx) (List.lt_irrefl _)
      · exact e
    · rcases List.mem_cons.1 ((hm x).2 (List.mem_cons_of_mem _ hx)) with rfl | e
      · exact absurd (h2.1 _ hx) (List.lt_irrefl _)
      · exact e
theorem putL_facts {l : List (List UInt8)} (h : Rises l) (s : List UInt8) : Rises (putL l s) ∧ ∀ x, x ∈ putL l s ↔ x ∈ l ∨ x = s := by
  obtain ⟨h1, h2, h3⟩ := posK_spec l s l.length
  unfold putL
  obtain ⟨k, hk⟩ : ∃ k, posK l s l.length = k := ⟨_, rfl⟩
  rw [hk] at h1 h2 h3 ⊢
  have hd : ∀ j (hj : j < l.length), l.getD j [] = l[j] := fun j hj => by simp [List.getD_eq_getElem?_getD, hj]
  by_cases hc : 0 < k ∧ l.getD (k - 1) [] = s
  · rw [if_pos hc]
    refine ⟨h, fun x => ⟨fun hx => .inl hx, fun hx => ?_⟩⟩
    rcases hx with hx | rfl
    · exact hx
    · rw [← hc.2, hd (k - 1) (by omega)]; exact List.getElem_mem _
  · rw [if_neg hc]
    refine ⟨?_, fun x => ?_⟩
    · unfold Rises at h ⊢
      rw [List.pairwise_append]
      refine ⟨h.sublist (List.take_sublist _ _), ?_, ?_⟩
      · rw [List.pairwise_cons]
        refine ⟨fun x hx => ?_, h.sublist (List.drop_sublist _ _)⟩
        obtain ⟨j, hj, rfl⟩ := List.getElem_of_mem hx
        rw [List.length_drop] at hj
        rw [List.getElem_drop]
        have := h2 (k + j) (by omega) (by omega)
        rwa [hd (k + j) (by omega)] at this
      · intro x hx y hy
        obtain ⟨j, hj, rfl⟩ := List.getElem_of_mem hx
        rw [List.length_take] at hj
        rw [List.getElem_take]
        have hlast : l[k - 1]'(by omega) < s := by
          have e1 := h3 (by omega)
          have e2 : l.getD (k - 1) [] ≠ s := fun e => hc ⟨by omega, e⟩
          rw [hd (k - 1) (by omega)] at e1 e2
          by_cases hlt : l[k - 1]'(by omega) < s
          · exact hlt
          · exact absurd (List.le_antisymm (List.not_lt.1 e1) (List.not_lt.1 hlt)) e2
        have hjs : l[j]'(by omega) < s := by
          by_cases e : j = k - 1
          · subst e; exact hlast
          · exact List.lt_trans (List.pairwise_iff_getElem.1 h j (k - 1) (by omega) (by omega) (by omega)) hlast
        rcases List.mem_cons.1 hy with rfl | hy
        · exact hjs
        · obtain ⟨i, hi, rfl⟩ := List.getElem_of_mem hy
          rw [List.length_drop] at hi
          rw [List.getElem_drop]
          exact List.pairwise_iff_getElem.1 h j (k + i) (by omega) (by omega) (by omega)
    · rw [List.mem_append, List.mem_cons]
      have e := List.take_append_drop k l
      constructor
      · rintro (hx | rfl | hx)
        · exact .inl (List.mem_of_mem_take hx)
        · exact .inr rfl
        · exact .inl (List.mem_of_mem_drop hx)
      · rintro (hx | rfl)
        · rw [← e, List.mem_append] at hx
          rcases hx with hx | hx
          · exact .inl hx
          · exact .inr (.inr hx)
        · exact .inr (.inl rfl)
theorem puts_facts : ∀ (m l : List (List UInt8)), Rises l → Rises (m.foldl putL l) ∧ ∀ x, x ∈ m.foldl putL l ↔ x ∈ l ∨ x ∈ m
  | [], l, h => ⟨h, fun x => by simp⟩
  | s :: m, l, h => by
    obtain ⟨h1, h2⟩ := putL_facts h s
    obtain ⟨h3, h4⟩ := puts_facts m (putL l s) h1
    refine ⟨h3, fun x => ?_⟩
    rw [List.foldl_cons, h4, h2, List.mem_cons, or_assoc]
theorem puts_len : ∀ (m l : List (List UInt8)), (m.foldl putL l).length ≤ l.length + m.length
  | [], l => Nat.le_refl _
  | s :: m, l => by
    have h1 := puts_len m (putL l s)
    have h2 := putL_len l s
    rw [List.foldl_cons, List.length_cons]
    omega
mutual
/-- The document's Names. -/
def namesR : Nd → List (List UInt8)
  | .mk op _ nm ks => namesRL (if op = 2 then [nmB nm] else []) ks
def namesRL (acc : List (List UInt8)) : List Nd → List (List UInt8)
  | [] => acc
  | k :: r => namesRL ((namesR k).foldl putL acc) r
end
mutual
theorem namesR_facts : ∀ n : Nd, Rises (namesR n) ∧ (∀ x, x ∈ namesR n ↔ x ∈ (namN n).map nmB) ∧ (namesR n).length ≤ (namN n).length
  | .mk op v nm ks => by
    have h0 : Rises (if op = 2 then [nmB nm] else []) := by unfold Rises; split <;> simp
    obtain ⟨h1, h2, h3⟩ := namesRL_facts ks _ h0
    have e : namN (.mk op v nm ks) = (if op = 2 then [nm] else []) ++ namL ks := rfl
    refine ⟨h1, fun x => ?_, ?_⟩
    · show x ∈ namesRL _ ks ↔ _
      rw [h2, e, List.map_append, List.mem_append]
      split <;> simp
    · show (namesRL _ ks).length ≤ _
      rw [e, List.length_append]
      have h4 : (if op = 2 then [nmB nm] else []).length = (if op = 2 then [nm] else []).length := by split <;> rfl
      omega
theorem namesRL_facts : ∀ (ks : List Nd) (acc : List (List UInt8)), Rises acc → Rises (namesRL acc ks) ∧ (∀ x, x ∈ namesRL acc ks ↔ x ∈ acc ∨ x ∈ (namL ks).map nmB) ∧ (namesRL acc ks).length ≤ acc.length + (namL ks).length
  | [], acc, h => ⟨h, fun x => by simp [namesRL, namL], Nat.le_refl _⟩
  | k :: r, acc, h => by
    obtain ⟨a1, a2, a3⟩ := namesR_facts k
    obtain ⟨b1, b2⟩ := puts_facts (namesR k) acc h
    have b3 := puts_len (namesR k) acc
    obtain ⟨c1, c2, c3⟩ := namesRL_facts r _ b1
    refine ⟨c1, fun x => ?_, ?_⟩
    · show x ∈ namesRL _ r ↔ _
      rw [c2, b2, a2]
      show _ ↔ x ∈ acc ∨ x ∈ (namN k ++ namL r).map nmB
      rw [List.map_append, List.mem_append, or_assoc]
    · show (namesRL _ r).length ≤ acc.length + (namN k ++ namL r).length
      rw [List.length_append]
      omega
end
/-- The document's row of names is the program's. -/
theorem namesR_is (n : Nd) : namesR n = namesL n := by
  obtain ⟨h1, h2, _⟩ := namesR_facts n
  refine rises_ext h1 (namesL_rises n) (fun x => ?_)
  rw [h2]
  constructor
  · intro h
    obtain ⟨s, hs, rfl⟩ := List.mem_map.1 h
    exact mem_namesL n hs
  · intro h
    obtain ⟨s, hs, rfl⟩ := of_namesL n h
    exact List.mem_map.2 ⟨s, hs, rfl⟩
mutual
theorem namN_cnt : ∀ n : Nd, (namN n).length ≤ cntN n
  | .mk op v nm ks => by
    have h := namL_cnt ks
    show ((if op = 2 then [nm] else []) ++ namL ks).length ≤ 1 + cntL ks
    rw [List.length_append]
    split <;> simp <;> omega
theorem namL_cnt : ∀ ks : List Nd, (namL ks).length ≤ cntL ks
  | [] => Nat.le_refl _
  | k :: r => by
    have h1 := namN_cnt k
    have h2 := namL_cnt r
    show (namN k ++ namL r).length ≤ cntN k + cntL r
    rw [List.length_append]
    omega
end
/-- One name further on in the loop over a part's names. -/
theorem puts_take {m l : List (List UInt8)} {i : Nat} (h : i < m.length) : (m.take (i + 1)).foldl putL l = putL ((m.take i).foldl putL l) m[i] := by
  rw [List.take_add_one, List.getElem?_eq_getElem h, List.foldl_append]
  rfl
theorem namesRL_take {ks : List Nd} {acc : List (List UInt8)} : ∀ {k : Nat} (h : k < ks.length), namesRL acc (ks.take (k + 1)) = (namesR ks[k]).foldl putL (namesRL acc (ks.take k)) := by
  induction ks generalizing acc with
  | nil => intro k h; simp at h
  | cons a r ih =>
    intro k h
    match k with
    | 0 => rfl
    | k + 1 =>
      have := ih (acc := (namesR a).foldl putL acc) (k := k) (by simpa using h)
      exact this
end Go.Proofs.YtbephgifbghilaaGreatDoor
/- The document's Names of a node (seat expr). -/
set_option maxRecDepth 100000
namespace Go.Proofs.YtbephgifbghilaaGreatDoor
open Go.RowKit
/-- What Names leaves. -/
def RNamA (n : Nd) (w : World) (e : Ending) (w' : World) : Prop := ∃ v, e = .returned v ∧ OwnZ w' w.heap.size v (namesR n) ∧ Below w.heap.size w w'
def RNam (m : Nat) : Prop := ∀ n : Nd, SizeOf.sizeOf n ≤ m → cntN n ≤ 1000 → ∀ (w : World) (vk : Value), KidsR w w.heap.size vk n.kids → Calls Tryz.prog 34 #[valN n vk] w (RNamA n w)
/-- Where the outer loop stands. -/
structure NamO (w0 wr : World) (v : Value) (L : List (List UInt8)) : Prop where
  own : OwnZ wr w0.heap.size v L
  bel : Below w0.heap.size w0 wr
theorem NamO.to {w0 wr w2 : World} {v : Value} {L : List (List UInt8)} (h : NamO w0 wr v L) (hb : Below wr.heap.size wr w2) : NamO w0 w2 v L :=
  ⟨OwnF.kept h.own hb, h.bel.trans (hb.mono h.bel.size)⟩
theorem own_lt {w : World} {base : Nat} {v : Value} {L : List (List UInt8)} (h : OwnZ w base v L) {g : Nat} (hg : v.ownBlock = some g) : base ≤ g ∧ g < w.heap.size := World.ownsRow.lt h g hg
/-- Where the inner loop stands: the row under way, and the kid's row, apart. -/
structure NamI (w0 wk wr : World) (v vx : Value) (L X : List (List UInt8)) : Prop where
  o : NamO w0 wr v L
  kid : OwnZ wr wk.heap.size vx X
  ne : ∀ g, v.ownBlock = some g → vx.ownBlock ≠ some g
  sz : wk.heap.size ≤ wr.heap.size
theorem NamI.put {w0 wk wr w' : World} {v v' vx : Value} {L X M : List (List UInt8)} (h : NamI w0 wk wr v vx L X) (hw : OwnZ w' w0.heap.size v' M) (hf : Frm [v.ownBlock] wr w') (hfr : Fresh wr v v') : NamI w0 wk w' v' vx M X := by
  have hlo : ∀ r ∈ [v.ownBlock], ∀ k, r = some k → w0.heap.size ≤ k := fun r hr k e => by
    simp only [List.mem_singleton] at hr
    rw [hr] at e
    exact (own_lt h.o.own e).1
  have hB : Below w0.heap.size wr w' := hf.toBelow h.o.bel.size hlo
  have hg : wr.grownBy w' v.ownBlock := ⟨hf.os, hf.tape, hf.output, hf.size, fun k hk hne => hf.keep k hk (fun r hr => by simp only [List.mem_singleton] at hr; rw [hr]; exact fun e => hne e.symm)⟩
  refine ⟨⟨hw, h.o.bel.trans hB⟩, World.ownsRow.kept h.kid hg ?_, ?_, Nat.le_trans h.sz hf.size⟩
  · cases hv : vx.ownBlock with
    | none => exact .inl rfl
    | some g => exact .inr (fun e => h.ne g e.symm hv)
  · intro g hg e
    rcases hfr with h1 | ⟨j, h1, h2⟩
    · rw [h1] at hg; exact h.ne g hg e
    · rw [h1] at hg
      injection hg with hg
      subst hg
      have := (own_lt h.kid e).2
      omega
theorem namesRL_len (acc : List (List UInt8)) (ha : Rises acc) (ks : List Nd) : (namesRL acc ks).length ≤ acc.length + cntL ks := by
  have h1 := (namesRL_facts ks acc ha).2.2
  have h2 := namL_cnt ks
  omega
theorem cntL_take (ks : List Nd) (k : Nat) : cntL (ks.take k) ≤ cntL ks := by
  induction ks generalizing k with
  | nil => simp
  | cons a r ih =>
    cases k with
    | zero => exact Nat.zero_le _
    | succ k => have := ih k; show cntN a + cntL (r.take k) ≤ cntN a + cntL r; omega
set_option maxHeartbeats 8000000 in
theorem rnam_step {m : Nat} (IH : RNam m) : RNam (m + 1) := by
  intro n hz hcnt w vk hks
  obtain ⟨op, u, nm, ks⟩ := n
  have hks : KidsR w w.heap.size vk ks := hks
  show Calls Tryz.prog 34 #[valO op u nm vk] w (RNamA (.mk op u nm ks) w)
  obtain ⟨w0, p0, hp0, hw0, l0, b0, hC0⟩ := nd_boxO w op u nm vk 36
  have HC0 := Lib.hid hC0
  obtain ⟨c0, c1, c2, c3, c4, c5, c6⟩ := hC0 w0 (Below.refl _ _)
  have HKS := Lib.hid hks
  have HBW := Lib.hid b0
  have hll : ks.length ≤ 1000 := by have := cnt_len ks; have : cntL ks + 1 ≤ 1000 := by have := hcnt; simp only [cntN_is, Nd.kids] at this; omega
                                    omega
  have hcl : cntL ks ≤ 999 := by have := hcnt; simp only [cntN_is, Nd.kids] at this; omega
  have HI : Hid (∀ x ∈ ks, ∀ (w : World) (vk : Value), KidsR w w.heap.size vk x.kids → Calls Tryz.prog 34 #[valN x vk] w (RNamA x w)) := Lib.hid (fun x hx => IH x (by have := List.sizeOf_lt_of_mem hx; simp at hz; omega) (by have := cnt_mem hx; omega))
  obtain ⟨a, c, rfl⟩ := hks.val
  obtain ⟨A, hA⟩ : ∃ A, (if op = 2 then [nmB nm] else []) = A := ⟨_, rfl⟩
  have HA := Lib.hid hA
  have hAl : A.length ≤ 1 := by rw [← hA]; split <;> simp
  have hAr : Rises A := by rw [← hA]; unfold Rises; split <;> simp
  have HLen := Lib.hid (fun k => by
    have h1 := namesRL_len A hAr (ks.take k)
    have h2 := cntL_take ks k
    exact (show (namesRL A (ks.take k)).length ≤ 1000 by omega))
  have HFin : Hid (∀ v w', NamO w0 w' v (namesRL A ks) → RNamA (.mk op u nm ks) w (.returned v) w') := Lib.hid (fun v w' h => by
    refine ⟨v, rfl, ?_, b0.trans (h.bel.mono b0.size)⟩
    have e : namesR (.mk op u nm ks) = namesRL A ks := by rw [← hA]; rfl
    rw [e]
    have h1 := h.own
    unfold OwnZ OwnF at h1 ⊢
    refine ⟨h1.1, ?_⟩
    rcases h1.2 with h2 | ⟨g, cap, cur, e0, hb, hr⟩
    · exact .inl h2
    · exact .inr ⟨g, cap, cur, e0, Nat.le_trans b0.size hb, hr⟩)
  obtain ⟨i0, hti, hz0, hz1, hz2⟩ := info_parts info_strZ
  clear hks hC0 b0 hz hcnt IH hA
  go_enter Tryz.func34, Tryz.ntmps34
  go_upto_if 9 with (fail)
  go_cut [3] (fun s3 wx => ∃ v1 w1, v1 = s3 ∧ w1 = wx ∧ Hid (NamO w0 w1 v1 A))
  case first =>
    by_cases h2 : op = 2
    · have d2 : (op == 2) = true := beq_iff_eq.2 h2
      have HA2 : Hid (A = [nmB nm]) := Lib.hid (by rw [← HA.out, if_pos h2])
      clear h2
      go_wp2_with (at_builtin; refine wpList_append_own_at _ rfl _ _ 44 rfl w0.heap.size 9 i0 _ 1 16 Tryz.underlying44 hti hz0 hz1 hz2 rfl (by decide) (.slice none 0 0) 0 [] rfl (World.ownsRow_nil _ _ _ _) _ 1 1 [.string nm] rfl rfl (cells_new w0 _ _) (by simp [Value.oneCell']) (by unfold maxLen; omega) (by omega) (by simp) ?_; intro v6 w6 hown6 hg6 _ hat6; refine Hid.out ?_)
      refine Lib.hid ?_
      have hO : Hid (NamO w0 w6 v6 A) := Lib.hid (by
        rw [HA2.out]
        refine ⟨?_, ((Below.refl w0.heap.size w0).alloc (Nat.le_refl _) (.cells #[.string nm] 9)).grown hg6 (by simp) (fun k hk => by cases hk)⟩
        exact hown6)
      clear hown6 hg6 hat6
      go_wp2_with fail
      go_meet
      case rel => exact ⟨_, _, rfl, rfl, hO⟩
    · have d2 : (op == 2) = false := beq_eq_false_iff_ne.2 h2
      have hO : Hid (NamO w0 w0 (.slice none 0 0) A) := Lib.hid (by
        rw [← HA.out, if_neg h2]
        exact ⟨OwnF.nil _ _, Below.refl _ _⟩)
      clear h2
      go_wp2_with fail
      go_meet
      case rel => exact ⟨_, _, rfl, rfl, hO⟩
  case rest =>
    obtain ⟨v1, w1, rfl, rfl, hO⟩ := hcut
    go_wp2_with fail
    go_loopg [3, 4] ks.length (fun g s3 s4 wr => ∃ (k : Nat) (v : Value), k + g = ks.length ∧ v = s3 ∧ s4 = .int .i64 (k : Int) ∧ Hid (NamO w0 wr v (namesRL A (ks.take k))))
    case atStart => exact ⟨0, _, by omega, rfl, rfl, hO⟩
    case round =>
      obtain ⟨k, v, hkg, rfl, rfl, hN⟩ := hrel
      obtain ⟨wk, rfl⟩ : ∃ wk, wk = wr := ⟨_, rfl⟩
      obtain ⟨c0, c1, c2, c3, c4, c5, c6⟩ := HC0.out wk hN.out.bel
      by_cases hi : k < ks.length
      · have d1 : decide ((k : Int) < (ks.length : Int)) = true := decide_eq_true (by omega)
        have d1' : decide (k < ks.length) = true := decide_eq_true hi
        have hBw : Below w.heap.size w wk := HBW.out.trans (hN.out.bel.mono HBW.out.size)
        obtain ⟨b, o, vx, rfl, hb, hw, hkk, e0, e1, e2, e3, e4, e5, e6⟩ := HKS.out.at hi
        have hmem := List.getElem_mem hi
        have hst := namesRL_take (acc := A) hi
        obtain ⟨x, hx⟩ : ∃ x, ks[k] = x := ⟨_, rfl⟩
        rw [hx] at e0 e1 e2 e3 e4 e5 hw hkk hmem hst
        rw [← Below.cellB hBw hb] at e0 e1 e2 e3 e4 e5 e6
        have HX := Lib.hid (HI.out x hmem wk vx (hkk.mono hBw hBw.size))
        have hXl : (namesR x).length ≤ 1000 := by
          have h1 := (namesR_facts x).2.2
          have h2 := namN_cnt x
          have h3 := cnt_mem hmem
          omega
        obtain ⟨X, hX⟩ : ∃ X, namesR x = X := ⟨_, rfl⟩
        obtain ⟨L, hL⟩ : ∃ L, namesRL A (ks.take k) = L := ⟨_, rfl⟩
        have hLl : L.length ≤ 1000 := by rw [← hL]; exact HLen.out k
        rw [hX, hL] at hst
        rw [hX] at hXl
        rw [hL] at hN
        have HST := Lib.hid hst
        have HXE := Lib.hid hX
        have k1 : (0 : Int) ≤ (k : Int) := by omega
        have k2 : (k : Int) < (ks.length : Int) := by omega
        obtain ⟨ax, cx, rfl⟩ := hkk.val
        clear hx hw hkk hmem hst hX hL hBw
        go_wp2_with (go_at_call 34; refine HX.out.mono ?_; rintro e w2 ⟨vy, rfl, hoy, hby⟩; refine Hid.out ?_)
        refine Lib.hid ?_
        rw [HXE.out] at hoy
        have hI : NamI w0 wk w2 v vy L X := ⟨hN.out.to hby, hoy, fun g hg e => by
          have h1 := (own_lt hN.out.own hg).2
          have h2 := (own_lt hoy e).1
          omega, hby.size⟩
        have HI0 : Hid (NamI w0 wk w2 v vy ((X.take 0).foldl putL L) X) := Lib.hid hI
        obtain ⟨ay, cy, rfl⟩ : ∃ a c, vy = .slice a X.length c := OwnF.shape hoy
        clear hoy hby hI hN
        go_wp2_with fail
        go_loopg [3, 6] X.length (fun g s3 s6 W => ∃ (j : Nat) (v' : Value), j + g = X.length ∧ v' = s3 ∧ s6 = .int .i64 (j : Int) ∧ Hid (NamI w0 wk W v' (.slice ay X.length cy) ((X.take j).foldl putL L) X))
        case atStart => exact ⟨0, _, by omega, rfl, rfl, HI0⟩
        case round =>
          obtain ⟨j, v', hjg, rfl, rfl, hIn⟩ := hrel
          by_cases hj : j < X.length
          · have d2 : decide ((j : Int) < (X.length : Int)) = true := decide_eq_true (by omega)
            have d2' : decide (j < X.length) = true := decide_eq_true hj
            obtain ⟨gy, hay, -, -, -⟩ := OwnF.some hIn.out.kid (show 0 < X.length by omega)
            have hpt := puts_take (l := L) hj
            have hpl := puts_len (X.take j) L
            rw [List.length_take] at hpl
            obtain ⟨M, hM⟩ : ∃ M, (X.take j).foldl putL L = M := ⟨_, rfl⟩
            rw [hM] at hIn hpl hpt
            subst hay
            have y1 := OwnF.at cS_len hIn.out.kid (i := j) hj (j := 0) (by omega)
            rw [Nat.mul_one, Nat.add_zero] at y1
            have hyc : (cS X[j])[0]? = some (.string ⟨X[j].toArray⟩) := rfl
            rw [hyc] at y1
            obtain ⟨xb, hxb⟩ : ∃ xb : ByteArray, (⟨X[j].toArray⟩ : ByteArray) = xb := ⟨_, rfl⟩
            have hxl : X[j] = xb.data.toList := by rw [← hxb]
            rw [hxb] at y1
            rw [hxl] at hpt
            have HPT := Lib.hid hpt
            have HP := Lib.hid (rput_any _ w0.heap.size v' M xb hIn.out.o.own (by omega) hIn.out.o.bel.size)
            have j1 : (0 : Int) ≤ (j : Int) := by omega
            have j2 : (j : Int) < (X.length : Int) := by omega
            clear hxb hxl hpt hpl hM hyc
            go_wp2_with (go_at_call 69; refine HP.out.mono ?_; rintro e w3 ⟨v3, rfl, ho3, hf3, hfr3⟩; refine Hid.out ?_)
            refine Lib.hid ?_
            have HI3 : Hid (NamI w0 wk w3 v3 (.slice (some ⟨gy, 0, none⟩) X.length cy) ((X.take (j + 1)).foldl putL L) X) := Lib.hid (by rw [HPT.out]; exact hIn.out.put ho3 hf3 hfr3)
            clear hIn ho3 hf3 hfr3
            go_wp2_with fail
            go_roundg (X.length - (j + 1))
            case measure => omega
            case rel => exact ⟨j + 1, v3, by omega, rfl, by go_num, HI3⟩
          · have d2 : decide ((j : Int) < (X.length : Int)) = false := decide_eq_false (by omega)
            have d2' : decide (j < X.length) = false := decide_eq_false hj
            have HN2 : Hid (NamO w0 _ v' (namesRL A (ks.take (k + 1)))) := Lib.hid (by
              have h1 := hIn.out.o
              rw [List.take_of_length_le (by omega), ← HST.out] at h1
              exact h1)
            clear hIn
            go_wp2_with fail
            go_roundg (ks.length - (k + 1))
            case measure => omega
            case rel => exact ⟨k + 1, v', by omega, rfl, by go_num, HN2⟩
      · have d1 : decide ((k : Int) < (ks.length : Int)) = false := decide_eq_false (by omega)
        have d1' : decide (k < ks.length) = false := decide_eq_false hi
        have HR := Lib.hid (HFin.out v wk (by have := hN.out; rw [List.take_of_length_le (by omega)] at this; exact this))
        clear hN
        go_wp2_with fail
        go_ret
        exact HR.out
theorem rnames_any (w : World) (n : Nd) (vk : Value) (hn : NdR w w.heap.size vk n) (hc : cntN n ≤ 1000) : Calls Tryz.prog 34 #[valN n vk] w fun e w' => ∃ v, e = .returned v ∧ OwnZ w' w.heap.size v (namesL n) ∧ Below w.heap.size w w' := by
  have : ∀ m, RNam m := by
    intro m
    induction m with
    | zero => intro n h; cases n; simp at h
    | succ m ih => exact rnam_step ih
  rw [← namesR_is]
  exact this (SizeOf.sizeOf n) n (Nat.le_refl _) hc w vk hn.2
end Go.Proofs.YtbephgifbghilaaGreatDoor
/- expr.Names at any node, its answer in memory of the call's own (seat expr; printed by gen_asknam.py). -/
set_option maxRecDepth 100000
namespace Go.Proofs.YtbephgifbghilaaGreatDoor
open Go.RowKit Go.Sort
section
variable {base po pw B : Nat} (u : Vl) (nm : ByteArray) (vk : Value)
set_option maxHeartbeats 4000000 in
theorem nam_vark (W : World) (v : Value) (acc : List (List UInt8)) (ks : List Nd) (h : NamS W base po pw v acc) (hk : KidsR W B vk ks) (hB : B ≤ po) (hlen : acc.length + 1 + (namL ks).length ≤ 1048576) (HK : ∀ i (hi : i < ks.length), NamK base po pw B ks[i]) :
    Calls Tryz.prog 61 #[valO 2 u nm vk, .pointer (some ⟨po, 0, none⟩), .pointer (some ⟨pw, 0, none⟩)] W fun e w' => e = .returned (.tuple #[]) ∧ ∃ v', NamS w' base po pw v' ((acc ++ [nmB nm]) ++ (namL ks).map nmB) ∧ Frm [some po, v.ownBlock] W w' ∧ Fresh W v v' := by
  have hll := hk.len
  obtain ⟨ka, kc, rfl, hat⟩ := kid_at hk
  have HA := Lib.hid hat
  have HKK := Lib.hid HK
  have HL := Lib.hid hlen
  have hl1 : acc.length + 1 ≤ 1048576 := by omega
  have HBW := Lib.hid (show B ≤ W.heap.size from Nat.le_trans hB (Nat.le_of_lt (lt_of_block h.out)))
  have HLow := Lib.hid (h.low hB)
  have HBpo := hB
  clear hk HK hat hlen hB
  obtain ⟨w1, p0, hp0, hw1, l1, n1, b1⟩ := box_new W (objN 2 u nm (.slice ka ks.length kc))
  have h1 := h.below b1
  have HN1 := Lib.hid n1
  have HP := Lib.hid (fun (V : World) (e : V.heap[p0]? = w1.heap[p0]?) => (show V.cell? ⟨p0, 0, none⟩ = some (.int .u8 2) ∧ V.cell? ⟨p0, 5, none⟩ = some (.string nm) ∧ V.cell? ⟨p0, 6, none⟩ = some (.slice ka ks.length kc) from ⟨(cell_of_block (e.trans n1) 0).trans rfl, (cell_of_block (e.trans n1) 5).trans rfl, (cell_of_block (e.trans n1) 6).trans rfl⟩))
  obtain ⟨c0, c5, c6⟩ := HP.out w1 rfl
  have m1 : w1.cell? ⟨po, 0, none⟩ = some v := (cell_of_block h1.out 0).trans rfl
  have f1 : w1.frozen? ⟨po, 0, none⟩ = false := free_of_block h1.out 0
  obtain ⟨i0, hti, hz0, hz1, hz2⟩ := info_parts info_str1
  have hrow := h1.row
  have hpo := lt_of_block h1.out
  have hpp : p0 ≠ po := type_ne n1 h1.out (by decide)
  go_enter Tryz.func61, Tryz.ntmps61
  go_wp2_with (at_builtin; refine wpList_append_own_at _ rfl _ _ 44 rfl base 9 i0 _ 1 16 Tryz.underlying44 hti hz0 hz1 hz2 rfl (by decide) v acc.length (acc.map encStr) rfl (hrow.alloc _) ⟨w1.heap.size, 0, none⟩ 1 1 [.string nm] rfl rfl (cells_new _ _ _) (by simp [Value.oneCell']) (by unfold maxLen; omega) (by omega) (by have := h1.base; simp; omega) ?_; intro v' w4 hown hg4 _ hob4; refine Hid.out ?_)
  refine Lib.hid ?_
  have hb0 : Below W.heap.size W (w1.alloc (.cells #[.string nm] 9)) := b1.alloc b1.size _
  have hw1n : (w1.alloc (.cells #[.string nm] 9)).heap[po]? = some (.cells #[v] 44 (0, 0)) := (alloc_keeps _ _ po hpo).trans h1.out
  have hw1f := (alloc_keeps w1 (.cells #[.string nm] 9) pw (lt_of_block h1.fn)).trans h1.fn
  have ne1 : some po ≠ v.ownBlock := fun e => by
    rcases h1.row.2 with ⟨e0, _⟩ | ⟨g, cap, cur, e0, _, hg, _⟩
    · rw [e0] at e; cases e
    · rw [e0] at e; exact type_ne h1.out hg (by decide) (Option.some.inj e)
  have ne2 : some pw ≠ v.ownBlock := fun e => by
    rcases h1.row.2 with ⟨e0, _⟩ | ⟨g, cap, cur, e0, _, hg, _⟩
    · rw [e0] at e; cases e
    · rw [e0] at e; exact type_ne h1.fn hg (by decide) (Option.some.inj e)
  have ne3 : some p0 ≠ v.ownBlock := fun e => by
    rcases h1.row.2 with ⟨e0, _⟩ | ⟨g, cap, cur, e0, _, hg, _⟩
    · rw [e0] at e; cases e
    · rw [e0] at e; exact type_ne n1 hg (by decide) (Option.some.inj e)
  have lpo : po < (w1.alloc (.cells #[.string nm] 9)).heap.size := lt_of_block hw1n
  have o4 := (hg4.block po lpo ne1).trans hw1n
  have o5 := (hg4.block pw (lt_of_block hw1f) ne2).trans hw1f
  have o6 := (hg4.block p0 (by simp; omega) ne3).trans ((alloc_keeps w1 (.cells #[.string nm] 9) p0 l1).trans n1)
  have m4 : w4.cell? ⟨po, 0, none⟩ = some v := (cell_of_block o4 0).trans rfl
  have f4 : w4.frozen? ⟨po, 0, none⟩ = false := free_of_block o4 0
  obtain ⟨av, cv, rfl⟩ : ∃ a c, v' = .slice a (acc.length + 1) c := by
    rcases hown.2 with ⟨rfl, h0⟩ | ⟨g, cap, cur, rfl, _⟩
    · omega
    · exact ⟨_, _, rfl⟩
  have hppw : pw ≠ po := type_ne h1.fn h1.out (by decide)
  have o7 : (w4.setCell ⟨po, 0, none⟩ (.slice av (acc.length + 1) cv)).heap[p0]? = w1.heap[p0]? := (heap_setCell_other w4 ⟨po, 0, none⟩ p0 _ hpp).trans (o6.trans n1.symm)
  obtain ⟨d0, d5, d6⟩ := HP.out _ o7
  have hg5 : w4.grownBy (w4.setCell ⟨po, 0, none⟩ (.slice av (acc.length + 1) cv)) (some po) := grownBy_setCell _ _ _ _
  have hNew : NamS (w4.setCell ⟨po, 0, none⟩ (.slice av (acc.length + 1) cv)) base po pw (.slice av (acc.length + 1) cv) (acc ++ [nmB nm]) := by
    refine ⟨?_, (heap_setCell_other w4 ⟨po, 0, none⟩ pw _ hppw).trans o5, ?_, h1.po, h1.pw, Nat.le_trans h1.base (by have e1 := hg4.size; rw [World.size_alloc] at e1; have e2 := hg5.size; omega)⟩
    · have := heap_setCell_self (i := 0) (.slice av (acc.length + 1) cv) o4
      simpa using this
    · have hown' : w4.ownsRow base 9 1 (.slice av (acc.length + 1) cv) (acc ++ [nmB nm]).length ((acc ++ [nmB nm]).map encStr) := by
        simpa [encStr, nmB] using hown
      refine hown'.kept hg5 (Or.inr ?_)
      intro e
      rcases hown.2 with ⟨e0, _⟩ | ⟨g, cap, cur, e0, _, hg, _⟩
      · cases e0
      · rw [e0] at e
        exact type_ne hg o4 (by decide) (Option.some.inj e)
  have hFrm : Frm [some po, v.ownBlock] W (w4.setCell ⟨po, 0, none⟩ (.slice av (acc.length + 1) cv)) := Frm.grown (Frm.grown (Frm.ofBelow hb0) hg4 (by simp)) hg5 (by simp)
  have hFresh : Fresh W v (.slice av (acc.length + 1) cv) := by
    rcases hob4 with e | e
    · exact Or.inl e
    · exact Or.inr ⟨_, e, by have := b1.size; simp; omega⟩
  have HN := Lib.hid (And.intro hNew (And.intro hFrm hFresh))
  have HO7 := Lib.hid o7
  have HZ5 : Hid (w1.heap.size ≤ (w4.setCell ⟨po, 0, none⟩ (.slice av (acc.length + 1) cv)).heap.size) := Lib.hid (by have e1 := hg4.size; rw [World.size_alloc] at e1; have e2 := hg5.size; omega)
  clear hNew hFrm hFresh hob4 hown hg4 hg5 ne1 ne2 ne3 hw1n hw1f hb0 h1 o4 o5 o6 o7 hrow h n1 b1
  obtain ⟨w5, hw5⟩ : ∃ w5, w4.setCell ⟨po, 0, none⟩ (.slice av (acc.length + 1) cv) = w5 := ⟨_, rfl⟩
  rw [hw5] at HN d0 d5 d6 HO7 HZ5
  have H0 : Hid (NamS w5 base po pw (.slice av (acc.length + 1) cv) ((acc ++ [nmB nm]) ++ (namL (ks.take 0)).map nmB) ∧ Frm [some po, v.ownBlock] W w5 ∧ Fresh W v (.slice av (acc.length + 1) cv) ∧ w5.heap[p0]? = w1.heap[p0]? ∧ w1.heap.size ≤ w5.heap.size) := Lib.hid ⟨by rw [show (namL (ks.take 0)).map nmB = [] from rfl, List.append_nil]; exact HN.out.1, HN.out.2.1, HN.out.2.2, HO7.out, HZ5.out⟩
  go_wp2_with fail
  go_loopg [17] ks.length (fun g s17 wr => ∃ (k : Nat) (v' : Value), k + g = ks.length ∧ s17 = .int .i64 (k : Int) ∧ Hid (NamS wr base po pw v' ((acc ++ [nmB nm]) ++ (namL (ks.take k)).map nmB) ∧ Frm [some po, v.ownBlock] W wr ∧ Fresh W v v' ∧ wr.heap[p0]? = w1.heap[p0]? ∧ w1.heap.size ≤ wr.heap.size))
  case atStart => exact ⟨0, _, by omega, rfl, H0⟩
  case round =>
    obtain ⟨k, v', hkg, rfl, hI⟩ := hrel
    obtain ⟨hS, hF, hFr, hp, hsz⟩ := hI.out
    by_cases hk : k < ks.length
    · have hBel : Below B W wr := hF.toBelow HBW.out HLow.out
      obtain ⟨b, o, vk', rfl, hb, hw, hkk, hcc⟩ := HA.out k hk
      obtain ⟨e0, e1, e2, e3, e4, e5, e6⟩ := kid_cells hcc hBel hb
      obtain ⟨w2, p2, hp2, hw2, l2, n2, b2⟩ := box_new wr (objN ks[k].op ks[k].v ks[k].name vk')
      have hS2 := hS.below b2
      have hp2' : w2.heap[p0]? = w1.heap[p0]? := (b2.block p0 (by omega)).trans hp
      have hkB2 := (hkk.mono hBel (Nat.le_refl _)).mono (b2.mono (Nat.le_trans HBW.out hF.size)) (Nat.le_refl _)
      have hlk : ((acc ++ [nmB nm]) ++ (namL (ks.take k)).map nmB).length + (namN ks[k]).length ≤ 1048576 := by
        have e1 := namL_take hk
        have e2 := namL_le ks (k + 1)
        rw [e1, List.length_append] at e2
        have := HL.out
        simp only [List.length_append, List.length_map, List.length_cons, List.length_nil]
        omega
      have HCall := Lib.hid (HKK.out k hk w2 v' _ vk' hS2 hkB2 hlk)
      have HT := Lib.hid (namL_take hk)
      have g0 : w2.cell? ⟨pw, 0, none⟩ = some (.func (.func 61) #[] #[.pointer (some ⟨po, 0, none⟩), .pointer (some ⟨pw, 0, none⟩)]) := (cell_of_block hS2.fn 0).trans rfl
      have HF2 := Lib.hid (And.intro hS2 (And.intro (hF.below b2) (And.intro hFr hp2')))
      have hsz2 : W.heap.size ≤ w2.heap.size := Nat.le_trans hF.size b2.size
      obtain ⟨ak, ck, rfl⟩ := hkk.val
      obtain ⟨x, hx⟩ : ∃ x, ks[k] = x := ⟨_, rfl⟩
      obtain ⟨nk, hnk⟩ : ∃ nk, ks[k].kids.length = nk := ⟨_, rfl⟩
      rw [hnk] at e6 hw2 n2 HCall
      rw [hx] at e0 e1 e2 e3 e4 e5 hw2 n2 HCall HT
      have hw2' : wr.alloc (.cells #[.int .u8 x.op, .int .u8 x.v.kind, .int .i64 x.v.num, .bool x.v.tr, .string x.v.text, .string x.name, .slice ak nk ck] 29) = w2 := hw2
      obtain ⟨f0, f1, f2, f3, f4, f5, f6⟩ := n_cells n2
      have k1 : (0 : Int) ≤ (k : Int) := by omega
      have k2 : (k : Int) < (ks.length : Int) := by omega
      clear hx hnk hw2 n2 b2 hkk hcc hw hBel hS hF hFr hp hS2 hp2' hkB2 hlk hI
      go_wp2_with (go_at_call 61; refine HCall.out.mono ?_; rintro e w3 ⟨rfl, v3, hS3, hF3, hFr3⟩; refine Hid.out ?_)
      refine Lib.hid ?_
      obtain ⟨hS2, hFW, hFrW, hp2'⟩ := HF2.out
      have hp3 : w3.heap[p0]? = w1.heap[p0]? := (hF3.keep p0 (lt_of_block (hp2'.trans HN1.out)) (fun r hr e => hS2.ne (hp2'.trans HN1.out) (by decide) (by decide) r hr e)).trans hp2'
      have hFn : Frm [some po, v.ownBlock] W w3 := Frm.trans hFW hF3 (fun r hr => by
        simp only [List.mem_cons, List.not_mem_nil, or_false] at hr
        rcases hr with rfl | rfl
        · exact Or.inl (by simp)
        · rcases hFrW with e | ⟨j, e, hj⟩
          · rw [e]; exact Or.inl (by simp)
          · exact Or.inr ⟨j, e, hj⟩)
      have hFrn : Fresh W v v3 := Fresh.trans hFrW hFr3 hsz2
      have hSn : NamS w3 base po pw v3 ((acc ++ [nmB nm]) ++ (namL (ks.take (k + 1))).map nmB) := by
        rw [HT.out, List.map_append, ← List.append_assoc]
        exact hS3
      have HE := Lib.hid (And.intro hSn (And.intro hFn (And.intro hFrn (And.intro hp3 (show w1.heap.size ≤ w3.heap.size from by have := hF3.size; omega)))))
      clear hS3 hF3 hFr3 hS2 hFW hFrW hp2' hp3 hFn hFrn hSn
      go_wp2_with fail
      go_roundg (gk - 1)
      case measure => omega
      case rel => exact ⟨k + 1, v3, by omega, by go_num, HE⟩
    · have dk : decide (k < ks.length) = false := decide_eq_false hk
      have HE := Lib.hid (show NamS wr base po pw v' ((acc ++ [nmB nm]) ++ (namL ks).map nmB) ∧ Frm [some po, v.ownBlock] W wr ∧ Fresh W v v' from ⟨by rw [List.take_of_length_le (by omega)] at hS; exact hS, hF, hFr⟩)
      clear hS hF hFr hp hI
      go_wp2_with fail
      refine bodyPost_end (results_none rfl _ _ _) rfl ?_
      exact ⟨rfl, _, HE.out.1, HE.out.2.1, HE.out.2.2⟩
end
mutual
theorem nam_N0 {base po pw B : Nat} (hB : B ≤ po) : ∀ n : Nd, NamK base po pw B n
  | .mk op u nm ks, W, v, acc, vk, h, hk, hlen => by
    have e3 : namN (.mk op u nm ks) = (if op = 2 then [nm] else []) ++ namL ks := rfl
    rw [e3] at hlen ⊢
    by_cases o2 : op = 2
    · subst o2
      rw [if_pos rfl, List.length_append] at hlen
      have := nam_vark u nm vk W v acc ks h hk hB (by simpa [Nat.add_assoc] using hlen) (nam_L0 hB ks)
      rw [if_pos rfl, List.map_append, ← List.append_assoc]
      exact this
    · rw [if_neg o2, List.nil_append] at hlen ⊢
      exact nam_kids op u nm vk W v acc ks (by simpa using o2) h hk hB hlen (nam_L0 hB ks)
theorem nam_L0 {base po pw B : Nat} (hB : B ≤ po) : ∀ ks : List Nd, ∀ i (hi : i < ks.length), NamK base po pw B ks[i]
  | [], i, hi => absurd hi (by simp)
  | a :: _, 0, _ => nam_N0 hB a
  | _ :: r, i + 1, hi => nam_L0 hB r i (by simp at hi; omega)
end
theorem own_down {w : World} {base base' : Nat} {e : TypeId} {size : Nat} {v : Value} {n : Nat} {xs : List Value} (h : w.ownsRow base e size v n xs) (hb : base' ≤ base) : w.ownsRow base' e size v n xs := by
  refine ⟨h.1, ?_⟩
  rcases h.2 with h2 | ⟨g, cap, cur, e0, h3, hr⟩
  · exact .inl h2
  · exact .inr ⟨g, cap, cur, e0, Nat.le_trans hb h3, hr⟩
set_option maxHeartbeats 2000000 in
theorem names_own (w : World) (n : Nd) (vk : Value) (hn : NdR w w.heap.size vk n) (hlen : (namN n).length ≤ 1048576) :
    Calls Tryz.prog 29 #[valN n vk] w fun e w' => ∃ (v : Value) (L : List (List UInt8)), e = .returned v ∧ w'.ownsRow w.heap.size 9 1 v L.length (L.map encStr) ∧ L = namesL n ∧ Below w.heap.size w w' := by
  obtain ⟨w1, p0, hp0, hw1, l1, n1, b1⟩ := box_new w (objN n.op n.v n.name vk)
  obtain ⟨w2, po, hpo, hw2, l2, n2, b2⟩ := box_new w1 (.cells #[.slice none 0 0] 44)
  obtain ⟨w3, pw, hpw, hw3, l3, n3, b3⟩ := box_new w2 (.cells #[.nilFunc] 104)
  obtain ⟨w4, hw4⟩ : ∃ w4, w3.setCell ⟨pw, 0, none⟩ (.func (.func 61) #[] #[.pointer (some ⟨po, 0, none⟩), .pointer (some ⟨pw, 0, none⟩)]) = w4 := ⟨_, rfl⟩
  have z1 := b1.size
  have z2 := b2.size
  have m3 : w3.cell? ⟨pw, 0, none⟩ = some .nilFunc := (cell_of_block n3 0).trans rfl
  have f3 : w3.frozen? ⟨pw, 0, none⟩ = false := free_of_block n3 0
  have hop : po ≠ pw := by omega
  have h0p : p0 ≠ pw := by omega
  have o4 : w4.heap[po]? = some (.cells #[.slice none 0 0] 44 (0, 0)) := by rw [← hw4, heap_setCell_other w3 ⟨pw, 0, none⟩ po _ hop]; exact (b3.block po l2).trans n2
  have q4 : w4.heap[pw]? = some (.cells #[.func (.func 61) #[] #[.pointer (some ⟨po, 0, none⟩), .pointer (some ⟨pw, 0, none⟩)]] 104 (0, 0)) := by
    have := heap_setCell_self (i := 0) (.func (.func 61) #[] #[.pointer (some ⟨po, 0, none⟩), .pointer (some ⟨pw, 0, none⟩)]) n3
    rw [hw4] at this
    simpa using this
  have p4 : w4.heap[p0]? = w1.heap[p0]? := by rw [← hw4, heap_setCell_other w3 ⟨pw, 0, none⟩ p0 _ h0p]; exact (b3.block p0 (by omega)).trans (b2.block p0 l1)
  have hb4 : Below w.heap.size w w4 := by rw [← hw4]; exact ((b1.trans ((b2.trans (b3.mono b2.size)).mono b1.size))).setCell (show w.heap.size ≤ pw by omega) _
  have hz4 : w3.heap.size = w4.heap.size := by rw [← hw4]; simp
  have hS : NamS w4 w4.heap.size po pw (.slice none 0 0) [] := ⟨o4, q4, World.ownsRow_nil _ _ _ _, by omega, by omega, Nat.le_refl _⟩
  have hB : w.heap.size ≤ po := by omega
  obtain ⟨c0, c1, c2, c3, c4, c5, c6⟩ := n_cells (p4.trans n1)
  have K := Lib.hid (nam_N0 hB n w4 _ [] vk hS (hn.2.mono hb4 (Nat.le_refl _)) (by simpa using hlen))
  have HB := Lib.hid hb4
  have g4 := (show w4.cell? ⟨pw, 0, none⟩ = some (.func (.func 61) #[] #[.pointer (some ⟨po, 0, none⟩), .pointer (some ⟨pw, 0, none⟩)]) from (cell_of_block q4 0).trans rfl)
  have HM : Hid (namesL n = Lib.compact (((namN n).map nmB).mergeSort fun x y => decide (x ≤ y))) := Lib.hid rfl
  have HL := Lib.hid hlen
  obtain ⟨N, hN⟩ : ∃ N, (namN n).map nmB = N := ⟨_, rfl⟩
  have HN := Lib.hid (show N.length ≤ 1048576 by rw [← hN, List.length_map]; exact hlen)
  rw [hN] at K HM
  rw [List.nil_append] at K
  obtain ⟨ms, hms⟩ : ∃ ms, namesL n = ms := ⟨_, rfl⟩
  rw [hms] at HM ⊢
  have hlow := Lib.hid (hS.low hB)
  clear hN hms hlen hS hb4 hn n1 n2 n3 b1 b2 b3 o4 q4 p4 hz4
  go_enter Tryz.func29, Tryz.ntmps29
  go_wp2_with (go_at_call 61; refine K.out.mono ?_; rintro e w5 ⟨rfl, v5, hS5, hF5, -⟩; refine Hid.out ?_)
  refine Lib.hid ?_
  have h5 : w5.cell? ⟨po, 0, none⟩ = some v5 := (cell_of_block hS5.out 0).trans rfl
  have hb5 := HB.out.trans (hF5.toBelow HB.out.size hlow.out)
  by_cases hN0 : N.length = 0
  · have hv5 : ∃ a c, v5 = .slice a 0 c := by
      rcases hS5.row.2 with ⟨rfl, _⟩ | ⟨g, cap, cur, rfl, _⟩
      · exact ⟨_, _, rfl⟩
      · rw [hN0]; exact ⟨_, _, rfl⟩
    obtain ⟨a5, k5, rfl⟩ := hv5
    have HS := Lib.hid (show Calls Tryz.prog 62 #[.slice a5 0 k5] w5 fun e w' => e = .returned (.tuple #[]) ∧ w' = w5 from AnyM.slices_Sort_string_none Tryz.sortM a5 k5 w5)
    have HC := Lib.hid (show Calls Tryz.prog 63 #[.slice a5 0 k5] w5 fun e w' => e = .returned (.slice a5 0 k5) ∧ w' = w5 from Tryz.slices_Compact_string_empty a5 k5 w5)
    have HOW : Hid (w5.ownsRow w.heap.size 9 1 (.slice a5 0 k5) ([] : List (List UInt8)).length (([] : List (List UInt8)).map encStr)) := Lib.hid (by have h1 := hS5.row; rw [List.eq_nil_of_length_eq_zero hN0] at h1; exact own_down h1 (by have := HB.out.size; omega))
    have H0 := Lib.hid (List.eq_nil_of_length_eq_zero hN0)
    have HB5 := Lib.hid hb5
    clear hN0 hS5 hF5 hb5
    go_wp2_with (first
      | (go_at_call 62; refine HS.out.mono ?_; rintro e w6 ⟨rfl, rfl⟩)
      | (go_at_call 63; refine HC.out.mono ?_; rintro e w6 ⟨rfl, rfl⟩))
    go_ret
    refine ⟨_, [], rfl, HOW.out, ?_, HB5.out⟩
    rw [H0.out] at HM
    rw [HM.out]
    simp [Lib.compact, Lib.compactUpTo]
  · have hv5 : v5 ≠ .slice none 0 0 := by
      intro e
      rcases hS5.row.2 with ⟨_, h⟩ | ⟨g, cap, cur, e2, _⟩
      · exact hN0 h
      · rw [e] at e2; cases e2
    obtain ⟨g, k5, rfl, hbg, hgl, hnk, hkm, -, hH⟩ := Lib.holds_of_ownsRow hS5.row hv5
    have hlN := HN.out
    have HS := Lib.hid (show Calls Tryz.prog 62 #[.slice (some ⟨g, 0, none⟩) N.length k5] w5 fun e w' => e = .returned (.tuple #[]) ∧ ∃ n os, w' = grow (putRow encStr (Sort.ahead w5 n) g 0 (N.mergeSort fun x y => decide (x ≤ y)).toArray) os from AnyM.slices_Sort_string Tryz.sortM g 0 k5 N w5 hH hgl (by omega))
    obtain ⟨M, hM⟩ : ∃ M, N.mergeSort (fun x y => decide (x ≤ y)) = M := ⟨_, rfl⟩
    have hlM : M.length = N.length := by rw [← hM]; exact List.length_mergeSort _
    rw [hM] at HS HM
    obtain ⟨cur, hcur, h1, h2, h3⟩ : ∃ cur, w5.heap[g]? = some (.cells cur 9 (0, 0)) ∧ N.length ≤ k5 ∧ k5 ≤ maxLen ∧ cur.size = k5 * 1 := by
      rcases hS5.row.2 with ⟨e0, _⟩ | ⟨g', cap, cur, e0, _, hg, h1, h2, h3, _⟩
      · cases e0
      · cases e0; exact ⟨cur, hg, h1, h2, h3⟩
    have hgo : g ≠ po := type_ne hcur hS5.out (by decide)
    have HO := Lib.hid hS5.out
    have HB5 := Lib.hid hb5
    have HCU := Lib.hid (And.intro hcur h3)
    have HLM := Lib.hid hlM
    have hbw : w.heap.size ≤ g := by have := HB.out.size; omega
    clear hN0 hS5 hF5 hb5 hv5 hH hM hcur h3 hlM
    go_wp2_with (go_at_call 62; refine HS.out.mono ?_; rintro e w6 ⟨rfl, q6, os6, hw6⟩; have HW6 := Lib.hid hw6; clear hw6; refine Hid.out ?_)
    refine Lib.hid ?_
    have hw6 := HW6.out
    have hg6 : w5.grownBy w6 (some g) := by rw [hw6]; exact grownBy_sorted _
    have hr6 : w6.ownsRow g 9 1 (.slice (some ⟨g, 0, none⟩) N.length k5) N.length (M.map encStr) := by rw [hw6]; exact ownsRow_sorted HLM.out (Nat.le_refl _) HCU.out.1 h1 h2 HCU.out.2
    have c6o : w6.cell? ⟨po, 0, none⟩ = some (.slice (some ⟨g, 0, none⟩) N.length k5) := (cell_of_block ((hg6.block po (lt_of_block HO.out) (fun e => hgo (Option.some.inj e).symm)).trans HO.out) 0).trans rfl
    have hb6 : Below w.heap.size w w6 := HB5.out.grown hg6 (by have := HB5.out.size; omega) (fun k hk => by cases hk; exact hbw)
    obtain ⟨_, _, e7, _, _, _, _, hlM, hH6⟩ := Lib.holds_of_ownsRow hr6 (by intro e; cases e)
    cases e7
    have HCo := Lib.hid (show Calls Tryz.prog 63 #[.slice (some ⟨g, 0, none⟩) N.length k5] w6 fun e w' => e = .returned (.slice (some ⟨g, 0, none⟩) (Lib.compact M).length k5) ∧ ∃ q, w' = putRow encStr (Sort.ahead w6 q) g 0 (Lib.compact M ++ List.replicate (M.length - (Lib.compact M).length) []).toArray from by
      rw [← hlM]
      exact Tryz.slices_Compact_string g 0 k5 M w6 hH6 (by omega) (by omega))
    have HR6 := Lib.hid hr6
    have HB6 := Lib.hid hb6
    have HLM2 := Lib.hid hlM
    clear hr6 hb6 hH6 hlM hg6 hw6 h5
    go_wp2_with (go_at_call 63; refine HCo.out.mono ?_; rintro e w7 ⟨rfl, q7, hw7⟩; have HW7 := Lib.hid hw7; clear hw7; refine Hid.out ?_)
    refine Lib.hid ?_
    have hw7 := HW7.out
    have hle := compact_le M
    have hr7 : w7.ownsRow g 9 1 (.slice (some ⟨g, 0, none⟩) (Lib.compact M).length k5) (Lib.compact M).length ((Lib.compact M).map encStr) := by
      rw [hw7]
      have := Lib.ownsRow_putRow (q := q7) (k := (Lib.compact M).length) (ys := Lib.compact M ++ List.replicate (M.length - (Lib.compact M).length) []) HR6.out (by rw [List.length_append, List.length_replicate, HLM2.out.symm]; omega) (by rw [← HLM2.out]; exact hle)
      rwa [List.take_left'] at this
      rfl
    have hb7 : Below w.heap.size w w7 := by rw [hw7]; exact Lib.below_putRow HB6.out hbw
    have HF := Lib.hid (And.intro (own_down hr7 hbw) hb7)
    clear hr7 hb7 hw7 hle
    go_wp2_with fail
    go_ret
    exact ⟨_, Lib.compact M, rfl, HF.out.1, HM.out.symm, HF.out.2⟩
end Go.Proofs.YtbephgifbghilaaGreatDoor
/- The law's back: a node as the document has it (seat expr); made of ExprGiven by turning the types about. -/
set_option maxRecDepth 100000
namespace Go.Proofs.YtbephgifbghilaaGreatDoor
open Go.RowKit
abbrev OwnK10 (w : World) (base : Nat) (v : Value) (L : List (Nd × Value)) : Prop := OwnF cP 36 7 w base v L
theorem own_kids10 {w : World} {base : Nat} {v : Value} {L : List (Nd × Value)} {ok : Nat → Prop} (h : OwnK10 w base v L) (hl : L.length ≤ 1000000) (hok : ∀ g, v.ownBlock = some g → ok g) (hH : ∀ p ∈ L, HeadW p.1 ∧ KidsO w ok p.2 p.1.kids) : KidsO w ok v (L.map Prod.fst) := by
  have hlen : (L.map Prod.fst).length = L.length := by simp
  rcases h.2 with ⟨rfl, h0⟩ | ⟨g, cap, cur, rfl, hb, hg, hn, hm, hs, hx⟩
  · obtain rfl : L = [] := List.eq_nil_of_length_eq_zero h0
    exact KidsO.nil w ok
  · have e : Value.slice (some ⟨g, 0, none⟩) L.length cap = .slice (some ⟨g, 0, none⟩) (L.map Prod.fst).length cap := by rw [hlen]
    rw [e]
    have hget : ∀ i (hi : i < (L.map Prod.fst).length), (L.map Prod.fst)[i] = (L[i]'(by rw [hlen] at hi; exact hi)).1 := fun i hi => by simp
    have hd : ∀ i (hi : i < L.length), L.getD i default = L[i] := fun i hi => by simp [List.getD_eq_getElem?_getD, hi]
    refine .mk _ cap _ (fun i => (L.getD i default).2) (by rw [hlen]; omega) (by rw [hlen]; exact hn) (fun i hi => ?_) (fun i hi => ⟨g, 0, rfl, lt_of_block hg, hok g rfl, fun j hj => ?_⟩) (fun i hi => ?_)
    · rw [hget i hi]
      exact (hH _ (List.getElem_mem _)).1
    · have hi' : i < L.length := by rw [hlen] at hi; exact hi
      rw [hget i hi, hd i hi', Nat.zero_add, cell_of_block hg]
      have h1 := cellsF_at cP_len L i j hi' hj
      rw [← h1]
      have h2 := congrArg (fun l => l[i * 7 + j]?) hx
      simp only [List.getElem?_take] at h2
      rw [if_pos (by omega), Array.getElem?_toList] at h2
      exact h2
    · have hi' : i < L.length := by rw [hlen] at hi; exact hi
      rw [hget i hi, hd i hi']
      exact (hH _ (List.getElem_mem _)).2
theorem OwnK10.lo {w : World} {base : Nat} {v : Value} {L : List (Nd × Value)} (h : OwnK10 w base v L) {g : Nat} (hg : v.ownBlock = some g) : base ≤ g ∧ g < w.heap.size := World.ownsRow.lt h g hg
section
variable {W : World} {p : Nat} {a0 a1 a2 a3 a4 a5 a6 : Value}
theorem stq_0 (h : W.heap[p]? = some (.cells #[a0, a1, a2, a3, a4, a5, a6] 36 (0, 0))) (v : Value) : (W.setCell ⟨p, 0, none⟩ v).heap[p]? = some (.cells #[v, a1, a2, a3, a4, a5, a6] 36 (0, 0)) := set_selfL v h
theorem stq_1 (h : W.heap[p]? = some (.cells #[a0, a1, a2, a3, a4, a5, a6] 36 (0, 0))) (v : Value) : (W.setCell ⟨p, 1, none⟩ v).heap[p]? = some (.cells #[a0, v, a2, a3, a4, a5, a6] 36 (0, 0)) := set_selfL v h
theorem stq_2 (h : W.heap[p]? = some (.cells #[a0, a1, a2, a3, a4, a5, a6] 36 (0, 0))) (v : Value) : (W.setCell ⟨p, 2, none⟩ v).heap[p]? = some (.cells #[a0, a1, v, a3, a4, a5, a6] 36 (0, 0)) := set_selfL v h
theorem stq_3 (h : W.heap[p]? = some (.cells #[a0, a1, a2, a3, a4, a5, a6] 36 (0, 0))) (v : Value) : (W.setCell ⟨p, 3, none⟩ v).heap[p]? = some (.cells #[a0, a1, a2, v, a4, a5, a6] 36 (0, 0)) := set_selfL v h
theorem stq_4 (h : W.heap[p]? = some (.cells #[a0, a1, a2, a3, a4, a5, a6] 36 (0, 0))) (v : Value) : (W.setCell ⟨p, 4, none⟩ v).heap[p]? = some (.cells #[a0, a1, a2, a3, v, a5, a6] 36 (0, 0)) := set_selfL v h
theorem stq_5 (h : W.heap[p]? = some (.cells #[a0, a1, a2, a3, a4, a5, a6] 36 (0, 0))) (v : Value) : (W.setCell ⟨p, 5, none⟩ v).heap[p]? = some (.cells #[a0, a1, a2, a3, a4, v, a6] 36 (0, 0)) := set_selfL v h
theorem stq_6 (h : W.heap[p]? = some (.cells #[a0, a1, a2, a3, a4, a5, a6] 36 (0, 0))) (v : Value) : (W.setCell ⟨p, 6, none⟩ v).heap[p]? = some (.cells #[a0, a1, a2, a3, a4, a5, v] 36 (0, 0)) := set_selfL v h
theorem set7_is10 (h : W.heap[p]? = some (.cells #[a0, a1, a2, a3, a4, a5, a6] 36 (0, 0))) (v0 v1 v2 v3 v4 v5 v6 : Value) : (set7 W p v0 v1 v2 v3 v4 v5 v6).heap[p]? = some (.cells #[v0, v1, v2, v3, v4, v5, v6] 36 (0, 0)) := stq_6 (stq_5 (stq_4 (stq_3 (stq_2 (stq_1 (stq_0 h v0) v1) v2) v3) v4) v5) v6
end
theorem info_node10 : (Tryz.prog.info? 36).map (fun i => (i.zero, i.size, i.bytes)) = some (some (.agg #[.int .u8 0, .int .u8 0, .int .i64 0, .bool false, .string ⟨#[]⟩, .string ⟨#[]⟩, .slice none 0 0]), 7, 88) := by kernel_rfl
/-- Where the loop of back stands. -/
structure BakS (wr : World) (lo p1 p2 p3 base : Nat) (n : Nd) (vk v : Value) (L : List (Nd × Value)) : Prop where
  h1 : wr.heap[p1]? = some (.cells (arrN n vk) 29 (0, 0))
  h2 : wr.heap[p2]? = some (.cells #[.int .u8 0, .int .u8 0, .int .i64 0, .bool false, .string ⟨#[]⟩, .string ⟨#[]⟩, .slice none 0 0] 36 (0, 0))
  h3 : wr.heap[p3]? = some (.cells (arrN n v) 36 (0, 0))
  own : OwnK10 wr base v L
  kid : ∀ p ∈ L, HeadW p.1 ∧ KidsO wr (fun b => lo ≤ b ∧ b ≠ p3 ∧ b ≠ p2 ∧ some b ≠ v.ownBlock) p.2 p.1.kids
  b1 : p1 < base
  b2 : p2 < base
  b3 : p3 < base
  p13 : p1 ≠ p3
  p23 : p2 ≠ p3
  hb : base ≤ wr.heap.size
  hlo : lo ≤ p1 ∧ lo ≤ p2 ∧ lo ≤ p3
theorem BakS.below {wr w' : World} {lo p1 p2 p3 base : Nat} {n : Nd} {vk v : Value} {L : List (Nd × Value)} (h : BakS wr lo p1 p2 p3 base n vk v L) (hb : Below wr.heap.size wr w') : BakS w' lo p1 p2 p3 base n vk v L :=
  ⟨(hb.block _ (lt_of_block h.h1)).trans h.h1, (hb.block _ (lt_of_block h.h2)).trans h.h2, (hb.block _ (lt_of_block h.h3)).trans h.h3, OwnF.kept h.own hb, fun p hp => ⟨(h.kid p hp).1, (h.kid p hp).2.keptB hb⟩, h.b1, h.b2, h.b3, h.p13, h.p23, Nat.le_trans h.hb hb.size, h.hlo⟩
theorem BakS.step {wr w7 w9 : World} {lo p1 p2 p3 base : Nat} {n x : Nd} {vk v v' vx : Value} {L : List (Nd × Value)} (h : BakS wr lo p1 p2 p3 base n vk v L) (hb7 : Below wr.heap.size wr w7) (hH : HeadW x) (hx : KidsO w7 (fun b => wr.heap.size ≤ b) vx x.kids)
    (hown : w9.ownsRow base 36 7 v' (L.length + 1) (cellsF cP L ++ cellN x vx)) (hg : (w7.alloc (.cells (cellN x vx).toArray 36)).grownBy w9 v.ownBlock) (hob : v'.ownBlock = v.ownBlock ∨ v'.ownBlock = some (w7.alloc (.cells (cellN x vx).toArray 36)).heap.size) :
    BakS (w9.setCell ⟨p3, 6, none⟩ v') lo p1 p2 p3 base n vk v' (L ++ [(x, vx)]) ∧ Frm [some p3, v.ownBlock] wr (w9.setCell ⟨p3, 6, none⟩ v') := by
  have b8 : Below wr.heap.size wr (w7.alloc (.cells (cellN x vx).toArray 36)) := hb7.alloc hb7.size _
  have b78 : Below w7.heap.size w7 (w7.alloc (.cells (cellN x vx).toArray 36)) := (Below.refl _ _).alloc (Nat.le_refl _) _
  have hz8 : (w7.alloc (.cells (cellN x vx).toArray 36)).heap.size = w7.heap.size + 1 := by simp
  obtain ⟨w8, hw8⟩ : ∃ w8, w7.alloc (.cells (cellN x vx).toArray 36) = w8 := ⟨_, rfl⟩
  rw [hw8] at b8 b78 hz8 hg hob
  have hz7 := hb7.size
  have hz9 := hg.size
  have hzb := h.hb
  have hgl : ∀ g, v.ownBlock = some g → base ≤ g ∧ g < wr.heap.size := fun g e => h.own.lo e
  have hbl : ∀ k, k < w8.heap.size → k ≠ p3 → v.ownBlock ≠ some k → (w9.setCell ⟨p3, 6, none⟩ v').heap[k]? = w8.heap[k]? := fun k hk h3 ho =>
    (heap_setCell_other w9 ⟨p3, 6, none⟩ k v' h3).trans (hg.block k hk (Ne.symm ho))
  have hg5 : w9.grownBy (w9.setCell ⟨p3, 6, none⟩ v') (some p3) := grownBy_setCell _ _ _ _
  have hz10 := hg5.size
  have hob' : ∀ k, k < wr.heap.size → some k ≠ v.ownBlock → some k ≠ v'.ownBlock := fun k hk hne e => by
    rcases hob with e2 | e2
    · exact hne (e.trans e2)
    · rw [e2] at e; injection e with e; omega
  have lb3 := h.b3
  have lb1 := h.b1
  have lb2 := h.b2
  have n1 : v.ownBlock ≠ some p1 := fun e => by have := (hgl _ e).1; omega
  have n2 : v.ownBlock ≠ some p2 := fun e => by have := (hgl _ e).1; omega
  have n3 : v.ownBlock ≠ some p3 := fun e => by have := (hgl _ e).1; omega
  refine ⟨⟨?_, ?_, ?_, ?_, ?_, h.b1, h.b2, h.b3, h.p13, h.p23, by omega, h.hlo⟩, ?_⟩
  · exact (hbl p1 (by omega) h.p13 n1).trans ((b8.block p1 (by omega)).trans h.h1)
  · exact (hbl p2 (by omega) h.p23 n2).trans ((b8.block p2 (by omega)).trans h.h2)
  · have e9 : w9.heap[p3]? = some (.cells (arrN n v) 36 (0, 0)) := (hg.block p3 (by omega) (Ne.symm n3)).trans ((b8.block p3 (by omega)).trans h.h3)
    have := heap_setCell_self (i := 6) v' e9
    simpa using this
  · have e : (L ++ [(x, vx)]).length = L.length + 1 := by simp
    unfold OwnK10 OwnF
    rw [e, cellsF_app]
    refine World.ownsRow.kept hown hg5 (Or.inr ?_)
    intro e
    exact hob' p3 (by omega) (Ne.symm n3) e.symm
  · intro p hp
    rw [List.mem_append, List.mem_singleton] at hp
    rcases hp with hp | rfl
    · refine ⟨(h.kid p hp).1, (h.kid p hp).2.kept (by omega) (fun b hlt hok => ⟨?_, hok.1, hok.2.1, hok.2.2.1, hob' b hlt hok.2.2.2⟩)⟩
      exact (hbl b (by omega) hok.2.1 (Ne.symm hok.2.2.2)).trans (b8.block b hlt)
    · refine ⟨hH, hx.kept (by omega) (fun b hlt hok => ⟨?_, by have := h.hlo.1; omega, by omega, by omega, ?_⟩)⟩
      · refine (hbl b (by omega) (by omega) (fun e => by have := (hgl _ e).2; omega)).trans (b78.block b hlt)
      · intro e
        rcases hob with e2 | e2
        · rw [e2] at e; have := (hgl _ e.symm).2; omega
        · rw [e2] at e; injection e with e; omega
  · exact Frm.grown (Frm.grown (Frm.ofBelow b8) hg (by simp)) hg5 (by simp)
abbrev CellsB10 (p1 p3 b o k : Nat) (ks : List Nd) (cap : Nat) (x : Nd) (vx v : Value) (W : World) : Prop :=
  W.cell? ⟨p3, 6, none⟩ = some v ∧ W.cell? ⟨p1, 6, none⟩ = some (.slice (some ⟨b, o, none⟩) ks.length cap) ∧ W.cell? ⟨b, o + k * 7, none⟩ = some (.int .u8 x.op) ∧ W.cell? ⟨b, o + k * 7 + 1, none⟩ = some (.int .u8 x.v.kind) ∧ W.cell? ⟨b, o + k * 7 + 2, none⟩ = some (.int .i64 x.v.num) ∧
  W.cell? ⟨b, o + k * 7 + 3, none⟩ = some (.bool x.v.tr) ∧ W.cell? ⟨b, o + k * 7 + 4, none⟩ = some (.string x.v.text) ∧ W.cell? ⟨b, o + k * 7 + 5, none⟩ = some (.string x.name) ∧ W.cell? ⟨b, o + k * 7 + 6, none⟩ = some vx
/-- What a call of back leaves. -/
def BakC (w : World) (n : Nd) (e : Ending) (w' : World) : Prop := ∃ v, e = .returned (valN n v) ∧ KidsO w' (fun b => w.heap.size ≤ b) v n.kids ∧ Below w.heap.size w w'
set_option maxHeartbeats 8000000 in
theorem back_any : ∀ (m : Nat) (n : Nd), SizeOf.sizeOf n ≤ m → cntN n ≤ 1000 → ∀ (w : World) (vk : Value), NdR w w.heap.size vk n → Calls Tryz.prog 35 #[valN n vk] w (BakC w n) := by
  intro m
  induction m with
  | zero => intro n h; cases n; simp at h
  | succ m ih =>
    intro n hz hcnt w vk hn
    obtain ⟨w1, p1, hp1, hw1, l1, n1, b1⟩ := box_new w (.cells (arrN n vk) 29)
    obtain ⟨w2, p2, hp2, hw2, l2, n2, b2⟩ := box_new w1 (.cells #[.int .u8 0, .int .u8 0, .int .i64 0, .bool false, .string ⟨#[]⟩, .string ⟨#[]⟩, .slice none 0 0] 36)
    obtain ⟨a, cap, rfl⟩ := hn.2.val
    obtain ⟨c0, c1, c2, c3, c4, c5, c6⟩ := n_cells ((b2.block p1 (by omega)).trans n1)
    obtain ⟨w3, p3, hp3, hw3, l3, n3, b3⟩ := box_new w2 (.cells (arrN n (.slice none 0 0)) 36)
    have b12 := b2.trans (b3.mono b2.size)
    have hsz1 := b1.size
    have hsz2 := b2.size
    have hsz3 := b3.size
    have hB3 := b1.trans (b12.mono b1.size)
    have HS : Hid (BakS w3 w.heap.size p1 p2 p3 (p3 + 1) n (.slice a n.kids.length cap) (.slice none 0 0) []) := Lib.hid ⟨(b12.block p1 (by omega)).trans n1, (b3.block p2 (by omega)).trans n2, n3, OwnF.nil _ _, fun p hp => by simp at hp, by omega, by omega, by omega, by omega, by omega, by omega, by omega, by omega, by omega⟩
    have HB := Lib.hid hB3
    rw [← hw3] at HS HB
    have HK := Lib.hid hn.2
    have hkl : n.kids.length ≤ 1000 := by have := cnt_len n.kids; have := cntN_is n; omega
    have IH : Hid (∀ x ∈ n.kids, ∀ (w : World) (vk : Value), NdR w w.heap.size vk x → Calls Tryz.prog 35 #[valN x vk] w (BakC w x)) := Lib.hid (fun x hx => ih x (by have := List.sizeOf_lt_of_mem hx; cases n; simp [Nd.kids] at hz this; omega) (by have := cnt_mem hx; have := cntN_is n; omega))
    obtain ⟨ks, hks⟩ : ∃ ks, n.kids = ks := ⟨_, rfl⟩
    have HKS := Lib.hid hks
    rw [hks] at HK hkl IH HS c6 hw1
    rw [hks]
    obtain ⟨i0, hti, hz0, hz1, hz2⟩ := info_parts info_node10
    have hp12 : w.heap.size ≤ p1 ∧ w.heap.size ≤ p2 ∧ w.heap.size ≤ p3 := by omega
    clear hks ih hz hn n1 n2 n3 b1 b2 b3 b12 hB3 hcnt hsz1 hsz2 hsz3 l3 hw3
    go_enter Tryz.func35, Tryz.ntmps35
    go_wp2_with fail
    go_loopg [4] ks.length (fun g s4 wr => ∃ (k : Nat) (v : Value) (L : List (Nd × Value)), k + g = ks.length ∧ s4 = .int .i64 (k : Int) ∧ L.map Prod.fst = ks.take k ∧ Hid (BakS wr w.heap.size p1 p2 p3 (p3 + 1) n (.slice a ks.length cap) v L) ∧ Hid (Below w.heap.size w wr))
    case atStart => exact ⟨0, _, [], by omega, rfl, rfl, HS, HB⟩
    case round =>
      obtain ⟨k, v, L, hkg, rfl, hLk, hG, hBw⟩ := hrel
      by_cases hi : k < ks.length
      · have u1 : decide ((k : Int) < (ks.length : Int)) = true := decide_eq_true (by omega)
        have u1' : decide (k < ks.length) = true := decide_eq_true hi
        obtain ⟨b, o, vx, rfl, hb, hw, hkk, e0, e1, e2, e3, e4, e5, e6⟩ := HK.out.at hi
        have IHx := Lib.hid (IH.out ks[k] (List.getElem_mem hi))
        have hLx := Lib.hid (show ks.take (k + 1) = ks.take k ++ [ks[k]] from by rw [List.take_add_one, List.getElem?_eq_getElem hi]; rfl)
        obtain ⟨x, hx⟩ : ∃ x, ks[k] = x := ⟨_, rfl⟩
        rw [hx] at hw hkk e0 e1 e2 e3 e4 e5 IHx hLx
        have hLl : L.length = k := by have := congrArg List.length hLk; simpa [Nat.min_eq_left (Nat.le_of_lt hi)] using this
        have HF : Hid (∀ W : World, Frm [v.ownBlock] wr W → CellsB10 p1 p3 b o k ks cap x vx v W) := Lib.hid (fun W hF => by
          have hlo := fun g e => hG.out.own.lo (g := g) e
          have hb3 := hG.out.b3
          have hb1 := hG.out.b1
          have hbb := hG.out.hb
          have k3 : W.heap[p3]? = _ := (hF.keep p3 (by omega) (fun r hr e => by simp only [List.mem_singleton] at hr; rw [hr] at e; have := (hlo _ e).1; omega)).trans hG.out.h3
          have k1 : W.heap[p1]? = _ := (hF.keep p1 (by omega) (fun r hr e => by simp only [List.mem_singleton] at hr; rw [hr] at e; have := (hlo _ e).1; omega)).trans hG.out.h1
          have kb : W.heap[b]? = w.heap[b]? := (hF.keep b (by omega) (fun r hr e => by simp only [List.mem_singleton] at hr; rw [hr] at e; have := (hlo _ e).1; omega)).trans (hBw.out.block b hb)
          exact ⟨cell_of_block k3 6, cell_of_block k1 6, (cell_of_heap kb).trans e0, (cell_of_heap kb).trans e1, (cell_of_heap kb).trans e2, (cell_of_heap kb).trans e3, (cell_of_heap kb).trans e4, (cell_of_heap kb).trans e5, (cell_of_heap kb).trans e6⟩)
        obtain ⟨av, cv, rfl⟩ : ∃ a c, v = .slice a L.length c := OwnF.shape hG.out.own
        have k1 : (0 : Int) ≤ (k : Int) := by omega
        have k2 : (k : Int) < (ks.length : Int) := by omega
        have HH := Lib.hid hw
        have HKK : Hid (∀ W, Below wr.heap.size wr W → NdR W W.heap.size vx x) := Lib.hid (fun W hW => by
          have hB := hBw.out.trans (hW.mono hBw.out.size)
          exact ⟨hw, hkk.mono hB hB.size⟩)
        have hLL := Lib.hid hLk
        have hLen := Lib.hid hLl
        have hLb : L.length ≤ 1000 := by omega
        obtain ⟨m1, m2, m3, m4, m5, m6, m7, m8, m9⟩ := HF.out wr (Frm.refl _ _)
        clear hx hw hkk e0 e1 e2 e3 e4 e5 e6 hLk hLl
        go_wp2_with fail
        refine wp_region_bar 11 (CellsB10 p1 p3 b o k ks cap x vx (.slice av L.length cv)) (by kernel_rfl) ?_
        have hHeld := HF.out wr.drew (Frm.ofBelow (Below.drew (Below.refl _ _)))
        refine wpAnyB_take [1, 9, 11] (i := 0) (v := ?vG0) rfl (by kernel_rfl) (by kernel_rfl) (by kernel_rfl) (by kernel_rfl) (by kernel_rfl) (by kernel_rfl) (fun _ _ _ h => h) (Or.inl ⟨by rfl, ?hyG0⟩) hHeld ?restG0
        case hyG0 => (intro w hSw; obtain ⟨s0, s1, s2, s3, s4, s5, s6, s7, s8⟩ := hSw; go_simp; try with_reducible rfl)
        try simp only [Act.put, List.setIfInBounds_toArray, List.set_cons_zero, List.set_cons_succ, List.getElem_toArray, List.getElem_cons_zero]
        refine wpAnyB_take [3, 5, 6, 7, 8, 9, 11] (i := 2) (v := ?vG2) rfl (by kernel_rfl) (by kernel_rfl) (by kernel_rfl) (by kernel_rfl) (by kernel_rfl) (by kernel_rfl) (fun _ _ _ h => h) (Or.inl ⟨by rfl, ?hyG2⟩) hHeld ?restG2
        case hyG2 => (intro w hSw; obtain ⟨s0, s1, s2, s3, s4, s5, s6, s7, s8⟩ := hSw; go_simp; try with_reducible rfl)
        try simp only [Act.put, List.setIfInBounds_toArray, List.set_cons_zero, List.set_cons_succ, List.getElem_toArray, List.getElem_cons_succ, List.getElem_cons_zero]
        refine wpAnyB_take [5, 6, 7, 8, 9, 11] (i := 4) (v := ?vG4) rfl (by kernel_rfl) (by kernel_rfl) (by kernel_rfl) (by kernel_rfl) (by kernel_rfl) (by kernel_rfl) (fun _ _ _ h => h) (Or.inl ⟨by rfl, ?hyG4⟩) hHeld ?restG4
        case hyG4 => (intro w hSw; obtain ⟨s0, s1, s2, s3, s4, s5, s6, s7, s8⟩ := hSw; go_simp; try with_reducible rfl)
        try simp only [Act.put, List.setIfInBounds_toArray, List.set_cons_zero, List.set_cons_succ, List.getElem_toArray, List.getElem_cons_succ, List.getElem_cons_zero]
        refine wpAnyB_take [5, 6, 7, 8, 9, 11] (i := 3) (v := ?vG3) rfl (by kernel_rfl) (by kernel_rfl) (by kernel_rfl) (by kernel_rfl) (by kernel_rfl) (by kernel_rfl) (fun _ _ _ h => h) (Or.inl ⟨by rfl, ?hyG3⟩) hHeld ?restG3
        case hyG3 => (intro w hSw; obtain ⟨s0, s1, s2, s3, s4, s5, s6, s7, s8⟩ := hSw; go_simp; try with_reducible rfl)
        try simp only [Act.put, List.setIfInBounds_toArray, List.set_cons_zero, List.set_cons_succ, List.getElem_toArray, List.getElem_cons_succ, List.getElem_cons_zero]
        refine wpAnyB_take [6, 7, 8, 9, 11] (i := 5) (v := ?vG5) rfl (by kernel_rfl) (by kernel_rfl) (by kernel_rfl) (by kernel_rfl) (by kernel_rfl) (by kernel_rfl) (fun _ _ _ h => h) (Or.inl ⟨by rfl, ?hyG5⟩) hHeld ?restG5
        case hyG5 => (intro w hSw; obtain ⟨s0, s1, s2, s3, s4, s5, s6, s7, s8⟩ := hSw; go_simp; try with_reducible rfl)
        try simp only [Act.put, List.setIfInBounds_toArray, List.set_cons_zero, List.set_cons_succ, List.getElem_toArray, List.getElem_cons_succ, List.getElem_cons_zero]
        refine wpAnyB_take [7, 8, 9, 11] (i := 6) (v := ?vG6) rfl (by kernel_rfl) (by kernel_rfl) (by kernel_rfl) (by kernel_rfl) (by kernel_rfl) (by kernel_rfl) (fun _ _ _ h => h) (Or.inl ⟨by rfl, ?hyG6⟩) hHeld ?restG6
        case hyG6 => (intro w hSw; obtain ⟨s0, s1, s2, s3, s4, s5, s6, s7, s8⟩ := hSw; go_simp; try with_reducible rfl)
        try simp only [Act.put, List.setIfInBounds_toArray, List.set_cons_zero, List.set_cons_succ, List.getElem_toArray, List.getElem_cons_succ, List.getElem_cons_zero]
        refine wpAnyB_take [9, 11] (i := 1) (v := ?vG1) rfl (by kernel_rfl) (by kernel_rfl) (by kernel_rfl) (by kernel_rfl) (by kernel_rfl) (by kernel_rfl) (fun _ _ _ h => h) (Or.inl ⟨by rfl, ?hyG1⟩) hHeld ?restG1
        case hyG1 => (intro w hSw; obtain ⟨s0, s1, s2, s3, s4, s5, s6, s7, s8⟩ := hSw; go_simp; try with_reducible rfl)
        try simp only [Act.put, List.setIfInBounds_toArray, List.set_cons_zero, List.set_cons_succ, List.getElem_toArray, List.getElem_cons_succ, List.getElem_cons_zero]
        refine wpAnyB_ready (i := 7) (by kernel_rfl) rfl (fun K hK => ?_)
        try simp only [List.getElem_toArray, List.getElem_cons_succ, List.getElem_cons_zero]
        go_simp
        go_at_call 35; refine (IHx.out _ _ (HKK.out _ (Below.drew (Below.refl _ _)))).mono ?_; rintro e w7 ⟨vy, rfl, hk7, hb7⟩
        have hb7' : Below wr.heap.size wr w7 := (Below.drew (Below.refl _ _)).trans hb7
        have hHeld := HF.out w7 (Frm.ofBelow hb7')
        obtain ⟨ay, cy, rfl⟩ := hk7.val
        refine hK.out _ _ (fun _ => hHeld) ?hRG7
        case' hRG7 => clear hK K
        try simp only [Act.put, List.setIfInBounds_toArray, List.set_cons_zero, List.set_cons_succ, List.getElem_toArray, List.getElem_cons_succ, List.getElem_cons_zero]
        refine wpAnyB_ready (i := 8) (by kernel_rfl) rfl (fun K hK => ?_)
        try simp only [List.getElem_toArray, List.getElem_cons_succ, List.getElem_cons_zero]
        go_simp
        have hb8 : Below wr.heap.size wr (w7.alloc (.cells (cellN x (.slice ay x.kids.length cy)).toArray 36)) := hb7'.alloc hb7'.size _
        have hHeld := HF.out _ (Frm.ofBelow hb8)
        refine hK.out _ _ (fun _ => hHeld) ?hRG8
        case' hRG8 => clear hK K
        try simp only [Act.put, List.setIfInBounds_toArray, List.set_cons_zero, List.set_cons_succ, List.getElem_toArray, List.getElem_cons_succ, List.getElem_cons_zero]
        refine wpAnyB_ready (i := 9) (by kernel_rfl) rfl (fun K hK => ?_)
        have hown8 := OwnF.kept hG.out.own hb8
        have hbase8 : p3 + 1 ≤ (w7.alloc (.cells (cellN x (.slice ay x.kids.length cy)).toArray 36)).heap.size := by have := hG.out.hb; have := hb8.size; omega
        refine step_append_own _ (by rfl) (.tmp 20) (.tmp 27) 34 (by rfl) (p3 + 1) 36 i0 _ 7 88 Tryz.underlying34 hti hz0 hz1 hz2 rfl (by decide) (.slice av L.length cv) L.length (cellsF cP L) (by rfl) hown8 _ 1 1 (cellN x (.slice ay x.kids.length cy)) (by rfl) rfl (cells_new _ _ _) (objN_one x (.slice ay x.kids.length cy) rfl) (by unfold maxLen; omega) (by omega) hbase8 ?_
        intro v9 w9 hown9 hg9 hob9
        have hHeld := HF.out w9 (Frm.grown (Frm.ofBelow hb8) hg9 (by simp))
        obtain ⟨a9, c9, rfl⟩ : ∃ a c, v9 = .slice a (L.length + 1) c := by
          rcases hown9.2 with ⟨rfl, h0⟩ | ⟨g, cap, cur, rfl, _⟩
          · omega
          · exact ⟨_, _, rfl⟩
        have hst := hG.out.step hb7' HH.out hk7 hown9 hg9 hob9
        have fr9 : w9.frozen? ⟨p3, 6, none⟩ = false := free_of_block ((hg9.block p3 (Nat.lt_of_lt_of_le (by have := hG.out.b3; have := hG.out.hb; omega : p3 < wr.heap.size) hb8.size) (fun e => by have := (hG.out.own.lo e.symm).1; omega)).trans ((hb8.block p3 (by have := hG.out.b3; have := hG.out.hb; omega)).trans hG.out.h3)) 6
        have HST := Lib.hid hst
        clear hst hown9 hg9 hob9
        refine hK.out _ _ (fun _ => hHeld) ?hRG9
        case' hRG9 => clear hK K
        try simp only [Act.put, List.setIfInBounds_toArray, List.set_cons_zero, List.set_cons_succ, List.getElem_toArray, List.getElem_cons_succ, List.getElem_cons_zero]
        refine wpAnyB_take [11] (i := 10) (v := ?vG10) rfl (by kernel_rfl) (by kernel_rfl) (by kernel_rfl) (by kernel_rfl) (by kernel_rfl) (by kernel_rfl) (fun _ _ _ h => h) (Or.inl ⟨by rfl, ?hyG10⟩) hHeld ?restG10
        case hyG10 => (intro w hSw; obtain ⟨s0, s1, s2, s3, s4, s5, s6, s7, s8⟩ := hSw; go_simp; try with_reducible rfl)
        try simp only [Act.put, List.setIfInBounds_toArray, List.set_cons_zero, List.set_cons_succ, List.getElem_toArray, List.getElem_cons_succ, List.getElem_cons_zero]
        refine wpAnyB_ready (i := 11) (by kernel_rfl) rfl (fun K hK => ?_)
        try simp only [List.getElem_toArray, List.getElem_cons_succ, List.getElem_cons_zero]
        go_simp
        obtain ⟨s0, s1, s2, s3, s4, s5, s6, s7, s8⟩ := hHeld
        try go_simp
        refine hK.out _ _ (fun hbar => by cases hbar) ?hRG11
        case' hRG11 => clear hK K
        try simp only [Act.put, List.setIfInBounds_toArray, List.set_cons_zero, List.set_cons_succ, List.getElem_toArray, List.getElem_cons_succ, List.getElem_cons_zero]
        refine wpAnyB_done (by kernel_rfl) ?_ _
        go_wp2_with fail
        go_roundg (gk - 1)
        case measure => omega
        case rel =>
          refine ⟨k + 1, _, L ++ [(x, .slice ay x.kids.length cy)], by omega, by go_num, by rw [List.map_append, hLL.out, hLx.out]; rfl, Lib.hid HST.out.1, Lib.hid ?_⟩
          exact hBw.out.trans (HST.out.2.toBelow hBw.out.size (fun r hr j e => by
            simp only [List.mem_cons, List.not_mem_nil, or_false] at hr
            rcases hr with rfl | rfl
            · injection e with e; omega
            · have := (hG.out.own.lo e).1; omega))
      · have u1 : decide ((k : Int) < (ks.length : Int)) = false := decide_eq_false (by omega)
        have u1' : decide (k < ks.length) = false := decide_eq_false hi
        have hLL : L.map Prod.fst = ks := by rw [hLk, List.take_of_length_le (by omega)]
        have hLl : L.length ≤ 1000 := by have := congrArg List.length hLL; simp at this; omega
        obtain ⟨av, cv, rfl⟩ : ∃ a c, v = .slice a L.length c := OwnF.shape hG.out.own
        obtain ⟨d0, d1, d2, d3, d4, d5, d6⟩ := n_cells hG.out.h3
        have f2 : ∀ j, wr.frozen? ⟨p2, j, none⟩ = false := free_of_block hG.out.h2
        obtain ⟨z0, z1, z2, z3, z4, z5, z6⟩ : wr.cell? ⟨p2, 0, none⟩ = some (.int .u8 0) ∧ wr.cell? ⟨p2, 1, none⟩ = some (.int .u8 0) ∧ wr.cell? ⟨p2, 2, none⟩ = some (.int .i64 0) ∧ wr.cell? ⟨p2, 3, none⟩ = some (.bool false) ∧ wr.cell? ⟨p2, 4, none⟩ = some (.string ⟨#[]⟩) ∧ wr.cell? ⟨p2, 5, none⟩ = some (.string ⟨#[]⟩) ∧ wr.cell? ⟨p2, 6, none⟩ = some (.slice none 0 0) :=
          ⟨cell_of_block hG.out.h2 0, cell_of_block hG.out.h2 1, cell_of_block hG.out.h2 2, cell_of_block hG.out.h2 3, cell_of_block hG.out.h2 4, cell_of_block hG.out.h2 5, cell_of_block hG.out.h2 6⟩
        have e16 : wr.cell? ⟨p1, 6, none⟩ = some (.slice a ks.length cap) := cell_of_block hG.out.h1 6
        have HLL := Lib.hid hLL
        clear hLL hLk
        go_wp2_with fail
        have hb9 := set7_is10 hG.out.h2 (.int .u8 n.op) (.int .u8 n.v.kind) (.int .i64 n.v.num) (.bool n.v.tr) (.string n.v.text) (.string n.name) (.slice av L.length cv)
        have hF9 := set7_frm wr p2 (.int .u8 n.op) (.int .u8 n.v.kind) (.int .i64 n.v.num) (.bool n.v.tr) (.string n.v.text) (.string n.name) (.slice av L.length cv)
        obtain ⟨W9, hW9⟩ : ∃ W9, ((((((wr.setCell ⟨p2, 0, none⟩ (.int .u8 n.op)).setCell ⟨p2, 1, none⟩ (.int .u8 n.v.kind)).setCell ⟨p2, 2, none⟩ (.int .i64 n.v.num)).setCell ⟨p2, 3, none⟩ (.bool n.v.tr)).setCell ⟨p2, 4, none⟩ (.string n.v.text)).setCell ⟨p2, 5, none⟩ (.string n.name)).setCell ⟨p2, 6, none⟩ (.slice av L.length cv) = W9 := ⟨_, rfl⟩
        have hb9' : W9.heap[p2]? = some (.cells (arrN n (.slice av L.length cv)) 36 (0, 0)) := by rw [← hW9]; exact hb9
        have hF9' : Frm [some p2] wr W9 := by rw [← hW9]; exact hF9
        rw [hW9]
        obtain ⟨y0, y1, y2, y3, y4, y5, y6⟩ := n_cells hb9'
        refine bodyPost_ret (v := valN n (.slice av L.length cv)) (by simp [results, Tryz.results35, go_sem, y0, y1, y2, y3, y4, y5, y6]) rfl ?_
        have hKo := own_kids10 hG.out.own (by omega) (ok := fun b => w.heap.size ≤ b ∧ b ≠ p3 ∧ b ≠ p2) (fun g e => by have := (hG.out.own.lo e).1; have := hG.out.b2; have := hG.out.b3; exact ⟨by omega, by omega, by omega⟩) (fun p hp => ⟨(hG.out.kid p hp).1, (hG.out.kid p hp).2.kept (Nat.le_refl _) (fun b hlt hok => ⟨rfl, hok.1, hok.2.1, hok.2.2.1⟩)⟩)
        rw [HLL.out] at hKo
        refine ⟨_, rfl, ?_, ?_⟩
        · rw [HKS.out]
          exact hKo.kept hF9'.size (fun b hlt hok => ⟨hF9'.keep b hlt (fun r hr e => by simp only [List.mem_singleton] at hr; rw [hr] at e; injection e with e; exact hok.2.2 e.symm), hok.1⟩)
        · exact hBw.out.trans (hF9'.toBelow hBw.out.size (fun r hr j e => by simp only [List.mem_singleton] at hr; rw [hr] at e; injection e with e; omega))
end Go.Proofs.YtbephgifbghilaaGreatDoor
/- The document's Same of two nodes (seat expr). -/
set_option maxRecDepth 100000
namespace Go.Proofs.YtbephgifbghilaaGreatDoor
open Go.RowKit
def RSame (m : Nat) : Prop := ∀ (a : Nd), SizeOf.sizeOf a ≤ m → ∀ (b : Nd) (w : World) (va vb : Value), KidsR w w.heap.size va a.kids → KidsR w w.heap.size vb b.kids →
  Calls Tryz.prog 33 #[valN a va, valN b vb] w fun e w' => e = .returned (.bool (sameN a b)) ∧ Below w.heap.size w w'
/-- What the loop's comparison reads. -/
abbrev SamS (p0 p1 ba oa bb ob ia ib : Nat) (la lb ca cb : Nat) (x y : Nd) (vx vy : Value) (W : World) : Prop :=
  W.cell? ⟨p0, 6, none⟩ = some (.slice (some ⟨ba, oa, none⟩) la ca) ∧ W.cell? ⟨p1, 6, none⟩ = some (.slice (some ⟨bb, ob, none⟩) lb cb) ∧
  W.cell? ⟨ba, oa + ia * 7, none⟩ = some (.int .u8 x.op) ∧ W.cell? ⟨ba, oa + ia * 7 + 1, none⟩ = some (.int .u8 x.v.kind) ∧ W.cell? ⟨ba, oa + ia * 7 + 2, none⟩ = some (.int .i64 x.v.num) ∧ W.cell? ⟨ba, oa + ia * 7 + 3, none⟩ = some (.bool x.v.tr) ∧ W.cell? ⟨ba, oa + ia * 7 + 4, none⟩ = some (.string x.v.text) ∧ W.cell? ⟨ba, oa + ia * 7 + 5, none⟩ = some (.string x.name) ∧ W.cell? ⟨ba, oa + ia * 7 + 6, none⟩ = some vx ∧
  W.cell? ⟨bb, ob + ib * 7, none⟩ = some (.int .u8 y.op) ∧ W.cell? ⟨bb, ob + ib * 7 + 1, none⟩ = some (.int .u8 y.v.kind) ∧ W.cell? ⟨bb, ob + ib * 7 + 2, none⟩ = some (.int .i64 y.v.num) ∧ W.cell? ⟨bb, ob + ib * 7 + 3, none⟩ = some (.bool y.v.tr) ∧ W.cell? ⟨bb, ob + ib * 7 + 4, none⟩ = some (.string y.v.text) ∧ W.cell? ⟨bb, ob + ib * 7 + 5, none⟩ = some (.string y.name) ∧ W.cell? ⟨bb, ob + ib * 7 + 6, none⟩ = some vy
set_option maxHeartbeats 8000000 in
theorem rsame_step {m : Nat} (IH : RSame m) : RSame (m + 1) := by
  intro a hz b w va vb ha hb
  obtain ⟨w0, p0, hp0, hw0, l0, n0, b0⟩ := box_new w (.cells #[.int .u8 a.op, .int .u8 a.v.kind, .int .i64 a.v.num, .bool a.v.tr, .string a.v.text, .string a.name, va] 36)
  obtain ⟨w1, p1, hp1, hw1, l1, n1, b1⟩ := box_new w0 (.cells #[.int .u8 b.op, .int .u8 b.v.kind, .int .i64 b.v.num, .bool b.v.tr, .string b.v.text, .string b.name, vb] 36)
  have n01 := (b1.block p0 (by omega)).trans n0
  obtain ⟨c0, c1, c2, c3, c4, c5, c6⟩ := n_cells n01
  obtain ⟨e0, e1, e2, e3, e4, e5, e6⟩ := n_cells n1
  have hB := b0.trans (b1.mono b0.size)
  have HB := Lib.hid hB
  have HA := Lib.hid ha
  have HBK := Lib.hid hb
  have HI := Lib.hid (fun x (hx : x ∈ a.kids) => IH x (by have := List.sizeOf_lt_of_mem hx; cases a; simp [Nd.kids] at hz this ⊢; omega))
  have HC := Lib.hid (fun (V : World) (h : Below w1.heap.size w1 V) => And.intro ((cell_of_block ((h.block p0 (by have := b1.size; omega)).trans n01) 6).trans (show _ = some va from rfl)) ((cell_of_block ((h.block p1 l1).trans n1) 6).trans (show _ = some vb from rfl)))
  have HS := Lib.hid (sameN_is a b)
  have hlen := sameL_len a.kids b.kids
  have hla := ha.len
  have hlb := hb.len
  obtain ⟨aa, ca, rfl⟩ := ha.val
  obtain ⟨ab, cb, rfl⟩ := hb.val
  obtain ⟨s, hs⟩ : ∃ s, sameN a b = s := ⟨_, rfl⟩
  obtain ⟨t, ht⟩ : ∃ t, sameL a.kids b.kids = t := ⟨_, rfl⟩
  have HT0 : Hid (sameL (a.kids.drop 0) (b.kids.drop 0) = t) := Lib.hid ht
  rw [hs]
  rw [hs, ht] at HS
  rw [ht] at hlen
  have HLN := Lib.hid hlen
  clear n0 b0 n1 b1 n01 ha hb hs ht hz IH hB hlen
  have hq := fun w => run_neq_val w a.v b.v
  cases h1 : (a.op == b.op) with
  | false =>
    have Hf : Hid (false = s) := by rw [HS.out, h1, Bool.false_and]; exact rfl
    have g1 : (a.op != b.op) = true := by rw [bne, h1]; rfl
    go_enter Tryz.func33, Tryz.ntmps33
    go_wp2_with fail
    go_ret
    exact ⟨ret_bool Hf.out, HB.out⟩
  | true =>
    have g1 : (a.op != b.op) = false := by rw [bne, h1]; rfl
    cases h2 : vlEq a.v b.v with
    | false =>
      have Hf : Hid (false = s) := by rw [HS.out, h1, h2, Bool.true_and, Bool.false_and]; exact rfl
      simp only [h2, Bool.not_false] at hq
      clear h2
      go_enter Tryz.func33, Tryz.ntmps33
      go_wp2_with fail
      go_ret
      exact ⟨ret_bool Hf.out, HB.out⟩
    | true =>
      cases h3 : (a.name.toList == b.name.toList) with
      | false =>
        have Hf : Hid (false = s) := by rw [HS.out, h1, h2, h3, Bool.true_and, Bool.true_and, Bool.false_and]; exact rfl
        simp only [h2, Bool.not_true] at hq
        clear h2
        go_enter Tryz.func33, Tryz.ntmps33
        go_wp2_with fail
        go_ret
        exact ⟨ret_bool Hf.out, HB.out⟩
      | true =>
        have Hf : Hid (t = s) := by rw [HS.out, h1, h2, h3, Bool.true_and, Bool.true_and, Bool.true_and]; exact rfl
        simp only [h2, Bool.not_true] at hq
        clear h2
        obtain ⟨ka, hka⟩ : ∃ ka, a.kids = ka := ⟨_, rfl⟩
        obtain ⟨kb, hkb⟩ : ∃ kb, b.kids = kb := ⟨_, rfl⟩
        rw [hka] at HA HI HC HT0 HLN hla c6 hw0 ⊢
        rw [hkb] at HBK HC HT0 HLN hlb e6 hw1 ⊢
        clear hka hkb
        by_cases hl : ka.length = kb.length
        · have g4 : ((ka.length : Int) != (kb.length : Int)) = false := by rw [bne_eq_false_iff_eq]; omega
          have HL := Lib.hid hl
          clear hl
          go_enter Tryz.func33, Tryz.ntmps33
          go_wp2_with fail
          go_loopg [5] ka.length (fun g s5 wr => ∃ k : Nat, k + g = ka.length ∧ s5 = .int .i64 (k : Int) ∧ Hid (sameL (ka.drop k) (kb.drop k) = t) ∧ Hid (Below w1.heap.size w1 wr))
          case atStart => exact ⟨0, by omega, rfl, HT0, Lib.hid (Below.refl _ _)⟩
          case round =>
            obtain ⟨k, hkg, rfl, hT, hBr⟩ := hrel
            obtain ⟨c6, e6⟩ := HC.out _ hBr.out
            by_cases hk : k < ka.length
            · have d1 : decide ((k : Int) < (ka.length : Int)) = true := decide_eq_true (by omega)
              have d1' : decide (k < ka.length) = true := decide_eq_true hk
              have hkb : k < kb.length := by have := HL.out; omega
              have hBw := HB.out.trans (hBr.out.mono HB.out.size)
              obtain ⟨ba, oa, vx, rfl, hba, hwx, hkx, x0, x1, x2, x3, x4, x5, x6⟩ := HA.out.at hk
              obtain ⟨bb, ob, vy, rfl, hbb, hwy, hky, y0, y1, y2, y3, y4, y5, y6⟩ := HBK.out.at hkb
              have hdr := sameL_drop (a := ka) (b := kb) (k := k) hk hkb
              have hmem := List.getElem_mem hk
              obtain ⟨x, hx⟩ : ∃ x, ka[k] = x := ⟨_, rfl⟩
              obtain ⟨y, hy⟩ : ∃ y, kb[k] = y := ⟨_, rfl⟩
              rw [hx] at x0 x1 x2 x3 x4 x5 hkx hdr hmem
              rw [hy] at y0 y1 y2 y3 y4 y5 hky hdr
              have HSS := Lib.hid (show ∀ W, Below w1.heap.size w1 W → SamS p0 p1 ba oa bb ob k k ka.length kb.length ca cb x y vx vy W from fun W hW => by
                have h := HB.out.trans (hW.mono HB.out.size)
                exact ⟨(HC.out W hW).1, (HC.out W hW).2, (Below.cellB h hba).trans x0, (Below.cellB h hba).trans x1, (Below.cellB h hba).trans x2, (Below.cellB h hba).trans x3, (Below.cellB h hba).trans x4, (Below.cellB h hba).trans x5, (Below.cellB h hba).trans x6, (Below.cellB h hbb).trans y0, (Below.cellB h hbb).trans y1, (Below.cellB h hbb).trans y2, (Below.cellB h hbb).trans y3, (Below.cellB h hbb).trans y4, (Below.cellB h hbb).trans y5, (Below.cellB h hbb).trans y6⟩)
              have HX := Lib.hid (fun (W : World) (hW : Below w1.heap.size w1 W) => HI.out x hmem y W vx vy (hkx.mono (HB.out.trans (hW.mono HB.out.size)) (HB.out.trans (hW.mono HB.out.size)).size) (hky.mono (HB.out.trans (hW.mono HB.out.size)) (HB.out.trans (hW.mono HB.out.size)).size))
              have HD := Lib.hid (hdr.symm.trans hT.out)
              obtain ⟨r, hr⟩ : ∃ r, sameN x y = r := ⟨_, rfl⟩
              rw [hr] at HX HD
              have k1 : (0 : Int) ≤ (k : Int) := by omega
              have k2 : (k : Int) < (ka.length : Int) := by omega
              have k3 : (k : Int) < (kb.length : Int) := by omega
              obtain ⟨ax, cx, rfl⟩ := hkx.val
              obtain ⟨ay, cy, rfl⟩ := hky.val
              have cur : Below w1.heap.size w1 wr.drew := hBr.out.drew
              clear hx hy hr hdr hT hwx hwy hkx hky hmem hBw x0 x1 x2 x3 x4 x5 x6 y0 y1 y2 y3 y4 y5 y6
              go_wp2_with fail
              go_region_held3 (SamS p0 p1 ba oa bb ob k k ka.length kb.length ca cb x y (.slice ax x.kids.length cx) (.slice ay y.kids.length cy)) (first | exact HSS.out _ hBr.out.drew | exact HSS.out _ cur | go_keep) (first | (go_at_call 33; refine (HX.out _ hBr.out.drew).mono ?_; rintro e wz ⟨rfl, hbz⟩; have cur := cur.trans (hbz.mono cur.size)))
              cases r with
              | true =>
                have HD2 : Hid (sameL (ka.drop (k + 1)) (kb.drop (k + 1)) = t) := Lib.hid (by have := HD.out; rw [Bool.true_and] at this; exact this)
                have HC2 := Lib.hid cur
                clear HD cur
                go_wp2_with fail
                go_roundg (gk - 1)
                case measure => omega
                case rel => exact ⟨k + 1, by omega, by go_num, HD2, HC2⟩
              | false =>
                have HD2 : Hid (false = s) := Lib.hid (by have := HD.out; rw [Bool.false_and] at this; exact this.trans Hf.out)
                have HC2 := Lib.hid cur
                clear HD cur
                go_wp2_with fail
                go_ret
                exact ⟨ret_bool HD2.out, HB.out.trans (HC2.out.mono HB.out.size)⟩
            · have d1 : decide ((k : Int) < (ka.length : Int)) = false := decide_eq_false (by omega)
              have d1' : decide (k < ka.length) = false := decide_eq_false hk
              have Hg : Hid (true = s) := by rw [← Hf.out, ← hT.out, sameL_end (by omega) (by have := HL.out; omega)]; exact rfl
              go_wp2_with fail
              go_ret
              exact ⟨ret_bool Hg.out, HB.out.trans (hBr.out.mono HB.out.size)⟩
        · have g4 : ((ka.length : Int) != (kb.length : Int)) = true := by rw [bne_iff_ne]; omega
          have Hg : Hid (false = s) := by rw [← Hf.out, HLN.out hl]; exact rfl
          clear hl
          go_enter Tryz.func33, Tryz.ntmps33
          go_wp2_with fail
          go_ret
          exact ⟨ret_bool Hg.out, HB.out⟩
theorem rsame_any (w : World) (a b : Nd) (va vb : Value) (ha : NdR w w.heap.size va a) (hb : NdR w w.heap.size vb b) :
    Calls Tryz.prog 33 #[valN a va, valN b vb] w fun e w' => e = .returned (.bool (sameN a b)) ∧ Below w.heap.size w w' := by
  have : ∀ m, RSame m := by
    intro m
    induction m with
    | zero => intro a h; cases a; simp at h
    | succ m ih => exact rsame_step ih
  exact this (SizeOf.sizeOf a) a (Nat.le_refl _) b w va vb ha.2 hb.2
end Go.Proofs.YtbephgifbghilaaGreatDoor
/- ExprAsks: two nodes made side by side (seat expr): what the region that makes them needs. -/
set_option maxRecDepth 100000
namespace Go.Proofs.YtbephgifbghilaaGreatDoor
open Go.RowKit Go.Sort
/-- The two nodes as the program has them, in boxes. -/
structure XY (w wz : World) (n m : Nd) (p7 p8 : Nat) (vx vy : Value) : Prop where
  h7 : wz.heap[p7]? = some (.cells (arrN n vx) 29 (0, 0))
  h8 : wz.heap[p8]? = some (.cells (arrN m vy) 29 (0, 0))
  x : NdR wz wz.heap.size vx n
  y : NdR wz wz.heap.size vy m
  b : Below w.heap.size w wz
abbrev zObj : Obj := .cells #[.int .u8 0, .int .u8 0, .int .i64 0, .bool false, .string ⟨#[]⟩, .string ⟨#[]⟩, .slice none 0 0] 29 (0, 0)
theorem up0 {V w' : World} {q : Nat} {o : Obj} (h : V.heap[q]? = some o) (hb : Below V.heap.size V w') : w'.heap[q]? = some o := (hb.block _ (lt_of_block h)).trans h
theorem upG {V w' : World} {q r : Nat} {o : Obj} (hg : V.grownBy w' (some r)) (h : V.heap[q]? = some o) (hne : q ≠ r) : w'.heap[q]? = some o := (hg.block q (lt_of_block h) (fun e => hne (Option.some.inj e))).trans h
theorem info_size_node : (Tryz.prog.info? 29).map (·.size) = some 7 := by kernel_rfl
/-- A node stored into a new variable, at a step of a drawn region. -/
theorem step_store7 (w : World) {ops : Array Oper} {T : Array Value} {o : Oper} {a : Act} {K : Act → World → Prop} {Q : Exit → Act → World → Prop} {E : Prop} (hgd : o.guard = none) (x y : Operand) (ho : o.op = .store 29 x y) (n : Nd) (vk : Value) (hv : vk.oneCell' = true) (g : Nat)
    (hx : a.eval x = .pointer (some ⟨g, 0, none⟩)) (hy : a.eval y = valN n vk) (hg : w.heap[g]? = some zObj)
    (h : ∀ w', w'.heap[g]? = some (.cells (arrN n vk) 29 (0, 0)) → w.grownBy w' (some g) → K (a.put o.dst undef) w') :
    if Region.wanted o (yielded ops T) = true then Oper.wp Tryz.prog o a w K Q else E := by
  have hw : Region.wanted o (yielded ops T) = true := by simp [Region.wanted, hgd]
  rw [if_pos hw]
  refine wp_store_row 29 x y ho g (arrN n vk) hx hy 29 _ hg info_size_node rfl ?_ ?_
  · rw [Array.all_eq_true_iff_forall_mem]
    intro u hu
    exact objN_one n vk hv u (by simpa [cellN] using hu)
  · refine h _ (setRow_heap w g _ _ _ _ hg) ⟨rfl, rfl, rfl, by simp, fun k _ hk => setRow_other w g k _ (fun e => hk (by rw [e]))⟩
theorem xy_of {w V w7 w8 : World} {n m : Nd} {q7 q8 : Nat} {vx vy : Value} {okX okY : Nat → Prop} (cur : Below w.heap.size w V) (hHn : HeadW n) (hHm : HeadW m) (hX : KidsO V okX vx n.kids) (hY : KidsO V okY vy m.kids)
    (h7 : w7.heap[q7]? = some (.cells (arrN n vx) 29 (0, 0))) (g7 : V.grownBy w7 (some q7)) (h8 : w8.heap[q8]? = some (.cells (arrN m vy) 29 (0, 0))) (g8 : w7.grownBy w8 (some q8))
    (hne : q7 ≠ q8) (nX : ∀ b, okX b → b ≠ q7 ∧ b ≠ q8) (nY : ∀ b, okY b → b ≠ q7 ∧ b ≠ q8) (l7 : w.heap.size ≤ q7) (l8 : w.heap.size ≤ q8) : XY w w8 n m q7 q8 vx vy := by
  have hz : V.heap.size ≤ w8.heap.size := Nat.le_trans g7.size g8.size
  have hk : ∀ b, b < V.heap.size → b ≠ q7 ∧ b ≠ q8 → w8.heap[b]? = V.heap[b]? := fun b hb h =>
    (g8.block b (Nat.lt_of_lt_of_le hb g7.size) (fun e => h.2 (Option.some.inj e))).trans (g7.block b hb (fun e => h.1 (Option.some.inj e)))
  refine ⟨upG g8 h7 hne, h8, ⟨hHn, (hX.kept (ok' := fun _ => True) hz (fun b hb hok => ⟨hk b hb (nX b hok), trivial⟩)).kids⟩, ⟨hHm, (hY.kept (ok' := fun _ => True) hz (fun b hb hok => ⟨hk b hb (nY b hok), trivial⟩)).kids⟩, ?_⟩
  exact (cur.grown g7 cur.size (fun k hk => by cases hk; exact l7)).grown g8 (Nat.le_trans cur.size g7.size) (fun k hk => by cases hk; exact l8)
theorem own_cS {w : World} {base : Nat} {v : Value} {L : List (List UInt8)} (h : w.ownsRow base 9 1 v L.length (L.map encStr)) : OwnZ w base v L := by
  have e : ∀ L : List (List UInt8), cellsF cS L = L.map encStr := fun L => by
    induction L with
    | nil => rfl
    | cons x r ih => show cS x ++ cellsF cS r = _; rw [ih]; rfl
  unfold OwnZ OwnF
  rw [e]
  exact h
/-- Three rows of names, the first apart from the others. -/
structure Tri (w0 w : World) (v1 v2 v3 : Value) (A B C : List (List UInt8)) : Prop where
  a : OwnZ w w0.heap.size v1 A
  b : OwnZ w w0.heap.size v2 B
  c : OwnZ w w0.heap.size v3 C
  n2 : ∀ g, v1.ownBlock = some g → v2.ownBlock ≠ some g
  n3 : ∀ g, v1.ownBlock = some g → v3.ownBlock ≠ some g
theorem ownZ_down {w : World} {base base' : Nat} {v : Value} {L : List (List UInt8)} (h : OwnZ w base v L) (hb : base' ≤ base) : OwnZ w base' v L := by
  refine ⟨h.1, ?_⟩
  rcases h.2 with h2 | ⟨g, cap, cur, e0, h3, hr⟩
  · exact .inl h2
  · exact .inr ⟨g, cap, cur, e0, Nat.le_trans hb h3, hr⟩
theorem tri_of {w0 wA wB wC : World} {vA vB vC : Value} {A B C : List (List UInt8)} {W : Nat} (h0 : w0.heap.size ≤ W) (hA : OwnZ wA W vA A) (hB : OwnZ wB wA.heap.size vB B) (hC : OwnZ wC wB.heap.size vC C) (hAB : Below wA.heap.size wA wB) (hBC : Below wB.heap.size wB wC) (hWA : W ≤ wA.heap.size) : Tri w0 wC vA vB vC A B C := by
  have hA2 := OwnF.kept (OwnF.kept hA hAB) hBC
  have s1 := hAB.size
  have s2 := hBC.size
  refine ⟨ownZ_down hA2 h0, ownZ_down (OwnF.kept hB hBC) (by omega), ownZ_down hC (by omega), fun g e e2 => ?_, fun g e e2 => ?_⟩
  · have h1 := (own_lt hA e).2
    have h2 := (own_lt hB e2).1
    omega
  · have h1 := (own_lt hA e).2
    have h2 := (own_lt hC e2).1
    omega
theorem Tri.kept {w0 w w' : World} {v1 v2 v3 : Value} {A B C : List (List UInt8)} (h : Tri w0 w v1 v2 v3 A B C) (hb : Below w.heap.size w w') : Tri w0 w' v1 v2 v3 A B C := ⟨OwnF.kept h.a hb, OwnF.kept h.b hb, OwnF.kept h.c hb, h.n2, h.n3⟩
theorem row_grown {w w' : World} {base : Nat} {v : Value} {L : List (List UInt8)} (h : OwnZ w base v L) {g : Nat} (hg : w.grownBy w' (some g)) (hne : v.ownBlock ≠ some g) : OwnZ w' base v L := World.ownsRow.kept h hg (.inr hne)
/-- The first row written over at a place. -/
theorem Tri.store {w0 w : World} {v2 v3 : Value} {A B C : List (List UInt8)} {g1 n1 c1 : Nat} (h : Tri w0 w (.slice (some ⟨g1, 0, none⟩) n1 c1) v2 v3 A B C) {i : Nat} (hi : i < A.length) (x : List UInt8) :
    Tri w0 (w.setCell ⟨g1, i, none⟩ (.string ⟨x.toArray⟩)) (.slice (some ⟨g1, 0, none⟩) n1 c1) v2 v3 (A.set i x) B C ∧ w.grownBy (w.setCell ⟨g1, i, none⟩ (.string ⟨x.toArray⟩)) (some g1) := by
  obtain ⟨h1, h2⟩ := ownK_set cS_len h.a hi x
  have e : w.setCells g1 (i * 1) (cS x) = w.setCell ⟨g1, i, none⟩ (.string ⟨x.toArray⟩) := by rw [Nat.mul_one]; rfl
  rw [e] at h1 h2
  exact ⟨⟨h1, row_grown h.b h2 (h.n2 g1 rfl), row_grown h.c h2 (h.n3 g1 rfl), h.n2, h.n3⟩, h2⟩
theorem z_at {w : World} {base : Nat} {g n c : Nat} {L : List (List UInt8)} (h : OwnZ w base (.slice (some ⟨g, 0, none⟩) n c) L) {i : Nat} (hi : i < L.length) : w.cell? ⟨g, i, none⟩ = some (.string ⟨L[i].toArray⟩) := by
  have := OwnF.at cS_len h (i := i) hi (j := 0) (by omega)
  simpa [cS] using this
/-- From a place on, two rows are the same. -/
def AgreeF (i : Nat) (A L : List (List UInt8)) : Prop := ∀ j, i ≤ j → A[j]? = L[j]?
theorem AgreeF.set {i : Nat} {A L : List (List UInt8)} (h : AgreeF i A L) (x : List UInt8) : AgreeF (i + 1) (A.set i x) L := fun j hj => by
  rw [List.getElem?_set_ne (by omega)]
  exact h j (by omega)
theorem run_neq_bd (w : World) (a : Bd) : (binOp .neq 55 (valBd a) (valBd a)).run Tryz.prog w = .ok (.bool false) w := by
  have h : (Op.equalIn 10000 55 (valBd a) (valBd a)).run Tryz.prog w = .ok true w := by
    rw [show (10000 : Nat) = 9999 + 1 from rfl, run_equalIn_struct w 9999 55 _ _ (by kernel_rfl) (by kernel_rfl)]
    simp [go_sem, Op.eqFields]
  rw [run_neq_struct, h]; rfl
end Go.Proofs.YtbephgifbghilaaGreatDoor
/- The law ExprAsks: Check, Type, Names, Print, Same are as the document's (the walk). -/
set_option maxRecDepth 100000
namespace Go.Proofs.YtbephgifbghilaaGreatDoor
open Go.RowKit
set_option maxHeartbeats 8000000 in
theorem exprAsks_go (w : World) (hg : Gx w) (n m : Nd) (vk vm : Value) (hn : NdR w w.heap.size vk n) (hm : NdR w w.heap.size vm m) (vv : Value) (l : List Bd) (hl : BdsR w w.heap.size vv l) : Calls Tryz.prog 8 #[valN n vk, valN m vm, vv] w fun e w' => e = .returned (.bool true) ∧ Below w.heap.size w w' := by
  obtain ⟨wa, p0, hp0, hwa, la, ba, hC0a⟩ := nd_boxed w n vk 36
  obtain ⟨w0, p1, hp1, hw0, l0, bb, hC1⟩ := nd_boxed wa m vm 36
  obtain ⟨va, vc, rfl⟩ := hl.val
  have HG := Lib.hid hg
  have HN := Lib.hid hn
  have HM := Lib.hid hm
  have HL := Lib.hid hl
  have HC0 := Lib.hid (fun (V : World) (hV : Below w0.heap.size w0 V) => And.intro (hC0a V (bb.trans (hV.mono bb.size))) (hC1 V hV))
  have HB0 := Lib.hid (ba.trans (bb.mono ba.size))
  have cur : Below w0.heap.size w0 w0 := Below.refl _ _
  obtain ⟨⟨c0, c1, c2, c3, c4, c5, c6⟩, e0, e1, e2, e3, e4, e5, e6⟩ := HC0.out w0 (Below.refl _ _)
  have HAW := Lib.hid (fun (W : World) (h : Below w.heap.size w W) => awake10_any W (hg.up h))
  have hll : l.length ≤ 2513169435000 := by obtain ⟨_, _, _, h, _⟩ := hl; exact h
  clear hg hn hm hC0a hC1 ba bb hl
  cases hf : fewB n with
  | false =>
    have HF := Lib.hid (few_is w0 n vk (HN.out.to HB0.out) hf)
    clear hf
    go_enter Tryz.func8, Tryz.ntmps8
    go_wp2_with (first
      | (go_at_call 11; refine HF.out.mono ?_; rintro e w2 ⟨rfl, hb⟩; have cur := cur.trans (hb.mono cur.size); clear hb)
      | (go_at_call 10; refine (HAW.out _ (HB0.out.trans (cur.mono HB0.out.size))).mono ?_; rintro e w2 ⟨rfl, hb⟩; have cur := cur.trans (hb.mono cur.size); clear hb))
    go_ret
    exact ⟨rfl, HB0.out.trans (cur.mono HB0.out.size)⟩
  | true =>
  have HF := Lib.hid (few_is w0 n vk (HN.out.to HB0.out) hf)
  have HFN := Lib.hid hf
  clear hf
  cases hf2 : fewB m with
  | false =>
    have HF2 := Lib.hid (fun (W : World) (h : Below w0.heap.size w0 W) => few_is W m vm (HM.out.to (HB0.out.trans (h.mono HB0.out.size))) hf2)
    clear hf2
    go_enter Tryz.func8, Tryz.ntmps8
    go_wp2_with (first
      | (have _ := mk1; go_at_call 11; refine (HF2.out _ cur).mono ?_; rintro e w2 ⟨rfl, hb⟩; have cur := cur.trans (hb.mono cur.size); clear hb)
      | (go_at_call 11; refine HF.out.mono ?_; rintro e w2 ⟨rfl, hb⟩; have mk1 := HF; have cur := cur.trans (hb.mono cur.size); obtain ⟨⟨c0, c1, c2, c3, c4, c5, c6⟩, e0, e1, e2, e3, e4, e5, e6⟩ := HC0.out _ cur; clear hb)
      | (go_at_call 10; refine (HAW.out _ (HB0.out.trans (cur.mono HB0.out.size))).mono ?_; rintro e w2 ⟨rfl, hb⟩; have cur := cur.trans (hb.mono cur.size); clear hb))
    go_ret
    exact ⟨rfl, HB0.out.trans (cur.mono HB0.out.size)⟩
  | true =>
  have HF2 := Lib.hid (fun (W : World) (h : Below w0.heap.size w0 W) => few_is W m vm (HM.out.to (HB0.out.trans (h.mono HB0.out.size))) hf2)
  have HFM := Lib.hid hf2
  clear hf2
  by_cases hs : l.length ≤ 100
  · have d1 : decide ((100 : Int) < (l.length : Int)) = false := decide_eq_false (by omega)
    have d1' : decide (100 < l.length) = false := decide_eq_false (by omega)
    have hcn : cntN n ≤ 1000 := by have := few_cnt HFN.out; omega
    have hcm : cntN m ≤ 1000 := by have := few_cnt HFM.out; omega
    go_enter Tryz.func8, Tryz.ntmps8
    go_upto_region 3 with (first
      | (have _ := mk1; go_at_call 11; refine (HF2.out _ cur).mono ?_; rintro e w2 ⟨rfl, hb⟩; have cur := cur.trans (hb.mono cur.size); obtain ⟨⟨c0, c1, c2, c3, c4, c5, c6⟩, e0, e1, e2, e3, e4, e5, e6⟩ := HC0.out _ cur; clear hb)
      | (go_at_call 11; refine HF.out.mono ?_; rintro e w2 ⟨rfl, hb⟩; have mk1 := HF; have cur := cur.trans (hb.mono cur.size); obtain ⟨⟨c0, c1, c2, c3, c4, c5, c6⟩, e0, e1, e2, e3, e4, e5, e6⟩ := HC0.out _ cur; clear hb))
    go_cut [7, 8] (fun s7 s8 wx => ∃ (p7 p8 : Nat) (vx vy : Value) (wz : World), s7 = .pointer (some ⟨p7, 0, none⟩) ∧ s8 = .pointer (some ⟨p8, 0, none⟩) ∧ wz = wx ∧ Hid (XY w0 wz n m p7 p8 vx vy))
    case first =>
      -- REGION3
      have hsc := cur.size
      refine wp_region_held_drew (S := fun V => Below w0.heap.size w0 V) (by kernel_rfl) cur.drew (fun hHeld => ?_)
      generalize w2.drew = wd at hHeld ⊢
      refine wpAnyH_take (i := 0) (v := ?v0) rfl (by kernel_rfl) (by kernel_rfl) (by kernel_rfl) (fun _ _ _ h => h) (Or.inl ⟨by rfl, ?hyR0⟩) (by assumption) ?rest0
      case hyR0 => (intro w hSw; obtain ⟨⟨c0, c1, c2, c3, c4, c5, c6⟩, e0, e1, e2, e3, e4, e5, e6⟩ := HC0.out w hSw; go_simp; try with_reducible rfl)
      try simp only [Act.put, List.setIfInBounds_toArray, List.set_cons_zero, List.set_cons_succ, List.getElem_toArray, List.getElem_cons_zero]
      refine wpAnyH_take (i := 2) (v := ?v2) rfl (by kernel_rfl) (by kernel_rfl) (by kernel_rfl) (fun _ _ _ h => h) (Or.inl ⟨by rfl, ?hyR2⟩) (by assumption) ?rest2
      case hyR2 => (intro w hSw; obtain ⟨⟨c0, c1, c2, c3, c4, c5, c6⟩, e0, e1, e2, e3, e4, e5, e6⟩ := HC0.out w hSw; go_simp; try with_reducible rfl)
      try simp only [Act.put, List.setIfInBounds_toArray, List.set_cons_zero, List.set_cons_succ, List.getElem_toArray, List.getElem_cons_succ, List.getElem_cons_zero]
      have hsd := hHeld.size
      refine wpAnyH_ready (rs := [1, 4, 5]) (by kernel_rfl) (by simp) ?_
      refine AllReadyH.cons rfl (fun K hK => ?_) ?_
      · try simp only [List.getElem_toArray, List.getElem_cons_succ, List.getElem_cons_zero]
        go_simp
        refine (given_any (SizeOf.sizeOf n) n (Nat.le_refl _) hcn wd vk (HN.out.to (HB0.out.trans (hHeld.mono HB0.out.size)))).mono ?_
        rintro e wx ⟨vx, rfl, hX0, bkx⟩
        obtain ⟨ax, cx, rfl⟩ := hX0.val
        have hX := hX0.kept (Nat.le_refl _) (fun b hlt hok => ⟨rfl, (show wd.heap.size ≤ b ∧ b < wx.heap.size from ⟨hok, hlt⟩)⟩)
        have hsx := bkx.size
        refine hK.out _ _ ?_ (fun hHeld2 => ?_)
        · exact hHeld.trans (bkx.mono hHeld.size)
        · clear hK K
          have hHeld := hHeld2
          clear hHeld2
          try simp only [Act.put, List.setIfInBounds_toArray, List.set_cons_zero, List.set_cons_succ, List.getElem_toArray, List.getElem_cons_succ, List.getElem_cons_zero]
          refine wpAnyH_ready (rs := [3, 4, 5]) (by kernel_rfl) (by simp) ?_
          refine AllReadyH.cons rfl (fun K hK => ?_) ?_
          · try simp only [List.getElem_toArray, List.getElem_cons_succ, List.getElem_cons_zero]
            go_simp
            refine (given_any (SizeOf.sizeOf m) m (Nat.le_refl _) hcm wx vm (HM.out.to (HB0.out.trans (hHeld.mono HB0.out.size)))).mono ?_
            rintro e wy ⟨vy, rfl, hY0, bky⟩
            obtain ⟨ay, cy, rfl⟩ := hY0.val
            have hY := hY0.kept (Nat.le_refl _) (fun b hlt hok => ⟨rfl, (show wx.heap.size ≤ b ∧ b < wy.heap.size from ⟨hok, hlt⟩)⟩)
            have hsy := bky.size
            have hX := hX.keptB bky
            refine hK.out _ _ ?_ (fun hHeld2 => ?_)
            · exact hHeld.trans (bky.mono hHeld.size)
            · clear hK K
              have hHeld := hHeld2
              clear hHeld2
              try simp only [Act.put, List.setIfInBounds_toArray, List.set_cons_zero, List.set_cons_succ, List.getElem_toArray, List.getElem_cons_succ, List.getElem_cons_zero]
              refine wpAnyH_ready (rs := [4, 5]) (by kernel_rfl) (by simp) ?_
              refine AllReadyH.cons rfl (fun K hK => ?_) ?_
              · try simp only [List.getElem_toArray, List.getElem_cons_succ, List.getElem_cons_zero]
                go_simp
                obtain ⟨wa7, hV7⟩ : ∃ W, wy.alloc zObj = W := ⟨_, rfl⟩
                obtain ⟨q7, hq7⟩ : ∃ q, wy.heap.size = q := ⟨_, rfl⟩
                have b7 : Below wy.heap.size wy wa7 := by rw [← hV7]; exact (Below.refl _ _).alloc (Nat.le_refl _) _
                have hs7 : q7 < wa7.heap.size := by rw [← hV7, World.size_alloc, hq7]; omega
                have hl7 : wy.heap.size ≤ q7 := Nat.le_of_eq hq7
                have hr7 : q7 ≤ wy.heap.size := Nat.le_of_eq hq7.symm
                have z7 : wa7.heap[q7]? = some zObj := by rw [← hV7, ← hq7]; exact heap_alloc_new _ _
                rw [hV7, hq7]
                clear hV7 hq7
                have hX := hX.keptB b7
                have hY := hY.keptB b7
                refine hK.out _ _ ?_ (fun hHeld2 => ?_)
                · exact hHeld.trans (b7.mono hHeld.size)
                · clear hK K
                  have hHeld := hHeld2
                  clear hHeld2
                  try simp only [Act.put, List.setIfInBounds_toArray, List.set_cons_zero, List.set_cons_succ, List.getElem_toArray, List.getElem_cons_succ, List.getElem_cons_zero]
                  refine wpAnyH_ready (rs := [5]) (by kernel_rfl) (by simp) ?_
                  refine AllReadyH.cons rfl (fun K hK => ?_) ?_
                  · try simp only [List.getElem_toArray, List.getElem_cons_succ, List.getElem_cons_zero]
                    go_simp
                    obtain ⟨wa8, hV8⟩ : ∃ W, wa7.alloc zObj = W := ⟨_, rfl⟩
                    obtain ⟨q8, hq8⟩ : ∃ q, wa7.heap.size = q := ⟨_, rfl⟩
                    have b8 : Below wa7.heap.size wa7 wa8 := by rw [← hV8]; exact (Below.refl _ _).alloc (Nat.le_refl _) _
                    have hs8 : q8 < wa8.heap.size := by rw [← hV8, World.size_alloc, hq8]; omega
                    have hl8 : wa7.heap.size ≤ q8 := Nat.le_of_eq hq8
                    have hr8 : q8 ≤ wa7.heap.size := Nat.le_of_eq hq8.symm
                    have z8 : wa8.heap[q8]? = some zObj := by rw [← hV8, ← hq8]; exact heap_alloc_new _ _
                    rw [hV8, hq8]
                    clear hV8 hq8
                    have z7 := up0 z7 b8
                    have hX := hX.keptB b8
                    have hY := hY.keptB b8
                    refine hK.out _ _ ?_ (fun hHeld2 => ?_)
                    · exact hHeld.trans (b8.mono hHeld.size)
                    · clear hK K
                      have hHeld := hHeld2
                      clear hHeld2
                      try simp only [Act.put, List.setIfInBounds_toArray, List.set_cons_zero, List.set_cons_succ, List.getElem_toArray, List.getElem_cons_succ, List.getElem_cons_zero]
                      refine wpAnyH_ready (rs := [6]) (by kernel_rfl) (by simp) ?_
                      refine AllReadyH.cons rfl (fun K hK => ?_) ?_
                      · try simp only [List.getElem_toArray, List.getElem_cons_succ, List.getElem_cons_zero]
                        refine step_store7 wa8 ?_ (.tmp 7) (.tmp 38) ?_ n (.slice ax n.kids.length cx) rfl q7 ?_ ?_ z7 ?_
                        · rfl
                        · rfl
                        · rfl
                        · rfl
                        intro w7 h7 hg7
                        have hne : q7 ≠ q8 := by omega
                        have z8 := upG hg7 z8 (Ne.symm hne)
                        refine hK.out _ _ ?_ (fun hHeld2 => ?_)
                        · exact hHeld.grown hg7 hHeld.size (fun k hk => by cases hk; omega)
                        · have hBV := hHeld
                          clear hK K
                          have hHeld := hHeld2
                          clear hHeld2
                          try simp only [Act.put]
                          refine wpAnyH_ready (rs := [7]) (by kernel_rfl) (by simp) ?_
                          refine AllReadyH.cons rfl (fun K hK => ?_) ?_
                          · try simp only [List.getElem_toArray, List.getElem_cons_succ, List.getElem_cons_zero]
                            refine step_store7 w7 ?_ (.tmp 8) (.tmp 40) ?_ m (.slice ay m.kids.length cy) rfl q8 ?_ ?_ z8 ?_
                            · rfl
                            · rfl
                            · rfl
                            · rfl
                            intro w8 h8 hg8
                            refine hK.out _ _ ?_ (fun hHeld2 => ?_)
                            · exact hHeld.grown hg8 hHeld.size (fun k hk => by cases hk; omega)
                            · clear hK K
                              have hHeld := hHeld2
                              clear hHeld2
                              try simp only [Act.put]
                              refine wpAnyH_done (by kernel_rfl) ?_ _
                              have HXY : Hid (XY w0 w8 n m q7 q8 (.slice ax n.kids.length cx) (.slice ay m.kids.length cy)) := Lib.hid (xy_of hBV HN.out.1 HM.out.1 hX hY h7 hg7 h8 hg8 hne (fun b hb => by constructor <;> omega) (fun b hb => by constructor <;> omega) (by omega) (by omega))
                              clear h7 h8 hg7 hg8 z7 z8 hX hY hX0 hY0 hBV hHeld
                              go_wp2_with fail
                              go_meet
                              case rel => exact ⟨q7, q8, _, _, _, rfl, rfl, rfl, HXY⟩
                          exact AllReadyH.nil
                      exact AllReadyH.nil
                  exact AllReadyH.nil
              refine AllReadyH.cons rfl (fun K hK => ?_) ?_
              · try simp only [List.getElem_toArray, List.getElem_cons_succ, List.getElem_cons_zero]
                go_simp
                obtain ⟨wa8, hV8⟩ : ∃ W, wy.alloc zObj = W := ⟨_, rfl⟩
                obtain ⟨q8, hq8⟩ : ∃ q, wy.heap.size = q := ⟨_, rfl⟩
                have b8 : Below wy.heap.size wy wa8 := by rw [← hV8]; exact (Below.refl _ _).alloc (Nat.le_refl _) _
                have hs8 : q8 < wa8.heap.size := by rw [← hV8, World.size_alloc, hq8]; omega
                have hl8 : wy.heap.size ≤ q8 := Nat.le_of_eq hq8
                have hr8 : q8 ≤ wy.heap.size := Nat.le_of_eq hq8.symm
                have z8 : wa8.heap[q8]? = some zObj := by rw [← hV8, ← hq8]; exact heap_alloc_new _ _
                rw [hV8, hq8]
                clear hV8 hq8
                have hX := hX.keptB b8
                have hY := hY.keptB b8
                refine hK.out _ _ ?_ (fun hHeld2 => ?_)
                · exact hHeld.trans (b8.mono hHeld.size)
                · clear hK K
                  have hHeld := hHeld2
                  clear hHeld2
                  try simp only [Act.put, List.setIfInBounds_toArray, List.set_cons_zero, List.set_cons_succ, List.getElem_toArray, List.getElem_cons_succ, List.getElem_cons_zero]
                  refine wpAnyH_ready (rs := [4]) (by kernel_rfl) (by simp) ?_
                  refine AllReadyH.cons rfl (fun K hK => ?_) ?_
                  · try simp only [List.getElem_toArray, List.getElem_cons_succ, List.getElem_cons_zero]
                    go_simp
                    obtain ⟨wa7, hV7⟩ : ∃ W, wa8.alloc zObj = W := ⟨_, rfl⟩
                    obtain ⟨q7, hq7⟩ : ∃ q, wa8.heap.size = q := ⟨_, rfl⟩
                    have b7 : Below wa8.heap.size wa8 wa7 := by rw [← hV7]; exact (Below.refl _ _).alloc (Nat.le_refl _) _
                    have hs7 : q7 < wa7.heap.size := by rw [← hV7, World.size_alloc, hq7]; omega
                    have hl7 : wa8.heap.size ≤ q7 := Nat.le_of_eq hq7
                    have hr7 : q7 ≤ wa8.heap.size := Nat.le_of_eq hq7.symm
                    have z7 : wa7.heap[q7]? = some zObj := by rw [← hV7, ← hq7]; exact heap_alloc_new _ _
                    rw [hV7, hq7]
                    clear hV7 hq7
                    have z8 := up0 z8 b7
                    have hX := hX.keptB b7
                    have hY := hY.keptB b7
                    refine hK.out _ _ ?_ (fun hHeld2 => ?_)
                    · exact hHeld.trans (b7.mono hHeld.size)
                    · clear hK K
                      have hHeld := hHeld2
                      clear hHeld2
                      try simp only [Act.put, List.setIfInBounds_toArray, List.set_cons_zero, List.set_cons_succ, List.getElem_toArray, List.getElem_cons_succ, List.getElem_cons_zero]
                      refine wpAnyH_ready (rs := [6]) (by kernel_rfl) (by simp) ?_
                      refine AllReadyH.cons rfl (fun K hK => ?_) ?_
                      · try simp only [List.getElem_toArray, List.getElem_cons_succ, List.getElem_cons_zero]
                        refine step_store7 wa7 ?_ (.tmp 7) (.tmp 38) ?_ n (.slice ax n.kids.length cx) rfl q7 ?_ ?_ z7 ?_
                        · rfl
                        · rfl
                        · rfl
                        · rfl
                        intro w7 h7 hg7
                        have hne : q7 ≠ q8 := by omega
                        have z8 := upG hg7 z8 (Ne.symm hne)
                        refine hK.out _ _ ?_ (fun hHeld2 => ?_)
                        · exact hHeld.grown hg7 hHeld.size (fun k hk => by cases hk; omega)
                        · have hBV := hHeld
                          clear hK K
                          have hHeld := hHeld2
                          clear hHeld2
                          try simp only [Act.put]
                          refine wpAnyH_ready (rs := [7]) (by kernel_rfl) (by simp) ?_
                          refine AllReadyH.cons rfl (fun K hK => ?_) ?_
                          · try simp only [List.getElem_toArray, List.getElem_cons_succ, List.getElem_cons_zero]
                            refine step_store7 w7 ?_ (.tmp 8) (.tmp 40) ?_ m (.slice ay m.kids.length cy) rfl q8 ?_ ?_ z8 ?_
                            · rfl
                            · rfl
                            · rfl
                            · rfl
                            intro w8 h8 hg8
                            refine hK.out _ _ ?_ (fun hHeld2 => ?_)
                            · exact hHeld.grown hg8 hHeld.size (fun k hk => by cases hk; omega)
                            · clear hK K
                              have hHeld := hHeld2
                              clear hHeld2
                              try simp only [Act.put]
                              refine wpAnyH_done (by kernel_rfl) ?_ _
                              have HXY : Hid (XY w0 w8 n m q7 q8 (.slice ax n.kids.length cx) (.slice ay m.kids.length cy)) := Lib.hid (xy_of hBV HN.out.1 HM.out.1 hX hY h7 hg7 h8 hg8 hne (fun b hb => by constructor <;> omega) (fun b hb => by constructor <;> omega) (by omega) (by omega))
                              clear h7 h8 hg7 hg8 z7 z8 hX hY hX0 hY0 hBV hHeld
                              go_wp2_with fail
                              go_meet
                              case rel => exact ⟨q7, q8, _, _, _, rfl, rfl, rfl, HXY⟩
                          exact AllReadyH.nil
                      exact AllReadyH.nil
                  exact AllReadyH.nil
              exact AllReadyH.nil
          refine AllReadyH.cons rfl (fun K hK => ?_) ?_
          · try simp only [List.getElem_toArray, List.getElem_cons_succ, List.getElem_cons_zero]
            go_simp
            obtain ⟨wa7, hV7⟩ : ∃ W, wx.alloc zObj = W := ⟨_, rfl⟩
            obtain ⟨q7, hq7⟩ : ∃ q, wx.heap.size = q := ⟨_, rfl⟩
            have b7 : Below wx.heap.size wx wa7 := by rw [← hV7]; exact (Below.refl _ _).alloc (Nat.le_refl _) _
            have hs7 : q7 < wa7.heap.size := by rw [← hV7, World.size_alloc, hq7]; omega
            have hl7 : wx.heap.size ≤ q7 := Nat.le_of_eq hq7
            have hr7 : q7 ≤ wx.heap.size := Nat.le_of_eq hq7.symm
            have z7 : wa7.heap[q7]? = some zObj := by rw [← hV7, ← hq7]; exact heap_alloc_new _ _
            rw [hV7, hq7]
            clear hV7 hq7
            have hX := hX.keptB b7
            refine hK.out _ _ ?_ (fun hHeld2 => ?_)
            · exact hHeld.trans (b7.mono hHeld.size)
            · clear hK K
              have hHeld := hHeld2
              clear hHeld2
              try simp only [Act.put, List.setIfInBounds_toArray, List.set_cons_zero, List.set_cons_succ, List.getElem_toArray, List.getElem_cons_succ, List.getElem_cons_zero]
              refine wpAnyH_ready (rs := [3, 5]) (by kernel_rfl) (by simp) ?_
              refine AllReadyH.cons rfl (fun K hK => ?_) ?_
              · try simp only [List.getElem_toArray, List.getElem_cons_succ, List.getElem_cons_zero]
                go_simp
                refine (given_any (SizeOf.sizeOf m) m (Nat.le_refl _) hcm wa7 vm (HM.out.to (HB0.out.trans (hHeld.mono HB0.out.size)))).mono ?_
                rintro e wy ⟨vy, rfl, hY0, bky⟩
                obtain ⟨ay, cy, rfl⟩ := hY0.val
                have hY := hY0.kept (Nat.le_refl _) (fun b hlt hok => ⟨rfl, (show wa7.heap.size ≤ b ∧ b < wy.heap.size from ⟨hok, hlt⟩)⟩)
                have hsy := bky.size
                have z7 := up0 z7 bky
                have hX := hX.keptB bky
                refine hK.out _ _ ?_ (fun hHeld2 => ?_)
                · exact hHeld.trans (bky.mono hHeld.size)
                · clear hK K
                  have hHeld := hHeld2
                  clear hHeld2
                  try simp only [Act.put, List.setIfInBounds_toArray, List.set_cons_zero, List.set_cons_succ, List.getElem_toArray, List.getElem_cons_succ, List.getElem_cons_zero]
                  refine wpAnyH_ready (rs := [5]) (by kernel_rfl) (by simp) ?_
                  refine AllReadyH.cons rfl (fun K hK => ?_) ?_
                  · try simp only [List.getElem_toArray, List.getElem_cons_succ, List.getElem_cons_zero]
                    go_simp
                    obtain ⟨wa8, hV8⟩ : ∃ W, wy.alloc zObj = W := ⟨_, rfl⟩
                    obtain ⟨q8, hq8⟩ : ∃ q, wy.heap.size = q := ⟨_, rfl⟩
                    have b8 : Below wy.heap.size wy wa8 := by rw [← hV8]; exact (Below.refl _ _).alloc (Nat.le_refl _) _
                    have hs8 : q8 < wa8.heap.size := by rw [← hV8, World.size_alloc, hq8]; omega
                    have hl8 : wy.heap.size ≤ q8 := Nat.le_of_eq hq8
                    have hr8 : q8 ≤ wy.heap.size := Nat.le_of_eq hq8.symm
                    have z8 : wa8.heap[q8]? = some zObj := by rw [← hV8, ← hq8]; exact heap_alloc_new _ _
                    rw [hV8, hq8]
                    clear hV8 hq8
                    have z7 := up0 z7 b8
                    have hX := hX.keptB b8
                    have hY := hY.keptB b8
                    refine hK.out _ _ ?_ (fun hHeld2 => ?_)
                    · exact hHeld.trans (b8.mono hHeld.size)
                    · clear hK K
                      have hHeld := hHeld2
                      clear hHeld2
                      try simp only [Act.put, List.setIfInBounds_toArray, List.set_cons_zero, List.set_cons_succ, List.getElem_toArray, List.getElem_cons_succ, List.getElem_cons_zero]
                      refine wpAnyH_ready (rs := [6]) (by kernel_rfl) (by simp) ?_
                      refine AllReadyH.cons rfl (fun K hK => ?_) ?_
                      · try simp only [List.getElem_toArray, List.getElem_cons_succ, List.getElem_cons_zero]
                        refine step_store7 wa8 ?_ (.tmp 7) (.tmp 38) ?_ n (.slice ax n.kids.length cx) rfl q7 ?_ ?_ z7 ?_
                        · rfl
                        · rfl
                        · rfl
                        · rfl
                        intro w7 h7 hg7
                        have hne : q7 ≠ q8 := by omega
                        have z8 := upG hg7 z8 (Ne.symm hne)
                        refine hK.out _ _ ?_ (fun hHeld2 => ?_)
                        · exact hHeld.grown hg7 hHeld.size (fun k hk => by cases hk; omega)
                        · have hBV := hHeld
                          clear hK K
                          have hHeld := hHeld2
                          clear hHeld2
                          try simp only [Act.put]
                          refine wpAnyH_ready (rs := [7]) (by kernel_rfl) (by simp) ?_
                          refine AllReadyH.cons rfl (fun K hK => ?_) ?_
                          · try simp only [List.getElem_toArray, List.getElem_cons_succ, List.getElem_cons_zero]
                            refine step_store7 w7 ?_ (.tmp 8) (.tmp 40) ?_ m (.slice ay m.kids.length cy) rfl q8 ?_ ?_ z8 ?_
                            · rfl
                            · rfl
                            · rfl
                            · rfl
                            intro w8 h8 hg8
                            refine hK.out _ _ ?_ (fun hHeld2 => ?_)
                            · exact hHeld.grown hg8 hHeld.size (fun k hk => by cases hk; omega)
                            · clear hK K
                              have hHeld := hHeld2
                              clear hHeld2
                              try simp only [Act.put]
                              refine wpAnyH_done (by kernel_rfl) ?_ _
                              have HXY : Hid (XY w0 w8 n m q7 q8 (.slice ax n.kids.length cx) (.slice ay m.kids.length cy)) := Lib.hid (xy_of hBV HN.out.1 HM.out.1 hX hY h7 hg7 h8 hg8 hne (fun b hb => by constructor <;> omega) (fun b hb => by constructor <;> omega) (by omega) (by omega))
                              clear h7 h8 hg7 hg8 z7 z8 hX hY hX0 hY0 hBV hHeld
                              go_wp2_with fail
                              go_meet
                              case rel => exact ⟨q7, q8, _, _, _, rfl, rfl, rfl, HXY⟩
                          exact AllReadyH.nil
                      exact AllReadyH.nil
                  exact AllReadyH.nil
              refine AllReadyH.cons rfl (fun K hK => ?_) ?_
              · try simp only [List.getElem_toArray, List.getElem_cons_succ, List.getElem_cons_zero]
                go_simp
                obtain ⟨wa8, hV8⟩ : ∃ W, wa7.alloc zObj = W := ⟨_, rfl⟩
                obtain ⟨q8, hq8⟩ : ∃ q, wa7.heap.size = q := ⟨_, rfl⟩
                have b8 : Below wa7.heap.size wa7 wa8 := by rw [← hV8]; exact (Below.refl _ _).alloc (Nat.le_refl _) _
                have hs8 : q8 < wa8.heap.size := by rw [← hV8, World.size_alloc, hq8]; omega
                have hl8 : wa7.heap.size ≤ q8 := Nat.le_of_eq hq8
                have hr8 : q8 ≤ wa7.heap.size := Nat.le_of_eq hq8.symm
                have z8 : wa8.heap[q8]? = some zObj := by rw [← hV8, ← hq8]; exact heap_alloc_new _ _
                rw [hV8, hq8]
                clear hV8 hq8
                have z7 := up0 z7 b8
                have hX := hX.keptB b8
                refine hK.out _ _ ?_ (fun hHeld2 => ?_)
                · exact hHeld.trans (b8.mono hHeld.size)
                · clear hK K
                  have hHeld := hHeld2
                  clear hHeld2
                  try simp only [Act.put, List.setIfInBounds_toArray, List.set_cons_zero, List.set_cons_succ, List.getElem_toArray, List.getElem_cons_succ, List.getElem_cons_zero]
                  refine wpAnyH_ready (rs := [3]) (by kernel_rfl) (by simp) ?_
                  refine AllReadyH.cons rfl (fun K hK => ?_) ?_
                  · try simp only [List.getElem_toArray, List.getElem_cons_succ, List.getElem_cons_zero]
                    go_simp
                    refine (given_any (SizeOf.sizeOf m) m (Nat.le_refl _) hcm wa8 vm (HM.out.to (HB0.out.trans (hHeld.mono HB0.out.size)))).mono ?_
                    rintro e wy ⟨vy, rfl, hY0, bky⟩
                    obtain ⟨ay, cy, rfl⟩ := hY0.val
                    have hY := hY0.kept (Nat.le_refl _) (fun b hlt hok => ⟨rfl, (show wa8.heap.size ≤ b ∧ b < wy.heap.size from ⟨hok, hlt⟩)⟩)
                    have hsy := bky.size
                    have z7 := up0 z7 bky
                    have z8 := up0 z8 bky
                    have hX := hX.keptB bky
                    refine hK.out _ _ ?_ (fun hHeld2 => ?_)
                    · exact hHeld.trans (bky.mono hHeld.size)
                    · clear hK K
                      have hHeld := hHeld2
                      clear hHeld2
                      try simp only [Act.put, List.setIfInBounds_toArray, List.set_cons_zero, List.set_cons_succ, List.getElem_toArray, List.getElem_cons_succ, List.getElem_cons_zero]
                      refine wpAnyH_ready (rs := [6]) (by kernel_rfl) (by simp) ?_
                      refine AllReadyH.cons rfl (fun K hK => ?_) ?_
                      · try simp only [List.getElem_toArray, List.getElem_cons_succ, List.getElem_cons_zero]
                        refine step_store7 wy ?_ (.tmp 7) (.tmp 38) ?_ n (.slice ax n.kids.length cx) rfl q7 ?_ ?_ z7 ?_
                        · rfl
                        · rfl
                        · rfl
                        · rfl
                        intro w7 h7 hg7
                        have hne : q7 ≠ q8 := by omega
                        have z8 := upG hg7 z8 (Ne.symm hne)
                        refine hK.out _ _ ?_ (fun hHeld2 => ?_)
                        · exact hHeld.grown hg7 hHeld.size (fun k hk => by cases hk; omega)
                        · have hBV := hHeld
                          clear hK K
                          have hHeld := hHeld2
                          clear hHeld2
                          try simp only [Act.put]
                          refine wpAnyH_ready (rs := [7]) (by kernel_rfl) (by simp) ?_
                          refine AllReadyH.cons rfl (fun K hK => ?_) ?_
                          · try simp only [List.getElem_toArray, List.getElem_cons_succ, List.getElem_cons_zero]
                            refine step_store7 w7 ?_ (.tmp 8) (.tmp 40) ?_ m (.slice ay m.kids.length cy) rfl q8 ?_ ?_ z8 ?_
                            · rfl
                            · rfl
                            · rfl
                            · rfl
                            intro w8 h8 hg8
                            refine hK.out _ _ ?_ (fun hHeld2 => ?_)
                            · exact hHeld.grown hg8 hHeld.size (fun k hk => by cases hk; omega)
                            · clear hK K
                              have hHeld := hHeld2
                              clear hHeld2
                              try simp only [Act.put]
                              refine wpAnyH_done (by kernel_rfl) ?_ _
                              have HXY : Hid (XY w0 w8 n m q7 q8 (.slice ax n.kids.length cx) (.slice ay m.kids.length cy)) := Lib.hid (xy_of hBV HN.out.1 HM.out.1 hX hY h7 hg7 h8 hg8 hne (fun b hb => by constructor <;> omega) (fun b hb => by constructor <;> omega) (by omega) (by omega))
                              clear h7 h8 hg7 hg8 z7 z8 hX hY hX0 hY0 hBV hHeld
                              go_wp2_with fail
                              go_meet
                              case rel => exact ⟨q7, q8, _, _, _, rfl, rfl, rfl, HXY⟩
                          exact AllReadyH.nil
                      exact AllReadyH.nil
                  exact AllReadyH.nil
              exact AllReadyH.nil
          refine AllReadyH.cons rfl (fun K hK => ?_) ?_
          · try simp only [List.getElem_toArray, List.getElem_cons_succ, List.getElem_cons_zero]
            go_simp
            obtain ⟨wa8, hV8⟩ : ∃ W, wx.alloc zObj = W := ⟨_, rfl⟩
            obtain ⟨q8, hq8⟩ : ∃ q, wx.heap.size = q := ⟨_, rfl⟩
            have b8 : Below wx.heap.size wx wa8 := by rw [← hV8]; exact (Below.refl _ _).alloc (Nat.le_refl _) _
            have hs8 : q8 < wa8.heap.size := by rw [← hV8, World.size_alloc, hq8]; omega
            have hl8 : wx.heap.size ≤ q8 := Nat.le_of_eq hq8
            have hr8 : q8 ≤ wx.heap.size := Nat.le_of_eq hq8.symm
            have z8 : wa8.heap[q8]? = some zObj := by rw [← hV8, ← hq8]; exact heap_alloc_new _ _
            rw [hV8, hq8]
            clear hV8 hq8
            have hX := hX.keptB b8
            refine hK.out _ _ ?_ (fun hHeld2 => ?_)
            · exact hHeld.trans (b8.mono hHeld.size)
            · clear hK K
              have hHeld := hHeld2
              clear hHeld2
              try simp only [Act.put, List.setIfInBounds_toArray, List.set_cons_zero, List.set_cons_succ, List.getElem_toArray, List.getElem_cons_succ, List.getElem_cons_zero]
              refine wpAnyH_ready (rs := [3, 4]) (by kernel_rfl) (by simp) ?_
              refine AllReadyH.cons rfl (fun K hK => ?_) ?_
              · try simp only [List.getElem_toArray, List.getElem_cons_succ, List.getElem_cons_zero]
                go_simp
                refine (given_any (SizeOf.sizeOf m) m (Nat.le_refl _) hcm wa8 vm (HM.out.to (HB0.out.trans (hHeld.mono HB0.out.size)))).mono ?_
                rintro e wy ⟨vy, rfl, hY0, bky⟩
                obtain ⟨ay, cy, rfl⟩ := hY0.val
                have hY := hY0.kept (Nat.le_refl _) (fun b hlt hok => ⟨rfl, (show wa8.heap.size ≤ b ∧ b < wy.heap.size from ⟨hok, hlt⟩)⟩)
                have hsy := bky.size
                have z8 := up0 z8 bky
                have hX := hX.keptB bky
                refine hK.out _ _ ?_ (fun hHeld2 => ?_)
                · exact hHeld.trans (bky.mono hHeld.size)
                · clear hK K
                  have hHeld := hHeld2
                  clear hHeld2
                  try simp only [Act.put, List.setIfInBounds_toArray, List.set_cons_zero, List.set_cons_succ, List.getElem_toArray, List.getElem_cons_succ, List.getElem_cons_zero]
                  refine wpAnyH_ready (rs := [4]) (by kernel_rfl) (by simp) ?_
                  refine AllReadyH.cons rfl (fun K hK => ?_) ?_
                  · try simp only [List.getElem_toArray, List.getElem_cons_succ, List.getElem_cons_zero]
                    go_simp
                    obtain ⟨wa7, hV7⟩ : ∃ W, wy.alloc zObj = W := ⟨_, rfl⟩
                    obtain ⟨q7, hq7⟩ : ∃ q, wy.heap.size = q := ⟨_, rfl⟩
                    have b7 : Below wy.heap.size wy wa7 := by rw [← hV7]; exact (Below.refl _ _).alloc (Nat.le_refl _) _
                    have hs7 : q7 < wa7.heap.size := by rw [← hV7, World.size_alloc, hq7]; omega
                    have hl7 : wy.heap.size ≤ q7 := Nat.le_of_eq hq7
                    have hr7 : q7 ≤ wy.heap.size := Nat.le_of_eq hq7.symm
                    have z7 : wa7.heap[q7]? = some zObj := by rw [← hV7, ← hq7]; exact heap_alloc_new _ _
                    rw [hV7, hq7]
                    clear hV7 hq7
                    have z8 := up0 z8 b7
                    have hX := hX.keptB b7
                    have hY := hY.keptB b7
                    refine hK.out _ _ ?_ (fun hHeld2 => ?_)
                    · exact hHeld.trans (b7.mono hHeld.size)
                    · clear hK K
                      have hHeld := hHeld2
                      clear hHeld2
                      try simp only [Act.put, List.setIfInBounds_toArray, List.set_cons_zero, List.set_cons_succ, List.getElem_toArray, List.getElem_cons_succ, List.getElem_cons_zero]
                      refine wpAnyH_ready (rs := [6]) (by kernel_rfl) (by simp) ?_
                      refine AllReadyH.cons rfl (fun K hK => ?_) ?_
                      · try simp only [List.getElem_toArray, List.getElem_cons_succ, List.getElem_cons_zero]
                        refine step_store7 wa7 ?_ (.tmp 7) (.tmp 38) ?_ n (.slice ax n.kids.length cx) rfl q7 ?_ ?_ z7 ?_
                        · rfl
                        · rfl
                        · rfl
                        · rfl
                        intro w7 h7 hg7
                        have hne : q7 ≠ q8 := by omega
                        have z8 := upG hg7 z8 (Ne.symm hne)
                        refine hK.out _ _ ?_ (fun hHeld2 => ?_)
                        · exact hHeld.grown hg7 hHeld.size (fun k hk => by cases hk; omega)
                        · have hBV := hHeld
                          clear hK K
                          have hHeld := hHeld2
                          clear hHeld2
                          try simp only [Act.put]
                          refine wpAnyH_ready (rs := [7]) (by kernel_rfl) (by simp) ?_
                          refine AllReadyH.cons rfl (fun K hK => ?_) ?_
                          · try simp only [List.getElem_toArray, List.getElem_cons_succ, List.getElem_cons_zero]
                            refine step_store7 w7 ?_ (.tmp 8) (.tmp 40) ?_ m (.slice ay m.kids.length cy) rfl q8 ?_ ?_ z8 ?_
                            · rfl
                            · rfl
                            · rfl
                            · rfl
                            intro w8 h8 hg8
                            refine hK.out _ _ ?_ (fun hHeld2 => ?_)
                            · exact hHeld.grown hg8 hHeld.size (fun k hk => by cases hk; omega)
                            · clear hK K
                              have hHeld := hHeld2
                              clear hHeld2
                              try simp only [Act.put]
                              refine wpAnyH_done (by kernel_rfl) ?_ _
                              have HXY : Hid (XY w0 w8 n m q7 q8 (.slice ax n.kids.length cx) (.slice ay m.kids.length cy)) := Lib.hid (xy_of hBV HN.out.1 HM.out.1 hX hY h7 hg7 h8 hg8 hne (fun b hb => by constructor <;> omega) (fun b hb => by constructor <;> omega) (by omega) (by omega))
                              clear h7 h8 hg7 hg8 z7 z8 hX hY hX0 hY0 hBV hHeld
                              go_wp2_with fail
                              go_meet
                              case rel => exact ⟨q7, q8, _, _, _, rfl, rfl, rfl, HXY⟩
                          exact AllReadyH.nil
                      exact AllReadyH.nil
                  exact AllReadyH.nil
              refine AllReadyH.cons rfl (fun K hK => ?_) ?_
              · try simp only [List.getElem_toArray, List.getElem_cons_succ, List.getElem_cons_zero]
                go_simp
                obtain ⟨wa7, hV7⟩ : ∃ W, wa8.alloc zObj = W := ⟨_, rfl⟩
                obtain ⟨q7, hq7⟩ : ∃ q, wa8.heap.size = q := ⟨_, rfl⟩
                have b7 : Below wa8.heap.size wa8 wa7 := by rw [← hV7]; exact (Below.refl _ _).alloc (Nat.le_refl _) _
                have hs7 : q7 < wa7.heap.size := by rw [← hV7, World.size_alloc, hq7]; omega
                have hl7 : wa8.heap.size ≤ q7 := Nat.le_of_eq hq7
                have hr7 : q7 ≤ wa8.heap.size := Nat.le_of_eq hq7.symm
                have z7 : wa7.heap[q7]? = some zObj := by rw [← hV7, ← hq7]; exact heap_alloc_new _ _
                rw [hV7, hq7]
                clear hV7 hq7
                have z8 := up0 z8 b7
                have hX := hX.keptB b7
                refine hK.out _ _ ?_ (fun hHeld2 => ?_)
                · exact hHeld.trans (b7.mono hHeld.size)
                · clear hK K
                  have hHeld := hHeld2
                  clear hHeld2
                  try simp only [Act.put, List.setIfInBounds_toArray, List.set_cons_zero, List.set_cons_succ, List.getElem_toArray, List.getElem_cons_succ, List.getElem_cons_zero]
                  refine wpAnyH_ready (rs := [3]) (by kernel_rfl) (by simp) ?_
                  refine AllReadyH.cons rfl (fun K hK => ?_) ?_
                  · try simp only [List.getElem_toArray, List.getElem_cons_succ, List.getElem_cons_zero]
                    go_simp
                    refine (given_any (SizeOf.sizeOf m) m (Nat.le_refl _) hcm wa7 vm (HM.out.to (HB0.out.trans (hHeld.mono HB0.out.size)))).mono ?_
                    rintro e wy ⟨vy, rfl, hY0, bky⟩
                    obtain ⟨ay, cy, rfl⟩ := hY0.val
                    have hY := hY0.kept (Nat.le_refl _) (fun b hlt hok => ⟨rfl, (show wa7.heap.size ≤ b ∧ b < wy.heap.size from ⟨hok, hlt⟩)⟩)
                    have hsy := bky.size
                    have z7 := up0 z7 bky
                    have z8 := up0 z8 bky
                    have hX := hX.keptB bky
                    refine hK.out _ _ ?_ (fun hHeld2 => ?_)
                    · exact hHeld.trans (bky.mono hHeld.size)
                    · clear hK K
                      have hHeld := hHeld2
                      clear hHeld2
                      try simp only [Act.put, List.setIfInBounds_toArray, List.set_cons_zero, List.set_cons_succ, List.getElem_toArray, List.getElem_cons_succ, List.getElem_cons_zero]
                      refine wpAnyH_ready (rs := [6]) (by kernel_rfl) (by simp) ?_
                      refine AllReadyH.cons rfl (fun K hK => ?_) ?_
                      · try simp only [List.getElem_toArray, List.getElem_cons_succ, List.getElem_cons_zero]
                        refine step_store7 wy ?_ (.tmp 7) (.tmp 38) ?_ n (.slice ax n.kids.length cx) rfl q7 ?_ ?_ z7 ?_
                        · rfl
                        · rfl
                        · rfl
                        · rfl
                        intro w7 h7 hg7
                        have hne : q7 ≠ q8 := by omega
                        have z8 := upG hg7 z8 (Ne.symm hne)
                        refine hK.out _ _ ?_ (fun hHeld2 => ?_)
                        · exact hHeld.grown hg7 hHeld.size (fun k hk => by cases hk; omega)
                        · have hBV := hHeld
                          clear hK K
                          have hHeld := hHeld2
                          clear hHeld2
                          try simp only [Act.put]
                          refine wpAnyH_ready (rs := [7]) (by kernel_rfl) (by simp) ?_
                          refine AllReadyH.cons rfl (fun K hK => ?_) ?_
                          · try simp only [List.getElem_toArray, List.getElem_cons_succ, List.getElem_cons_zero]
                            refine step_store7 w7 ?_ (.tmp 8) (.tmp 40) ?_ m (.slice ay m.kids.length cy) rfl q8 ?_ ?_ z8 ?_
                            · rfl
                            · rfl
                            · rfl
                            · rfl
                            intro w8 h8 hg8
                            refine hK.out _ _ ?_ (fun hHeld2 => ?_)
                            · exact hHeld.grown hg8 hHeld.size (fun k hk => by cases hk; omega)
                            · clear hK K
                              have hHeld := hHeld2
                              clear hHeld2
                              try simp only [Act.put]
                              refine wpAnyH_done (by kernel_rfl) ?_ _
                              have HXY : Hid (XY w0 w8 n m q7 q8 (.slice ax n.kids.length cx) (.slice ay m.kids.length cy)) := Lib.hid (xy_of hBV HN.out.1 HM.out.1 hX hY h7 hg7 h8 hg8 hne (fun b hb => by constructor <;> omega) (fun b hb => by constructor <;> omega) (by omega) (by omega))
                              clear h7 h8 hg7 hg8 z7 z8 hX hY hX0 hY0 hBV hHeld
                              go_wp2_with fail
                              go_meet
                              case rel => exact ⟨q7, q8, _, _, _, rfl, rfl, rfl, HXY⟩
                          exact AllReadyH.nil
                      exact AllReadyH.nil
                  exact AllReadyH.nil
              exact AllReadyH.nil
          exact AllReadyH.nil
      refine AllReadyH.cons rfl (fun K hK => ?_) ?_
      · try simp only [List.getElem_toArray, List.getElem_cons_succ, List.getElem_cons_zero]
        go_simp
        obtain ⟨wa7, hV7⟩ : ∃ W, wd.alloc zObj = W := ⟨_, rfl⟩
        obtain ⟨q7, hq7⟩ : ∃ q, wd.heap.size = q := ⟨_, rfl⟩
        have b7 : Below wd.heap.size wd wa7 := by rw [← hV7]; exact (Below.refl _ _).alloc (Nat.le_refl _) _
        have hs7 : q7 < wa7.heap.size := by rw [← hV7, World.size_alloc, hq7]; omega
        have hl7 : wd.heap.size ≤ q7 := Nat.le_of_eq hq7
        have hr7 : q7 ≤ wd.heap.size := Nat.le_of_eq hq7.symm
        have z7 : wa7.heap[q7]? = some zObj := by rw [← hV7, ← hq7]; exact heap_alloc_new _ _
        rw [hV7, hq7]
        clear hV7 hq7
        refine hK.out _ _ ?_ (fun hHeld2 => ?_)
        · exact hHeld.trans (b7.mono hHeld.size)
        · clear hK K
          have hHeld := hHeld2
          clear hHeld2
          try simp only [Act.put, List.setIfInBounds_toArray, List.set_cons_zero, List.set_cons_succ, List.getElem_toArray, List.getElem_cons_succ, List.getElem_cons_zero]
          refine wpAnyH_ready (rs := [1, 5]) (by kernel_rfl) (by simp) ?_
          refine AllReadyH.cons rfl (fun K hK => ?_) ?_
          · try simp only [List.getElem_toArray, List.getElem_cons_succ, List.getElem_cons_zero]
            go_simp
            refine (given_any (SizeOf.sizeOf n) n (Nat.le_refl _) hcn wa7 vk (HN.out.to (HB0.out.trans (hHeld.mono HB0.out.size)))).mono ?_
            rintro e wx ⟨vx, rfl, hX0, bkx⟩
            obtain ⟨ax, cx, rfl⟩ := hX0.val
            have hX := hX0.kept (Nat.le_refl _) (fun b hlt hok => ⟨rfl, (show wa7.heap.size ≤ b ∧ b < wx.heap.size from ⟨hok, hlt⟩)⟩)
            have hsx := bkx.size
            have z7 := up0 z7 bkx
            refine hK.out _ _ ?_ (fun hHeld2 => ?_)
            · exact hHeld.trans (bkx.mono hHeld.size)
            · clear hK K
              have hHeld := hHeld2
              clear hHeld2
              try simp only [Act.put, List.setIfInBounds_toArray, List.set_cons_zero, List.set_cons_succ, List.getElem_toArray, List.getElem_cons_succ, List.getElem_cons_zero]
              refine wpAnyH_ready (rs := [3, 5]) (by kernel_rfl) (by simp) ?_
              refine AllReadyH.cons rfl (fun K hK => ?_) ?_
              · try simp only [List.getElem_toArray, List.getElem_cons_succ, List.getElem_cons_zero]
                go_simp
                refine (given_any (SizeOf.sizeOf m) m (Nat.le_refl _) hcm wx vm (HM.out.to (HB0.out.trans (hHeld.mono HB0.out.size)))).mono ?_
                rintro e wy ⟨vy, rfl, hY0, bky⟩
                obtain ⟨ay, cy, rfl⟩ := hY0.val
                have hY := hY0.kept (Nat.le_refl _) (fun b hlt hok => ⟨rfl, (show wx.heap.size ≤ b ∧ b < wy.heap.size from ⟨hok, hlt⟩)⟩)
                have hsy := bky.size
                have z7 := up0 z7 bky
                have hX := hX.keptB bky
                refine hK.out _ _ ?_ (fun hHeld2 => ?_)
                · exact hHeld.trans (bky.mono hHeld.size)
                · clear hK K
                  have hHeld := hHeld2
                  clear hHeld2
                  try simp only [Act.put, List.setIfInBounds_toArray, List.set_cons_zero, List.set_cons_succ, List.getElem_toArray, List.getElem_cons_succ, List.getElem_cons_zero]
                  refine wpAnyH_ready (rs := [5]) (by kernel_rfl) (by simp) ?_
                  refine AllReadyH.cons rfl (fun K hK => ?_) ?_
                  · try simp only [List.getElem_toArray, List.getElem_cons_succ, List.getElem_cons_zero]
                    go_simp
                    obtain ⟨wa8, hV8⟩ : ∃ W, wy.alloc zObj = W := ⟨_, rfl⟩
                    obtain ⟨q8, hq8⟩ : ∃ q, wy.heap.size = q := ⟨_, rfl⟩
                    have b8 : Below wy.heap.size wy wa8 := by rw [← hV8]; exact (Below.refl _ _).alloc (Nat.le_refl _) _
                    have hs8 : q8 < wa8.heap.size := by rw [← hV8, World.size_alloc, hq8]; omega
                    have hl8 : wy.heap.size ≤ q8 := Nat.le_of_eq hq8
                    have hr8 : q8 ≤ wy.heap.size := Nat.le_of_eq hq8.symm
                    have z8 : wa8.heap[q8]? = some zObj := by rw [← hV8, ← hq8]; exact heap_alloc_new _ _
                    rw [hV8, hq8]
                    clear hV8 hq8
                    have z7 := up0 z7 b8
                    have hX := hX.keptB b8
                    have hY := hY.keptB b8
                    refine hK.out _ _ ?_ (fun hHeld2 => ?_)
                    · exact hHeld.trans (b8.mono hHeld.size)
                    · clear hK K
                      have hHeld := hHeld2
                      clear hHeld2
                      try simp only [Act.put, List.setIfInBounds_toArray, List.set_cons_zero, List.set_cons_succ, List.getElem_toArray, List.getElem_cons_succ, List.getElem_cons_zero]
                      refine wpAnyH_ready (rs := [6]) (by kernel_rfl) (by simp) ?_
                      refine AllReadyH.cons rfl (fun K hK => ?_) ?_
                      · try simp only [List.getElem_toArray, List.getElem_cons_succ, List.getElem_cons_zero]
                        refine step_store7 wa8 ?_ (.tmp 7) (.tmp 38) ?_ n (.slice ax n.kids.length cx) rfl q7 ?_ ?_ z7 ?_
                        · rfl
                        · rfl
                        · rfl
                        · rfl
                        intro w7 h7 hg7
                        have hne : q7 ≠ q8 := by omega
                        have z8 := upG hg7 z8 (Ne.symm hne)
                        refine hK.out _ _ ?_ (fun hHeld2 => ?_)
                        · exact hHeld.grown hg7 hHeld.size (fun k hk => by cases hk; omega)
                        · have hBV := hHeld
                          clear hK K
                          have hHeld := hHeld2
                          clear hHeld2
                          try simp only [Act.put]
                          refine wpAnyH_ready (rs := [7]) (by kernel_rfl) (by simp) ?_
                          refine AllReadyH.cons rfl (fun K hK => ?_) ?_
                          · try simp only [List.getElem_toArray, List.getElem_cons_succ, List.getElem_cons_zero]
                            refine step_store7 w7 ?_ (.tmp 8) (.tmp 40) ?_ m (.slice ay m.kids.length cy) rfl q8 ?_ ?_ z8 ?_
                            · rfl
                            · rfl
                            · rfl
                            · rfl
                            intro w8 h8 hg8
                            refine hK.out _ _ ?_ (fun hHeld2 => ?_)
                            · exact hHeld.grown hg8 hHeld.size (fun k hk => by cases hk; omega)
                            · clear hK K
                              have hHeld := hHeld2
                              clear hHeld2
                              try simp only [Act.put]
                              refine wpAnyH_done (by kernel_rfl) ?_ _
                              have HXY : Hid (XY w0 w8 n m q7 q8 (.slice ax n.kids.length cx) (.slice ay m.kids.length cy)) := Lib.hid (xy_of hBV HN.out.1 HM.out.1 hX hY h7 hg7 h8 hg8 hne (fun b hb => by constructor <;> omega) (fun b hb => by constructor <;> omega) (by omega) (by omega))
                              clear h7 h8 hg7 hg8 z7 z8 hX hY hX0 hY0 hBV hHeld
                              go_wp2_with fail
                              go_meet
                              case rel => exact ⟨q7, q8, _, _, _, rfl, rfl, rfl, HXY⟩
                          exact AllReadyH.nil
                      exact AllReadyH.nil
                  exact AllReadyH.nil
              refine AllReadyH.cons rfl (fun K hK => ?_) ?_
              · try simp only [List.getElem_toArray, List.getElem_cons_succ, List.getElem_cons_zero]
                go_simp
                obtain ⟨wa8, hV8⟩ : ∃ W, wx.alloc zObj = W := ⟨_, rfl⟩
                obtain ⟨q8, hq8⟩ : ∃ q, wx.heap.size = q := ⟨_, rfl⟩
                have b8 : Below wx.heap.size wx wa8 := by rw [← hV8]; exact (Below.refl _ _).alloc (Nat.le_refl _) _
                have hs8 : q8 < wa8.heap.size := by rw [← hV8, World.size_alloc, hq8]; omega
                have hl8 : wx.heap.size ≤ q8 := Nat.le_of_eq hq8
                have hr8 : q8 ≤ wx.heap.size := Nat.le_of_eq hq8.symm
                have z8 : wa8.heap[q8]? = some zObj := by rw [← hV8, ← hq8]; exact heap_alloc_new _ _
                rw [hV8, hq8]
                clear hV8 hq8
                have z7 := up0 z7 b8
                have hX := hX.keptB b8
                refine hK.out _ _ ?_ (fun hHeld2 => ?_)
                · exact hHeld.trans (b8.mono hHeld.size)
                · clear hK K
                  have hHeld := hHeld2
                  clear hHeld2
                  try simp only [Act.put, List.setIfInBounds_toArray, List.set_cons_zero, List.set_cons_succ, List.getElem_toArray, List.getElem_cons_succ, List.getElem_cons_zero]
                  refine wpAnyH_ready (rs := [3]) (by kernel_rfl) (by simp) ?_
                  refine AllReadyH.cons rfl (fun K hK => ?_) ?_
                  · try simp only [List.getElem_toArray, List.getElem_cons_succ, List.getElem_cons_zero]
                    go_simp
                    refine (given_any (SizeOf.sizeOf m) m (Nat.le_refl _) hcm wa8 vm (HM.out.to (HB0.out.trans (hHeld.mono HB0.out.size)))).mono ?_
                    rintro e wy ⟨vy, rfl, hY0, bky⟩
                    obtain ⟨ay, cy, rfl⟩ := hY0.val
                    have hY := hY0.kept (Nat.le_refl _) (fun b hlt hok => ⟨rfl, (show wa8.heap.size ≤ b ∧ b < wy.heap.size from ⟨hok, hlt⟩)⟩)
                    have hsy := bky.size
                    have z7 := up0 z7 bky
                    have z8 := up0 z8 bky
                    have hX := hX.keptB bky
                    refine hK.out _ _ ?_ (fun hHeld2 => ?_)
                    · exact hHeld.trans (bky.mono hHeld.size)
                    · clear hK K
                      have hHeld := hHeld2
                      clear hHeld2
                      try simp only [Act.put, List.setIfInBounds_toArray, List.set_cons_zero, List.set_cons_succ, List.getElem_toArray, List.getElem_cons_succ, List.getElem_cons_zero]
                      refine wpAnyH_ready (rs := [6]) (by kernel_rfl) (by simp) ?_
                      refine AllReadyH.cons rfl (fun K hK => ?_) ?_
                      · try simp only [List.getElem_toArray, List.getElem_cons_succ, List.getElem_cons_zero]
                        refine step_store7 wy ?_ (.tmp 7) (.tmp 38) ?_ n (.slice ax n.kids.length cx) rfl q7 ?_ ?_ z7 ?_
                        · rfl
                        · rfl
                        · rfl
                        · rfl
                        intro w7 h7 hg7
                        have hne : q7 ≠ q8 := by omega
                        have z8 := upG hg7 z8 (Ne.symm hne)
                        refine hK.out _ _ ?_ (fun hHeld2 => ?_)
                        · exact hHeld.grown hg7 hHeld.size (fun k hk => by cases hk; omega)
                        · have hBV := hHeld
                          clear hK K
                          have hHeld := hHeld2
                          clear hHeld2
                          try simp only [Act.put]
                          refine wpAnyH_ready (rs := [7]) (by kernel_rfl) (by simp) ?_
                          refine AllReadyH.cons rfl (fun K hK => ?_) ?_
                          · try simp only [List.getElem_toArray, List.getElem_cons_succ, List.getElem_cons_zero]
                            refine step_store7 w7 ?_ (.tmp 8) (.tmp 40) ?_ m (.slice ay m.kids.length cy) rfl q8 ?_ ?_ z8 ?_
                            · rfl
                            · rfl
                            · rfl
                            · rfl
                            intro w8 h8 hg8
                            refine hK.out _ _ ?_ (fun hHeld2 => ?_)
                            · exact hHeld.grown hg8 hHeld.size (fun k hk => by cases hk; omega)
                            · clear hK K
                              have hHeld := hHeld2
                              clear hHeld2
                              try simp only [Act.put]
                              refine wpAnyH_done (by kernel_rfl) ?_ _
                              have HXY : Hid (XY w0 w8 n m q7 q8 (.slice ax n.kids.length cx) (.slice ay m.kids.length cy)) := Lib.hid (xy_of hBV HN.out.1 HM.out.1 hX hY h7 hg7 h8 hg8 hne (fun b hb => by constructor <;> omega) (fun b hb => by constructor <;> omega) (by omega) (by omega))
                              clear h7 h8 hg7 hg8 z7 z8 hX hY hX0 hY0 hBV hHeld
                              go_wp2_with fail
                              go_meet
                              case rel => exact ⟨q7, q8, _, _, _, rfl, rfl, rfl, HXY⟩
                          exact AllReadyH.nil
                      exact AllReadyH.nil
                  exact AllReadyH.nil
              exact AllReadyH.nil
          refine AllReadyH.cons rfl (fun K hK => ?_) ?_
          · try simp only [List.getElem_toArray, List.getElem_cons_succ, List.getElem_cons_zero]
            go_simp
            obtain ⟨wa8, hV8⟩ : ∃ W, wa7.alloc zObj = W := ⟨_, rfl⟩
            obtain ⟨q8, hq8⟩ : ∃ q, wa7.heap.size = q := ⟨_, rfl⟩
            have b8 : Below wa7.heap.size wa7 wa8 := by rw [← hV8]; exact (Below.refl _ _).alloc (Nat.le_refl _) _
            have hs8 : q8 < wa8.heap.size := by rw [← hV8, World.size_alloc, hq8]; omega
            have hl8 : wa7.heap.size ≤ q8 := Nat.le_of_eq hq8
            have hr8 : q8 ≤ wa7.heap.size := Nat.le_of_eq hq8.symm
            have z8 : wa8.heap[q8]? = some zObj := by rw [← hV8, ← hq8]; exact heap_alloc_new _ _
            rw [hV8, hq8]
            clear hV8 hq8
            have z7 := up0 z7 b8
            refine hK.out _ _ ?_ (fun hHeld2 => ?_)
            · exact hHeld.trans (b8.mono hHeld.size)
            · clear hK K
              have hHeld := hHeld2
              clear hHeld2
              try simp only [Act.put, List.setIfInBounds_toArray, List.set_cons_zero, List.set_cons_succ, List.getElem_toArray, List.getElem_cons_succ, List.getElem_cons_zero]
              refine wpAnyH_ready (rs := [1]) (by kernel_rfl) (by simp) ?_
              refine AllReadyH.cons rfl (fun K hK => ?_) ?_
              · try simp only [List.getElem_toArray, List.getElem_cons_succ, List.getElem_cons_zero]
                go_simp
                refine (given_any (SizeOf.sizeOf n) n (Nat.le_refl _) hcn wa8 vk (HN.out.to (HB0.out.trans (hHeld.mono HB0.out.size)))).mono ?_
                rintro e wx ⟨vx, rfl, hX0, bkx⟩
                obtain ⟨ax, cx, rfl⟩ := hX0.val
                have hX := hX0.kept (Nat.le_refl _) (fun b hlt hok => ⟨rfl, (show wa8.heap.size ≤ b ∧ b < wx.heap.size from ⟨hok, hlt⟩)⟩)
                have hsx := bkx.size
                have z7 := up0 z7 bkx
                have z8 := up0 z8 bkx
                refine hK.out _ _ ?_ (fun hHeld2 => ?_)
                · exact hHeld.trans (bkx.mono hHeld.size)
                · clear hK K
                  have hHeld := hHeld2
                  clear hHeld2
                  try simp only [Act.put, List.setIfInBounds_toArray, List.set_cons_zero, List.set_cons_succ, List.getElem_toArray, List.getElem_cons_succ, List.getElem_cons_zero]
                  refine wpAnyH_ready (rs := [3]) (by kernel_rfl) (by simp) ?_
                  refine AllReadyH.cons rfl (fun K hK => ?_) ?_
                  · try simp only [List.getElem_toArray, List.getElem_cons_succ, List.getElem_cons_zero]
                    go_simp
                    refine (given_any (SizeOf.sizeOf m) m (Nat.le_refl _) hcm wx vm (HM.out.to (HB0.out.trans (hHeld.mono HB0.out.size)))).mono ?_
                    rintro e wy ⟨vy, rfl, hY0, bky⟩
                    obtain ⟨ay, cy, rfl⟩ := hY0.val
                    have hY := hY0.kept (Nat.le_refl _) (fun b hlt hok => ⟨rfl, (show wx.heap.size ≤ b ∧ b < wy.heap.size from ⟨hok, hlt⟩)⟩)
                    have hsy := bky.size
                    have z7 := up0 z7 bky
                    have z8 := up0 z8 bky
                    have hX := hX.keptB bky
                    refine hK.out _ _ ?_ (fun hHeld2 => ?_)
                    · exact hHeld.trans (bky.mono hHeld.size)
                    · clear hK K
                      have hHeld := hHeld2
                      clear hHeld2
                      try simp only [Act.put, List.setIfInBounds_toArray, List.set_cons_zero, List.set_cons_succ, List.getElem_toArray, List.getElem_cons_succ, List.getElem_cons_zero]
                      refine wpAnyH_ready (rs := [6]) (by kernel_rfl) (by simp) ?_
                      refine AllReadyH.cons rfl (fun K hK => ?_) ?_
                      · try simp only [List.getElem_toArray, List.getElem_cons_succ, List.getElem_cons_zero]
                        refine step_store7 wy ?_ (.tmp 7) (.tmp 38) ?_ n (.slice ax n.kids.length cx) rfl q7 ?_ ?_ z7 ?_
                        · rfl
                        · rfl
                        · rfl
                        · rfl
                        intro w7 h7 hg7
                        have hne : q7 ≠ q8 := by omega
                        have z8 := upG hg7 z8 (Ne.symm hne)
                        refine hK.out _ _ ?_ (fun hHeld2 => ?_)
                        · exact hHeld.grown hg7 hHeld.size (fun k hk => by cases hk; omega)
                        · have hBV := hHeld
                          clear hK K
                          have hHeld := hHeld2
                          clear hHeld2
                          try simp only [Act.put]
                          refine wpAnyH_ready (rs := [7]) (by kernel_rfl) (by simp) ?_
                          refine AllReadyH.cons rfl (fun K hK => ?_) ?_
                          · try simp only [List.getElem_toArray, List.getElem_cons_succ, List.getElem_cons_zero]
                            refine step_store7 w7 ?_ (.tmp 8) (.tmp 40) ?_ m (.slice ay m.kids.length cy) rfl q8 ?_ ?_ z8 ?_
                            · rfl
                            · rfl
                            · rfl
                            · rfl
                            intro w8 h8 hg8
                            refine hK.out _ _ ?_ (fun hHeld2 => ?_)
                            · exact hHeld.grown hg8 hHeld.size (fun k hk => by cases hk; omega)
                            · clear hK K
                              have hHeld := hHeld2
                              clear hHeld2
                              try simp only [Act.put]
                              refine wpAnyH_done (by kernel_rfl) ?_ _
                              have HXY : Hid (XY w0 w8 n m q7 q8 (.slice ax n.kids.length cx) (.slice ay m.kids.length cy)) := Lib.hid (xy_of hBV HN.out.1 HM.out.1 hX hY h7 hg7 h8 hg8 hne (fun b hb => by constructor <;> omega) (fun b hb => by constructor <;> omega) (by omega) (by omega))
                              clear h7 h8 hg7 hg8 z7 z8 hX hY hX0 hY0 hBV hHeld
                              go_wp2_with fail
                              go_meet
                              case rel => exact ⟨q7, q8, _, _, _, rfl, rfl, rfl, HXY⟩
                          exact AllReadyH.nil
                      exact AllReadyH.nil
                  exact AllReadyH.nil
              exact AllReadyH.nil
          exact AllReadyH.nil
      refine AllReadyH.cons rfl (fun K hK => ?_) ?_
      · try simp only [List.getElem_toArray, List.getElem_cons_succ, List.getElem_cons_zero]
        go_simp
        obtain ⟨wa8, hV8⟩ : ∃ W, wd.alloc zObj = W := ⟨_, rfl⟩
        obtain ⟨q8, hq8⟩ : ∃ q, wd.heap.size = q := ⟨_, rfl⟩
        have b8 : Below wd.heap.size wd wa8 := by rw [← hV8]; exact (Below.refl _ _).alloc (Nat.le_refl _) _
        have hs8 : q8 < wa8.heap.size := by rw [← hV8, World.size_alloc, hq8]; omega
        have hl8 : wd.heap.size ≤ q8 := Nat.le_of_eq hq8
        have hr8 : q8 ≤ wd.heap.size := Nat.le_of_eq hq8.symm
        have z8 : wa8.heap[q8]? = some zObj := by rw [← hV8, ← hq8]; exact heap_alloc_new _ _
        rw [hV8, hq8]
        clear hV8 hq8
        refine hK.out _ _ ?_ (fun hHeld2 => ?_)
        · exact hHeld.trans (b8.mono hHeld.size)
        · clear hK K
          have hHeld := hHeld2
          clear hHeld2
          try simp only [Act.put, List.setIfInBounds_toArray, List.set_cons_zero, List.set_cons_succ, List.getElem_toArray, List.getElem_cons_succ, List.getElem_cons_zero]
          refine wpAnyH_ready (rs := [1, 4]) (by kernel_rfl) (by simp) ?_
          refine AllReadyH.cons rfl (fun K hK => ?_) ?_
          · try simp only [List.getElem_toArray, List.getElem_cons_succ, List.getElem_cons_zero]
            go_simp
            refine (given_any (SizeOf.sizeOf n) n (Nat.le_refl _) hcn wa8 vk (HN.out.to (HB0.out.trans (hHeld.mono HB0.out.size)))).mono ?_
            rintro e wx ⟨vx, rfl, hX0, bkx⟩
            obtain ⟨ax, cx, rfl⟩ := hX0.val
            have hX := hX0.kept (Nat.le_refl _) (fun b hlt hok => ⟨rfl, (show wa8.heap.size ≤ b ∧ b < wx.heap.size from ⟨hok, hlt⟩)⟩)
            have hsx := bkx.size
            have z8 := up0 z8 bkx
            refine hK.out _ _ ?_ (fun hHeld2 => ?_)
            · exact hHeld.trans (bkx.mono hHeld.size)
            · clear hK K
              have hHeld := hHeld2
              clear hHeld2
              try simp only [Act.put, List.setIfInBounds_toArray, List.set_cons_zero, List.set_cons_succ, List.getElem_toArray, List.getElem_cons_succ, List.getElem_cons_zero]
              refine wpAnyH_ready (rs := [3, 4]) (by kernel_rfl) (by simp) ?_
              refine AllReadyH.cons rfl (fun K hK => ?_) ?_
              · try simp only [List.getElem_toArray, List.getElem_cons_succ, List.getElem_cons_zero]
                go_simp
                refine (given_any (SizeOf.sizeOf m) m (Nat.le_refl _) hcm wx vm (HM.out.to (HB0.out.trans (hHeld.mono HB0.out.size)))).mono ?_
                rintro e wy ⟨vy, rfl, hY0, bky⟩
                obtain ⟨ay, cy, rfl⟩ := hY0.val
                have hY := hY0.kept (Nat.le_refl _) (fun b hlt hok => ⟨rfl, (show wx.heap.size ≤ b ∧ b < wy.heap.size from ⟨hok, hlt⟩)⟩)
                have hsy := bky.size
                have z8 := up0 z8 bky
                have hX := hX.keptB bky
                refine hK.out _ _ ?_ (fun hHeld2 => ?_)
                · exact hHeld.trans (bky.mono hHeld.size)
                · clear hK K
                  have hHeld := hHeld2
                  clear hHeld2
                  try simp only [Act.put, List.setIfInBounds_toArray, List.set_cons_zero, List.set_cons_succ, List.getElem_toArray, List.getElem_cons_succ, List.getElem_cons_zero]
                  refine wpAnyH_ready (rs := [4]) (by kernel_rfl) (by simp) ?_
                  refine AllReadyH.cons rfl (fun K hK => ?_) ?_
                  · try simp only [List.getElem_toArray, List.getElem_cons_succ, List.getElem_cons_zero]
                    go_simp
                    obtain ⟨wa7, hV7⟩ : ∃ W, wy.alloc zObj = W := ⟨_, rfl⟩
                    obtain ⟨q7, hq7⟩ : ∃ q, wy.heap.size = q := ⟨_, rfl⟩
                    have b7 : Below wy.heap.size wy wa7 := by rw [← hV7]; exact (Below.refl _ _).alloc (Nat.le_refl _) _
                    have hs7 : q7 < wa7.heap.size := by rw [← hV7, World.size_alloc, hq7]; omega
                    have hl7 : wy.heap.size ≤ q7 := Nat.le_of_eq hq7
                    have hr7 : q7 ≤ wy.heap.size := Nat.le_of_eq hq7.symm
                    have z7 : wa7.heap[q7]? = some zObj := by rw [← hV7, ← hq7]; exact heap_alloc_new _ _
                    rw [hV7, hq7]
                    clear hV7 hq7
                    have z8 := up0 z8 b7
                    have hX := hX.keptB b7
                    have hY := hY.keptB b7
                    refine hK.out _ _ ?_ (fun hHeld2 => ?_)
                    · exact hHeld.trans (b7.mono hHeld.size)
                    · clear hK K
                      have hHeld := hHeld2
                      clear hHeld2
                      try simp only [Act.put, List.setIfInBounds_toArray, List.set_cons_zero, List.set_cons_succ, List.getElem_toArray, List.getElem_cons_succ, List.getElem_cons_zero]
                      refine wpAnyH_ready (rs := [6]) (by kernel_rfl) (by simp) ?_
                      refine AllReadyH.cons rfl (fun K hK => ?_) ?_
                      · try simp only [List.getElem_toArray, List.getElem_cons_succ, List.getElem_cons_zero]
                        refine step_store7 wa7 ?_ (.tmp 7) (.tmp 38) ?_ n (.slice ax n.kids.length cx) rfl q7 ?_ ?_ z7 ?_
                        · rfl
                        · rfl
                        · rfl
                        · rfl
                        intro w7 h7 hg7
                        have hne : q7 ≠ q8 := by omega
                        have z8 := upG hg7 z8 (Ne.symm hne)
                        refine hK.out _ _ ?_ (fun hHeld2 => ?_)
                        · exact hHeld.grown hg7 hHeld.size (fun k hk => by cases hk; omega)
                        · have hBV := hHeld
                          clear hK K
                          have hHeld := hHeld2
                          clear hHeld2
                          try simp only [Act.put]
                          refine wpAnyH_ready (rs := [7]) (by kernel_rfl) (by simp) ?_
                          refine AllReadyH.cons rfl (fun K hK => ?_) ?_
                          · try simp only [List.getElem_toArray, List.getElem_cons_succ, List.getElem_cons_zero]
                            refine step_store7 w7 ?_ (.tmp 8) (.tmp 40) ?_ m (.slice ay m.kids.length cy) rfl q8 ?_ ?_ z8 ?_
                            · rfl
                            · rfl
                            · rfl
                            · rfl
                            intro w8 h8 hg8
                            refine hK.out _ _ ?_ (fun hHeld2 => ?_)
                            · exact hHeld.grown hg8 hHeld.size (fun k hk => by cases hk; omega)
                            · clear hK K
                              have hHeld := hHeld2
                              clear hHeld2
                              try simp only [Act.put]
                              refine wpAnyH_done (by kernel_rfl) ?_ _
                              have HXY : Hid (XY w0 w8 n m q7 q8 (.slice ax n.kids.length cx) (.slice ay m.kids.length cy)) := Lib.hid (xy_of hBV HN.out.1 HM.out.1 hX hY h7 hg7 h8 hg8 hne (fun b hb => by constructor <;> omega) (fun b hb => by constructor <;> omega) (by omega) (by omega))
                              clear h7 h8 hg7 hg8 z7 z8 hX hY hX0 hY0 hBV hHeld
                              go_wp2_with fail
                              go_meet
                              case rel => exact ⟨q7, q8, _, _, _, rfl, rfl, rfl, HXY⟩
                          exact AllReadyH.nil
                      exact AllReadyH.nil
                  exact AllReadyH.nil
              refine AllReadyH.cons rfl (fun K hK => ?_) ?_
              · try simp only [List.getElem_toArray, List.getElem_cons_succ, List.getElem_cons_zero]
                go_simp
                obtain ⟨wa7, hV7⟩ : ∃ W, wx.alloc zObj = W := ⟨_, rfl⟩
                obtain ⟨q7, hq7⟩ : ∃ q, wx.heap.size = q := ⟨_, rfl⟩
                have b7 : Below wx.heap.size wx wa7 := by rw [← hV7]; exact (Below.refl _ _).alloc (Nat.le_refl _) _
                have hs7 : q7 < wa7.heap.size := by rw [← hV7, World.size_alloc, hq7]; omega
                have hl7 : wx.heap.size ≤ q7 := Nat.le_of_eq hq7
                have hr7 : q7 ≤ wx.heap.size := Nat.le_of_eq hq7.symm
                have z7 : wa7.heap[q7]? = some zObj := by rw [← hV7, ← hq7]; exact heap_alloc_new _ _
                rw [hV7, hq7]
                clear hV7 hq7
                have z8 := up0 z8 b7
                have hX := hX.keptB b7
                refine hK.out _ _ ?_ (fun hHeld2 => ?_)
                · exact hHeld.trans (b7.mono hHeld.size)
                · clear hK K
                  have hHeld := hHeld2
                  clear hHeld2
                  try simp only [Act.put, List.setIfInBounds_toArray, List.set_cons_zero, List.set_cons_succ, List.getElem_toArray, List.getElem_cons_succ, List.getElem_cons_zero]
                  refine wpAnyH_ready (rs := [3]) (by kernel_rfl) (by simp) ?_
                  refine AllReadyH.cons rfl (fun K hK => ?_) ?_
                  · try simp only [List.getElem_toArray, List.getElem_cons_succ, List.getElem_cons_zero]
                    go_simp
                    refine (given_any (SizeOf.sizeOf m) m (Nat.le_refl _) hcm wa7 vm (HM.out.to (HB0.out.trans (hHeld.mono HB0.out.size)))).mono ?_
                    rintro e wy ⟨vy, rfl, hY0, bky⟩
                    obtain ⟨ay, cy, rfl⟩ := hY0.val
                    have hY := hY0.kept (Nat.le_refl _) (fun b hlt hok => ⟨rfl, (show wa7.heap.size ≤ b ∧ b < wy.heap.size from ⟨hok, hlt⟩)⟩)
                    have hsy := bky.size
                    have z7 := up0 z7 bky
                    have z8 := up0 z8 bky
                    have hX := hX.keptB bky
                    refine hK.out _ _ ?_ (fun hHeld2 => ?_)
                    · exact hHeld.trans (bky.mono hHeld.size)
                    · clear hK K
                      have hHeld := hHeld2
                      clear hHeld2
                      try simp only [Act.put, List.setIfInBounds_toArray, List.set_cons_zero, List.set_cons_succ, List.getElem_toArray, List.getElem_cons_succ, List.getElem_cons_zero]
                      refine wpAnyH_ready (rs := [6]) (by kernel_rfl) (by simp) ?_
                      refine AllReadyH.cons rfl (fun K hK => ?_) ?_
                      · try simp only [List.getElem_toArray, List.getElem_cons_succ, List.getElem_cons_zero]
                        refine step_store7 wy ?_ (.tmp 7) (.tmp 38) ?_ n (.slice ax n.kids.length cx) rfl q7 ?_ ?_ z7 ?_
                        · rfl
                        · rfl
                        · rfl
                        · rfl
                        intro w7 h7 hg7
                        have hne : q7 ≠ q8 := by omega
                        have z8 := upG hg7 z8 (Ne.symm hne)
                        refine hK.out _ _ ?_ (fun hHeld2 => ?_)
                        · exact hHeld.grown hg7 hHeld.size (fun k hk => by cases hk; omega)
                        · have hBV := hHeld
                          clear hK K
                          have hHeld := hHeld2
                          clear hHeld2
                          try simp only [Act.put]
                          refine wpAnyH_ready (rs := [7]) (by kernel_rfl) (by simp) ?_
                          refine AllReadyH.cons rfl (fun K hK => ?_) ?_
                          · try simp only [List.getElem_toArray, List.getElem_cons_succ, List.getElem_cons_zero]
                            refine step_store7 w7 ?_ (.tmp 8) (.tmp 40) ?_ m (.slice ay m.kids.length cy) rfl q8 ?_ ?_ z8 ?_
                            · rfl
                            · rfl
                            · rfl
                            · rfl
                            intro w8 h8 hg8
                            refine hK.out _ _ ?_ (fun hHeld2 => ?_)
                            · exact hHeld.grown hg8 hHeld.size (fun k hk => by cases hk; omega)
                            · clear hK K
                              have hHeld := hHeld2
                              clear hHeld2
                              try simp only [Act.put]
                              refine wpAnyH_done (by kernel_rfl) ?_ _
                              have HXY : Hid (XY w0 w8 n m q7 q8 (.slice ax n.kids.length cx) (.slice ay m.kids.length cy)) := Lib.hid (xy_of hBV HN.out.1 HM.out.1 hX hY h7 hg7 h8 hg8 hne (fun b hb => by constructor <;> omega) (fun b hb => by constructor <;> omega) (by omega) (by omega))
                              clear h7 h8 hg7 hg8 z7 z8 hX hY hX0 hY0 hBV hHeld
                              go_wp2_with fail
                              go_meet
                              case rel => exact ⟨q7, q8, _, _, _, rfl, rfl, rfl, HXY⟩
                          exact AllReadyH.nil
                      exact AllReadyH.nil
                  exact AllReadyH.nil
              exact AllReadyH.nil
          refine AllReadyH.cons rfl (fun K hK => ?_) ?_
          · try simp only [List.getElem_toArray, List.getElem_cons_succ, List.getElem_cons_zero]
            go_simp
            obtain ⟨wa7, hV7⟩ : ∃ W, wa8.alloc zObj = W := ⟨_, rfl⟩
            obtain ⟨q7, hq7⟩ : ∃ q, wa8.heap.size = q := ⟨_, rfl⟩
            have b7 : Below wa8.heap.size wa8 wa7 := by rw [← hV7]; exact (Below.refl _ _).alloc (Nat.le_refl _) _
            have hs7 : q7 < wa7.heap.size := by rw [← hV7, World.size_alloc, hq7]; omega
            have hl7 : wa8.heap.size ≤ q7 := Nat.le_of_eq hq7
            have hr7 : q7 ≤ wa8.heap.size := Nat.le_of_eq hq7.symm
            have z7 : wa7.heap[q7]? = some zObj := by rw [← hV7, ← hq7]; exact heap_alloc_new _ _
            rw [hV7, hq7]
            clear hV7 hq7
            have z8 := up0 z8 b7
            refine hK.out _ _ ?_ (fun hHeld2 => ?_)
            · exact hHeld.trans (b7.mono hHeld.size)
            · clear hK K
              have hHeld := hHeld2
              clear hHeld2
              try simp only [Act.put, List.setIfInBounds_toArray, List.set_cons_zero, List.set_cons_succ, List.getElem_toArray, List.getElem_cons_succ, List.getElem_cons_zero]
              refine wpAnyH_ready (rs := [1]) (by kernel_rfl) (by simp) ?_
              refine AllReadyH.cons rfl (fun K hK => ?_) ?_
              · try simp only [List.getElem_toArray, List.getElem_cons_succ, List.getElem_cons_zero]
                go_simp
                refine (given_any (SizeOf.sizeOf n) n (Nat.le_refl _) hcn wa7 vk (HN.out.to (HB0.out.trans (hHeld.mono HB0.out.size)))).mono ?_
                rintro e wx ⟨vx, rfl, hX0, bkx⟩
                obtain ⟨ax, cx, rfl⟩ := hX0.val
                have hX := hX0.kept (Nat.le_refl _) (fun b hlt hok => ⟨rfl, (show wa7.heap.size ≤ b ∧ b < wx.heap.size from ⟨hok, hlt⟩)⟩)
                have hsx := bkx.size
                have z7 := up0 z7 bkx
                have z8 := up0 z8 bkx
                refine hK.out _ _ ?_ (fun hHeld2 => ?_)
                · exact hHeld.trans (bkx.mono hHeld.size)
                · clear hK K
                  have hHeld := hHeld2
                  clear hHeld2
                  try simp only [Act.put, List.setIfInBounds_toArray, List.set_cons_zero, List.set_cons_succ, List.getElem_toArray, List.getElem_cons_succ, List.getElem_cons_zero]
                  refine wpAnyH_ready (rs := [3]) (by kernel_rfl) (by simp) ?_
                  refine AllReadyH.cons rfl (fun K hK => ?_) ?_
                  · try simp only [List.getElem_toArray, List.getElem_cons_succ, List.getElem_cons_zero]
                    go_simp
                    refine (given_any (SizeOf.sizeOf m) m (Nat.le_refl _) hcm wx vm (HM.out.to (HB0.out.trans (hHeld.mono HB0.out.size)))).mono ?_
                    rintro e wy ⟨vy, rfl, hY0, bky⟩
                    obtain ⟨ay, cy, rfl⟩ := hY0.val
                    have hY := hY0.kept (Nat.le_refl _) (fun b hlt hok => ⟨rfl, (show wx.heap.size ≤ b ∧ b < wy.heap.size from ⟨hok, hlt⟩)⟩)
                    have hsy := bky.size
                    have z7 := up0 z7 bky
                    have z8 := up0 z8 bky
                    have hX := hX.keptB bky
                    refine hK.out _ _ ?_ (fun hHeld2 => ?_)
                    · exact hHeld.trans (bky.mono hHeld.size)
                    · clear hK K
                      have hHeld := hHeld2
                      clear hHeld2
                      try simp only [Act.put, List.setIfInBounds_toArray, List.set_cons_zero, List.set_cons_succ, List.getElem_toArray, List.getElem_cons_succ, List.getElem_cons_zero]
                      refine wpAnyH_ready (rs := [6]) (by kernel_rfl) (by simp) ?_
                      refine AllReadyH.cons rfl (fun K hK => ?_) ?_
                      · try simp only [List.getElem_toArray, List.getElem_cons_succ, List.getElem_cons_zero]
                        refine step_store7 wy ?_ (.tmp 7) (.tmp 38) ?_ n (.slice ax n.kids.length cx) rfl q7 ?_ ?_ z7 ?_
                        · rfl
                        · rfl
                        · rfl
                        · rfl
                        intro w7 h7 hg7
                        have hne : q7 ≠ q8 := by omega
                        have z8 := upG hg7 z8 (Ne.symm hne)
                        refine hK.out _ _ ?_ (fun hHeld2 => ?_)
                        · exact hHeld.grown hg7 hHeld.size (fun k hk => by cases hk; omega)
                        · have hBV := hHeld
                          clear hK K
                          have hHeld := hHeld2
                          clear hHeld2
                          try simp only [Act.put]
                          refine wpAnyH_ready (rs := [7]) (by kernel_rfl) (by simp) ?_
                          refine AllReadyH.cons rfl (fun K hK => ?_) ?_
                          · try simp only [List.getElem_toArray, List.getElem_cons_succ, List.getElem_cons_zero]
                            refine step_store7 w7 ?_ (.tmp 8) (.tmp 40) ?_ m (.slice ay m.kids.length cy) rfl q8 ?_ ?_ z8 ?_
                            · rfl
                            · rfl
                            · rfl
                            · rfl
                            intro w8 h8 hg8
                            refine hK.out _ _ ?_ (fun hHeld2 => ?_)
                            · exact hHeld.grown hg8 hHeld.size (fun k hk => by cases hk; omega)
                            · clear hK K
                              have hHeld := hHeld2
                              clear hHeld2
                              try simp only [Act.put]
                              refine wpAnyH_done (by kernel_rfl) ?_ _
                              have HXY : Hid (XY w0 w8 n m q7 q8 (.slice ax n.kids.length cx) (.slice ay m.kids.length cy)) := Lib.hid (xy_of hBV HN.out.1 HM.out.1 hX hY h7 hg7 h8 hg8 hne (fun b hb => by constructor <;> omega) (fun b hb => by constructor <;> omega) (by omega) (by omega))
                              clear h7 h8 hg7 hg8 z7 z8 hX hY hX0 hY0 hBV hHeld
                              go_wp2_with fail
                              go_meet
                              case rel => exact ⟨q7, q8, _, _, _, rfl, rfl, rfl, HXY⟩
                          exact AllReadyH.nil
                      exact AllReadyH.nil
                  exact AllReadyH.nil
              exact AllReadyH.nil
          exact AllReadyH.nil
      exact AllReadyH.nil
      -- REGION3 END
    case rest =>
      obtain ⟨p7, p8, vx, vy, wz, rfl, rfl, rfl, hXY⟩ := hcut
      obtain ⟨ax, cx, hvx⟩ := hXY.out.x.2.val
      obtain ⟨ay, cy, hvy⟩ := hXY.out.y.2.val
      subst hvx hvy
      have HZ := Lib.hid (HB0.out.trans (hXY.out.b.mono HB0.out.size))
      have HX := Lib.hid hXY.out.x
      have HY := Lib.hid hXY.out.y
      have HC := Lib.hid (fun (V : World) (hV : Below wz.heap.size wz V) => And.intro (HC0.out V (hXY.out.b.trans (hV.mono hXY.out.b.size))) (And.intro (show CellsN V p7 n _ from n_cells ((hV.block p7 (lt_of_block hXY.out.h7)).trans hXY.out.h7)) (show CellsN V p8 m _ from n_cells ((hV.block p8 (lt_of_block hXY.out.h8)).trans hXY.out.h8))))
      have HLz := Lib.hid (HL.out.to HZ.out)
      have hCF : ∀ V, Below wz.heap.size wz V → ColF cellBd 5 V wz.heap.size va l := fun V hV => by
        obtain ⟨a', cap', hv', _, _, hf', _⟩ := HLz.out
        injection hv' with h1' _ _
        subst h1'
        exact hf'.mono hV (Nat.le_refl _)
      have HCF := Lib.hid hCF
      have HXYB := Lib.hid hXY.out.b
      have hwl : ∀ b ∈ l, VlW b.val ∧ b.name.size ≤ 140737488355328 := by obtain ⟨_, _, _, _, _, _, h⟩ := HL.out; exact h
      have HWL := Lib.hid hwl
      obtain ⟨i0, hti, hz0, hz1, hz2⟩ := info_parts info_bd10
      obtain ⟨⟨⟨c0, c1, c2, c3, c4, c5, c6⟩, e0, e1, e2, e3, e4, e5, e6⟩, ⟨x0, x1, x2, x3, x4, x5, x6⟩, y0, y1, y2, y3, y4, y5, y6⟩ := HC.out wz (Below.refl _ _)
      clear hXY cur hCF hwl
      go_wp2_with (at_builtin; refine wpList_append_colF _ rfl _ _ 51 rfl cellBd_len cellBd_one10 wz.heap.size 55 i0 _ 56 Tryz.underlying51 hti hz0 hz1 hz2 rfl (by decide) _ 0 (cellsF cellBd []) rfl (ownF_built cellBd_len (Nat.le_refl _) (heap_alloc_new _ _) rfl rfl (by unfold maxLen; omega)) rfl (HCF.out _ ((Below.refl _ _).alloc (Nat.le_refl _) _)) (by unfold maxLen; omega) (by omega) (by simp) ?_; intro v5 w5 hown5 hg5 hob5; refine Hid.out ?_)
      refine Lib.hid ?_
      have hR5 : RowB w5 wz.heap.size v5 l := by
        show w5.ownsRow _ _ 5 v5 l.length (cellsF cellBd l)
        have h1 := hown5
        rw [Nat.zero_add] at h1
        exact h1
      have cur : Below wz.heap.size wz w5 := ((Below.refl wz.heap.size wz).alloc (Nat.le_refl _) (.cells #[] 55)).grown hg5 (by simp) (fun k hk => by cases hk; exact Nat.le_refl _)
      obtain ⟨av, cv, rfl⟩ : ∃ a c, v5 = .slice a l.length c := OwnF.shape hR5
      have HR5 := Lib.hid hR5
      have HW5 := Lib.hid cur
      have curR : Below w5.heap.size w5 w5 := Below.refl _ _
      obtain ⟨⟨⟨c0, c1, c2, c3, c4, c5, c6⟩, e0, e1, e2, e3, e4, e5, e6⟩, ⟨x0, x1, x2, x3, x4, x5, x6⟩, y0, y1, y2, y3, y4, y5, y6⟩ := HC.out w5 cur
      clear hown5 hg5 hob5 hR5
      obtain ⟨K, E, hKE⟩ : ∃ K E, tyE l n = (K, E) := ⟨_, _, rfl⟩
      obtain ⟨PT, PE, hPR⟩ : ∃ T x, printE n = (T, x) := ⟨_, _, rfl⟩
      have hnum := fun m => nums_of m n _ HX.out.1 HX.out.2
      have HSP : Hid (checkN n = true → (spellE n 1).length ≤ 1000000000) := Lib.hid (fun h => by
        have h1 := spell_len10 h hnum 1
        have h2 := few_cnt HFN.out
        omega)
      have HSP2 : Hid (checkN n = true → (showN n).length ≤ 1000000000) := Lib.hid (fun h => by rw [← spell_one1 h]; exact HSP.out h)
      have HKE := Lib.hid hKE
      have HPR := Lib.hid hPR
      obtain ⟨TS, hTS⟩ : ∃ TS : ByteArray, ByteArray.mk PT.toArray = TS := ⟨_, rfl⟩
      have HTS := Lib.hid hTS
      have HT2 : Hid (∀ W e w', TyA l n W e w' → e = .returned (.tuple #[.int .u8 K, .int .i64 E]) ∧ Below W.heap.size W w') := Lib.hid (fun W e w' h => by unfold TyA at h; rw [hKE] at h; exact h)
      have HP2 : Hid (∀ W e w', PrtA n W e w' → e = .returned (.tuple #[.string TS, .int .i64 PE]) ∧ Below W.heap.size W w') := Lib.hid (fun W e w' h => by unfold PrtA at h; rw [hPR] at h; rw [hTS] at h; exact h)
      clear hKE hPR hTS hnum
      go_upto_region 9 with (first
        | (go_at_call 28; refine (typ_is _ (HG.out.up (HZ.out.trans (cur.mono HZ.out.size))) n _ _ l (HX.out.to cur) ((bds_of_own10 HR5.out (by omega) HWL.out).to curR) HKE.out).mono ?_; rintro e w6 ⟨rfl, hb⟩; have cur := cur.trans (hb.mono cur.size); have curR := curR.trans (hb.mono curR.size); clear hb; obtain ⟨⟨⟨c0, c1, c2, c3, c4, c5, c6⟩, e0, e1, e2, e3, e4, e5, e6⟩, ⟨x0, x1, x2, x3, x4, x5, x6⟩, y0, y1, y2, y3, y4, y5, y6⟩ := HC.out _ cur)
        | (go_at_call 30; refine (rtype_any l _ n vk _ (HN.out.to (HZ.out.trans (cur.mono HZ.out.size))) (HLz.out.to cur)).mono ?_; intro e w6 h; obtain ⟨rfl, hb⟩ := HT2.out _ _ _ h; have cur := cur.trans (hb.mono cur.size); have curR := curR.trans (hb.mono curR.size); clear h hb; obtain ⟨⟨⟨c0, c1, c2, c3, c4, c5, c6⟩, e0, e1, e2, e3, e4, e5, e6⟩, ⟨x0, x1, x2, x3, x4, x5, x6⟩, y0, y1, y2, y3, y4, y5, y6⟩ := HC.out _ cur)
        | (go_at_call 13; refine (print_is _ (HG.out.up (HZ.out.trans (cur.mono HZ.out.size))) n _ _ _ (HX.out.to cur) HSP.out HPR.out).mono ?_; rintro e w6 ⟨rfl, hb⟩; rw [HTS.out]; have cur := cur.trans (hb.mono cur.size); have curR := curR.trans (hb.mono curR.size); clear hb; obtain ⟨⟨⟨c0, c1, c2, c3, c4, c5, c6⟩, e0, e1, e2, e3, e4, e5, e6⟩, ⟨x0, x1, x2, x3, x4, x5, x6⟩, y0, y1, y2, y3, y4, y5, y6⟩ := HC.out _ cur)
        | (go_at_call 31; refine (rprint_any _ n vk (HN.out.to (HZ.out.trans (cur.mono HZ.out.size))) HSP2.out).mono ?_; intro e w6 h; obtain ⟨rfl, hb⟩ := HP2.out _ _ _ h; have cur := cur.trans (hb.mono cur.size); have curR := curR.trans (hb.mono curR.size); clear h hb; obtain ⟨⟨⟨c0, c1, c2, c3, c4, c5, c6⟩, e0, e1, e2, e3, e4, e5, e6⟩, ⟨x0, x1, x2, x3, x4, x5, x6⟩, y0, y1, y2, y3, y4, y5, y6⟩ := HC.out _ cur))
      have kk : (K != K) = false := by simp
      have ee : (E != E) = false := by simp
      have pp : (PE != PE) = false := by simp
      have tt : (TS.toList == TS.toList) = true := beq_self_eq_true _
      obtain ⟨C, hCk⟩ : ∃ C, checkN n = C := ⟨_, rfl⟩
      obtain ⟨D, hD⟩ : ∃ D, sameN n m = D := ⟨_, rfl⟩
      have cc : (C != C) = false := by cases C <;> rfl
      have dd : (D != D) = false := by cases D <;> rfl
      have HCK := Lib.hid hCk
      have HD := Lib.hid hD
      have HRC : Hid (∀ W, Below wz.heap.size wz W → Calls Tryz.prog 32 #[valN n vk] W fun e w' => e = .returned (.bool C) ∧ Below W.heap.size W w') := Lib.hid (fun W hW => by have := rcheck_any W n vk (HN.out.to (HZ.out.trans (hW.mono HZ.out.size))); rw [hCk] at this; exact this)
      have HRS : Hid (∀ W, Below wz.heap.size wz W → Calls Tryz.prog 33 #[valN n vk, valN m vm] W fun e w' => e = .returned (.bool D) ∧ Below W.heap.size W w') := Lib.hid (fun W hW => by have := rsame_any W n m vk vm (HN.out.to (HZ.out.trans (hW.mono HZ.out.size))) (HM.out.to (HZ.out.trans (hW.mono HZ.out.size))); rw [hD] at this; exact this)
      clear hCk hD
      go_cut [105] (fun s105 wx => s105 = .bool false ∧ ∃ w7, w7 = wx ∧ Hid (Below wz.heap.size wz w7 ∧ Below w5.heap.size w5 w7))
      case first =>
        have cur := cur.drew
        have curR := curR.drew
        go_region_held3 (fun V => (CellsN V p0 n vk ∧ CellsN V p1 m vm) ∧ CellsN V p7 n (.slice ax n.kids.length cx) ∧ CellsN V p8 m (.slice ay m.kids.length cy)) (exact HC.out _ cur) (first
          | (go_at_call 14; (with_reducible refine (check_is _ (HG.out.up (HZ.out.trans (cur.mono HZ.out.size))) n _ (HX.out.to cur) HCK.out).mono ?_); rintro e w7 ⟨rfl, hb⟩; have cur := cur.trans (hb.mono cur.size); have curR := curR.trans (hb.mono curR.size); clear hb)
          | (go_at_call 32; (with_reducible refine (HRC.out _ cur).mono ?_); rintro e w7 ⟨rfl, hb⟩; have cur := cur.trans (hb.mono cur.size); have curR := curR.trans (hb.mono curR.size); clear hb)
          | (go_at_call 15; (with_reducible refine (same_is _ n m _ _ (HX.out.to cur) (HY.out.to cur) HD.out).mono ?_); rintro e w7 ⟨rfl, hb⟩; have cur := cur.trans (hb.mono cur.size); have curR := curR.trans (hb.mono curR.size); clear hb)
          | (go_at_call 15; (with_reducible refine (same_is _ n n _ _ (HX.out.to cur) (HX.out.to cur) (sameN_refl n)).mono ?_); rintro e w7 ⟨rfl, hb⟩; have cur := cur.trans (hb.mono cur.size); have curR := curR.trans (hb.mono curR.size); clear hb)
          | (go_at_call 33; (with_reducible refine (HRS.out _ cur).mono ?_); rintro e w7 ⟨rfl, hb⟩; have cur := cur.trans (hb.mono cur.size); have curR := curR.trans (hb.mono curR.size); clear hb))
        all_goals
          go_wp2_with fail
          go_meet
          case rel => exact ⟨rfl, _, rfl, Lib.hid ⟨cur, curR⟩⟩
      case rest =>
        obtain ⟨rfl, w7, rfl, hBB⟩ := hcut
        clear cur curR
        have cur := hBB.out.1
        obtain ⟨⟨⟨c0, c1, c2, c3, c4, c5, c6⟩, e0, e1, e2, e3, e4, e5, e6⟩, ⟨x0, x1, x2, x3, x4, x5, x6⟩, y0, y1, y2, y3, y4, y5, y6⟩ := HC.out _ cur
        have hnl : (namN n).length ≤ 1048576 := by
          have h1 := namN_cnt n
          omega
        have hnl1 : (namesL n).length ≤ 1000 := by
          have h1 := (namesR_facts n).2.2
          rw [namesR_is] at h1
          have h2 := namN_cnt n
          omega
        have HRN : Hid (∀ W, Below wz.heap.size wz W → Calls Tryz.prog 34 #[valN n vk] W fun e w' => ∃ v, e = .returned v ∧ OwnZ w' W.heap.size v (namesL n) ∧ Below W.heap.size W w') := Lib.hid (fun W hW => rnames_any W n vk (HN.out.to (HZ.out.trans (hW.mono HZ.out.size))) hcn)
        obtain ⟨NL, hNL⟩ : ∃ NL, namesL n = NL := ⟨_, rfl⟩
        rw [hNL] at HRN hnl1
        have HNL := Lib.hid hNL
        clear hNL
        go_upto_region 11 with fail
        go_cut [18, 19, 20] (fun s18 s19 s20 wx => ∃ v1 v2 v3 w8, v1 = s18 ∧ v2 = s19 ∧ v3 = s20 ∧ w8 = wx ∧ Hid (Tri w5 w8 v1 v2 v3 NL NL NL ∧ Below w5.heap.size w5 w8))
        case first =>
          have curR := hBB.out.2.drew
          have cur := cur.drew
          go_region_held3 (fun V => (CellsN V p0 n vk ∧ CellsN V p1 m vm) ∧ CellsN V p7 n (.slice ax n.kids.length cx) ∧ CellsN V p8 m (.slice ay m.kids.length cy)) (exact HC.out _ cur) (first
            | (have _ := mkA; go_at_call 29; (refine (names_own _ n _ (HX.out.to cur) hnl).mono ?_); rintro e wB ⟨vB, LB, rfl, hB, hLB, hb⟩; have hB := own_cS hB; have hAB := hb; have mkB := hAB; rw [hLB, HNL.out] at hB; have cur := cur.trans (hb.mono cur.size); have curR := curR.trans (hb.mono curR.size); clear hb)
            | (go_at_call 29; (refine (names_own _ n _ (HX.out.to cur) hnl).mono ?_); rintro e wA ⟨vA, LA, rfl, hA, hLA, hb⟩; have hA := own_cS hA; have hzA := hb.size; have hcz := curR.size; have mkA := hLA; rw [hLA, HNL.out] at hA; have cur := cur.trans (hb.mono cur.size); have curR := curR.trans (hb.mono curR.size); clear hb)
            | (go_at_call 34; (refine (HRN.out _ cur).mono ?_); rintro e wC ⟨vC, rfl, hC, hb⟩; have hBC := hb; have cur := cur.trans (hb.mono cur.size); have curR := curR.trans (hb.mono curR.size); clear hb))
          all_goals
            have HTR := Lib.hid (And.intro (tri_of hcz hA hB hC hAB hBC hzA) curR)
            clear hA hB hC hAB hBC hcz hzA cur curR
            go_wp2_with fail
            go_meet
            case rel => exact ⟨_, _, _, _, rfl, rfl, rfl, rfl, HTR⟩
        case rest =>
          obtain ⟨v1, v2, v3, w8, rfl, rfl, rfl, rfl, hT⟩ := hcut
          obtain ⟨a1, k1, rfl⟩ : ∃ a c, v1 = .slice a NL.length c := OwnF.shape hT.out.1.a
          obtain ⟨a2, k2, rfl⟩ : ∃ a c, v2 = .slice a NL.length c := OwnF.shape hT.out.1.b
          obtain ⟨a3, k3, rfl⟩ : ∃ a c, v3 = .slice a NL.length c := OwnF.shape hT.out.1.c
          have ll : ((NL.length : Int) != (NL.length : Int)) = false := by simp
          have HT0 : Hid (Tri w5 w8 (.slice a1 NL.length k1) (.slice a2 NL.length k2) (.slice a3 NL.length k3) NL NL NL ∧ AgreeF 0 NL NL ∧ Below w5.heap.size w5 w8) := Lib.hid ⟨hT.out.1, fun _ _ => rfl, hT.out.2⟩
          clear cur hBB hT
          go_wp2_with fail
          go_loopg [21] NL.length (fun g s21 wr => ∃ (i : Nat) (A : List (List UInt8)), i + g = NL.length ∧ s21 = .int .i64 (i : Int) ∧ A.length = NL.length ∧ Hid (Tri w5 wr (.slice a1 NL.length k1) (.slice a2 NL.length k2) (.slice a3 NL.length k3) A NL NL ∧ AgreeF i A NL ∧ Below w5.heap.size w5 wr))
          case atStart => exact ⟨0, NL, by omega, rfl, rfl, HT0⟩
          case round =>
            obtain ⟨i, A, hig, rfl, hAl, hI⟩ := hrel
            by_cases hi : i < NL.length
            · have f1 : decide ((i : Int) < (NL.length : Int)) = true := decide_eq_true (by omega)
              have f1' : decide (i < NL.length) = true := decide_eq_true hi
              obtain ⟨g1, q1, -, -, l1⟩ := OwnF.some hI.out.1.a (show 0 < A.length by omega)
              obtain ⟨g2, q2, -, -, l2⟩ := OwnF.some hI.out.1.b (show 0 < NL.length by omega)
              obtain ⟨g3, q3, -, -, l3⟩ := OwnF.some hI.out.1.c (show 0 < NL.length by omega)
              subst q1 q2 q3
              have r1 := z_at hI.out.1.a (i := i) (by omega)
              have r2 := z_at hI.out.1.b hi
              have r3 := z_at hI.out.1.c hi
              have rf : wr.frozen? ⟨g1, i, none⟩ = false := OwnF.free hI.out.1.a i
              have hA1 : A[i]'(by omega) = NL[i] := by
                have := hI.out.2.1 i (Nat.le_refl _)
                rw [List.getElem?_eq_getElem (by omega), List.getElem?_eq_getElem hi] at this
                exact Option.some.inj this
              rw [hA1] at r1
              obtain ⟨xb, hxb⟩ : ∃ xb : ByteArray, (⟨NL[i].toArray⟩ : ByteArray) = xb := ⟨_, rfl⟩
              rw [hxb] at r1 r2 r3
              have hn2 : ¬ g2 = g1 := fun e => hI.out.1.n2 g1 rfl (by rw [← e]; rfl)
              have hn3 : ¬ g3 = g1 := fun e => hI.out.1.n3 g1 rfl (by rw [← e]; rfl)
              have hm2 : ¬ g1 = g2 := fun e => hn2 e.symm
              have hm3 : ¬ g1 = g3 := fun e => hn3 e.symm
              have bb : (xb.toList == xb.toList) = true := beq_self_eq_true _
              have i0' : (0 : Int) ≤ (i : Int) := by omega
              have i1' : (i : Int) < (NL.length : Int) := by omega
              have HAL := Lib.hid hAl
              clear hxb hA1 hAl
              go_wp2_with fail
              go_quiet (fail)
              have HS := Lib.hid ((hI.out.1.kept (below_drewN' nq)).store (i := i) (by have := HAL.out; omega) [115, 112, 111, 105, 108, 116])
              have HBn := Lib.hid (hI.out.2.2.trans ((below_drewN' nq).mono hI.out.2.2.size))
              have HAG := Lib.hid (hI.out.2.1.set (i := i) [115, 112, 111, 105, 108, 116])
              have hgw := Lib.hid (own_lt hI.out.1.a (g := g1) rfl).1
              clear hI
              go_wp2_with fail
              go_quiet (fail)
              have HF := Lib.hid (And.intro (HS.out.1.kept (below_drewN' nq)) (And.intro HAG.out ((HBn.out.grown HS.out.2 HBn.out.size (fun k hk => by cases hk; exact hgw.out)).trans ((below_drewN' nq).mono (HBn.out.grown HS.out.2 HBn.out.size (fun k hk => by cases hk; exact hgw.out)).size))))
              clear HS HBn HAG hgw
              go_wp2_with fail
              go_roundg (gk - 1)
              case measure => omega
              case rel => exact ⟨i + 1, A.set i [115, 112, 111, 105, 108, 116], by omega, by go_num, by rw [List.length_set]; exact HAL.out, HF⟩
            · have f1 : decide ((i : Int) < (NL.length : Int)) = false := decide_eq_false (by omega)
              have f1' : decide (i < NL.length) = false := decide_eq_false hi
              have HB9 : Hid (Below w5.heap.size w5 wr) := Lib.hid hI.out.2.2
              clear hI
              go_wp2_with fail
              go_loopg [22] l.length (fun g s22 wr => ∃ k : Nat, k + g = l.length ∧ s22 = .int .i64 (k : Int) ∧ Hid (Below w5.heap.size w5 wr))
              case atStart => exact ⟨0, by omega, rfl, HB9⟩
              case round =>
                obtain ⟨k, hkg, rfl, hB⟩ := hrel
                by_cases hk : k < l.length
                · have f2 : decide ((k : Int) < (l.length : Int)) = true := decide_eq_true (by omega)
                  have f2' : decide (k < l.length) = true := decide_eq_true hk
                  have hRk := OwnF.kept HR5.out hB.out
                  obtain ⟨gb, qb, -, -, lb⟩ := OwnF.some hRk (show 0 < l.length by omega)
                  subst qb
                  have hzr := HW5.out.trans (hB.out.mono HW5.out.size)
                  obtain ⟨b, o, qv, hlt, -, -, s0, s1, s2, s3, s4⟩ := (HLz.out.to hzr).at hk
                  subst qv
                  have t0 := OwnF.at cellBd_len hRk (i := k) hk (j := 0) (by omega)
                  have t1 := OwnF.at cellBd_len hRk (i := k) hk (j := 1) (by omega)
                  have t2 := OwnF.at cellBd_len hRk (i := k) hk (j := 2) (by omega)
                  have t3 := OwnF.at cellBd_len hRk (i := k) hk (j := 3) (by omega)
                  have t4 := OwnF.at cellBd_len hRk (i := k) hk (j := 4) (by omega)
                  obtain ⟨x, hx⟩ : ∃ x, l[k] = x := ⟨_, rfl⟩
                  rw [hx] at s0 s1 s2 s3 s4 t0 t1 t2 t3 t4
                  have t0 : wr.cell? ⟨gb, k * 5, none⟩ = some (.string x.name) := t0
                  have t1 : wr.cell? ⟨gb, k * 5 + 1, none⟩ = some (.int .u8 x.val.kind) := t1
                  have t2 : wr.cell? ⟨gb, k * 5 + 2, none⟩ = some (.int .i64 x.val.num) := t2
                  have t3 : wr.cell? ⟨gb, k * 5 + 3, none⟩ = some (.bool x.val.tr) := t3
                  have t4 : wr.cell? ⟨gb, k * 5 + 4, none⟩ = some (.string x.val.text) := t4
                  have hq : ∀ W, (binOp .neq 55 (.agg #[.string x.name, .int .u8 x.val.kind, .int .i64 x.val.num, .bool x.val.tr, .string x.val.text]) (.agg #[.string x.name, .int .u8 x.val.kind, .int .i64 x.val.num, .bool x.val.tr, .string x.val.text])).run Tryz.prog W = .ok (.bool false) W := fun W => run_neq_bd W x
                  have j0 : (0 : Int) ≤ (k : Int) := by omega
                  have j1 : (k : Int) < (l.length : Int) := by omega
                  have hgb := cell_lt t0
                  have hbb := cell_lt s0
                  have HKT := Lib.hid (show ∀ V, Below wr.heap.size wr V → (V.cell? ⟨gb, k * 5, none⟩ = some (.string x.name) ∧ V.cell? ⟨gb, k * 5 + 1, none⟩ = some (.int .u8 x.val.kind) ∧ V.cell? ⟨gb, k * 5 + 2, none⟩ = some (.int .i64 x.val.num) ∧ V.cell? ⟨gb, k * 5 + 3, none⟩ = some (.bool x.val.tr) ∧ V.cell? ⟨gb, k * 5 + 4, none⟩ = some (.string x.val.text)) ∧ (V.cell? ⟨b, o + k * 5, none⟩ = some (.string x.name) ∧ V.cell? ⟨b, o + k * 5 + 1, none⟩ = some (.int .u8 x.val.kind) ∧ V.cell? ⟨b, o + k * 5 + 2, none⟩ = some (.int .i64 x.val.num) ∧ V.cell? ⟨b, o + k * 5 + 3, none⟩ = some (.bool x.val.tr) ∧ V.cell? ⟨b, o + k * 5 + 4, none⟩ = some (.string x.val.text)) from fun V hV => ⟨⟨(Below.cellB hV hgb).trans t0, (Below.cellB hV hgb).trans t1, (Below.cellB hV hgb).trans t2, (Below.cellB hV hgb).trans t3, (Below.cellB hV hgb).trans t4⟩, (Below.cellB hV hbb).trans s0, (Below.cellB hV hbb).trans s1, (Below.cellB hV hbb).trans s2, (Below.cellB hV hbb).trans s3, (Below.cellB hV hbb).trans s4⟩)
                  have HB2 := Lib.hid hB.out.drew
                  clear hx hRk hzr t0 t1 t2 t3 t4 s0 s1 s2 s3 s4 hgb hbb
                  go_wp2_with fail
                  go_region_held3 (fun V => (V.cell? ⟨gb, k * 5, none⟩ = some (.string x.name) ∧ V.cell? ⟨gb, k * 5 + 1, none⟩ = some (.int .u8 x.val.kind) ∧ V.cell? ⟨gb, k * 5 + 2, none⟩ = some (.int .i64 x.val.num) ∧ V.cell? ⟨gb, k * 5 + 3, none⟩ = some (.bool x.val.tr) ∧ V.cell? ⟨gb, k * 5 + 4, none⟩ = some (.string x.val.text)) ∧ (V.cell? ⟨b, o + k * 5, none⟩ = some (.string x.name) ∧ V.cell? ⟨b, o + k * 5 + 1, none⟩ = some (.int .u8 x.val.kind) ∧ V.cell? ⟨b, o + k * 5 + 2, none⟩ = some (.int .i64 x.val.num) ∧ V.cell? ⟨b, o + k * 5 + 3, none⟩ = some (.bool x.val.tr) ∧ V.cell? ⟨b, o + k * 5 + 4, none⟩ = some (.string x.val.text))) (first | exact HKT.out _ (Below.refl _ _).drew | go_keep) (fail)
                  go_wp2_with fail
                  go_roundg (gk - 1)
                  case measure => omega
                  case rel => exact ⟨k + 1, by omega, by go_num, HB2⟩
                · have f2 : decide ((k : Int) < (l.length : Int)) = false := decide_eq_false (by omega)
                  have f2' : decide (k < l.length) = false := decide_eq_false hk
                  have HSS : Hid (∀ (W : World) (va' vb' : Value), NdR W W.heap.size va' n → NdR W W.heap.size vb' n → Calls Tryz.prog 33 #[valN n va', valN n vb'] W fun e w' => e = .returned (.bool true) ∧ Below W.heap.size W w') := Lib.hid (fun W va' vb' h1 h2 => by have := rsame_any W n n va' vb' h1 h2; rw [sameN_refl] at this; exact this)
                  go_wp2_with fail
                  have cur := (HW5.out.trans (hB.out.mono HW5.out.size)).drew
                  go_region_held3 (fun V => (CellsN V p0 n vk ∧ CellsN V p1 m vm) ∧ CellsN V p7 n (.slice ax n.kids.length cx) ∧ CellsN V p8 m (.slice ay m.kids.length cy)) (exact HC.out _ cur) (first
                    | (go_at_call 35; (refine (back_any (SizeOf.sizeOf n) n (Nat.le_refl _) hcn _ _ (HX.out.to cur)).mono ?_); rintro e wb ⟨vb, rfl, hKb, hb⟩; obtain ⟨ab, cb, rfl⟩ := hKb.val; have hNb := (show NdR wb wb.heap.size _ n from ⟨HX.out.1, hKb.kids⟩); have cur := cur.trans (hb.mono cur.size); clear hb)
                    | (go_at_call 33; (refine (HSS.out _ _ _ hNb (HN.out.to (HZ.out.trans (cur.mono HZ.out.size)))).mono ?_); rintro e wS ⟨rfl, hb⟩; have cur := cur.trans (hb.mono cur.size); clear hb)
                    | (go_at_call 10; (refine (HAW.out _ (HZ.out.trans (cur.mono HZ.out.size))).mono ?_); rintro e wW ⟨rfl, hb⟩; have cur := cur.trans (hb.mono cur.size); clear hb))
                  all_goals
                    go_wp2_with fail
                    go_ret
                    exact ⟨rfl, HZ.out.trans (cur.mono HZ.out.size)⟩
  · have d1 : decide ((100 : Int) < (l.length : Int)) = true := decide_eq_true (by omega)
    have d1' : decide (100 < l.length) = true := decide_eq_true (by omega)
    go_enter Tryz.func8, Tryz.ntmps8
    go_wp2_with (first
      | (have _ := mk1; go_at_call 11; refine (HF2.out _ cur).mono ?_; rintro e w2 ⟨rfl, hb⟩; have cur := cur.trans (hb.mono cur.size); clear hb)
      | (go_at_call 11; refine HF.out.mono ?_; rintro e w2 ⟨rfl, hb⟩; have mk1 := HF; have cur := cur.trans (hb.mono cur.size); obtain ⟨⟨c0, c1, c2, c3, c4, c5, c6⟩, e0, e1, e2, e3, e4, e5, e6⟩ := HC0.out _ cur; clear hb)
      | (go_at_call 10; refine (HAW.out _ (HB0.out.trans (cur.mono HB0.out.size))).mono ?_; rintro e w2 ⟨rfl, hb⟩; have cur := cur.trans (hb.mono cur.size); clear hb))
    go_ret
    exact ⟨rfl, HB0.out.trans (cur.mono HB0.out.size)⟩
theorem exprAsks_walk (w : World) (hg : Gx w) (n : Nd) (vk : Value) (hn : NdR w w.heap.size vk n) (m : Nd) (vm : Value) (hm : NdR w w.heap.size vm m) (vv : Value) (l : List Bd) (hl : BdsR w w.heap.size vv l) (_hll : l.length ≤ 2513169434900) : Calls Tryz.prog 8 #[valN n vk, valN m vm, vv] w fun e w' => e = .returned (.bool true) ∧ Below w.heap.size w w' :=
  exprAsks_go w hg n m vk vm hn hm vv l hl
end Go.Proofs.YtbephgifbghilaaGreatDoor
