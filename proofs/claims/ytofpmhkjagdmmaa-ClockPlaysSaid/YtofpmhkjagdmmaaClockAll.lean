/- (*clock.Clock).All: what is set, in its order, in new memory. -/
import Derived.Test.YtofpmhkjagdmmaaClockSort
import Derived.Test.YtofpmhkjagdmmaaClockTick
import Derived.Test.YtofpmhkjagdmmaaAppSrc
import Derived.Shelf.SlSortCmp.NoneTotal
set_option maxRecDepth 100000
namespace Go.Proofs.Ytofpmhkjagdmmaa
open Go.RowKit

theorem cellsE_ones (l : List Ent) : ∀ u ∈ cellsE l, u.oneCell' = true := by
  intro u hu
  unfold cellsE at hu
  obtain ⟨e, _, he⟩ := List.mem_flatMap.1 hu
  exact cellE_one e u he

set_option maxHeartbeats 1000000 in
theorem qclone_any (w : World) (base : Nat) (v : Value) (l : List Ent) (hr : Row w base v l) (_hbase : base ≤ w.heap.size) (hl : l.length ≤ 1048576) :
    Calls Try.prog 31 #[v] w fun e w' => ∃ v', e = .returned v' ∧ Row w' w.heap.size v' l ∧ Below w.heap.size w w' := by
  obtain ⟨i0, hi, hz0, hz1, hz2⟩ := info_parts info_ent
  have q22 : ∀ (w : World) (a : Option Addr) (n c n' c' : Nat), (binOp .eql 62 (.slice a n c) (.slice none n' c')).run Try.prog w = .ok (.bool a.isNone) w := fun w a n c n' c' => Lib.run_eql_slice_nil w _ _ a n c n' c' Try.underlying62
  rcases hr.own with ⟨rfl, rfl⟩ | ⟨g, cap, rfl, hg, hgl⟩
  · go_enter Try.func31, Try.ntmps31
    go_wp2_with fail
    go_ret
    exact ⟨_, rfl, World.ownsRow_nil _ _ _ _, Below.refl _ _⟩
  · have hbA := (Below.refl w.heap.size w).alloc (Nat.le_refl _) (.cells #[] 67)
    have hrA := hr.kept hbA (Nat.le_refl _)
    obtain ⟨n, hn⟩ : ∃ n, l.length = n := ⟨_, rfl⟩
    unfold Row at hrA
    rw [hn] at hrA hl ⊢
    have HN := Lib.hid hn
    clear hr hn
    go_enter Try.func31, Try.ntmps31
    go_wp2_with (at_builtin; go_must (refine wpList_append_src _ rfl _ _ 62 rfl w.heap.size base 67 i0 _ 5 48 Try.underlying62 hi hz0 hz1 hz2 rfl (by decide) _ 0 [] rfl (World.ownsRow_made w #[] 0 (Nat.le_refl _) (by simp) (by simp)) _ n (cellsE l) rfl hrA (cellsE_ones l) (by unfold maxLen; omega) (by omega) (by simp) ?_; intro v' w1 hown hg1 _))
    go_ret
    refine ⟨_, rfl, ?_, (Below.refl _ _).alloc (Nat.le_refl _) _ |>.grown hg1 (by simp) (fun k hk => by cases hk; exact Nat.le_refl _)⟩
    unfold Row
    rw [HN.out]
    simpa using hown

theorem pdq_nil (w : World) (lim : Int) (fv : Value) : Calls Try.prog 37 #[.slice none 0 0, .int .i64 0, .int .i64 0, .int .i64 lim, fv] w fun e w' => e = .returned (.tuple #[]) ∧ w = w' :=
  Calls.mono (AnyF.pdqsortCmpFunc_none Try.pdqEnt none 0 lim fv w) fun _ _ ⟨a, b⟩ => ⟨a, b.symm⟩
theorem sort_nil (w : World) (fv : Value) : Calls Try.prog 32 #[.slice none 0 0, fv] w fun e w' => e = .returned (.tuple #[]) ∧ w = w' := by
  have HB := Lib.hid (bits_any 0 w (by omega))
  go_enter Try.func32, Try.ntmps32
  go_wp2_with (first | (go_at_call 38; refine HB.out.mono ?_; rintro e w' ⟨rfl, rfl⟩) | (go_at_call 37; refine Calls.mono (pdq_nil _ _ _) ?_; rintro e w' ⟨rfl, rfl⟩))
  go_end0
  exact ⟨rfl, rfl⟩
theorem sortv_any (w : World) (base : Nat) (v : Value) (l : List Ent) (h : Row w base v l) (hl : l.length ≤ 1048576) :
    Calls Try.prog 32 #[v, .func (.func 33) #[] #[]] w fun e w' =>
      e = .returned (.tuple #[]) ∧ ∃ S : List Ent, S.Perm l ∧ S.Pairwise (fun a b => ltEnt b a = false) ∧ Row w' base v S ∧ Frm [v.ownBlock] w w' := by
  rcases h.own with ⟨rfl, rfl⟩ | ⟨g, cap, rfl, hg, hgl⟩
  · exact (sort_nil w _).mono fun e w' ⟨a, b⟩ => by subst b; exact ⟨a, [], List.Perm.refl _, List.Pairwise.nil, h, Frm.refl _ _⟩
  · exact sort_any w base g cap l h hl
theorem sort_below {w w1 w2 : World} {v : Value} {l : List Ent} (hb : Below w.heap.size w w1) (hr : Row w1 w.heap.size v l) (hf : Frm [v.ownBlock] w1 w2) : Below w.heap.size w w2 := by
  refine ⟨hf.os.trans hb.os, hf.tape.trans hb.tape, hf.output.trans hb.output, Nat.le_trans hb.size hf.size, fun k hk => (hf.keep k (Nat.lt_of_lt_of_le hk hb.size) (fun r hr' e => ?_)).trans (hb.block k hk)⟩
  rw [List.mem_singleton.1 hr'] at e
  rcases hr.own with ⟨rfl, _⟩ | ⟨g, cap, rfl, hg, _⟩
  · cases e
  · simp [Value.ownBlock] at e
    omega

theorem als_below {w w1 w2 : World} {v : Value} {A : List Al} (hb : Below w.heap.size w w1) (hr : Als w1 w.heap.size v A) (hf : Frm [v.ownBlock] w1 w2) : Below w.heap.size w w2 := by
  refine ⟨hf.os.trans hb.os, hf.tape.trans hb.tape, hf.output.trans hb.output, Nat.le_trans hb.size hf.size, fun k hk => (hf.keep k (Nat.lt_of_lt_of_le hk hb.size) (fun r hr' e => ?_)).trans (hb.block k hk)⟩
  rw [List.mem_singleton.1 hr'] at e
  rcases hr.val with ⟨rfl, _⟩ | ⟨g, cap, rfl, hg, _⟩
  · cases e
  · simp [Value.ownBlock] at e
    omega

set_option maxHeartbeats 2000000 in
theorem all_any (w : World) (base p : Nat) (now many : Int) (v : Value) (l : List Ent) (hc : Clk w p now v many) (hr : Row w base v l) (hbase : base ≤ w.heap.size) (hl : l.length ≤ 1048576) :
    Calls Try.prog 23 #[.pointer (some ⟨p, 0, none⟩)] w fun r w' => ∃ vA, ∃ S : List Ent, r = .returned vA ∧ S.Perm l ∧ S.Pairwise (fun a b => ltEnt b a = false) ∧ Als w' w.heap.size vA (S.map Ent.al) ∧ Below w.heap.size w w' := by
  obtain ⟨i0, hti, hz0, hz1, hz2⟩ := info_parts info_al
  obtain ⟨k0, k1, k2⟩ := box3 hc
  have HQ := Lib.hid (qclone_any w base v l hr hbase hl)
  obtain ⟨q, cap, rfl⟩ := hr.shape
  clear hc hr
  go_enter Try.func23, Try.ntmps23
  go_wp2_with (go_at_call 31; refine HQ.out.mono ?_; rintro e w1 ⟨v1, rfl, hr1, hb1⟩; refine Hid.out ?_)
  refine Lib.hid ?_
  have HS := Lib.hid (sortv_any w1 _ v1 l hr1 hl)
  go_wp2_with (go_at_call 32; refine HS.out.mono ?_; rintro e w2 ⟨rfl, S, hp, hso, hr2, hf2⟩; refine Hid.out ?_)
  refine Lib.hid ?_
  have hSl : S.length ≤ 1048576 := by rw [hp.length_eq]; exact hl
  have hb2 : Below w.heap.size w w2 := sort_below hb1 hr1 hf2
  have hz2' := hb2.size
  obtain ⟨q2, cap2, rfl⟩ := hr2.shape
  have HP := Lib.hid hp
  have HSO := Lib.hid hso
  clear hp hso k0 k1 k2 HQ HS hr1 hf2 hb1 hl
  go_wp2_with fail
  go_loopg [4, 18] S.length (fun gh s4 s18 wx => ∃ i : Nat, i + gh = S.length ∧ s18 = .int .i64 (i : Int) ∧ Als wx w.heap.size s4 ((S.take i).map Ent.al) ∧ Row wx w.heap.size (.slice q2 S.length cap2) S ∧ Below w.heap.size w wx)
  case atStart => exact ⟨0, by omega, rfl, OwnF.nil _ _, hr2, hb2⟩
  case round =>
    clear hr2 hb2 hz2'
    obtain ⟨i, hig, rfl, hO, hR, hB⟩ := hrel
    have hzr := hB.size
    by_cases hi : i < S.length
    · rcases hR.own with ⟨_, hx⟩ | ⟨g, cap3, hv, hbg, hg⟩
      · rw [hx] at hi; simp at hi
      cases hv
      obtain ⟨a0, a1, a2, a3, a4⟩ := hR.at (i := i) hi
      have htk : (S.take (i + 1)).map Ent.al = (S.take i).map Ent.al ++ [(atL S i).al] := by rw [List.take_add_one, List.getElem?_eq_getElem hi, atL_eq hi]; simp only [Option.toList_some, List.map_append, List.map_cons, List.map_nil]
      obtain ⟨x, hx⟩ : ∃ x, atL S i = x := ⟨_, rfl⟩
      rw [hx] at a0 a1 a2 a3 a4 htk
      have HTK := Lib.hid htk
      have hOl : ((S.take i).map Ent.al).length ≤ 1048576 := by simp; omega
      obtain ⟨O, hOe⟩ : ∃ O, (S.take i).map Ent.al = O := ⟨_, rfl⟩
      rw [hOe] at HTK hO hOl
      have hw4b := (Below.refl wr.heap.size wr).alloc (Nat.le_refl _) (.cells #[.int .i64 x.al.due, .int .i64 x.al.token, .string x.al.via, .int .i64 x.al.inst, .int .i64 x.n] 67)
      have hw4n := heap_alloc_new wr (.cells #[.int .i64 x.al.due, .int .i64 x.al.token, .string x.al.via, .int .i64 x.al.inst, .int .i64 x.n] 67)
      obtain ⟨w4, hw4⟩ : ∃ w4, wr.alloc (.cells #[.int .i64 x.al.due, .int .i64 x.al.token, .string x.al.via, .int .i64 x.al.inst, .int .i64 x.n] 67) = w4 := ⟨_, rfl⟩
      rw [hw4] at hw4b hw4n
      obtain ⟨b0, b1, b2, b3, b4⟩ := box5 hw4n
      have hO4 : Als w4 w.heap.size u4 O := hO.kept hw4b
      have hB4 := hB.trans (hw4b.mono hzr)
      have hz4 := hB4.size
      have HWB := Lib.hid hw4b
      clear hw4n hw4b htk hx hOe b4
      go_wp2_with (at_builtin; refine wpList_append_own _ rfl _ _ 29 rfl w.heap.size 33 i0 _ 4 40 Try.underlying29 hti hz0 hz1 hz2 rfl (by decide) u4 O.length (cellsF cellA O) rfl (hO4.alloc _) _ 1 1 (cellA x.al) rfl rfl (cells_new w4 _ _) (cellA_one _) (by unfold maxLen; omega) (by omega) (by simp; omega) ?_; intro v6 w6 hown6 hg6 _)
      have hO6 := als_push hown6
      have hF6 : Frm [u4.ownBlock] wr w6 := ((Frm.ofBelow HWB.out).below ((Below.refl _ _).alloc (Nat.le_refl _) _)).grown hg6 (by simp)
      have hR6 := hR.frm hF6 (fun r hr => by
          rw [List.mem_singleton.1 hr]
          exact own_row hR hO (by decide))
      have hB6 : Below w.heap.size w w6 := als_below hB hO hF6
      rw [← HTK.out] at hO6
      go_roundg (S.length - (i + 1))
      case measure => omega
      case rel => exact ⟨i + 1, by omega, by go_num, hO6, hR6, hB6⟩
    · have hi' : ¬ ((i : Int) < (S.length : Int)) := by omega
      rw [List.take_of_length_le (by omega)] at hO
      go_wp2_with fail
      go_ret
      exact ⟨_, rfl, S, HP.out, HSO.out, hO, hB⟩

end Go.Proofs.Ytofpmhkjagdmmaa
