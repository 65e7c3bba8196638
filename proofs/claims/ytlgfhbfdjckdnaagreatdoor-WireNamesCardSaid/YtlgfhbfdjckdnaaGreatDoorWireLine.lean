/- (*wire.head).line (printed by gen_wireline.py; seat wire). -/
import Derived.Test.YtlgfhbfdjckdnaaGreatDoorWireLen
import Derived.Maps.OwnOps
import Derived.Maps.OwnSet
import Derived.Maps.Views
import Derived.Shelf.Strings.SlTrimAscii
import Derived.Deep.WholeRow
set_option maxRecDepth 100000
namespace Go.Proofs.YtlgfhbfdjckdnaaGreatDoor
open Go.RowKit Go.Maps

theorem seen_bool_inv {e : TypeId} {P : Program} (he : P.underlying e = some .bool) {v : Value} {z : DataW Unit × List MemPlace} (h : plainElem P e v = some z) : ∃ x, v = .bool x ∧ z = (.lit (.bool x), []) := by
  unfold plainElem at h
  rw [he] at h
  cases v <;> simp at h
  exact ⟨_, rfl, h.symm⟩
/-- The map at block b, of at most N entries, has just the names in S. -/
def SeenK (w : World) (b N : Nat) (S : List (List UInt8)) : Prop :=
  ∃ (n : Nat) (D : DataW Unit), n ≤ N ∧ w.ownsMap Tryz.prog 9 (plainElem Tryz.prog 4) b n D ∧ IsMap D ∧ ∀ x : List UInt8, D.atKey (.string x) (.lit (.bool false)) = .lit (.bool (S.contains x))
theorem SeenK.made (w : World) : SeenK (w.alloc (.map #[] 0)) w.heap.size 0 [] :=
  ⟨0, .map [], Nat.le_refl _, World.ownsMap_made _ _ _ _, ⟨[], rfl⟩, fun _ => rfl⟩
theorem SeenK.lt {w : World} {b N : Nat} {S : List (List UInt8)} (H : SeenK w b N S) : b < w.heap.size := by
  obtain ⟨n, D, _, h1, _⟩ := H
  exact h1.lt
theorem SeenK.sameB {w w' : World} {b N : Nat} {S : List (List UInt8)} (H : SeenK w b N S) (hb : w'.heap[b]? = w.heap[b]?) : SeenK w' b N S := by
  obtain ⟨n, D, h0, ⟨es, ck, h1, h2⟩, h3⟩ := H
  exact ⟨n, D, h0, ⟨es, ck, hb.trans h1, h2⟩, h3⟩
theorem SeenK.below {w w' : World} {b N : Nat} {S : List (List UInt8)} (H : SeenK w b N S) (hb : Below w.heap.size w w') : SeenK w' b N S := H.sameB (hb.block b H.lt)
theorem SeenK.look {w : World} {b N : Nat} {S : List (List UInt8)} (H : SeenK w b N S) (hz : (zeroValue 4).run Tryz.prog w = .ok (.bool false) w) (s : ByteArray) (hs : s.size ≤ maxLen) :
    (Instr.lookup 78 (.map (some b)) (.string s) false).run Tryz.prog w = .ok (.bool (S.contains s.data.toList)) w := by
  obtain ⟨n, D, _, h1, h2, h3⟩ := H
  obtain ⟨v, ps, hrun, hv⟩ := h1.lookup (string_keyed Tryz.underlying9) Tryz.underlying78 hz (plainElem_bool Tryz.underlying4 false) (Go.WideMaps.keyOf_string_mk Tryz.underlying9 hs)
  obtain ⟨c, rfl, hc⟩ := seen_bool_inv Tryz.underlying4 hv
  rw [h3] at hc
  injection hc with hc
  injection hc with hc
  injection hc with hc
  rw [hrun, hc]
theorem SeenK.put {w : World} {b N : Nat} {S : List (List UInt8)} (H : SeenK w b N S) (s : ByteArray) (hs : s.size ≤ maxLen) (hN : N < maxLen) :
    ∃ w', (Instr.mapUpdate 78 (.map (some b)) (.string s) (.bool true)).run Tryz.prog w = .ok () w' ∧ SeenK w' b (N + 1) (s.data.toList :: S) ∧ w.grownBy w' (some b) := by
  obtain ⟨n, D, h0, h1, h2, h3⟩ := H
  obtain ⟨w', hrun, h4, h5⟩ := h1.update (string_keyed Tryz.underlying9) Tryz.underlying78 (by omega) (Go.WideMaps.keyOf_string_mk Tryz.underlying9 hs) (plainElem_bool Tryz.underlying4 true)
  refine ⟨w', hrun, ⟨n + 1, _, by omega, h4, h2.put _ _, fun x => ?_⟩, h5⟩
  by_cases e : x = s.data.toList
  · subst e
    rw [atKey_put_same h2 (by trivial)]
    simp
  · rw [atKey_put_other (by intro h; injection h with h; exact e h), h3 x, List.contains_cons]
    congr 2
    rw [beq_eq_false_iff_ne.2 e, Bool.false_or]
theorem zero_bool (w : World) : (zeroValue 4).run Tryz.prog w = .ok (.bool false) w :=
  (zero_of_info (P := Tryz.prog) (t := 4) (v := .bool false) (n := 1) (by kernel_rfl)).1 w
theorem trim_run (s cutset : ByteArray) (w : World) (hs : s.size ≤ 9223372036854775807) (hcs : cutset.size < 4294967281) (hascii : ∀ (j : Nat) b, cutset.data.toList[j]? = some b → b.toNat < 128) :
    Calls Tryz.prog 74 #[.string s, .string cutset] w fun e w' => e = .returned (.string ⟨(Lib.trimS s.data.toList cutset.data.toList).toArray⟩) ∧ Below w.heap.size w w' :=
  Any.strings_Trim_ascii Tryz.lays160 (fun w => (zero_of_info (P := Tryz.prog) (t := Tryz.lays160_ren.t 116) (v := .agg (Array.replicate 256 (.bool false))) (n := 256) (by kernel_rfl)).1 w) (zero_of_info (P := Tryz.prog) (t := Tryz.lays160_ren.t 116) (v := .agg (Array.replicate 256 (.bool false))) (n := 256) (by kernel_rfl)).2 s cutset w hs hcs hascii
theorem cutP_fst (s sep : List UInt8) : (Lib.cut s sep).1.length ≤ s.length := by
  unfold Lib.cut
  split
  · simp; omega
  · exact Nat.le_refl _
theorem cutP_snd (s sep : List UInt8) : (Lib.cut s sep).2.1.length ≤ s.length := by
  unfold Lib.cut
  split
  · simp
  · exact Nat.zero_le _
theorem trimP_le (l cs : List UInt8) : (Lib.trimS l cs).length ≤ l.length := by
  unfold Lib.trimS Lib.trimLeftS Lib.trimRightS
  refine Nat.le_trans (List.dropWhile_sublist _).length_le ?_
  rw [List.length_reverse]
  refine Nat.le_trans (List.dropWhile_sublist _).length_le ?_
  rw [List.length_reverse]
  exact Nat.le_refl _
theorem hd_key {W : World} {ph bm : Nat} {m0 p0 k0 b0 : ByteArray} {sz : Int} (h : HdB W ph m0 p0 k0 b0 sz bm) (x : ByteArray) : HdB (W.setCell ⟨ph, 2, none⟩ (.string x)) ph m0 p0 x b0 sz bm := set_selfH _ h
theorem eq_lit (k : ByteArray) (L : List UInt8) : (k.toList == L) = decide (k.data.toList = L) := by
  rw [ByteArray.toList_eq]
  exact Bool.eq_iff_iff.2 ⟨fun h => decide_eq_true (beq_iff_eq.1 h), fun h => beq_iff_eq.2 (of_decide_eq_true h)⟩
theorem bytesL_size (l : List UInt8) : (bytesL l).size = l.length := by unfold bytesL; exact List.size_toArray

theorem lineS_good {h : HS} {l : List UInt8} (h1 : (Lib.cut l [58]).2.2 = true) (h2 : (Lib.cut l [58]).1 ≠ []) (h3 : allL nmC (Lib.cut l [58]).1 = true) : lineS h l = lineK h (Lib.toLowerA (Lib.cut l [58]).1) (Lib.trimS (Lib.cut l [58]).2.1 [32, 9]) := by
  unfold lineS
  rw [if_neg (fun e => by
    rcases e with e | e | e
    · rw [h1] at e; cases e
    · exact h2 e
    · rw [h3] at e; cases e)]
/-- What a line leaves. -/
def LineP (w : World) (ph bm N : Nat) (m0 p0 b0 : ByteArray) (r : Int × HS) (e : Ending) (w' : World) : Prop :=
  e = .returned (.int .i64 r.1) ∧ Frm [some ph, some bm] w w' ∧ (r.1 = 0 → HdB w' ph m0 p0 (bytesL r.2.key) b0 (r.2.size : Int) bm ∧ SeenK w' bm (N + 1) r.2.seen)

set_option maxHeartbeats 4000000 in
theorem line_bad (w : World) (hg : Gnd w) (s : ByteArray) (hs : s.size ≤ 300000) (ph bm N : Nat) (m0 p0 b0 : ByteArray) (h : HS) (hc : (Lib.cut s.data.toList [58]).2.2 = false ∨ (Lib.cut s.data.toList [58]).1 = [] ∨ allL nmC (Lib.cut s.data.toList [58]).1 = false) :
    Calls Tryz.prog 54 #[.pointer (some ⟨ph, 0, none⟩), .string s] w (LineP w ph bm N m0 p0 b0 (lineS h s.data.toList)) := by
  have hv : Hid (lineS h s.data.toList = (400, h)) := by refine Lib.hid ?_; unfold lineS; rw [if_pos hc]
  rw [hv.out]
  obtain ⟨m, hm⟩ := hg.maxl
  have HC := Lib.hid (Tryz.strings_Cut s ⟨#[58]⟩ m w (by omega) (hm w (Below.refl _ _)))
  have hz := cutP_fst s.data.toList [58]
  have e1 : (ByteArray.mk #[58]).data.toList = [58] := rfl
  rw [e1] at HC
  have HN := Lib.hid (fun W => name_any W (bytesL (Lib.cut s.data.toList [58]).1) (by rw [bytesL_size]; rw [Array.length_toList] at hz; have : s.data.size = s.size := rfl; omega))
  rw [bytesL_list] at HN
  obtain ⟨kB, hkB⟩ : ∃ x, bytesL (Lib.cut s.data.toList [58]).1 = x := ⟨_, rfl⟩
  have hkB2 : (⟨(Lib.cut s.data.toList [58]).1.toArray⟩ : ByteArray) = kB := hkB
  rw [hkB2] at HC
  rw [hkB] at HN
  obtain ⟨nb, hnb⟩ : ∃ b, (decide ((Lib.cut s.data.toList [58]).1 ≠ []) && allL nmC (Lib.cut s.data.toList [58]).1) = b := ⟨_, rfl⟩
  obtain ⟨ob, hob⟩ : ∃ b, (Lib.cut s.data.toList [58]).2.2 = b := ⟨_, rfl⟩
  rw [hnb] at HN
  rw [hob] at HC hc
  have hor : ob = false ∨ (ob = true ∧ nb = false) := by
    cases ob
    · exact .inl rfl
    · refine .inr ⟨rfl, ?_⟩
      rw [← hnb]
      rcases hc with h | h | h
      · cases h
      · rw [h]; rfl
      · rw [h, Bool.and_false]
  clear hm hg hc hz hnb hob hkB hkB2 e1
  rcases hor with rfl | ⟨rfl, rfl⟩
  all_goals
    go_enter Tryz.func54, Tryz.ntmps54
    go_wp2_with (first
      | (go_at_call 31; refine HC.out.mono ?_; rintro e w2 ⟨rfl, n, rfl⟩)
      | (go_at_call 72; refine (HN.out _).mono ?_; rintro e w3 ⟨rfl, rfl⟩))
    go_ret
    exact ⟨rfl, .ofBelow (below_drewN (Below.refl _ _) n), fun h => by cases h⟩

/-- What is at hand for a good line. -/
structure LnK (B : Nat) (w : World) (s : ByteArray) (ph bm N : Nat) (m0 p0 b0 : ByteArray) (h : HS) : Prop where
  gnd : GndB B w
  sz : s.size ≤ 300000
  hd : HdB w ph m0 p0 (bytesL h.key) b0 (h.size : Int) bm
  seen : SeenK w bm N h.seen
  few : N ≤ 1000000
  lph : B ≤ ph
  lbm : B ≤ bm
  ne : ph ≠ bm
  ok : (Lib.cut s.data.toList [58]).2.2 = true
  nm : (Lib.cut s.data.toList [58]).1 ≠ [] ∧ allL nmC (Lib.cut s.data.toList [58]).1 = true

set_option maxHeartbeats 4000000 in
theorem line_host2 (B : Nat) (w : World) (s : ByteArray) (ph bm N : Nat) (m0 p0 b0 : ByteArray) (h : HS) (L : LnK B w s ph bm N m0 p0 b0 h) (hk : (Lib.toLowerA (Lib.cut s.data.toList [58]).1) = hostK) (ha : h.seen.contains (Lib.toLowerA (Lib.cut s.data.toList [58]).1) = true) :
    Calls Tryz.prog 54 #[.pointer (some ⟨ph, 0, none⟩), .string s] w (LineP w ph bm N m0 p0 b0 (lineS h s.data.toList)) := by
  obtain ⟨hg, hs, hb, hS, hN, hph, hbm, hne, hok, hnm⟩ := L
  have hv : lineS h s.data.toList = lineK h (Lib.toLowerA (Lib.cut s.data.toList [58]).1) (Lib.trimS (Lib.cut s.data.toList [58]).2.1 [32, 9]) := lineS_good hok hnm.1 hnm.2
  rw [hv]
  obtain ⟨m, hm⟩ := hg.gnd.maxl
  have hz1 := cutP_fst s.data.toList [58]
  have hz2 := cutP_snd s.data.toList [58]
  have hz3 := trimP_le (Lib.cut s.data.toList [58]).2.1 [32, 9]
  rw [Array.length_toList] at hz1 hz2
  have hsd : s.data.size = s.size := rfl
  have HC := Lib.hid (Tryz.strings_Cut s ⟨#[58]⟩ m w (by omega) (hm w (Below.refl _ _)))
  have e1 : (ByteArray.mk #[58]).data.toList = [58] := rfl
  rw [e1] at HC
  have HNm := Lib.hid (fun W => name_any W (bytesL (Lib.cut s.data.toList [58]).1) (by rw [bytesL_size]; omega))
  rw [bytesL_list, hnm.2, decide_eq_true hnm.1] at HNm
  have HLow := Lib.hid (fun W => Tryz.strings_ToLower_ascii (bytesL (Lib.cut s.data.toList [58]).1) W (by rw [bytesL_size]; omega) (fun j b hjb => by
    rw [bytesL_list] at hjb
    have := List.all_eq_true.1 hnm.2 b (List.mem_of_getElem? hjb)
    unfold nmC at this
    simp only [Bool.or_eq_true, Bool.and_eq_true, decide_eq_true_eq] at this
    omega))
  have HTr := Lib.hid (fun W => trim_run (bytesL (Lib.cut s.data.toList [58]).2.1) ⟨#[32, 9]⟩ W (by rw [bytesL_size]; omega) (by decide) (fun j b hjb => by
    have hb := List.mem_of_getElem? hjb
    have hb2 : b ∈ [(32 : UInt8), 9] := hb
    simp only [List.mem_cons, List.not_mem_nil, or_false] at hb2
    rcases hb2 with rfl | rfl <;> decide))
  have e2 : (ByteArray.mk #[32, 9]).data.toList = [32, 9] := rfl
  rw [bytesL_list] at HLow HTr
  rw [e2] at HTr
  rw [hok] at HC
  obtain ⟨kl, hkl⟩ : ∃ x, (Lib.toLowerA (Lib.cut s.data.toList [58]).1) = x := ⟨_, rfl⟩
  obtain ⟨vl, hvl⟩ : ∃ x, (Lib.trimS (Lib.cut s.data.toList [58]).2.1 [32, 9]) = x := ⟨_, rfl⟩
  have zk : kl.length ≤ 300000 := by rw [← hkl]; unfold Lib.toLowerA; rw [List.length_map]; omega
  have zv : vl.length ≤ 300000 := by rw [← hvl]; omega
  rw [hkl] at HLow
  rw [hvl] at HTr
  rw [hkl, hvl]
  rw [hkl] at hk
  rw [hkl] at ha
  obtain ⟨kB, hkB⟩ : ∃ x, bytesL (Lib.cut s.data.toList [58]).1 = x := ⟨_, rfl⟩
  obtain ⟨vB, hvB⟩ : ∃ x, bytesL (Lib.cut s.data.toList [58]).2.1 = x := ⟨_, rfl⟩
  have hkB2 : (⟨(Lib.cut s.data.toList [58]).1.toArray⟩ : ByteArray) = kB := hkB
  have hvB2 : (⟨(Lib.cut s.data.toList [58]).2.1.toArray⟩ : ByteArray) = vB := hvB
  rw [hkB2, hvB2] at HC
  rw [hkB] at HNm HLow
  rw [hvB] at HTr
  obtain ⟨key, hkey⟩ : ∃ x, bytesL kl = x := ⟨_, rfl⟩
  obtain ⟨v, hvv⟩ : ∃ x, bytesL vl = x := ⟨_, rfl⟩
  have hkey2 : (⟨kl.toArray⟩ : ByteArray) = key := hkey
  have hvv2 : (⟨vl.toArray⟩ : ByteArray) = v := hvv
  rw [hkey2] at HLow
  rw [hvv2] at HTr
  have lk : key.data.toList = kl := by rw [← hkey]; exact bytesL_list _
  have lv : v.data.toList = vl := by rw [← hvv]; exact bytesL_list _
  have sk : key.size ≤ 300000 := by rw [← hkey, bytesL_size]; exact zk
  have sv : v.size ≤ 300000 := by rw [← hvv, bytesL_size]; exact zv
  have qclen := eq_lit key [99, 111, 110, 116, 101, 110, 116, 45, 108, 101, 110, 103, 116, 104]
  rw [lk] at qclen
  have qikey := eq_lit key [105, 100, 101, 109, 112, 111, 116, 101, 110, 99, 121, 45, 107, 101, 121]
  rw [lk] at qikey
  have qhost := eq_lit key [104, 111, 115, 116]
  rw [lk] at qhost
  have qtenc := eq_lit key [116, 114, 97, 110, 115, 102, 101, 114, 45, 101, 110, 99, 111, 100, 105, 110, 103]
  rw [lk] at qtenc
  rw [hk, decide_eq_false (show ¬ hostK = [99, 111, 110, 116, 101, 110, 116, 45, 108, 101, 110, 103, 116, 104] by decide)] at qclen
  rw [hk, decide_eq_false (show ¬ hostK = [105, 100, 101, 109, 112, 111, 116, 101, 110, 99, 121, 45, 107, 101, 121] by decide)] at qikey
  rw [hk, decide_eq_true (show hostK = [104, 111, 115, 116] from rfl)] at qhost
  rw [hk, decide_eq_false (show ¬ hostK = [116, 114, 97, 110, 115, 102, 101, 114, 45, 101, 110, 99, 111, 100, 105, 110, 103] by decide)] at qtenc
  have hpl := lt_of_block hb
  have HBk := Lib.hid hb
  have HSn := Lib.hid hS
  have HG := Lib.hid hg
  have HK := Lib.hid lk
  obtain ⟨ag, hag⟩ : ∃ b, h.seen.contains kl = b := ⟨_, rfl⟩
  have HAg := Lib.hid hag
  obtain rfl : ag = true := hag.symm.trans ha
  have hr : Hid (lineK h kl vl = (400, h)) := by refine Lib.hid ?_; unfold lineK; rw [if_pos ⟨ha, by rw [hk]; simp⟩]
  rw [hr.out]
  clear hkl hvl zk hkB hvB hkB2 hvB2 hkey hkey2 hvv2 lk hag hb hS hg hm hz1 hz2 hz3 hv hok hnm e1 e2
  go_enter Tryz.func54, Tryz.ntmps54
  go_wp2_with (first
    | (go_at_call 31; refine HC.out.mono ?_; rintro e w2 ⟨rfl, n2, rfl⟩; have cur : Below w.heap.size w (w.drewN n2) := below_drewN (Below.refl _ _) n2)
    | (go_at_call 72; refine (HNm.out _).mono ?_; rintro e w3 ⟨rfl, rfl⟩)
    | (go_at_call 73; refine (HLow.out _).mono ?_; rintro e w5 ⟨rfl, hb5⟩; have cur := cur.trans (hb5.mono cur.size))
    | (go_at_call 74; refine (HTr.out _).mono ?_; rintro e w6 ⟨rfl, hb6⟩; have cur := cur.trans (hb6.mono cur.size); have hS6 := HSn.out.below cur; have hlk := hS6.look (zero_bool w6) key (by unfold maxLen; omega); rw [HK.out, HAg.out] at hlk; have hbk6 := (cur.block _ hpl).trans HBk.out; have c5 : w6.cell? ⟨ph, 5, none⟩ = some (.map (some bm)) := cell_of_block hbk6 5; obtain ⟨w7, hup, hS7, hg7⟩ := hS6.put key (by unfold maxLen; omega) (by unfold maxLen; omega); have hbk7 : HdB w7 ph m0 p0 (bytesL h.key) b0 (h.size : Int) bm := (hg7.block ph (Nat.lt_of_lt_of_le hpl cur.size) (fun e => by injection e with e; exact hne e)).trans hbk6; have c2 : w7.cell? ⟨ph, 2, none⟩ = some (.string (bytesL h.key)) := cell_of_block hbk7 2; have f7 := free_of_block hbk7; have F7 : Frm [some ph, some bm] w w7 := (Frm.ofBelow cur).grown hg7 (by simp); have HX7 := Lib.hid (And.intro hbk7 hS7); clear hbk6 hbk7 hS6 hS7 hg7))
  go_ret
  exact ⟨rfl, F7, fun h => by cases h⟩

set_option maxHeartbeats 4000000 in
theorem line_host1 (B : Nat) (w : World) (s : ByteArray) (ph bm N : Nat) (m0 p0 b0 : ByteArray) (h : HS) (L : LnK B w s ph bm N m0 p0 b0 h) (hk : (Lib.toLowerA (Lib.cut s.data.toList [58]).1) = hostK) (ha : h.seen.contains (Lib.toLowerA (Lib.cut s.data.toList [58]).1) = false) :
    Calls Tryz.prog 54 #[.pointer (some ⟨ph, 0, none⟩), .string s] w (LineP w ph bm N m0 p0 b0 (lineS h s.data.toList)) := by
  obtain ⟨hg, hs, hb, hS, hN, hph, hbm, hne, hok, hnm⟩ := L
  have hv : lineS h s.data.toList = lineK h (Lib.toLowerA (Lib.cut s.data.toList [58]).1) (Lib.trimS (Lib.cut s.data.toList [58]).2.1 [32, 9]) := lineS_good hok hnm.1 hnm.2
  rw [hv]
  obtain ⟨m, hm⟩ := hg.gnd.maxl
  have hz1 := cutP_fst s.data.toList [58]
  have hz2 := cutP_snd s.data.toList [58]
  have hz3 := trimP_le (Lib.cut s.data.toList [58]).2.1 [32, 9]
  rw [Array.length_toList] at hz1 hz2
  have hsd : s.data.size = s.size := rfl
  have HC := Lib.hid (Tryz.strings_Cut s ⟨#[58]⟩ m w (by omega) (hm w (Below.refl _ _)))
  have e1 : (ByteArray.mk #[58]).data.toList = [58] := rfl
  rw [e1] at HC
  have HNm := Lib.hid (fun W => name_any W (bytesL (Lib.cut s.data.toList [58]).1) (by rw [bytesL_size]; omega))
  rw [bytesL_list, hnm.2, decide_eq_true hnm.1] at HNm
  have HLow := Lib.hid (fun W => Tryz.strings_ToLower_ascii (bytesL (Lib.cut s.data.toList [58]).1) W (by rw [bytesL_size]; omega) (fun j b hjb => by
    rw [bytesL_list] at hjb
    have := List.all_eq_true.1 hnm.2 b (List.mem_of_getElem? hjb)
    unfold nmC at this
    simp only [Bool.or_eq_true, Bool.and_eq_true, decide_eq_true_eq] at this
    omega))
  have HTr := Lib.hid (fun W => trim_run (bytesL (Lib.cut s.data.toList [58]).2.1) ⟨#[32, 9]⟩ W (by rw [bytesL_size]; omega) (by decide) (fun j b hjb => by
    have hb := List.mem_of_getElem? hjb
    have hb2 : b ∈ [(32 : UInt8), 9] := hb
    simp only [List.mem_cons, List.not_mem_nil, or_false] at hb2
    rcases hb2 with rfl | rfl <;> decide))
  have e2 : (ByteArray.mk #[32, 9]).data.toList = [32, 9] := rfl
  rw [bytesL_list] at HLow HTr
  rw [e2] at HTr
  rw [hok] at HC
  obtain ⟨kl, hkl⟩ : ∃ x, (Lib.toLowerA (Lib.cut s.data.toList [58]).1) = x := ⟨_, rfl⟩
  obtain ⟨vl, hvl⟩ : ∃ x, (Lib.trimS (Lib.cut s.data.toList [58]).2.1 [32, 9]) = x := ⟨_, rfl⟩
  have zk : kl.length ≤ 300000 := by rw [← hkl]; unfold Lib.toLowerA; rw [List.length_map]; omega
  have zv : vl.length ≤ 300000 := by rw [← hvl]; omega
  rw [hkl] at HLow
  rw [hvl] at HTr
  rw [hkl, hvl]
  rw [hkl] at hk
  rw [hkl] at ha
  obtain ⟨kB, hkB⟩ : ∃ x, bytesL (Lib.cut s.data.toList [58]).1 = x := ⟨_, rfl⟩
  obtain ⟨vB, hvB⟩ : ∃ x, bytesL (Lib.cut s.data.toList [58]).2.1 = x := ⟨_, rfl⟩
  have hkB2 : (⟨(Lib.cut s.data.toList [58]).1.toArray⟩ : ByteArray) = kB := hkB
  have hvB2 : (⟨(Lib.cut s.data.toList [58]).2.1.toArray⟩ : ByteArray) = vB := hvB
  rw [hkB2, hvB2] at HC
  rw [hkB] at HNm HLow
  rw [hvB] at HTr
  obtain ⟨key, hkey⟩ : ∃ x, bytesL kl = x := ⟨_, rfl⟩
  obtain ⟨v, hvv⟩ : ∃ x, bytesL vl = x := ⟨_, rfl⟩
  have hkey2 : (⟨kl.toArray⟩ : ByteArray) = key := hkey
  have hvv2 : (⟨vl.toArray⟩ : ByteArray) = v := hvv
  rw [hkey2] at HLow
  rw [hvv2] at HTr
  have lk : key.data.toList = kl := by rw [← hkey]; exact bytesL_list _
  have lv : v.data.toList = vl := by rw [← hvv]; exact bytesL_list _
  have sk : key.size ≤ 300000 := by rw [← hkey, bytesL_size]; exact zk
  have sv : v.size ≤ 300000 := by rw [← hvv, bytesL_size]; exact zv
  have qclen := eq_lit key [99, 111, 110, 116, 101, 110, 116, 45, 108, 101, 110, 103, 116, 104]
  rw [lk] at qclen
  have qikey := eq_lit key [105, 100, 101, 109, 112, 111, 116, 101, 110, 99, 121, 45, 107, 101, 121]
  rw [lk] at qikey
  have qhost := eq_lit key [104, 111, 115, 116]
  rw [lk] at qhost
  have qtenc := eq_lit key [116, 114, 97, 110, 115, 102, 101, 114, 45, 101, 110, 99, 111, 100, 105, 110, 103]
  rw [lk] at qtenc
  rw [hk, decide_eq_false (show ¬ hostK = [99, 111, 110, 116, 101, 110, 116, 45, 108, 101, 110, 103, 116, 104] by decide)] at qclen
  rw [hk, decide_eq_false (show ¬ hostK = [105, 100, 101, 109, 112, 111, 116, 101, 110, 99, 121, 45, 107, 101, 121] by decide)] at qikey
  rw [hk, decide_eq_true (show hostK = [104, 111, 115, 116] from rfl)] at qhost
  rw [hk, decide_eq_false (show ¬ hostK = [116, 114, 97, 110, 115, 102, 101, 114, 45, 101, 110, 99, 111, 100, 105, 110, 103] by decide)] at qtenc
  have hpl := lt_of_block hb
  have HBk := Lib.hid hb
  have HSn := Lib.hid hS
  have HG := Lib.hid hg
  have HK := Lib.hid lk
  obtain ⟨ag, hag⟩ : ∃ b, h.seen.contains kl = b := ⟨_, rfl⟩
  have HAg := Lib.hid hag
  obtain rfl : ag = false := hag.symm.trans ha
  have hr : Hid (lineK h kl vl = (0, ⟨kl :: h.seen, h.key, h.size⟩)) := by refine Lib.hid ?_; unfold lineK; rw [if_neg (by rintro ⟨e, -⟩; rw [ha] at e; cases e), if_neg (by rw [hk]; decide), if_neg (by rw [hk]; decide), if_neg (by rw [hk]; decide)]
  rw [hr.out]
  clear hkl hvl zk hkB hvB hkB2 hvB2 hkey hkey2 hvv2 lk hag hb hS hg hm hz1 hz2 hz3 hv hok hnm e1 e2
  go_enter Tryz.func54, Tryz.ntmps54
  go_wp2_with (first
    | (go_at_call 31; refine HC.out.mono ?_; rintro e w2 ⟨rfl, n2, rfl⟩; have cur : Below w.heap.size w (w.drewN n2) := below_drewN (Below.refl _ _) n2)
    | (go_at_call 72; refine (HNm.out _).mono ?_; rintro e w3 ⟨rfl, rfl⟩)
    | (go_at_call 73; refine (HLow.out _).mono ?_; rintro e w5 ⟨rfl, hb5⟩; have cur := cur.trans (hb5.mono cur.size))
    | (go_at_call 74; refine (HTr.out _).mono ?_; rintro e w6 ⟨rfl, hb6⟩; have cur := cur.trans (hb6.mono cur.size); have hS6 := HSn.out.below cur; have hlk := hS6.look (zero_bool w6) key (by unfold maxLen; omega); rw [HK.out, HAg.out] at hlk; have hbk6 := (cur.block _ hpl).trans HBk.out; have c5 : w6.cell? ⟨ph, 5, none⟩ = some (.map (some bm)) := cell_of_block hbk6 5; obtain ⟨w7, hup, hS7, hg7⟩ := hS6.put key (by unfold maxLen; omega) (by unfold maxLen; omega); have hbk7 : HdB w7 ph m0 p0 (bytesL h.key) b0 (h.size : Int) bm := (hg7.block ph (Nat.lt_of_lt_of_le hpl cur.size) (fun e => by injection e with e; exact hne e)).trans hbk6; have c2 : w7.cell? ⟨ph, 2, none⟩ = some (.string (bytesL h.key)) := cell_of_block hbk7 2; have f7 := free_of_block hbk7; have F7 : Frm [some ph, some bm] w w7 := (Frm.ofBelow cur).grown hg7 (by simp); have HX7 := Lib.hid (And.intro hbk7 hS7); clear hbk6 hbk7 hS6 hS7 hg7))
  go_ret
  refine ⟨rfl, F7, fun _ => ⟨HX7.out.1, ?_⟩⟩
  have hs7 := HX7.out.2
  rw [HK.out] at hs7
  exact hs7

set_option maxHeartbeats 4000000 in
theorem line_other (B : Nat) (w : World) (s : ByteArray) (ph bm N : Nat) (m0 p0 b0 : ByteArray) (h : HS) (L : LnK B w s ph bm N m0 p0 b0 h) (hclen : (Lib.toLowerA (Lib.cut s.data.toList [58]).1) ≠ clenK) (hikey : (Lib.toLowerA (Lib.cut s.data.toList [58]).1) ≠ ikeyK) (hhost : (Lib.toLowerA (Lib.cut s.data.toList [58]).1) ≠ hostK) (htenc : (Lib.toLowerA (Lib.cut s.data.toList [58]).1) ≠ tencK) :
    Calls Tryz.prog 54 #[.pointer (some ⟨ph, 0, none⟩), .string s] w (LineP w ph bm N m0 p0 b0 (lineS h s.data.toList)) := by
  obtain ⟨hg, hs, hb, hS, hN, hph, hbm, hne, hok, hnm⟩ := L
  have hv : lineS h s.data.toList = lineK h (Lib.toLowerA (Lib.cut s.data.toList [58]).1) (Lib.trimS (Lib.cut s.data.toList [58]).2.1 [32, 9]) := lineS_good hok hnm.1 hnm.2
  rw [hv]
  obtain ⟨m, hm⟩ := hg.gnd.maxl
  have hz1 := cutP_fst s.data.toList [58]
  have hz2 := cutP_snd s.data.toList [58]
  have hz3 := trimP_le (Lib.cut s.data.toList [58]).2.1 [32, 9]
  rw [Array.length_toList] at hz1 hz2
  have hsd : s.data.size = s.size := rfl
  have HC := Lib.hid (Tryz.strings_Cut s ⟨#[58]⟩ m w (by omega) (hm w (Below.refl _ _)))
  have e1 : (ByteArray.mk #[58]).data.toList = [58] := rfl
  rw [e1] at HC
  have HNm := Lib.hid (fun W => name_any W (bytesL (Lib.cut s.data.toList [58]).1) (by rw [bytesL_size]; omega))
  rw [bytesL_list, hnm.2, decide_eq_true hnm.1] at HNm
  have HLow := Lib.hid (fun W => Tryz.strings_ToLower_ascii (bytesL (Lib.cut s.data.toList [58]).1) W (by rw [bytesL_size]; omega) (fun j b hjb => by
    rw [bytesL_list] at hjb
    have := List.all_eq_true.1 hnm.2 b (List.mem_of_getElem? hjb)
    unfold nmC at this
    simp only [Bool.or_eq_true, Bool.and_eq_true, decide_eq_true_eq] at this
    omega))
  have HTr := Lib.hid (fun W => trim_run (bytesL (Lib.cut s.data.toList [58]).2.1) ⟨#[32, 9]⟩ W (by rw [bytesL_size]; omega) (by decide) (fun j b hjb => by
    have hb := List.mem_of_getElem? hjb
    have hb2 : b ∈ [(32 : UInt8), 9] := hb
    simp only [List.mem_cons, List.not_mem_nil, or_false] at hb2
    rcases hb2 with rfl | rfl <;> decide))
  have e2 : (ByteArray.mk #[32, 9]).data.toList = [32, 9] := rfl
  rw [bytesL_list] at HLow HTr
  rw [e2] at HTr
  rw [hok] at HC
  obtain ⟨kl, hkl⟩ : ∃ x, (Lib.toLowerA (Lib.cut s.data.toList [58]).1) = x := ⟨_, rfl⟩
  obtain ⟨vl, hvl⟩ : ∃ x, (Lib.trimS (Lib.cut s.data.toList [58]).2.1 [32, 9]) = x := ⟨_, rfl⟩
  have zk : kl.length ≤ 300000 := by rw [← hkl]; unfold Lib.toLowerA; rw [List.length_map]; omega
  have zv : vl.length ≤ 300000 := by rw [← hvl]; omega
  rw [hkl] at HLow
  rw [hvl] at HTr
  rw [hkl, hvl]
  rw [hkl] at hclen
  rw [hkl] at hikey
  rw [hkl] at hhost
  rw [hkl] at htenc
  obtain ⟨kB, hkB⟩ : ∃ x, bytesL (Lib.cut s.data.toList [58]).1 = x := ⟨_, rfl⟩
  obtain ⟨vB, hvB⟩ : ∃ x, bytesL (Lib.cut s.data.toList [58]).2.1 = x := ⟨_, rfl⟩
  have hkB2 : (⟨(Lib.cut s.data.toList [58]).1.toArray⟩ : ByteArray) = kB := hkB
  have hvB2 : (⟨(Lib.cut s.data.toList [58]).2.1.toArray⟩ : ByteArray) = vB := hvB
  rw [hkB2, hvB2] at HC
  rw [hkB] at HNm HLow
  rw [hvB] at HTr
  obtain ⟨key, hkey⟩ : ∃ x, bytesL kl = x := ⟨_, rfl⟩
  obtain ⟨v, hvv⟩ : ∃ x, bytesL vl = x := ⟨_, rfl⟩
  have hkey2 : (⟨kl.toArray⟩ : ByteArray) = key := hkey
  have hvv2 : (⟨vl.toArray⟩ : ByteArray) = v := hvv
  rw [hkey2] at HLow
  rw [hvv2] at HTr
  have lk : key.data.toList = kl := by rw [← hkey]; exact bytesL_list _
  have lv : v.data.toList = vl := by rw [← hvv]; exact bytesL_list _
  have sk : key.size ≤ 300000 := by rw [← hkey, bytesL_size]; exact zk
  have sv : v.size ≤ 300000 := by rw [← hvv, bytesL_size]; exact zv
  have qclen := eq_lit key [99, 111, 110, 116, 101, 110, 116, 45, 108, 101, 110, 103, 116, 104]
  rw [lk] at qclen
  have qikey := eq_lit key [105, 100, 101, 109, 112, 111, 116, 101, 110, 99, 121, 45, 107, 101, 121]
  rw [lk] at qikey
  have qhost := eq_lit key [104, 111, 115, 116]
  rw [lk] at qhost
  have qtenc := eq_lit key [116, 114, 97, 110, 115, 102, 101, 114, 45, 101, 110, 99, 111, 100, 105, 110, 103]
  rw [lk] at qtenc
  rw [decide_eq_false (show ¬ kl = [99, 111, 110, 116, 101, 110, 116, 45, 108, 101, 110, 103, 116, 104] from hclen)] at qclen
  rw [decide_eq_false (show ¬ kl = [105, 100, 101, 109, 112, 111, 116, 101, 110, 99, 121, 45, 107, 101, 121] from hikey)] at qikey
  rw [decide_eq_false (show ¬ kl = [104, 111, 115, 116] from hhost)] at qhost
  rw [decide_eq_false (show ¬ kl = [116, 114, 97, 110, 115, 102, 101, 114, 45, 101, 110, 99, 111, 100, 105, 110, 103] from htenc)] at qtenc
  have hpl := lt_of_block hb
  have HBk := Lib.hid hb
  have HSn := Lib.hid hS
  have HG := Lib.hid hg
  have HK := Lib.hid lk
  obtain ⟨ag, hag⟩ : ∃ b, h.seen.contains kl = b := ⟨_, rfl⟩
  have HAg := Lib.hid hag
  have hr : Hid (lineK h kl vl = (0, ⟨kl :: h.seen, h.key, h.size⟩)) := by refine Lib.hid ?_; unfold lineK; rw [if_neg (fun e => e.2.elim hclen (fun e => e.elim hikey (fun e => e.elim hhost htenc))), if_neg hclen, if_neg hikey, if_neg htenc]
  rw [hr.out]
  clear hkl hvl zk hkB hvB hkB2 hvB2 hkey hkey2 hvv2 lk hag hb hS hg hm hz1 hz2 hz3 hv hok hnm e1 e2
  go_enter Tryz.func54, Tryz.ntmps54
  go_wp2_with (first
    | (go_at_call 31; refine HC.out.mono ?_; rintro e w2 ⟨rfl, n2, rfl⟩; have cur : Below w.heap.size w (w.drewN n2) := below_drewN (Below.refl _ _) n2)
    | (go_at_call 72; refine (HNm.out _).mono ?_; rintro e w3 ⟨rfl, rfl⟩)
    | (go_at_call 73; refine (HLow.out _).mono ?_; rintro e w5 ⟨rfl, hb5⟩; have cur := cur.trans (hb5.mono cur.size))
    | (go_at_call 74; refine (HTr.out _).mono ?_; rintro e w6 ⟨rfl, hb6⟩; have cur := cur.trans (hb6.mono cur.size); have hS6 := HSn.out.below cur; have hlk := hS6.look (zero_bool w6) key (by unfold maxLen; omega); rw [HK.out, HAg.out] at hlk; have hbk6 := (cur.block _ hpl).trans HBk.out; have c5 : w6.cell? ⟨ph, 5, none⟩ = some (.map (some bm)) := cell_of_block hbk6 5; obtain ⟨w7, hup, hS7, hg7⟩ := hS6.put key (by unfold maxLen; omega) (by unfold maxLen; omega); have hbk7 : HdB w7 ph m0 p0 (bytesL h.key) b0 (h.size : Int) bm := (hg7.block ph (Nat.lt_of_lt_of_le hpl cur.size) (fun e => by injection e with e; exact hne e)).trans hbk6; have c2 : w7.cell? ⟨ph, 2, none⟩ = some (.string (bytesL h.key)) := cell_of_block hbk7 2; have f7 := free_of_block hbk7; have F7 : Frm [some ph, some bm] w w7 := (Frm.ofBelow cur).grown hg7 (by simp); have HX7 := Lib.hid (And.intro hbk7 hS7); clear hbk6 hbk7 hS6 hS7 hg7))
  go_ret
  refine ⟨rfl, F7, fun _ => ⟨HX7.out.1, ?_⟩⟩
  have hs7 := HX7.out.2
  rw [HK.out] at hs7
  exact hs7

set_option maxHeartbeats 4000000 in
theorem line_tenc2 (B : Nat) (w : World) (s : ByteArray) (ph bm N : Nat) (m0 p0 b0 : ByteArray) (h : HS) (L : LnK B w s ph bm N m0 p0 b0 h) (hk : (Lib.toLowerA (Lib.cut s.data.toList [58]).1) = tencK) (ha : h.seen.contains (Lib.toLowerA (Lib.cut s.data.toList [58]).1) = true) :
    Calls Tryz.prog 54 #[.pointer (some ⟨ph, 0, none⟩), .string s] w (LineP w ph bm N m0 p0 b0 (lineS h s.data.toList)) := by
  obtain ⟨hg, hs, hb, hS, hN, hph, hbm, hne, hok, hnm⟩ := L
  have hv : lineS h s.data.toList = lineK h (Lib.toLowerA (Lib.cut s.data.toList [58]).1) (Lib.trimS (Lib.cut s.data.toList [58]).2.1 [32, 9]) := lineS_good hok hnm.1 hnm.2
  rw [hv]
  obtain ⟨m, hm⟩ := hg.gnd.maxl
  have hz1 := cutP_fst s.data.toList [58]
  have hz2 := cutP_snd s.data.toList [58]
  have hz3 := trimP_le (Lib.cut s.data.toList [58]).2.1 [32, 9]
  rw [Array.length_toList] at hz1 hz2
  have hsd : s.data.size = s.size := rfl
  have HC := Lib.hid (Tryz.strings_Cut s ⟨#[58]⟩ m w (by omega) (hm w (Below.refl _ _)))
  have e1 : (ByteArray.mk #[58]).data.toList = [58] := rfl
  rw [e1] at HC
  have HNm := Lib.hid (fun W => name_any W (bytesL (Lib.cut s.data.toList [58]).1) (by rw [bytesL_size]; omega))
  rw [bytesL_list, hnm.2, decide_eq_true hnm.1] at HNm
  have HLow := Lib.hid (fun W => Tryz.strings_ToLower_ascii (bytesL (Lib.cut s.data.toList [58]).1) W (by rw [bytesL_size]; omega) (fun j b hjb => by
    rw [bytesL_list] at hjb
    have := List.all_eq_true.1 hnm.2 b (List.mem_of_getElem? hjb)
    unfold nmC at this
    simp only [Bool.or_eq_true, Bool.and_eq_true, decide_eq_true_eq] at this
    omega))
  have HTr := Lib.hid (fun W => trim_run (bytesL (Lib.cut s.data.toList [58]).2.1) ⟨#[32, 9]⟩ W (by rw [bytesL_size]; omega) (by decide) (fun j b hjb => by
    have hb := List.mem_of_getElem? hjb
    have hb2 : b ∈ [(32 : UInt8), 9] := hb
    simp only [List.mem_cons, List.not_mem_nil, or_false] at hb2
    rcases hb2 with rfl | rfl <;> decide))
  have e2 : (ByteArray.mk #[32, 9]).data.toList = [32, 9] := rfl
  rw [bytesL_list] at HLow HTr
  rw [e2] at HTr
  rw [hok] at HC
  obtain ⟨kl, hkl⟩ : ∃ x, (Lib.toLowerA (Lib.cut s.data.toList [58]).1) = x := ⟨_, rfl⟩
  obtain ⟨vl, hvl⟩ : ∃ x, (Lib.trimS (Lib.cut s.data.toList [58]).2.1 [32, 9]) = x := ⟨_, rfl⟩
  have zk : kl.length ≤ 300000 := by rw [← hkl]; unfold Lib.toLowerA; rw [List.length_map]; omega
  have zv : vl.length ≤ 300000 := by rw [← hvl]; omega
  rw [hkl] at HLow
  rw [hvl] at HTr
  rw [hkl, hvl]
  rw [hkl] at hk
  rw [hkl] at ha
  obtain ⟨kB, hkB⟩ : ∃ x, bytesL (Lib.cut s.data.toList [58]).1 = x := ⟨_, rfl⟩
  obtain ⟨vB, hvB⟩ : ∃ x, bytesL (Lib.cut s.data.toList [58]).2.1 = x := ⟨_, rfl⟩
  have hkB2 : (⟨(Lib.cut s.data.toList [58]).1.toArray⟩ : ByteArray) = kB := hkB
  have hvB2 : (⟨(Lib.cut s.data.toList [58]).2.1.toArray⟩ : ByteArray) = vB := hvB
  rw [hkB2, hvB2] at HC
  rw [hkB] at HNm HLow
  rw [hvB] at HTr
  obtain ⟨key, hkey⟩ : ∃ x, bytesL kl = x := ⟨_, rfl⟩
  obtain ⟨v, hvv⟩ : ∃ x, bytesL vl = x := ⟨_, rfl⟩
  have hkey2 : (⟨kl.toArray⟩ : ByteArray) = key := hkey
  have hvv2 : (⟨vl.toArray⟩ : ByteArray) = v := hvv
  rw [hkey2] at HLow
  rw [hvv2] at HTr
  have lk : key.data.toList = kl := by rw [← hkey]; exact bytesL_list _
  have lv : v.data.toList = vl := by rw [← hvv]; exact bytesL_list _
  have sk : key.size ≤ 300000 := by rw [← hkey, bytesL_size]; exact zk
  have sv : v.size ≤ 300000 := by rw [← hvv, bytesL_size]; exact zv
  have qclen := eq_lit key [99, 111, 110, 116, 101, 110, 116, 45, 108, 101, 110, 103, 116, 104]
  rw [lk] at qclen
  have qikey := eq_lit key [105, 100, 101, 109, 112, 111, 116, 101, 110, 99, 121, 45, 107, 101, 121]
  rw [lk] at qikey
  have qhost := eq_lit key [104, 111, 115, 116]
  rw [lk] at qhost
  have qtenc := eq_lit key [116, 114, 97, 110, 115, 102, 101, 114, 45, 101, 110, 99, 111, 100, 105, 110, 103]
  rw [lk] at qtenc
  rw [hk, decide_eq_false (show ¬ tencK = [99, 111, 110, 116, 101, 110, 116, 45, 108, 101, 110, 103, 116, 104] by decide)] at qclen
  rw [hk, decide_eq_false (show ¬ tencK = [105, 100, 101, 109, 112, 111, 116, 101, 110, 99, 121, 45, 107, 101, 121] by decide)] at qikey
  rw [hk, decide_eq_false (show ¬ tencK = [104, 111, 115, 116] by decide)] at qhost
  rw [hk, decide_eq_true (show tencK = [116, 114, 97, 110, 115, 102, 101, 114, 45, 101, 110, 99, 111, 100, 105, 110, 103] from rfl)] at qtenc
  have hpl := lt_of_block hb
  have HBk := Lib.hid hb
  have HSn := Lib.hid hS
  have HG := Lib.hid hg
  have HK := Lib.hid lk
  obtain ⟨ag, hag⟩ : ∃ b, h.seen.contains kl = b := ⟨_, rfl⟩
  have HAg := Lib.hid hag
  obtain rfl : ag = true := hag.symm.trans ha
  have hr : Hid (lineK h kl vl = (400, h)) := by refine Lib.hid ?_; unfold lineK; rw [if_pos ⟨ha, by rw [hk]; simp⟩]
  rw [hr.out]
  clear hkl hvl zk hkB hvB hkB2 hvB2 hkey hkey2 hvv2 lk hag hb hS hg hm hz1 hz2 hz3 hv hok hnm e1 e2
  go_enter Tryz.func54, Tryz.ntmps54
  go_wp2_with (first
    | (go_at_call 31; refine HC.out.mono ?_; rintro e w2 ⟨rfl, n2, rfl⟩; have cur : Below w.heap.size w (w.drewN n2) := below_drewN (Below.refl _ _) n2)
    | (go_at_call 72; refine (HNm.out _).mono ?_; rintro e w3 ⟨rfl, rfl⟩)
    | (go_at_call 73; refine (HLow.out _).mono ?_; rintro e w5 ⟨rfl, hb5⟩; have cur := cur.trans (hb5.mono cur.size))
    | (go_at_call 74; refine (HTr.out _).mono ?_; rintro e w6 ⟨rfl, hb6⟩; have cur := cur.trans (hb6.mono cur.size); have hS6 := HSn.out.below cur; have hlk := hS6.look (zero_bool w6) key (by unfold maxLen; omega); rw [HK.out, HAg.out] at hlk; have hbk6 := (cur.block _ hpl).trans HBk.out; have c5 : w6.cell? ⟨ph, 5, none⟩ = some (.map (some bm)) := cell_of_block hbk6 5; obtain ⟨w7, hup, hS7, hg7⟩ := hS6.put key (by unfold maxLen; omega) (by unfold maxLen; omega); have hbk7 : HdB w7 ph m0 p0 (bytesL h.key) b0 (h.size : Int) bm := (hg7.block ph (Nat.lt_of_lt_of_le hpl cur.size) (fun e => by injection e with e; exact hne e)).trans hbk6; have c2 : w7.cell? ⟨ph, 2, none⟩ = some (.string (bytesL h.key)) := cell_of_block hbk7 2; have f7 := free_of_block hbk7; have F7 : Frm [some ph, some bm] w w7 := (Frm.ofBelow cur).grown hg7 (by simp); have HX7 := Lib.hid (And.intro hbk7 hS7); clear hbk6 hbk7 hS6 hS7 hg7))
  go_ret
  exact ⟨rfl, F7, fun h => by cases h⟩

set_option maxHeartbeats 4000000 in
theorem line_tenc1 (B : Nat) (w : World) (s : ByteArray) (ph bm N : Nat) (m0 p0 b0 : ByteArray) (h : HS) (L : LnK B w s ph bm N m0 p0 b0 h) (hk : (Lib.toLowerA (Lib.cut s.data.toList [58]).1) = tencK) (ha : h.seen.contains (Lib.toLowerA (Lib.cut s.data.toList [58]).1) = false) :
    Calls Tryz.prog 54 #[.pointer (some ⟨ph, 0, none⟩), .string s] w (LineP w ph bm N m0 p0 b0 (lineS h s.data.toList)) := by
  obtain ⟨hg, hs, hb, hS, hN, hph, hbm, hne, hok, hnm⟩ := L
  have hv : lineS h s.data.toList = lineK h (Lib.toLowerA (Lib.cut s.data.toList [58]).1) (Lib.trimS (Lib.cut s.data.toList [58]).2.1 [32, 9]) := lineS_good hok hnm.1 hnm.2
  rw [hv]
  obtain ⟨m, hm⟩ := hg.gnd.maxl
  have hz1 := cutP_fst s.data.toList [58]
  have hz2 := cutP_snd s.data.toList [58]
  have hz3 := trimP_le (Lib.cut s.data.toList [58]).2.1 [32, 9]
  rw [Array.length_toList] at hz1 hz2
  have hsd : s.data.size = s.size := rfl
  have HC := Lib.hid (Tryz.strings_Cut s ⟨#[58]⟩ m w (by omega) (hm w (Below.refl _ _)))
  have e1 : (ByteArray.mk #[58]).data.toList = [58] := rfl
  rw [e1] at HC
  have HNm := Lib.hid (fun W => name_any W (bytesL (Lib.cut s.data.toList [58]).1) (by rw [bytesL_size]; omega))
  rw [bytesL_list, hnm.2, decide_eq_true hnm.1] at HNm
  have HLow := Lib.hid (fun W => Tryz.strings_ToLower_ascii (bytesL (Lib.cut s.data.toList [58]).1) W (by rw [bytesL_size]; omega) (fun j b hjb => by
    rw [bytesL_list] at hjb
    have := List.all_eq_true.1 hnm.2 b (List.mem_of_getElem? hjb)
    unfold nmC at this
    simp only [Bool.or_eq_true, Bool.and_eq_true, decide_eq_true_eq] at this
    omega))
  have HTr := Lib.hid (fun W => trim_run (bytesL (Lib.cut s.data.toList [58]).2.1) ⟨#[32, 9]⟩ W (by rw [bytesL_size]; omega) (by decide) (fun j b hjb => by
    have hb := List.mem_of_getElem? hjb
    have hb2 : b ∈ [(32 : UInt8), 9] := hb
    simp only [List.mem_cons, List.not_mem_nil, or_false] at hb2
    rcases hb2 with rfl | rfl <;> decide))
  have e2 : (ByteArray.mk #[32, 9]).data.toList = [32, 9] := rfl
  rw [bytesL_list] at HLow HTr
  rw [e2] at HTr
  rw [hok] at HC
  obtain ⟨kl, hkl⟩ : ∃ x, (Lib.toLowerA (Lib.cut s.data.toList [58]).1) = x := ⟨_, rfl⟩
  obtain ⟨vl, hvl⟩ : ∃ x, (Lib.trimS (Lib.cut s.data.toList [58]).2.1 [32, 9]) = x := ⟨_, rfl⟩
  have zk : kl.length ≤ 300000 := by rw [← hkl]; unfold Lib.toLowerA; rw [List.length_map]; omega
  have zv : vl.length ≤ 300000 := by rw [← hvl]; omega
  rw [hkl] at HLow
  rw [hvl] at HTr
  rw [hkl, hvl]
  rw [hkl] at hk
  rw [hkl] at ha
  obtain ⟨kB, hkB⟩ : ∃ x, bytesL (Lib.cut s.data.toList [58]).1 = x := ⟨_, rfl⟩
  obtain ⟨vB, hvB⟩ : ∃ x, bytesL (Lib.cut s.data.toList [58]).2.1 = x := ⟨_, rfl⟩
  have hkB2 : (⟨(Lib.cut s.data.toList [58]).1.toArray⟩ : ByteArray) = kB := hkB
  have hvB2 : (⟨(Lib.cut s.data.toList [58]).2.1.toArray⟩ : ByteArray) = vB := hvB
  rw [hkB2, hvB2] at HC
  rw [hkB] at HNm HLow
  rw [hvB] at HTr
  obtain ⟨key, hkey⟩ : ∃ x, bytesL kl = x := ⟨_, rfl⟩
  obtain ⟨v, hvv⟩ : ∃ x, bytesL vl = x := ⟨_, rfl⟩
  have hkey2 : (⟨kl.toArray⟩ : ByteArray) = key := hkey
  have hvv2 : (⟨vl.toArray⟩ : ByteArray) = v := hvv
  rw [hkey2] at HLow
  rw [hvv2] at HTr
  have lk : key.data.toList = kl := by rw [← hkey]; exact bytesL_list _
  have lv : v.data.toList = vl := by rw [← hvv]; exact bytesL_list _
  have sk : key.size ≤ 300000 := by rw [← hkey, bytesL_size]; exact zk
  have sv : v.size ≤ 300000 := by rw [← hvv, bytesL_size]; exact zv
  have qclen := eq_lit key [99, 111, 110, 116, 101, 110, 116, 45, 108, 101, 110, 103, 116, 104]
  rw [lk] at qclen
  have qikey := eq_lit key [105, 100, 101, 109, 112, 111, 116, 101, 110, 99, 121, 45, 107, 101, 121]
  rw [lk] at qikey
  have qhost := eq_lit key [104, 111, 115, 116]
  rw [lk] at qhost
  have qtenc := eq_lit key [116, 114, 97, 110, 115, 102, 101, 114, 45, 101, 110, 99, 111, 100, 105, 110, 103]
  rw [lk] at qtenc
  rw [hk, decide_eq_false (show ¬ tencK = [99, 111, 110, 116, 101, 110, 116, 45, 108, 101, 110, 103, 116, 104] by decide)] at qclen
  rw [hk, decide_eq_false (show ¬ tencK = [105, 100, 101, 109, 112, 111, 116, 101, 110, 99, 121, 45, 107, 101, 121] by decide)] at qikey
  rw [hk, decide_eq_false (show ¬ tencK = [104, 111, 115, 116] by decide)] at qhost
  rw [hk, decide_eq_true (show tencK = [116, 114, 97, 110, 115, 102, 101, 114, 45, 101, 110, 99, 111, 100, 105, 110, 103] from rfl)] at qtenc
  have hpl := lt_of_block hb
  have HBk := Lib.hid hb
  have HSn := Lib.hid hS
  have HG := Lib.hid hg
  have HK := Lib.hid lk
  obtain ⟨ag, hag⟩ : ∃ b, h.seen.contains kl = b := ⟨_, rfl⟩
  have HAg := Lib.hid hag
  obtain rfl : ag = false := hag.symm.trans ha
  have hr : Hid (lineK h kl vl = (501, h)) := by refine Lib.hid ?_; unfold lineK; rw [if_neg (by rintro ⟨e, -⟩; rw [ha] at e; cases e), if_neg (by rw [hk]; decide), if_neg (by rw [hk]; decide), if_pos hk]
  rw [hr.out]
  clear hkl hvl zk hkB hvB hkB2 hvB2 hkey hkey2 hvv2 lk hag hb hS hg hm hz1 hz2 hz3 hv hok hnm e1 e2
  go_enter Tryz.func54, Tryz.ntmps54
  go_wp2_with (first
    | (go_at_call 31; refine HC.out.mono ?_; rintro e w2 ⟨rfl, n2, rfl⟩; have cur : Below w.heap.size w (w.drewN n2) := below_drewN (Below.refl _ _) n2)
    | (go_at_call 72; refine (HNm.out _).mono ?_; rintro e w3 ⟨rfl, rfl⟩)
    | (go_at_call 73; refine (HLow.out _).mono ?_; rintro e w5 ⟨rfl, hb5⟩; have cur := cur.trans (hb5.mono cur.size))
    | (go_at_call 74; refine (HTr.out _).mono ?_; rintro e w6 ⟨rfl, hb6⟩; have cur := cur.trans (hb6.mono cur.size); have hS6 := HSn.out.below cur; have hlk := hS6.look (zero_bool w6) key (by unfold maxLen; omega); rw [HK.out, HAg.out] at hlk; have hbk6 := (cur.block _ hpl).trans HBk.out; have c5 : w6.cell? ⟨ph, 5, none⟩ = some (.map (some bm)) := cell_of_block hbk6 5; obtain ⟨w7, hup, hS7, hg7⟩ := hS6.put key (by unfold maxLen; omega) (by unfold maxLen; omega); have hbk7 : HdB w7 ph m0 p0 (bytesL h.key) b0 (h.size : Int) bm := (hg7.block ph (Nat.lt_of_lt_of_le hpl cur.size) (fun e => by injection e with e; exact hne e)).trans hbk6; have c2 : w7.cell? ⟨ph, 2, none⟩ = some (.string (bytesL h.key)) := cell_of_block hbk7 2; have f7 := free_of_block hbk7; have F7 : Frm [some ph, some bm] w w7 := (Frm.ofBelow cur).grown hg7 (by simp); have HX7 := Lib.hid (And.intro hbk7 hS7); clear hbk6 hbk7 hS6 hS7 hg7))
  go_ret
  exact ⟨rfl, F7, fun h => by cases h⟩

set_option maxHeartbeats 4000000 in
theorem line_clen2 (B : Nat) (w : World) (s : ByteArray) (ph bm N : Nat) (m0 p0 b0 : ByteArray) (h : HS) (L : LnK B w s ph bm N m0 p0 b0 h) (hk : (Lib.toLowerA (Lib.cut s.data.toList [58]).1) = clenK) (ha : h.seen.contains (Lib.toLowerA (Lib.cut s.data.toList [58]).1) = true) :
    Calls Tryz.prog 54 #[.pointer (some ⟨ph, 0, none⟩), .string s] w (LineP w ph bm N m0 p0 b0 (lineS h s.data.toList)) := by
  obtain ⟨hg, hs, hb, hS, hN, hph, hbm, hne, hok, hnm⟩ := L
  have hv : lineS h s.data.toList = lineK h (Lib.toLowerA (Lib.cut s.data.toList [58]).1) (Lib.trimS (Lib.cut s.data.toList [58]).2.1 [32, 9]) := lineS_good hok hnm.1 hnm.2
  rw [hv]
  obtain ⟨m, hm⟩ := hg.gnd.maxl
  have hz1 := cutP_fst s.data.toList [58]
  have hz2 := cutP_snd s.data.toList [58]
  have hz3 := trimP_le (Lib.cut s.data.toList [58]).2.1 [32, 9]
  rw [Array.length_toList] at hz1 hz2
  have hsd : s.data.size = s.size := rfl
  have HC := Lib.hid (Tryz.strings_Cut s ⟨#[58]⟩ m w (by omega) (hm w (Below.refl _ _)))
  have e1 : (ByteArray.mk #[58]).data.toList = [58] := rfl
  rw [e1] at HC
  have HNm := Lib.hid (fun W => name_any W (bytesL (Lib.cut s.data.toList [58]).1) (by rw [bytesL_size]; omega))
  rw [bytesL_list, hnm.2, decide_eq_true hnm.1] at HNm
  have HLow := Lib.hid (fun W => Tryz.strings_ToLower_ascii (bytesL (Lib.cut s.data.toList [58]).1) W (by rw [bytesL_size]; omega) (fun j b hjb => by
    rw [bytesL_list] at hjb
    have := List.all_eq_true.1 hnm.2 b (List.mem_of_getElem? hjb)
    unfold nmC at this
    simp only [Bool.or_eq_true, Bool.and_eq_true, decide_eq_true_eq] at this
    omega))
  have HTr := Lib.hid (fun W => trim_run (bytesL (Lib.cut s.data.toList [58]).2.1) ⟨#[32, 9]⟩ W (by rw [bytesL_size]; omega) (by decide) (fun j b hjb => by
    have hb := List.mem_of_getElem? hjb
    have hb2 : b ∈ [(32 : UInt8), 9] := hb
    simp only [List.mem_cons, List.not_mem_nil, or_false] at hb2
    rcases hb2 with rfl | rfl <;> decide))
  have e2 : (ByteArray.mk #[32, 9]).data.toList = [32, 9] := rfl
  rw [bytesL_list] at HLow HTr
  rw [e2] at HTr
  rw [hok] at HC
  obtain ⟨kl, hkl⟩ : ∃ x, (Lib.toLowerA (Lib.cut s.data.toList [58]).1) = x := ⟨_, rfl⟩
  obtain ⟨vl, hvl⟩ : ∃ x, (Lib.trimS (Lib.cut s.data.toList [58]).2.1 [32, 9]) = x := ⟨_, rfl⟩
  have zk : kl.length ≤ 300000 := by rw [← hkl]; unfold Lib.toLowerA; rw [List.length_map]; omega
  have zv : vl.length ≤ 300000 := by rw [← hvl]; omega
  rw [hkl] at HLow
  rw [hvl] at HTr
  rw [hkl, hvl]
  rw [hkl] at hk
  rw [hkl] at ha
  obtain ⟨kB, hkB⟩ : ∃ x, bytesL (Lib.cut s.data.toList [58]).1 = x := ⟨_, rfl⟩
  obtain ⟨vB, hvB⟩ : ∃ x, bytesL (Lib.cut s.data.toList [58]).2.1 = x := ⟨_, rfl⟩
  have hkB2 : (⟨(Lib.cut s.data.toList [58]).1.toArray⟩ : ByteArray) = kB := hkB
  have hvB2 : (⟨(Lib.cut s.data.toList [58]).2.1.toArray⟩ : ByteArray) = vB := hvB
  rw [hkB2, hvB2] at HC
  rw [hkB] at HNm HLow
  rw [hvB] at HTr
  obtain ⟨key, hkey⟩ : ∃ x, bytesL kl = x := ⟨_, rfl⟩
  obtain ⟨v, hvv⟩ : ∃ x, bytesL vl = x := ⟨_, rfl⟩
  have hkey2 : (⟨kl.toArray⟩ : ByteArray) = key := hkey
  have hvv2 : (⟨vl.toArray⟩ : ByteArray) = v := hvv
  rw [hkey2] at HLow
  rw [hvv2] at HTr
  have lk : key.data.toList = kl := by rw [← hkey]; exact bytesL_list _
  have lv : v.data.toList = vl := by rw [← hvv]; exact bytesL_list _
  have sk : key.size ≤ 300000 := by rw [← hkey, bytesL_size]; exact zk
  have sv : v.size ≤ 300000 := by rw [← hvv, bytesL_size]; exact zv
  have qclen := eq_lit key [99, 111, 110, 116, 101, 110, 116, 45, 108, 101, 110, 103, 116, 104]
  rw [lk] at qclen
  have qikey := eq_lit key [105, 100, 101, 109, 112, 111, 116, 101, 110, 99, 121, 45, 107, 101, 121]
  rw [lk] at qikey
  have qhost := eq_lit key [104, 111, 115, 116]
  rw [lk] at qhost
  have qtenc := eq_lit key [116, 114, 97, 110, 115, 102, 101, 114, 45, 101, 110, 99, 111, 100, 105, 110, 103]
  rw [lk] at qtenc
  rw [hk, decide_eq_true (show clenK = [99, 111, 110, 116, 101, 110, 116, 45, 108, 101, 110, 103, 116, 104] from rfl)] at qclen
  rw [hk, decide_eq_false (show ¬ clenK = [105, 100, 101, 109, 112, 111, 116, 101, 110, 99, 121, 45, 107, 101, 121] by decide)] at qikey
  rw [hk, decide_eq_false (show ¬ clenK = [104, 111, 115, 116] by decide)] at qhost
  rw [hk, decide_eq_false (show ¬ clenK = [116, 114, 97, 110, 115, 102, 101, 114, 45, 101, 110, 99, 111, 100, 105, 110, 103] by decide)] at qtenc
  have hpl := lt_of_block hb
  have HBk := Lib.hid hb
  have HSn := Lib.hid hS
  have HG := Lib.hid hg
  have HK := Lib.hid lk
  obtain ⟨ag, hag⟩ : ∃ b, h.seen.contains kl = b := ⟨_, rfl⟩
  have HAg := Lib.hid hag
  obtain rfl : ag = true := hag.symm.trans ha
  have hr : Hid (lineK h kl vl = (400, h)) := by refine Lib.hid ?_; unfold lineK; rw [if_pos ⟨ha, by rw [hk]; simp⟩]
  rw [hr.out]
  clear hkl hvl zk hkB hvB hkB2 hvB2 hkey hkey2 hvv2 lk hag hb hS hg hm hz1 hz2 hz3 hv hok hnm e1 e2
  go_enter Tryz.func54, Tryz.ntmps54
  go_wp2_with (first
    | (go_at_call 31; refine HC.out.mono ?_; rintro e w2 ⟨rfl, n2, rfl⟩; have cur : Below w.heap.size w (w.drewN n2) := below_drewN (Below.refl _ _) n2)
    | (go_at_call 72; refine (HNm.out _).mono ?_; rintro e w3 ⟨rfl, rfl⟩)
    | (go_at_call 73; refine (HLow.out _).mono ?_; rintro e w5 ⟨rfl, hb5⟩; have cur := cur.trans (hb5.mono cur.size))
    | (go_at_call 74; refine (HTr.out _).mono ?_; rintro e w6 ⟨rfl, hb6⟩; have cur := cur.trans (hb6.mono cur.size); have hS6 := HSn.out.below cur; have hlk := hS6.look (zero_bool w6) key (by unfold maxLen; omega); rw [HK.out, HAg.out] at hlk; have hbk6 := (cur.block _ hpl).trans HBk.out; have c5 : w6.cell? ⟨ph, 5, none⟩ = some (.map (some bm)) := cell_of_block hbk6 5; obtain ⟨w7, hup, hS7, hg7⟩ := hS6.put key (by unfold maxLen; omega) (by unfold maxLen; omega); have hbk7 : HdB w7 ph m0 p0 (bytesL h.key) b0 (h.size : Int) bm := (hg7.block ph (Nat.lt_of_lt_of_le hpl cur.size) (fun e => by injection e with e; exact hne e)).trans hbk6; have c2 : w7.cell? ⟨ph, 2, none⟩ = some (.string (bytesL h.key)) := cell_of_block hbk7 2; have f7 := free_of_block hbk7; have F7 : Frm [some ph, some bm] w w7 := (Frm.ofBelow cur).grown hg7 (by simp); have HX7 := Lib.hid (And.intro hbk7 hS7); clear hbk6 hbk7 hS6 hS7 hg7))
  go_ret
  exact ⟨rfl, F7, fun h => by cases h⟩

set_option maxHeartbeats 4000000 in
theorem line_clen1 (B : Nat) (w : World) (s : ByteArray) (ph bm N : Nat) (m0 p0 b0 : ByteArray) (h : HS) (L : LnK B w s ph bm N m0 p0 b0 h) (hk : (Lib.toLowerA (Lib.cut s.data.toList [58]).1) = clenK) (ha : h.seen.contains (Lib.toLowerA (Lib.cut s.data.toList [58]).1) = false) :
    Calls Tryz.prog 54 #[.pointer (some ⟨ph, 0, none⟩), .string s] w (LineP w ph bm N m0 p0 b0 (lineS h s.data.toList)) := by
  obtain ⟨hg, hs, hb, hS, hN, hph, hbm, hne, hok, hnm⟩ := L
  have hv : lineS h s.data.toList = lineK h (Lib.toLowerA (Lib.cut s.data.toList [58]).1) (Lib.trimS (Lib.cut s.data.toList [58]).2.1 [32, 9]) := lineS_good hok hnm.1 hnm.2
  rw [hv]
  obtain ⟨m, hm⟩ := hg.gnd.maxl
  have hz1 := cutP_fst s.data.toList [58]
  have hz2 := cutP_snd s.data.toList [58]
  have hz3 := trimP_le (Lib.cut s.data.toList [58]).2.1 [32, 9]
  rw [Array.length_toList] at hz1 hz2
  have hsd : s.data.size = s.size := rfl
  have HC := Lib.hid (Tryz.strings_Cut s ⟨#[58]⟩ m w (by omega) (hm w (Below.refl _ _)))
  have e1 : (ByteArray.mk #[58]).data.toList = [58] := rfl
  rw [e1] at HC
  have HNm := Lib.hid (fun W => name_any W (bytesL (Lib.cut s.data.toList [58]).1) (by rw [bytesL_size]; omega))
  rw [bytesL_list, hnm.2, decide_eq_true hnm.1] at HNm
  have HLow := Lib.hid (fun W => Tryz.strings_ToLower_ascii (bytesL (Lib.cut s.data.toList [58]).1) W (by rw [bytesL_size]; omega) (fun j b hjb => by
    rw [bytesL_list] at hjb
    have := List.all_eq_true.1 hnm.2 b (List.mem_of_getElem? hjb)
    unfold nmC at this
    simp only [Bool.or_eq_true, Bool.and_eq_true, decide_eq_true_eq] at this
    omega))
  have HTr := Lib.hid (fun W => trim_run (bytesL (Lib.cut s.data.toList [58]).2.1) ⟨#[32, 9]⟩ W (by rw [bytesL_size]; omega) (by decide) (fun j b hjb => by
    have hb := List.mem_of_getElem? hjb
    have hb2 : b ∈ [(32 : UInt8), 9] := hb
    simp only [List.mem_cons, List.not_mem_nil, or_false] at hb2
    rcases hb2 with rfl | rfl <;> decide))
  have e2 : (ByteArray.mk #[32, 9]).data.toList = [32, 9] := rfl
  rw [bytesL_list] at HLow HTr
  rw [e2] at HTr
  rw [hok] at HC
  obtain ⟨kl, hkl⟩ : ∃ x, (Lib.toLowerA (Lib.cut s.data.toList [58]).1) = x := ⟨_, rfl⟩
  obtain ⟨vl, hvl⟩ : ∃ x, (Lib.trimS (Lib.cut s.data.toList [58]).2.1 [32, 9]) = x := ⟨_, rfl⟩
  have zk : kl.length ≤ 300000 := by rw [← hkl]; unfold Lib.toLowerA; rw [List.length_map]; omega
  have zv : vl.length ≤ 300000 := by rw [← hvl]; omega
  rw [hkl] at HLow
  rw [hvl] at HTr
  rw [hkl, hvl]
  rw [hkl] at hk
  rw [hkl] at ha
  obtain ⟨kB, hkB⟩ : ∃ x, bytesL (Lib.cut s.data.toList [58]).1 = x := ⟨_, rfl⟩
  obtain ⟨vB, hvB⟩ : ∃ x, bytesL (Lib.cut s.data.toList [58]).2.1 = x := ⟨_, rfl⟩
  have hkB2 : (⟨(Lib.cut s.data.toList [58]).1.toArray⟩ : ByteArray) = kB := hkB
  have hvB2 : (⟨(Lib.cut s.data.toList [58]).2.1.toArray⟩ : ByteArray) = vB := hvB
  rw [hkB2, hvB2] at HC
  rw [hkB] at HNm HLow
  rw [hvB] at HTr
  obtain ⟨key, hkey⟩ : ∃ x, bytesL kl = x := ⟨_, rfl⟩
  obtain ⟨v, hvv⟩ : ∃ x, bytesL vl = x := ⟨_, rfl⟩
  have hkey2 : (⟨kl.toArray⟩ : ByteArray) = key := hkey
  have hvv2 : (⟨vl.toArray⟩ : ByteArray) = v := hvv
  rw [hkey2] at HLow
  rw [hvv2] at HTr
  have lk : key.data.toList = kl := by rw [← hkey]; exact bytesL_list _
  have lv : v.data.toList = vl := by rw [← hvv]; exact bytesL_list _
  have sk : key.size ≤ 300000 := by rw [← hkey, bytesL_size]; exact zk
  have sv : v.size ≤ 300000 := by rw [← hvv, bytesL_size]; exact zv
  have qclen := eq_lit key [99, 111, 110, 116, 101, 110, 116, 45, 108, 101, 110, 103, 116, 104]
  rw [lk] at qclen
  have qikey := eq_lit key [105, 100, 101, 109, 112, 111, 116, 101, 110, 99, 121, 45, 107, 101, 121]
  rw [lk] at qikey
  have qhost := eq_lit key [104, 111, 115, 116]
  rw [lk] at qhost
  have qtenc := eq_lit key [116, 114, 97, 110, 115, 102, 101, 114, 45, 101, 110, 99, 111, 100, 105, 110, 103]
  rw [lk] at qtenc
  rw [hk, decide_eq_true (show clenK = [99, 111, 110, 116, 101, 110, 116, 45, 108, 101, 110, 103, 116, 104] from rfl)] at qclen
  rw [hk, decide_eq_false (show ¬ clenK = [105, 100, 101, 109, 112, 111, 116, 101, 110, 99, 121, 45, 107, 101, 121] by decide)] at qikey
  rw [hk, decide_eq_false (show ¬ clenK = [104, 111, 115, 116] by decide)] at qhost
  rw [hk, decide_eq_false (show ¬ clenK = [116, 114, 97, 110, 115, 102, 101, 114, 45, 101, 110, 99, 111, 100, 105, 110, 103] by decide)] at qtenc
  have hpl := lt_of_block hb
  have HBk := Lib.hid hb
  have HSn := Lib.hid hS
  have HG := Lib.hid hg
  have HK := Lib.hid lk
  obtain ⟨ag, hag⟩ : ∃ b, h.seen.contains kl = b := ⟨_, rfl⟩
  have HAg := Lib.hid hag
  obtain rfl : ag = false := hag.symm.trans ha
  have hr : Hid (lineK h kl vl = ((lengthS vl).1, ⟨kl :: h.seen, h.key, (lengthS vl).2⟩)) := by refine Lib.hid ?_; unfold lineK; rw [if_neg (by rintro ⟨e, -⟩; rw [ha] at e; cases e), if_pos hk]
  rw [hr.out]
  have HV := Lib.hid lv
  clear hkl hvl zk hkB hvB hkB2 hvB2 hkey hkey2 hvv2 lk hag hb hS hg hm hz1 hz2 hz3 hv hok hnm e1 e2
  go_enter Tryz.func54, Tryz.ntmps54
  go_wp2_with (first
    | (go_at_call 31; refine HC.out.mono ?_; rintro e w2 ⟨rfl, n2, rfl⟩; have cur : Below w.heap.size w (w.drewN n2) := below_drewN (Below.refl _ _) n2)
    | (go_at_call 72; refine (HNm.out _).mono ?_; rintro e w3 ⟨rfl, rfl⟩)
    | (go_at_call 73; refine (HLow.out _).mono ?_; rintro e w5 ⟨rfl, hb5⟩; have cur := cur.trans (hb5.mono cur.size))
    | (go_at_call 74; refine (HTr.out _).mono ?_; rintro e w6 ⟨rfl, hb6⟩; have cur := cur.trans (hb6.mono cur.size); have hS6 := HSn.out.below cur; have hlk := hS6.look (zero_bool w6) key (by unfold maxLen; omega); rw [HK.out, HAg.out] at hlk; have hbk6 := (cur.block _ hpl).trans HBk.out; have c5 : w6.cell? ⟨ph, 5, none⟩ = some (.map (some bm)) := cell_of_block hbk6 5; obtain ⟨w7, hup, hS7, hg7⟩ := hS6.put key (by unfold maxLen; omega) (by unfold maxLen; omega); have hbk7 : HdB w7 ph m0 p0 (bytesL h.key) b0 (h.size : Int) bm := (hg7.block ph (Nat.lt_of_lt_of_le hpl cur.size) (fun e => by injection e with e; exact hne e)).trans hbk6; have c2 : w7.cell? ⟨ph, 2, none⟩ = some (.string (bytesL h.key)) := cell_of_block hbk7 2; have f7 := free_of_block hbk7; have F7 : Frm [some ph, some bm] w w7 := (Frm.ofBelow cur).grown hg7 (by simp); have HX7 := Lib.hid (And.intro hbk7 hS7); clear hbk6 hbk7 hS6 hS7 hg7)
    | (go_at_call 75; refine (length_any w7 ((HG.out.frm F7 (by intro r hr k hk; simp only [List.mem_cons, List.not_mem_nil, or_false] at hr; rcases hr with rfl | rfl <;> (injection hk with hk; omega))).gnd) v sv ph bm _ _ _ _ _ HX7.out.1).mono ?_; rintro e w8 ⟨rfl, F8, hz8⟩))
  go_ret
  rw [← HV.out]
  refine ⟨rfl, F7.trans F8 (by intro r hr; simp only [List.mem_singleton] at hr; subst hr; simp), fun h0 => ⟨hz8 h0, ?_⟩⟩
  refine SeenK.sameB (w := w7) ?_ (F8.keep bm HX7.out.2.lt (by intro r hr; simp only [List.mem_singleton] at hr; subst hr; intro e; injection e with e; exact hne e))
  have hs7 := HX7.out.2
  rw [HK.out] at hs7
  exact hs7

set_option maxHeartbeats 4000000 in
theorem line_ikey2 (B : Nat) (w : World) (s : ByteArray) (ph bm N : Nat) (m0 p0 b0 : ByteArray) (h : HS) (L : LnK B w s ph bm N m0 p0 b0 h) (hk : (Lib.toLowerA (Lib.cut s.data.toList [58]).1) = ikeyK) (ha : h.seen.contains (Lib.toLowerA (Lib.cut s.data.toList [58]).1) = true) :
    Calls Tryz.prog 54 #[.pointer (some ⟨ph, 0, none⟩), .string s] w (LineP w ph bm N m0 p0 b0 (lineS h s.data.toList)) := by
  obtain ⟨hg, hs, hb, hS, hN, hph, hbm, hne, hok, hnm⟩ := L
  have hv : lineS h s.data.toList = lineK h (Lib.toLowerA (Lib.cut s.data.toList [58]).1) (Lib.trimS (Lib.cut s.data.toList [58]).2.1 [32, 9]) := lineS_good hok hnm.1 hnm.2
  rw [hv]
  obtain ⟨m, hm⟩ := hg.gnd.maxl
  have hz1 := cutP_fst s.data.toList [58]
  have hz2 := cutP_snd s.data.toList [58]
  have hz3 := trimP_le (Lib.cut s.data.toList [58]).2.1 [32, 9]
  rw [Array.length_toList] at hz1 hz2
  have hsd : s.data.size = s.size := rfl
  have HC := Lib.hid (Tryz.strings_Cut s ⟨#[58]⟩ m w (by omega) (hm w (Below.refl _ _)))
  have e1 : (ByteArray.mk #[58]).data.toList = [58] := rfl
  rw [e1] at HC
  have HNm := Lib.hid (fun W => name_any W (bytesL (Lib.cut s.data.toList [58]).1) (by rw [bytesL_size]; omega))
  rw [bytesL_list, hnm.2, decide_eq_true hnm.1] at HNm
  have HLow := Lib.hid (fun W => Tryz.strings_ToLower_ascii (bytesL (Lib.cut s.data.toList [58]).1) W (by rw [bytesL_size]; omega) (fun j b hjb => by
    rw [bytesL_list] at hjb
    have := List.all_eq_true.1 hnm.2 b (List.mem_of_getElem? hjb)
    unfold nmC at this
    simp only [Bool.or_eq_true, Bool.and_eq_true, decide_eq_true_eq] at this
    omega))
  have HTr := Lib.hid (fun W => trim_run (bytesL (Lib.cut s.data.toList [58]).2.1) ⟨#[32, 9]⟩ W (by rw [bytesL_size]; omega) (by decide) (fun j b hjb => by
    have hb := List.mem_of_getElem? hjb
    have hb2 : b ∈ [(32 : UInt8), 9] := hb
    simp only [List.mem_cons, List.not_mem_nil, or_false] at hb2
    rcases hb2 with rfl | rfl <;> decide))
  have e2 : (ByteArray.mk #[32, 9]).data.toList = [32, 9] := rfl
  rw [bytesL_list] at HLow HTr
  rw [e2] at HTr
  rw [hok] at HC
  obtain ⟨kl, hkl⟩ : ∃ x, (Lib.toLowerA (Lib.cut s.data.toList [58]).1) = x := ⟨_, rfl⟩
  obtain ⟨vl, hvl⟩ : ∃ x, (Lib.trimS (Lib.cut s.data.toList [58]).2.1 [32, 9]) = x := ⟨_, rfl⟩
  have zk : kl.length ≤ 300000 := by rw [← hkl]; unfold Lib.toLowerA; rw [List.length_map]; omega
  have zv : vl.length ≤ 300000 := by rw [← hvl]; omega
  rw [hkl] at HLow
  rw [hvl] at HTr
  rw [hkl, hvl]
  rw [hkl] at hk
  rw [hkl] at ha
  obtain ⟨kB, hkB⟩ : ∃ x, bytesL (Lib.cut s.data.toList [58]).1 = x := ⟨_, rfl⟩
  obtain ⟨vB, hvB⟩ : ∃ x, bytesL (Lib.cut s.data.toList [58]).2.1 = x := ⟨_, rfl⟩
  have hkB2 : (⟨(Lib.cut s.data.toList [58]).1.toArray⟩ : ByteArray) = kB := hkB
  have hvB2 : (⟨(Lib.cut s.data.toList [58]).2.1.toArray⟩ : ByteArray) = vB := hvB
  rw [hkB2, hvB2] at HC
  rw [hkB] at HNm HLow
  rw [hvB] at HTr
  obtain ⟨key, hkey⟩ : ∃ x, bytesL kl = x := ⟨_, rfl⟩
  obtain ⟨v, hvv⟩ : ∃ x, bytesL vl = x := ⟨_, rfl⟩
  have hkey2 : (⟨kl.toArray⟩ : ByteArray) = key := hkey
  have hvv2 : (⟨vl.toArray⟩ : ByteArray) = v := hvv
  rw [hkey2] at HLow
  rw [hvv2] at HTr
  have lk : key.data.toList = kl := by rw [← hkey]; exact bytesL_list _
  have lv : v.data.toList = vl := by rw [← hvv]; exact bytesL_list _
  have sk : key.size ≤ 300000 := by rw [← hkey, bytesL_size]; exact zk
  have sv : v.size ≤ 300000 := by rw [← hvv, bytesL_size]; exact zv
  have qclen := eq_lit key [99, 111, 110, 116, 101, 110, 116, 45, 108, 101, 110, 103, 116, 104]
  rw [lk] at qclen
  have qikey := eq_lit key [105, 100, 101, 109, 112, 111, 116, 101, 110, 99, 121, 45, 107, 101, 121]
  rw [lk] at qikey
  have qhost := eq_lit key [104, 111, 115, 116]
  rw [lk] at qhost
  have qtenc := eq_lit key [116, 114, 97, 110, 115, 102, 101, 114, 45, 101, 110, 99, 111, 100, 105, 110, 103]
  rw [lk] at qtenc
  rw [hk, decide_eq_false (show ¬ ikeyK = [99, 111, 110, 116, 101, 110, 116, 45, 108, 101, 110, 103, 116, 104] by decide)] at qclen
  rw [hk, decide_eq_true (show ikeyK = [105, 100, 101, 109, 112, 111, 116, 101, 110, 99, 121, 45, 107, 101, 121] from rfl)] at qikey
  rw [hk, decide_eq_false (show ¬ ikeyK = [104, 111, 115, 116] by decide)] at qhost
  rw [hk, decide_eq_false (show ¬ ikeyK = [116, 114, 97, 110, 115, 102, 101, 114, 45, 101, 110, 99, 111, 100, 105, 110, 103] by decide)] at qtenc
  have hpl := lt_of_block hb
  have HBk := Lib.hid hb
  have HSn := Lib.hid hS
  have HG := Lib.hid hg
  have HK := Lib.hid lk
  obtain ⟨ag, hag⟩ : ∃ b, h.seen.contains kl = b := ⟨_, rfl⟩
  have HAg := Lib.hid hag
  obtain rfl : ag = true := hag.symm.trans ha
  have hr : Hid (lineK h kl vl = (400, h)) := by refine Lib.hid ?_; unfold lineK; rw [if_pos ⟨ha, by rw [hk]; simp⟩]
  rw [hr.out]
  clear hkl hvl zk hkB hvB hkB2 hvB2 hkey hkey2 hvv2 lk hag hb hS hg hm hz1 hz2 hz3 hv hok hnm e1 e2
  go_enter Tryz.func54, Tryz.ntmps54
  go_wp2_with (first
    | (go_at_call 31; refine HC.out.mono ?_; rintro e w2 ⟨rfl, n2, rfl⟩; have cur : Below w.heap.size w (w.drewN n2) := below_drewN (Below.refl _ _) n2)
    | (go_at_call 72; refine (HNm.out _).mono ?_; rintro e w3 ⟨rfl, rfl⟩)
    | (go_at_call 73; refine (HLow.out _).mono ?_; rintro e w5 ⟨rfl, hb5⟩; have cur := cur.trans (hb5.mono cur.size))
    | (go_at_call 74; refine (HTr.out _).mono ?_; rintro e w6 ⟨rfl, hb6⟩; have cur := cur.trans (hb6.mono cur.size); have hS6 := HSn.out.below cur; have hlk := hS6.look (zero_bool w6) key (by unfold maxLen; omega); rw [HK.out, HAg.out] at hlk; have hbk6 := (cur.block _ hpl).trans HBk.out; have c5 : w6.cell? ⟨ph, 5, none⟩ = some (.map (some bm)) := cell_of_block hbk6 5; obtain ⟨w7, hup, hS7, hg7⟩ := hS6.put key (by unfold maxLen; omega) (by unfold maxLen; omega); have hbk7 : HdB w7 ph m0 p0 (bytesL h.key) b0 (h.size : Int) bm := (hg7.block ph (Nat.lt_of_lt_of_le hpl cur.size) (fun e => by injection e with e; exact hne e)).trans hbk6; have c2 : w7.cell? ⟨ph, 2, none⟩ = some (.string (bytesL h.key)) := cell_of_block hbk7 2; have f7 := free_of_block hbk7; have F7 : Frm [some ph, some bm] w w7 := (Frm.ofBelow cur).grown hg7 (by simp); have HX7 := Lib.hid (And.intro hbk7 hS7); clear hbk6 hbk7 hS6 hS7 hg7))
  go_ret
  exact ⟨rfl, F7, fun h => by cases h⟩

set_option maxHeartbeats 4000000 in
theorem line_ikey1 (B : Nat) (w : World) (s : ByteArray) (ph bm N : Nat) (m0 p0 b0 : ByteArray) (h : HS) (L : LnK B w s ph bm N m0 p0 b0 h) (hk : (Lib.toLowerA (Lib.cut s.data.toList [58]).1) = ikeyK) (ha : h.seen.contains (Lib.toLowerA (Lib.cut s.data.toList [58]).1) = false) :
    Calls Tryz.prog 54 #[.pointer (some ⟨ph, 0, none⟩), .string s] w (LineP w ph bm N m0 p0 b0 (lineS h s.data.toList)) := by
  obtain ⟨hg, hs, hb, hS, hN, hph, hbm, hne, hok, hnm⟩ := L
  have hv : lineS h s.data.toList = lineK h (Lib.toLowerA (Lib.cut s.data.toList [58]).1) (Lib.trimS (Lib.cut s.data.toList [58]).2.1 [32, 9]) := lineS_good hok hnm.1 hnm.2
  rw [hv]
  obtain ⟨m, hm⟩ := hg.gnd.maxl
  have hz1 := cutP_fst s.data.toList [58]
  have hz2 := cutP_snd s.data.toList [58]
  have hz3 := trimP_le (Lib.cut s.data.toList [58]).2.1 [32, 9]
  rw [Array.length_toList] at hz1 hz2
  have hsd : s.data.size = s.size := rfl
  have HC := Lib.hid (Tryz.strings_Cut s ⟨#[58]⟩ m w (by omega) (hm w (Below.refl _ _)))
  have e1 : (ByteArray.mk #[58]).data.toList = [58] := rfl
  rw [e1] at HC
  have HNm := Lib.hid (fun W => name_any W (bytesL (Lib.cut s.data.toList [58]).1) (by rw [bytesL_size]; omega))
  rw [bytesL_list, hnm.2, decide_eq_true hnm.1] at HNm
  have HLow := Lib.hid (fun W => Tryz.strings_ToLower_ascii (bytesL (Lib.cut s.data.toList [58]).1) W (by rw [bytesL_size]; omega) (fun j b hjb => by
    rw [bytesL_list] at hjb
    have := List.all_eq_true.1 hnm.2 b (List.mem_of_getElem? hjb)
    unfold nmC at this
    simp only [Bool.or_eq_true, Bool.and_eq_true, decide_eq_true_eq] at this
    omega))
  have HTr := Lib.hid (fun W => trim_run (bytesL (Lib.cut s.data.toList [58]).2.1) ⟨#[32, 9]⟩ W (by rw [bytesL_size]; omega) (by decide) (fun j b hjb => by
    have hb := List.mem_of_getElem? hjb
    have hb2 : b ∈ [(32 : UInt8), 9] := hb
    simp only [List.mem_cons, List.not_mem_nil, or_false] at hb2
    rcases hb2 with rfl | rfl <;> decide))
  have e2 : (ByteArray.mk #[32, 9]).data.toList = [32, 9] := rfl
  rw [bytesL_list] at HLow HTr
  rw [e2] at HTr
  rw [hok] at HC
  obtain ⟨kl, hkl⟩ : ∃ x, (Lib.toLowerA (Lib.cut s.data.toList [58]).1) = x := ⟨_, rfl⟩
  obtain ⟨vl, hvl⟩ : ∃ x, (Lib.trimS (Lib.cut s.data.toList [58]).2.1 [32, 9]) = x := ⟨_, rfl⟩
  have zk : kl.length ≤ 300000 := by rw [← hkl]; unfold Lib.toLowerA; rw [List.length_map]; omega
  have zv : vl.length ≤ 300000 := by rw [← hvl]; omega
  rw [hkl] at HLow
  rw [hvl] at HTr
  rw [hkl, hvl]
  rw [hkl] at hk
  rw [hkl] at ha
  obtain ⟨kB, hkB⟩ : ∃ x, bytesL (Lib.cut s.data.toList [58]).1 = x := ⟨_, rfl⟩
  obtain ⟨vB, hvB⟩ : ∃ x, bytesL (Lib.cut s.data.toList [58]).2.1 = x := ⟨_, rfl⟩
  have hkB2 : (⟨(Lib.cut s.data.toList [58]).1.toArray⟩ : ByteArray) = kB := hkB
  have hvB2 : (⟨(Lib.cut s.data.toList [58]).2.1.toArray⟩ : ByteArray) = vB := hvB
  rw [hkB2, hvB2] at HC
  rw [hkB] at HNm HLow
  rw [hvB] at HTr
  obtain ⟨key, hkey⟩ : ∃ x, bytesL kl = x := ⟨_, rfl⟩
  obtain ⟨v, hvv⟩ : ∃ x, bytesL vl = x := ⟨_, rfl⟩
  have hkey2 : (⟨kl.toArray⟩ : ByteArray) = key := hkey
  have hvv2 : (⟨vl.toArray⟩ : ByteArray) = v := hvv
  rw [hkey2] at HLow
  rw [hvv2] at HTr
  have lk : key.data.toList = kl := by rw [← hkey]; exact bytesL_list _
  have lv : v.data.toList = vl := by rw [← hvv]; exact bytesL_list _
  have sk : key.size ≤ 300000 := by rw [← hkey, bytesL_size]; exact zk
  have sv : v.size ≤ 300000 := by rw [← hvv, bytesL_size]; exact zv
  have qclen := eq_lit key [99, 111, 110, 116, 101, 110, 116, 45, 108, 101, 110, 103, 116, 104]
  rw [lk] at qclen
  have qikey := eq_lit key [105, 100, 101, 109, 112, 111, 116, 101, 110, 99, 121, 45, 107, 101, 121]
  rw [lk] at qikey
  have qhost := eq_lit key [104, 111, 115, 116]
  rw [lk] at qhost
  have qtenc := eq_lit key [116, 114, 97, 110, 115, 102, 101, 114, 45, 101, 110, 99, 111, 100, 105, 110, 103]
  rw [lk] at qtenc
  rw [hk, decide_eq_false (show ¬ ikeyK = [99, 111, 110, 116, 101, 110, 116, 45, 108, 101, 110, 103, 116, 104] by decide)] at qclen
  rw [hk, decide_eq_true (show ikeyK = [105, 100, 101, 109, 112, 111, 116, 101, 110, 99, 121, 45, 107, 101, 121] from rfl)] at qikey
  rw [hk, decide_eq_false (show ¬ ikeyK = [104, 111, 115, 116] by decide)] at qhost
  rw [hk, decide_eq_false (show ¬ ikeyK = [116, 114, 97, 110, 115, 102, 101, 114, 45, 101, 110, 99, 111, 100, 105, 110, 103] by decide)] at qtenc
  have hpl := lt_of_block hb
  have HBk := Lib.hid hb
  have HSn := Lib.hid hS
  have HG := Lib.hid hg
  have HK := Lib.hid lk
  obtain ⟨ag, hag⟩ : ∃ b, h.seen.contains kl = b := ⟨_, rfl⟩
  have HAg := Lib.hid hag
  obtain rfl : ag = false := hag.symm.trans ha
  have HTk := Lib.hid (fun W => token_any W v (by omega))
  have hz0 := isEmpty_size v
  have ht : tokenB v = allL visL vl := by rw [← lv]; rfl
  have hvz : vl = [] ↔ v.size = 0 := by
    rw [← hvv, bytesL_size]
    exact ⟨fun e => by rw [e]; rfl, fun e => List.eq_nil_of_length_eq_zero e⟩
  have hvs : v.size = vl.length := by rw [← hvv, bytesL_size]
  obtain ⟨tk, htk⟩ : ∃ b, tokenB v = b := ⟨_, rfl⟩
  rw [htk] at HTk ht
  have hr0 : lineK h kl vl = if vl = [] ∨ 32 < vl.length ∨ allL visL vl = false then (400, h) else (0, ⟨kl :: h.seen, vl, h.size⟩) := by unfold lineK; rw [if_neg (by rintro ⟨e, -⟩; rw [ha] at e; cases e), if_neg (by rw [hk]; decide), if_pos hk]
  by_cases hbad : vl = [] ∨ 32 < vl.length ∨ allL visL vl = false
  · rw [hr0, if_pos hbad]
    have hor : (v.size = 0) ∨ (v.size ≠ 0 ∧ 32 < v.size) ∨ (v.size ≠ 0 ∧ v.size ≤ 32 ∧ tk = false) := by
      by_cases q0 : v.size = 0
      · exact .inl q0
      · by_cases q1 : 32 < v.size
        · exact .inr (.inl ⟨q0, q1⟩)
        · refine .inr (.inr ⟨q0, by omega, ?_⟩)
          rcases hbad with e | e | e
          · exact absurd (hvz.1 e) q0
          · omega
          · rw [ht, e]
    clear hr0 hbad hvz hvs ht htk
    clear hkl hvl zk hkB hvB hkB2 hvB2 hkey hkey2 hvv2 lk hag hb hS hg hm hz1 hz2 hz3 hv hok hnm e1 e2
    rcases hor with q0 | ⟨q0, q1⟩ | ⟨q0, q1, rfl⟩
    · rw [decide_eq_true q0] at hz0
      go_enter Tryz.func54, Tryz.ntmps54
      go_wp2_with (first
        | (go_at_call 31; refine HC.out.mono ?_; rintro e w2 ⟨rfl, n2, rfl⟩; have cur : Below w.heap.size w (w.drewN n2) := below_drewN (Below.refl _ _) n2)
        | (go_at_call 72; refine (HNm.out _).mono ?_; rintro e w3 ⟨rfl, rfl⟩)
        | (go_at_call 73; refine (HLow.out _).mono ?_; rintro e w5 ⟨rfl, hb5⟩; have cur := cur.trans (hb5.mono cur.size))
        | (go_at_call 74; refine (HTr.out _).mono ?_; rintro e w6 ⟨rfl, hb6⟩; have cur := cur.trans (hb6.mono cur.size); have hS6 := HSn.out.below cur; have hlk := hS6.look (zero_bool w6) key (by unfold maxLen; omega); rw [HK.out, HAg.out] at hlk; have hbk6 := (cur.block _ hpl).trans HBk.out; have c5 : w6.cell? ⟨ph, 5, none⟩ = some (.map (some bm)) := cell_of_block hbk6 5; obtain ⟨w7, hup, hS7, hg7⟩ := hS6.put key (by unfold maxLen; omega) (by unfold maxLen; omega); have hbk7 : HdB w7 ph m0 p0 (bytesL h.key) b0 (h.size : Int) bm := (hg7.block ph (Nat.lt_of_lt_of_le hpl cur.size) (fun e => by injection e with e; exact hne e)).trans hbk6; have c2 : w7.cell? ⟨ph, 2, none⟩ = some (.string (bytesL h.key)) := cell_of_block hbk7 2; have f7 := free_of_block hbk7; have F7 : Frm [some ph, some bm] w w7 := (Frm.ofBelow cur).grown hg7 (by simp); have HX7 := Lib.hid (And.intro hbk7 hS7); clear hbk6 hbk7 hS6 hS7 hg7)
        | (go_at_call 25; refine (HTk.out _).mono ?_; rintro e w8 ⟨rfl, rfl⟩))
      go_ret
      exact ⟨rfl, F7, fun h => by cases h⟩
    · rw [decide_eq_false q0] at hz0
      have d1 : decide ((32 : Int) < (v.size : Int)) = true := decide_eq_true (by omega)
      go_enter Tryz.func54, Tryz.ntmps54
      go_wp2_with (first
        | (go_at_call 31; refine HC.out.mono ?_; rintro e w2 ⟨rfl, n2, rfl⟩; have cur : Below w.heap.size w (w.drewN n2) := below_drewN (Below.refl _ _) n2)
        | (go_at_call 72; refine (HNm.out _).mono ?_; rintro e w3 ⟨rfl, rfl⟩)
        | (go_at_call 73; refine (HLow.out _).mono ?_; rintro e w5 ⟨rfl, hb5⟩; have cur := cur.trans (hb5.mono cur.size))
        | (go_at_call 74; refine (HTr.out _).mono ?_; rintro e w6 ⟨rfl, hb6⟩; have cur := cur.trans (hb6.mono cur.size); have hS6 := HSn.out.below cur; have hlk := hS6.look (zero_bool w6) key (by unfold maxLen; omega); rw [HK.out, HAg.out] at hlk; have hbk6 := (cur.block _ hpl).trans HBk.out; have c5 : w6.cell? ⟨ph, 5, none⟩ = some (.map (some bm)) := cell_of_block hbk6 5; obtain ⟨w7, hup, hS7, hg7⟩ := hS6.put key (by unfold maxLen; omega) (by unfold maxLen; omega); have hbk7 : HdB w7 ph m0 p0 (bytesL h.key) b0 (h.size : Int) bm := (hg7.block ph (Nat.lt_of_lt_of_le hpl cur.size) (fun e => by injection e with e; exact hne e)).trans hbk6; have c2 : w7.cell? ⟨ph, 2, none⟩ = some (.string (bytesL h.key)) := cell_of_block hbk7 2; have f7 := free_of_block hbk7; have F7 : Frm [some ph, some bm] w w7 := (Frm.ofBelow cur).grown hg7 (by simp); have HX7 := Lib.hid (And.intro hbk7 hS7); clear hbk6 hbk7 hS6 hS7 hg7)
        | (go_at_call 25; refine (HTk.out _).mono ?_; rintro e w8 ⟨rfl, rfl⟩))
      go_ret
      exact ⟨rfl, F7, fun h => by cases h⟩
    · rw [decide_eq_false q0] at hz0
      have d1 : decide ((32 : Int) < (v.size : Int)) = false := decide_eq_false (by omega)
      go_enter Tryz.func54, Tryz.ntmps54
      go_wp2_with (first
        | (go_at_call 31; refine HC.out.mono ?_; rintro e w2 ⟨rfl, n2, rfl⟩; have cur : Below w.heap.size w (w.drewN n2) := below_drewN (Below.refl _ _) n2)
        | (go_at_call 72; refine (HNm.out _).mono ?_; rintro e w3 ⟨rfl, rfl⟩)
        | (go_at_call 73; refine (HLow.out _).mono ?_; rintro e w5 ⟨rfl, hb5⟩; have cur := cur.trans (hb5.mono cur.size))
        | (go_at_call 74; refine (HTr.out _).mono ?_; rintro e w6 ⟨rfl, hb6⟩; have cur := cur.trans (hb6.mono cur.size); have hS6 := HSn.out.below cur; have hlk := hS6.look (zero_bool w6) key (by unfold maxLen; omega); rw [HK.out, HAg.out] at hlk; have hbk6 := (cur.block _ hpl).trans HBk.out; have c5 : w6.cell? ⟨ph, 5, none⟩ = some (.map (some bm)) := cell_of_block hbk6 5; obtain ⟨w7, hup, hS7, hg7⟩ := hS6.put key (by unfold maxLen; omega) (by unfold maxLen; omega); have hbk7 : HdB w7 ph m0 p0 (bytesL h.key) b0 (h.size : Int) bm := (hg7.block ph (Nat.lt_of_lt_of_le hpl cur.size) (fun e => by injection e with e; exact hne e)).trans hbk6; have c2 : w7.cell? ⟨ph, 2, none⟩ = some (.string (bytesL h.key)) := cell_of_block hbk7 2; have f7 := free_of_block hbk7; have F7 : Frm [some ph, some bm] w w7 := (Frm.ofBelow cur).grown hg7 (by simp); have HX7 := Lib.hid (And.intro hbk7 hS7); clear hbk6 hbk7 hS6 hS7 hg7)
        | (go_at_call 25; refine (HTk.out _).mono ?_; rintro e w8 ⟨rfl, rfl⟩))
      go_ret
      exact ⟨rfl, F7, fun h => by cases h⟩
  · rw [hr0, if_neg hbad]
    have q0 : v.size ≠ 0 := fun e => hbad (.inl (hvz.2 e))
    have q1 : ¬ 32 < v.size := fun e => hbad (.inr (.inl (by omega)))
    obtain rfl : tk = true := by
      cases tk
      · exact absurd (.inr (.inr ht.symm)) hbad
      · rfl
    rw [decide_eq_false q0] at hz0
    have d1 : decide ((32 : Int) < (v.size : Int)) = false := decide_eq_false (by omega)
    have HVL := Lib.hid hvv
    clear hr0 hbad hvz hvs ht htk
    clear hkl hvl zk hkB hvB hkB2 hvB2 hkey hkey2 hvv2 lk hag hb hS hg hm hz1 hz2 hz3 hv hok hnm e1 e2
    go_enter Tryz.func54, Tryz.ntmps54
    go_wp2_with (first
      | (go_at_call 31; refine HC.out.mono ?_; rintro e w2 ⟨rfl, n2, rfl⟩; have cur : Below w.heap.size w (w.drewN n2) := below_drewN (Below.refl _ _) n2)
      | (go_at_call 72; refine (HNm.out _).mono ?_; rintro e w3 ⟨rfl, rfl⟩)
      | (go_at_call 73; refine (HLow.out _).mono ?_; rintro e w5 ⟨rfl, hb5⟩; have cur := cur.trans (hb5.mono cur.size))
      | (go_at_call 74; refine (HTr.out _).mono ?_; rintro e w6 ⟨rfl, hb6⟩; have cur := cur.trans (hb6.mono cur.size); have hS6 := HSn.out.below cur; have hlk := hS6.look (zero_bool w6) key (by unfold maxLen; omega); rw [HK.out, HAg.out] at hlk; have hbk6 := (cur.block _ hpl).trans HBk.out; have c5 : w6.cell? ⟨ph, 5, none⟩ = some (.map (some bm)) := cell_of_block hbk6 5; obtain ⟨w7, hup, hS7, hg7⟩ := hS6.put key (by unfold maxLen; omega) (by unfold maxLen; omega); have hbk7 : HdB w7 ph m0 p0 (bytesL h.key) b0 (h.size : Int) bm := (hg7.block ph (Nat.lt_of_lt_of_le hpl cur.size) (fun e => by injection e with e; exact hne e)).trans hbk6; have c2 : w7.cell? ⟨ph, 2, none⟩ = some (.string (bytesL h.key)) := cell_of_block hbk7 2; have f7 := free_of_block hbk7; have F7 : Frm [some ph, some bm] w w7 := (Frm.ofBelow cur).grown hg7 (by simp); have HX7 := Lib.hid (And.intro hbk7 hS7); clear hbk6 hbk7 hS6 hS7 hg7)
      | (go_at_call 25; refine (HTk.out _).mono ?_; rintro e w8 ⟨rfl, rfl⟩))
    go_ret
    refine ⟨rfl, F7.set _ (by simp), fun _ => ⟨?_, ?_⟩⟩
    · show HdB _ ph m0 p0 (bytesL vl) b0 (h.size : Int) bm
      rw [HVL.out]
      exact hd_key HX7.out.1 v
    · refine SeenK.sameB (w := w7) ?_ (heap_setCell_other w7 ⟨ph, 2, none⟩ bm _ (fun e => hne e.symm))
      have hs7 := HX7.out.2
      rw [HK.out] at hs7
      exact hs7
end Go.Proofs.YtlgfhbfdjckdnaaGreatDoor
