/- Texts fused by fuse.py: KEvalType2. -/
import Derived.Test.YtjcaaahbfkjipaaGreatDoorKZ07
import Derived.Test.YtjcaaahbfkjipaaGreatDoorKZ04
/- Of EvalType2: what FRuleNames uses (shake.py). -/
set_option maxRecDepth 100000
/- expr.typeOf at a node with parts. -/
namespace Go.Proofs.YtjcaaahbfkjipaaGreatDoor
open Go.RowKit
def typeK (op : Int) (p : List Int × Int) : Int × Int := if p.2 = 0 then typeC op p.1 else (0, p.2)
/-- What is left to be typed, behind what is typed. -/
def typeG (acc : List Int) (p : List Int × Int) : List Int × Int := if p.2 = 0 then (acc ++ p.1, 0) else ([], p.2)
theorem typeL_err (l : List Bd) : ∀ ks, (typeL l ks).2 ≠ 0 → (typeL l ks).1 = []
  | [], h => absurd rfl h
  | k :: r, h => by
    have e : typeL l (k :: r) = if (typeN l k).2 = 0 then (if (typeL l r).2 = 0 then ((typeN l k).1 :: (typeL l r).1, 0) else ([], (typeL l r).2)) else ([], (typeN l k).2) := rfl
    rw [e] at h ⊢
    split
    · split
      · rename_i h1 h2; rw [if_pos h1, if_pos h2] at h; exact absurd rfl h
      · rfl
    · rfl
theorem typeG_start (l : List Bd) (ks : List Nd) : typeL l ks = typeG [] (typeL l ks) := by
  unfold typeG
  split
  · rename_i h; exact Prod.ext (by simp) h
  · rename_i h; exact Prod.ext (typeL_err l ks h) rfl
theorem typeL_drop (l : List Bd) {ks : List Nd} {k : Nat} (h : k < ks.length) : typeL l (ks.drop k) = if (typeN l ks[k]).2 = 0 then (if (typeL l (ks.drop (k + 1))).2 = 0 then ((typeN l ks[k]).1 :: (typeL l (ks.drop (k + 1))).1, 0) else ([], (typeL l (ks.drop (k + 1))).2)) else ([], (typeN l ks[k]).2) := by
  rw [List.drop_eq_getElem_cons h]; rfl
theorem typeG_bad (acc : List Int) {l : List Bd} {ks : List Nd} {k : Nat} (h : k < ks.length) {x e : Int} (ht : typeN l ks[k] = (x, e)) (he : e ≠ 0) : typeG acc (typeL l (ks.drop k)) = ([], e) := by
  rw [typeL_drop l h, ht, if_neg he]
  unfold typeG
  rw [if_neg he]
theorem typeG_next (acc : List Int) {l : List Bd} {ks : List Nd} {k : Nat} (h : k < ks.length) {x : Int} (ht : typeN l ks[k] = (x, 0)) : typeG acc (typeL l (ks.drop k)) = typeG (acc ++ [x]) (typeL l (ks.drop (k + 1))) := by
  rw [typeL_drop l h, ht, if_pos rfl]
  unfold typeG
  split
  · rename_i h2
    rw [if_pos rfl] at *
    simp
  · rfl
theorem typeG_end (acc : List Int) (l : List Bd) {ks : List Nd} {k : Nat} (h : ks.length ≤ k) : typeG acc (typeL l (ks.drop k)) = (acc, 0) := by
  rw [List.drop_eq_nil_of_le h]
  show typeG acc ([], 0) = _
  unfold typeG
  rw [if_pos rfl, List.append_nil]
/-- A slice of kinds, the call's own. -/
def OwnU (w : World) (base : Nat) (v : Value) (l : List Int) : Prop := w.ownsRow base 5 1 v l.length (l.map (Value.int .u8))
theorem info_u8 : (Tryz.prog.info? 5).map (fun i => (i.zero, i.size, i.bytes)) = some (some (.int .u8 0), 1, 1) := by kernel_rfl
theorem OwnU.nil (w : World) (base : Nat) : OwnU w base (.slice none 0 0) [] := World.ownsRow_nil w base 5 1
theorem OwnU.val {w : World} {base : Nat} {v : Value} {l : List Int} (h : OwnU w base v l) : (v = .slice none 0 0 ∧ l = []) ∨ ∃ g cap, v = .slice (some ⟨g, 0, none⟩) l.length cap ∧ base ≤ g ∧ g < w.heap.size := by
  rcases h.2 with ⟨rfl, h0⟩ | ⟨g, cap, cur, rfl, hb, hg, _⟩
  · exact Or.inl ⟨rfl, List.eq_nil_of_length_eq_zero h0⟩
  · exact Or.inr ⟨g, cap, rfl, hb, lt_of_block hg⟩
theorem OwnU.shape {w : World} {base : Nat} {v : Value} {l : List Int} (h : OwnU w base v l) : ∃ a cap, v = .slice a l.length cap := by
  rcases h.val with ⟨rfl, rfl⟩ | ⟨g, cap, rfl, _⟩
  · exact ⟨none, 0, rfl⟩
  · exact ⟨_, cap, rfl⟩
theorem OwnU.kept {w w' : World} {base B : Nat} {v : Value} {l : List Int} (h : OwnU w base v l) (hb : Below B w w') (hB : w.heap.size ≤ B) : OwnU w' base v l := by
  refine ⟨h.1, ?_⟩
  rcases h.2 with h0 | ⟨g, cap, cur, hv, hbg, hg, r⟩
  · exact Or.inl h0
  · exact Or.inr ⟨g, cap, cur, hv, hbg, (hb.block g (Nat.lt_of_lt_of_le (lt_of_block hg) hB)).trans hg, r⟩
theorem OwnU.col {w : World} {base B : Nat} {v : Value} {l : List Int} (h : OwnU w base v l) (hl : l.length ≤ 140737488355328) (hB : w.heap.size ≤ B) : U8s w B v l := by
  rcases h.val with ⟨rfl, rfl⟩ | ⟨g, cap, rfl, _, hg⟩
  · exact ColV.nil _ _ _ _
  · have hc : l.length ≤ cap := by
      rcases h.2 with ⟨h0, h1⟩ | ⟨g', cap', cur, hv, _, _, hc, _⟩
      · cases h0
      · cases hv; exact hc
    refine ⟨_, cap, rfl, hl, hc, fun i hi => ⟨g, 0, rfl, by omega, ?_⟩⟩
    have := World.ownsRow.cellAt h i (by omega)
    rw [Nat.zero_add, this]
    simp [hi]
theorem ret_pair {x y : Int} {p : Int × Int} (h : p = (x, y)) : Ending.returned (.tuple #[.int .u8 x, .int .i64 y]) = .returned (.tuple #[.int .u8 p.1, .int .i64 p.2]) := by rw [h]
def tailC (op a : Int) : Int × Int :=
  if op = 7 ∨ op = 8 then (2, 0)
  else if (op = 3 ∨ op = 5 ∨ op = 6) ∧ a = 2 then (a, 0)
  else if 9 ≤ op ∧ op ≤ 12 ∧ ¬ a = 2 then (2, 0)
  else if ((op = 4 ∨ 13 ≤ op) ∧ a = 1) ∨ (op = 13 ∧ a = 3) then (a, 0)
  else (0, 90)
theorem typeC_head (op : Int) {acc : List Int} {a : Int} (h0 : 0 < acc.length) (ha : acc[0] = a) : typeC op acc = if acc.any (fun k => !(k == a)) then (0, 90) else tailC op a := by
  cases acc with
  | nil => simp at h0
  | cons b r =>
    obtain rfl : b = a := ha
    simp only [List.any_cons, beq_self_eq_true, Bool.not_true, Bool.false_or]
    rfl
section
variable (w : World) (op : Int) (u : Vl) (nm : ByteArray) (ks : List Nd) (vk vv : Value) (l : List Bd)
/-- What a call at a part answers. -/
def KidT (w : World) (ks : List Nd) (vv : Value) (l : List Bd) : Prop := ∀ i (hi : i < ks.length) (vk' : Value) (W : World), Below w.heap.size w W → KidsR W W.heap.size vk' ks[i].kids → HeadW ks[i] → Calls Tryz.prog 134 #[valN ks[i] vk', vv] W fun e w' => e = .returned (.tuple #[.int .u8 (typeN l ks[i]).1, .int .i64 (typeN l ks[i]).2]) ∧ Below W.heap.size W w'
set_option maxHeartbeats 4000000 in
theorem type_node (d1 : (op == 1) = false) (d2 : (op == 2) = false) (hk : KidsR w w.heap.size vk ks) (h1 : 0 < ks.length) (HT : KidT w ks vv l) :
    Calls Tryz.prog 134 #[valO op u nm vk, vv] w fun e w' => e = .returned (.tuple #[.int .u8 (typeK op (typeL l ks)).1, .int .i64 (typeK op (typeL l ks)).2]) ∧ Below w.heap.size w w' := by
  obtain ⟨w1, p0, hp0, hw1, l1, b1, hc⟩ := nd_box w op u nm vk
  obtain ⟨c0, c1, c2, c3, c4, c5, c6⟩ := hc w1 (Below.refl _ _)
  have HC := Lib.hid hc
  have hll := hk.len
  obtain ⟨ka, kc, rfl, hat⟩ := kid_at hk
  have HA := Lib.hid hat
  have HK := Lib.hid HT
  have HB := Lib.hid b1
  obtain ⟨r, hr⟩ : ∃ r, typeL l ks = r := ⟨_, rfl⟩
  rw [hr]
  have HS := Lib.hid (show r = typeG [] (typeL l ks) from hr ▸ typeG_start l ks)
  obtain ⟨i0, hti, hz0, hz1, hz2⟩ := info_parts info_u8
  obtain ⟨z, hz⟩ : ∃ z, typeK op r = z := ⟨_, rfl⟩
  rw [hz]
  have HZ := Lib.hid hz
  clear hc hk hat HT b1 hr hz
  go_enter Tryz.func134, Tryz.ntmps134
  go_wp2_with fail
  go_loopg [7, 36] ks.length (fun g s7 s36 wr => ∃ (k : Nat) (acc : List Int), k + g = ks.length ∧ s36 = .int .i64 (k : Int) ∧ acc.length ≤ k ∧ k ≤ acc.length ∧ Hid (r = typeG acc (typeL l (ks.drop k))) ∧ OwnU wr w1.heap.size s7 acc ∧ Below w1.heap.size w1 wr)
  case atStart => exact ⟨0, [], by omega, rfl, Nat.le_refl _, Nat.le_refl _, HS, OwnU.nil _ _, Below.refl _ _⟩
  case round =>
    obtain ⟨k, acc, hkg, rfl, hak, hak2, hI, hO, hB⟩ := hrel
    by_cases hk : k < ks.length
    · obtain ⟨b, o, vk', rfl, hb, hw, hkk, hcc⟩ := HA.out k hk
      have hBw := HB.out.trans (hB.mono HB.out.size)
      obtain ⟨e0, e1, e2, e3, e4, e5, e6⟩ := kid_cells hcc hBw hb
      obtain ⟨w2, p2, hp2, hw2, l2, n2, b2⟩ := box_new wr (objN ks[k].op ks[k].v ks[k].name vk')
      have HG1 := Lib.hid (fun (x e : Int) (he : e ≠ 0) (ht : typeN l ks[k] = (x, e)) => typeG_bad acc hk ht he)
      have HG2 := Lib.hid (fun (x : Int) (ht : typeN l ks[k] = (x, 0)) => typeG_next acc hk ht)
      have hB2 := hB.trans (b2.mono hB.size)
      have hBw2 := HB.out.trans (hB2.mono HB.out.size)
      have HCall := Lib.hid (HK.out k hk vk' w2 hBw2 (hkk.mono hBw2 hBw2.size) hw)
      obtain ⟨ak, ck, rfl⟩ := hkk.val
      obtain ⟨x, hx⟩ : ∃ x, ks[k] = x := ⟨_, rfl⟩
      have HL := Lib.hid (show x.kids.length = ks[k].kids.length by rw [hx])
      obtain ⟨nk, hnk⟩ : ∃ nk, ks[k].kids.length = nk := ⟨_, rfl⟩
      rw [hnk] at e6 hw2 n2 HCall
      rw [hx] at e0 e1 e2 e3 e4 e5 hw2 n2 HCall HG1 HG2
      have hw2' : wr.alloc (.cells #[.int .u8 x.op, .int .u8 x.v.kind, .int .i64 x.v.num, .bool x.v.tr, .string x.v.text, .string x.name, .slice ak nk ck] 108) = w2 := hw2
      obtain ⟨f0, f1, f2, f3, f4, f5, f6⟩ := n_cells n2
      obtain ⟨tt, htt⟩ : ∃ tt, typeN l x = tt := ⟨_, rfl⟩
      rw [htt] at HCall HG1 HG2
      obtain ⟨tk, te⟩ := tt
      have HO := Lib.hid (hO.kept b2 (Nat.le_refl _))
      have HB2 := Lib.hid hB2
      have k1 : (0 : Int) ≤ (k : Int) := by omega
      have k2 : (k : Int) < (ks.length : Int) := by omega
      clear hx hnk HL htt hw2 n2 b2 hB2 hBw2 hkk hcc hw hBw hB
      go_wp2_with (go_at_call 134; refine HCall.out.mono ?_; rintro e w3 ⟨rfl, hb3⟩; refine Hid.out ?_)
      refine Lib.hid ?_
      have HB3 := Lib.hid (HB2.out.trans (hb3.mono HB2.out.size))
      have HO3 := Lib.hid (HO.out.kept hb3 (Nat.le_refl _))
      have hz3 := HB3.out.size
      have hza := HB2.out.size
      obtain ⟨au, cu, rfl⟩ := HO.out.shape
      clear hb3 HO HCall
      by_cases hte : te = 0
      · subst hte
        have HG := Lib.hid (hI.out.trans (HG2.out tk rfl))
        clear HG1 HG2
        have hal : acc.length ≤ 1599289640355 := by omega
        go_wp2_with (at_builtin; refine wpList_append_own _ rfl _ _ 149 rfl w1.heap.size 5 i0 (.int .u8 0) 1 1 Tryz.underlying149 hti hz0 hz1 hz2 rfl (by decide) _ acc.length (acc.map (Value.int .u8)) rfl (HO3.out.kept ((Below.refl _ _).alloc (Nat.le_refl _) _) (Nat.le_refl _)) ⟨w3.heap.size, 0, none⟩ 1 1 [.int .u8 tk] rfl rfl (cells_new _ _ _) (by simp [Value.oneCell']) (by unfold maxLen; omega) (by omega) (by simp; omega) ?_; intro v' w4 hown hg4 _)
        go_roundg (gk - 1)
        case measure => omega
        case rel =>
          refine ⟨k + 1, acc ++ [tk], by omega, by go_num, by simp; omega, by simp; omega, HG, by unfold OwnU; simpa using hown, ?_⟩
          exact (HB3.out.alloc (by omega) _).grown hg4 (by simp; omega) (fun j hj => (World.ownsRow.lt HO3.out j hj).1)
      · have dte : (te != 0) = true := by simpa using hte
        have HG := Lib.hid (hI.out.trans (HG1.out tk te hte rfl))
        have HR := Lib.hid (show typeK op r = (0, te) by rw [HG.out]; unfold typeK; rw [if_neg hte])
        clear HG1 HG2 hte
        go_wp2_with fail
        go_ret2
        rw [← HZ.out, HR.out]
        exact ⟨rfl, HB.out.trans (HB3.out.mono HB.out.size)⟩
    · have HR := Lib.hid (hI.out.trans (typeG_end acc l (by omega)))
      have hB' := Lib.hid hB
      have dk : decide (k < ks.length) = false := decide_eq_false hk
      obtain ⟨au, cu, rfl⟩ := hO.shape
      have hcol := hO.col (by omega) (Nat.le_refl _)
      have h0 : 0 < acc.length := by omega
      obtain ⟨b, o, rfl, hb, hc0⟩ := hcol.col 0 h0
      obtain ⟨a, ha⟩ : ∃ a, acc[0] = a := ⟨_, rfl⟩
      rw [ha] at hc0
      rw [Nat.add_zero] at hc0
      obtain ⟨w9, p9, hp9, hw9, l9, n9, b9⟩ := box_new wr (.cells #[.int .u8 a] 5)
      have hB9 := hB.trans (b9.mono hB.size)
      have HN9 := Lib.hid (fun V (h : Below w9.heap.size w9 V) => (show V.cell? ⟨p9, 0, none⟩ = some (.int .u8 a) from (cell_of_block ((h.block p9 l9).trans n9) 0).trans rfl))
      have HCt := Lib.hid (u8Has_any w9 _ acc (hcol.mono b9 b9.size) 158 #[.pointer (some ⟨p9, 0, none⟩)] (fun k => !(k == a)) (enters_of Tryz.func158 (by kernel_rfl) rfl) (fun x W h => type2_any W x a p9 (HN9.out W h)))
      have HTC := Lib.hid (show typeK op r = if acc.any (fun k => !(k == a)) then (0, 90) else tailC op a by rw [HR.out]; unfold typeK; rw [if_pos rfl]; exact typeC_head op h0 ha)
      have H9 := Lib.hid hB9
      have hn0 : (0 : Int) < (acc.length : Int) := by omega
      cases hany : acc.any (fun k => !(k == a)) with
      | true =>
        rw [hany] at HCt HTC
        clear hB n9 b9 hB9 hcol hany ha h0 hO
        go_wp2_with (go_at_call 157; refine HCt.out.mono ?_; rintro e w10 ⟨rfl, hb10⟩; refine Hid.out ?_)
        refine Lib.hid ?_
        have HE := Lib.hid (HB.out.trans ((H9.out.trans (hb10.mono H9.out.size)).mono HB.out.size))
        clear hb10
        go_wp2_with fail
        go_ret2
        rw [← HZ.out, HTC.out]
        exact ⟨rfl, HE.out⟩
      | false =>
        rw [hany] at HCt HTC
        clear hB n9 b9 hB9 hcol hany ha h0 hO
        go_wp2_with (go_at_call 157; refine HCt.out.mono ?_; rintro e w10 ⟨rfl, hb10⟩; refine Hid.out ?_)
        refine Lib.hid ?_
        have HE := Lib.hid (HB.out.trans ((H9.out.trans (hb10.mono H9.out.size)).mono HB.out.size))
        have HT := Lib.hid (show z = tailC op a by rw [← HZ.out, HTC.out]; exact if_neg Bool.false_ne_true)
        obtain ⟨c0, -⟩ := HC.out w10 (H9.out.trans (hb10.mono H9.out.size))
        have g0 := HN9.out w10 hb10
        clear hb10
        have e7 : (op == 7) = decide (op = 7) := rfl
        have e8 : (op == 8) = decide (op = 8) := rfl
        have x2 : (a == 2) = decide (a = 2) := rfl
        have y2 : (a != 2) = !decide (a = 2) := rfl
        have x1 : (a == 1) = decide (a = 1) := rfl
        have x3 : (a == 3) = decide (a = 3) := rfl
        go_wp2_with fail
        clear HC HA HK HN9 HB HS HR HTC HCt H9
        all_goals go_ret2
        all_goals refine ⟨ret_pair (HT.out.trans ?_), (by first | exact HE.out | (rw [← hp0]; exact HE.out))⟩
        all_goals
          unfold tailC
          repeat' split
          all_goals first | rfl | (exfalso; omega) | (apply Prod.ext <;> dsimp only <;> omega) | (exfalso; have z3 := ‹(!decide (a = 2)) = true›; have z2 : ¬ a = 2 := (by simpa using z3); omega) | (exfalso; have z3 := ‹(!decide (a = 2)) = false›; have z2 : a = 2 := (by simpa using z3); omega)
end
end Go.Proofs.YtjcaaahbfkjipaaGreatDoor
