/- (*wire.head).first (seat wire). -/
import Derived.Test.YtlgfhbfdjckdnaaGreatDoorWireTok2
import Derived.Test.YtlgfhbfdjckdnaaGreatDoorWireHeadP
import Derived.Test.YtlgfhbfdjckdnaaGreatDoorStepOwn
set_option maxRecDepth 100000
namespace Go.Proofs.YtlgfhbfdjckdnaaGreatDoor
open Go.RowKit

theorem allB_list (p : Nat → Bool) (s : ByteArray) : allB p s = allL p s.data.toList := rfl
theorem methodB_list (s : ByteArray) : methodB s = methodL s.data.toList := rfl
theorem pathB_list (s : ByteArray) : pathB s = pathL s.data.toList := rfl
theorem bytesL_data (s : ByteArray) : bytesL s.data.toList = s := by
  unfold bytesL
  cases s
  simp
theorem bytesL_list (l : List UInt8) : (bytesL l).data.toList = l := by unfold bytesL; simp
/-- The pieces of a text. -/
def pcsB (s sep : ByteArray) : List ByteArray := Lib.splitB sep 0 (Lib.countB s sep) s
theorem pcsB_data (s sep : ByteArray) : (pcsB s sep).map (·.data.toList) = Lib.split s.data.toList sep.data.toList := Lib.splitB_data sep 0 _ s
theorem pcsB_len (s sep : ByteArray) (h1 : 1 ≤ sep.size) : (pcsB s sep).length = Lib.countB s sep + 1 := Lib.splitB_all sep h1 0 _ s rfl
theorem split_run (s sep : ByteArray) (m : Int) (w : World) (hs : s.size < 4294967281) (hm : w.cell? ⟨0, 0, none⟩ = some (.int .i64 m)) (h1 : 1 ≤ sep.size) :
    Calls Tryz.prog 51 #[.string s, .string sep] w fun e w' => e = .returned (.slice (some ⟨w.heap.size, 0, none⟩) (pcsB s sep).length (pcsB s sep).length) ∧ w' = w.alloc (.cells ((pcsB s sep).map Value.string).toArray 9) := by
  rw [pcsB_len s sep h1]
  exact Tryz.strings_Split s sep m w hs hm h1

set_option maxHeartbeats 1000000 in
theorem digit_any (w : World) (c g : Nat) (v : ByteArray) (hc : w.cell? ⟨c, 0, none⟩ = some (.slice (some ⟨g, 0, none⟩) 3 3)) (hv : w.cell? ⟨g, 2, none⟩ = some (.string v)) (i : Nat) (hi : i < v.size) :
    Calls Tryz.prog 71 #[.int .i64 (i : Int), .pointer (some ⟨c, 0, none⟩)] w fun e w' => e = .returned (.bool (digC v[i].toNat)) ∧ w = w' := by
  have hx : v[i].toNat < 256 := v[i].toNat_lt
  by_cases h1 : 48 ≤ v[i].toNat
  · have e1 : decide ((48 : Int) ≤ (v[i].toNat : Int)) = true := decide_eq_true (by omega)
    have e1' : decide (48 ≤ v[i].toNat) = true := decide_eq_true h1
    have hf : Hid (decide (v[i].toNat ≤ 57) = digC v[i].toNat) := by refine Lib.hid ?_; unfold digC; rw [decide_eq_true h1]; rfl
    have hf2 : Hid (decide ((v[i].toNat : Int) ≤ 57) = digC v[i].toNat) := by refine Lib.hid ?_; rw [← hf.out]; exact decide_eq_decide.2 (by omega)
    clear h1
    go_enter Tryz.func71, Tryz.ntmps71
    go_wp2_with fail
    go_ret
    exact ⟨ret_bool (by first | exact hf.out | exact hf2.out), rfl⟩
  · have e1 : decide ((48 : Int) ≤ (v[i].toNat : Int)) = false := decide_eq_false (by omega)
    have e1' : decide (48 ≤ v[i].toNat) = false := decide_eq_false h1
    have hf : Hid (false = digC v[i].toNat) := by refine Lib.hid ?_; unfold digC; rw [decide_eq_false h1]; rfl
    clear h1
    go_enter Tryz.func71, Tryz.ntmps71
    go_wp2_with fail
    go_ret
    exact ⟨ret_bool hf.out, rfl⟩

theorem splitB_size (sep : ByteArray) : ∀ (k : Nat) (s x : ByteArray), x ∈ Lib.splitB sep 0 k s → x.size ≤ s.size
  | 0, s, x, h => by rw [Lib.splitB_zero, List.mem_singleton] at h; subst h; exact Nat.le_refl _
  | k + 1, s, x, h => by
    unfold Lib.splitB at h
    split at h
    · rw [List.mem_singleton] at h; subst h; exact Nat.le_refl _
    · rcases List.mem_cons.1 h with h | h
      · subst h
        rw [ByteArray.size_extract]; omega
      · have := splitB_size sep k _ x h
        rw [ByteArray.size_extract] at this
        omega
theorem pcsB_size {s sep x : ByteArray} (h : x ∈ pcsB s sep) : x.size ≤ s.size := splitB_size sep _ s x h
/-- The head under way: a block of six cells. -/
abbrev HdB (w : World) (ph : Nat) (m p k b : ByteArray) (sz : Int) (bm : Nat) : Prop := w.heap[ph]? = some (.cells #[.string m, .string p, .string k, .string b, .int .i64 sz, .map (some bm)] 80)

theorem set_selfH {w : World} {b i : Nat} {c : Array Value} {t : TypeId} {fr : Nat × Nat} (v : Value) (h : w.heap[b]? = some (.cells c t fr)) : (w.setCell ⟨b, i, none⟩ v).heap[b]? = some (.cells (c.setIfInBounds i v) t fr) := by
  simp [World.setCell, Array.getElem?_modify, h]
theorem hd_sets {W : World} {ph bm : Nat} {m0 p0 k0 b0 : ByteArray} {sz : Int} (h : HdB W ph m0 p0 k0 b0 sz bm) (x y : ByteArray) : HdB ((W.setCell ⟨ph, 0, none⟩ (.string x)).setCell ⟨ph, 1, none⟩ (.string y)) ph x y k0 b0 sz bm := set_selfH _ (set_selfH _ h)
theorem hd_sets' {W : World} {ph bm : Nat} {m0 p0 k0 b0 : ByteArray} {sz : Int} (h : HdB W ph m0 p0 k0 b0 sz bm) (x y : ByteArray) : HdB ((W.setCell ⟨ph, 1, none⟩ (.string y)).setCell ⟨ph, 0, none⟩ (.string x)) ph x y k0 b0 sz bm := set_selfH _ (set_selfH _ h)
theorem Frm.drw {S : List (Option Nat)} {w w1 : World} (h : Frm S w w1) : Frm S w w1.drew := ⟨h.os, h.tape, h.output, h.size, h.keep⟩
theorem Frm.set {S : List (Option Nat)} {w w1 : World} (h : Frm S w w1) {b i : Nat} (v : Value) (hb : some b ∈ S) : Frm S w (w1.setCell ⟨b, i, none⟩ v) := h.grown (grownBy_setCell _ _ _ _) hb

def firstP (P : List (List UInt8)) : Int × List UInt8 × List UInt8 :=
  match P with
  | [m, p, v] => if methodL m && pathL p then (if v = http11 then (0, m, p) else if otherL v then (505, [], []) else (400, [], [])) else (400, [], [])
  | _ => (400, [], [])
theorem firstS_of {l : List UInt8} {P : List (List UInt8)} (h : Lib.split l [32] = P) : firstS l = firstP P := by subst h; rfl

/-- One of two places, with what is there. -/
def DX (a b : Bool) (i : Int) (r : Bool) : Prop := (i = 5 ∧ r = a) ∨ (i = 7 ∧ r = b)
set_option maxHeartbeats 4000000 in
theorem first_any (w : World) (mx : Int) (hm : w.cell? ⟨0, 0, none⟩ = some (.int .i64 mx)) (s : ByteArray) (hs : s.size ≤ 300000) (ph bm : Nat) (m0 p0 k0 b0 : ByteArray) (sz : Int) (hb : HdB w ph m0 p0 k0 b0 sz bm) :
    Calls Tryz.prog 53 #[.pointer (some ⟨ph, 0, none⟩), .string s] w fun e w' => e = .returned (.int .i64 (firstS s.data.toList).1) ∧ Frm [some ph] w w' ∧
      ((firstS s.data.toList).1 = 0 → HdB w' ph (bytesL (firstS s.data.toList).2.1) (bytesL (firstS s.data.toList).2.2) k0 b0 sz bm) := by
  have HS := Lib.hid (split_run s ⟨#[32]⟩ mx w (by omega) hm (Nat.le_refl _))
  have hd := pcsB_data s ⟨#[32]⟩
  have hf := firstS_of hd.symm
  have hz := fun x => pcsB_size (s := s) (sep := ⟨#[32]⟩) (x := x)
  clear hm hd
  obtain ⟨P, hP⟩ : ∃ P, pcsB s ⟨#[32]⟩ = P := ⟨_, rfl⟩
  rw [hP] at HS hf hz
  clear hP
  by_cases h3 : P.length = 3
  · match P, h3 with
    | [m, p, v], _ =>
      replace hf : firstS s.data.toList = if methodB m && pathB p then (if v.data.toList = http11 then (0, m.data.toList, p.data.toList) else if otherL v.data.toList then (505, [], []) else (400, [], [])) else (400, [], []) := hf
      replace HS : Hid (Calls Tryz.prog 51 #[.string s, .string ⟨#[32]⟩] w fun e w' => e = .returned (.slice (some ⟨w.heap.size, 0, none⟩) 3 3) ∧ w' = w.alloc (.cells #[.string m, .string p, .string v] 9)) := HS
      have zm : m.size ≤ 300000 := Nat.le_trans (hz m (by simp)) hs
      have zp : p.size ≤ 300000 := Nat.le_trans (hz p (by simp)) hs
      have zv : v.size ≤ 300000 := Nat.le_trans (hz v (by simp)) hs
      obtain ⟨W3, hW3⟩ : ∃ W3, (w.alloc (.cells #[.string m, .string p, .string v] 9)).alloc (.cells #[.slice (some ⟨w.heap.size, 0, none⟩) 3 3] 81) = W3 := ⟨_, rfl⟩
      have BW : Hid (Below w.heap.size w W3) := by refine Lib.hid ?_; rw [← hW3]; exact ((Below.refl _ _).alloc (Nat.le_refl _) _).alloc (by simp) _
      have x0 : W3.heap[w.heap.size]? = some (.cells #[.string m, .string p, .string v] 9) := by rw [← hW3]; exact heap_alloc2_old _ _ _
      have x1 : W3.heap[w.heap.size + 1]? = some (.cells #[.slice (some ⟨w.heap.size, 0, none⟩) 3 3] 81) := by rw [← hW3]; exact heap_alloc2_new _ _ _
      have hpl := lt_of_block hb
      have hb3 : HdB W3 ph m0 p0 k0 b0 sz bm := (BW.out.block _ hpl).trans hb
      have c0 : W3.cell? ⟨w.heap.size, 0, none⟩ = some (.string m) := cell_of_block x0 0
      have c1 : W3.cell? ⟨w.heap.size, 1, none⟩ = some (.string p) := cell_of_block x0 1
      have c2 : W3.cell? ⟨w.heap.size, 2, none⟩ = some (.string v) := cell_of_block x0 2
      have cs : W3.cell? ⟨w.heap.size + 1, 0, none⟩ = some (.slice (some ⟨w.heap.size, 0, none⟩) 3 3) := cell_of_block x1 0
      have d0 : W3.cell? ⟨ph, 0, none⟩ = some (.string m0) := cell_of_block hb3 0
      have d1 : W3.cell? ⟨ph, 1, none⟩ = some (.string p0) := cell_of_block hb3 1
      have f0 := free_of_block hb3
      have HX := Lib.hid (And.intro x0 (And.intro x1 hb3))
      have HM := Lib.hid (fun W => method_any W m (by omega))
      have HPa := Lib.hid (fun W => path_any W p (by omega))
      have hbx : Hid (W3.heap.size = w.heap.size + 2) := by refine Lib.hid ?_; rw [← hW3]; simp
      clear x0 x1 hb3 hz hb
      obtain ⟨b1, h1⟩ : ∃ b1, methodB m = b1 := ⟨_, rfl⟩
      obtain ⟨b2, h2⟩ : ∃ b2, pathB p = b2 := ⟨_, rfl⟩
      rw [h1] at HM hf
      rw [h2] at HPa hf
      clear h1 h2
      by_cases hbb : b1 = true ∧ b2 = true
      · obtain ⟨rfl, rfl⟩ := hbb
        have HF : Hid (firstS s.data.toList = if v.data.toList = http11 then (0, m.data.toList, p.data.toList) else if otherL v.data.toList then (505, [], []) else (400, [], [])) := Lib.hid hf
        clear hf
        go_enter Tryz.func53, Tryz.ntmps53
        go_upto_region 4 with (first
          | (go_at_call 51; refine HS.out.mono ?_; rintro e w2 ⟨rfl, rfl⟩)
          | (go_at_call 23; refine (HM.out _).mono ?_; rintro e w2 ⟨rfl, rfl⟩)
          | (go_at_call 24; refine (HPa.out _).mono ?_; rintro e w2 ⟨rfl, rfl⟩))
        go_cut [] (fun wx => ∃ w9, w9 = wx ∧ HdB w9 ph m p k0 b0 sz bm ∧ Frm [some ph] W3 w9)
        case first =>
          go_region_law (fail)
          all_goals go_wp2_with fail
          all_goals go_meet
          all_goals first
            | exact ⟨_, rfl, hd_sets HX.out.2.2 m p, (((Frm.refl [some ph] W3).set _ (by simp)).set _ (by simp)).drw⟩
            | exact ⟨_, rfl, hd_sets' HX.out.2.2 m p, (((Frm.refl [some ph] W3).set _ (by simp)).set _ (by simp)).drw⟩
        case rest =>
          obtain ⟨w9, rfl, hb9, hF9⟩ := hcut
          have y0 := hF9.block HX.out.1 (by intro r hr; simp only [List.mem_singleton] at hr; subst hr; intro e; injection e; omega)
          have y1 := hF9.block HX.out.2.1 (by intro r hr; simp only [List.mem_singleton] at hr; subst hr; intro e; injection e; omega)
          have c2 : w9.cell? ⟨w.heap.size, 2, none⟩ = some (.string v) := cell_of_block y0 2
          have cs : w9.cell? ⟨w.heap.size + 1, 0, none⟩ = some (.slice (some ⟨w.heap.size, 0, none⟩) 3 3) := cell_of_block y1 0
          have HB9 := Lib.hid hb9
          have HF9 := Lib.hid (show Frm [some ph] w w9 from (Frm.ofBelow BW.out).trans hF9 (by simp))
          have hh11 : (v.toList == [72, 84, 84, 80, 47, 49, 46, 49]) = decide (v.data.toList = http11) := by
            rw [ByteArray.toList_eq]
            exact Bool.eq_iff_iff.2 ⟨fun h => decide_eq_true (beq_iff_eq.1 h), fun h => beq_iff_eq.2 (of_decide_eq_true h)⟩
          clear y0 y1 hb9 hF9
          by_cases h11 : v.data.toList = http11
          · rw [decide_eq_true h11] at hh11
            go_wp2_with fail
            go_ret
            rw [HF.out, if_pos h11]
            refine ⟨rfl, HF9.out, fun _ => ?_⟩
            show HdB w9 ph (bytesL m.data.toList) (bytesL p.data.toList) k0 b0 sz bm
            rw [bytesL_data, bytesL_data]
            exact HB9.out
          · rw [decide_eq_false h11] at hh11
            rw [if_neg h11] at HF
            clear h11
            by_cases h8 : v.size = 8
            · have e8 : ((v.size : Int) == 8) = true := beq_iff_eq.2 (by omega)
              have e8' : (v.size == 8) = true := beq_iff_eq.2 h8
              have hel : ∀ k (hk : k < v.size), v.data.toList.getD k 0 = v[k] := fun k hk => by
                rw [List.getD_eq_getElem?_getD, List.getElem?_eq_getElem (by simpa using hk)]; simp; rfl
              have ho : otherL v.data.toList = (Lib.hasPrefix v.data.toList httpS && (v[6].toNat == 46) && digC v[5].toNat && digC v[7].toNat) := by
                unfold otherL
                rw [hel 5 (by omega), hel 6 (by omega), hel 7 (by omega), decide_eq_true (show v.data.toList.length = 8 from h8), Bool.true_and]
                congr 3
              have HD : Hid (∀ (i : Int) (r : Bool), DX (digC v[5].toNat) (digC v[7].toNat) i r → Calls Tryz.prog 71 #[.int .i64 i, .pointer (some ⟨w.heap.size + 1, 0, none⟩)] w9 fun e w' => e = .returned (.bool r) ∧ w9 = w') := Lib.hid (fun i r h => by
                rcases h with ⟨rfl, rfl⟩ | ⟨rfl, rfl⟩
                · exact digit_any w9 _ _ v cs c2 5 (by omega)
                · exact digit_any w9 _ _ v cs c2 7 (by omega))
              have dx5 : DX (digC v[5].toNat) (digC v[7].toNat) 5 (digC v[5].toNat) := .inl ⟨rfl, rfl⟩
              have dx7 : DX (digC v[5].toNat) (digC v[7].toNat) 7 (digC v[7].toNat) := .inr ⟨rfl, rfl⟩
              have HPf : Hid (Calls Tryz.prog 32 #[.string v, .string ⟨#[72, 84, 84, 80, 47]⟩] w9 fun e w' => e = .returned (.bool (Lib.hasPrefix v.data.toList httpS)) ∧ w' = w9) := Lib.hid (Tryz.strings_HasPrefix v _ w9)
              have e6 : ((v[6].toNat : Int) == 46) = (v[6].toNat == 46) := Bool.eq_iff_iff.2 ⟨fun h => beq_iff_eq.2 (by have := beq_iff_eq.1 h; omega), fun h => beq_iff_eq.2 (by have := beq_iff_eq.1 h; omega)⟩
              obtain ⟨pf, hpf⟩ : ∃ b, Lib.hasPrefix v.data.toList httpS = b := ⟨_, rfl⟩
              obtain ⟨t6, ht6⟩ : ∃ b, (v[6].toNat == 46) = b := ⟨_, rfl⟩
              obtain ⟨t5, ht5⟩ : ∃ b, digC v[5].toNat = b := ⟨_, rfl⟩
              obtain ⟨t7, ht7⟩ : ∃ b, digC v[7].toNat = b := ⟨_, rfl⟩
              rw [hpf, ht6, ht5, ht7] at ho
              rw [hpf] at HPf
              rw [ht5] at HD dx5 dx7
              rw [ht7] at HD dx5 dx7
              rw [ht6] at e6
              rw [ho] at HF
              have hor : pf = false ∨ (pf = true ∧ t6 = false) ∨ (pf = true ∧ t6 = true ∧ t5 = false) ∨ (pf = true ∧ t6 = true ∧ t5 = true) := by
                cases pf <;> cases t6 <;> cases t5 <;> simp
              clear ho hpf ht5 ht7 hel
              rcases hor with rfl | ⟨rfl, rfl⟩ | ⟨rfl, rfl, rfl⟩ | ⟨rfl, rfl, rfl⟩
              case inr.inr.inr =>
                cases t7
                all_goals
                  go_wp2_with (first
                    | (go_at_call 32; refine HPf.out.mono ?_; rintro e w2 ⟨rfl, rfl⟩)
                    | (go_at_call 71; refine (HD.out _ _ (by assumption)).mono ?_; rintro e w2 ⟨rfl, rfl⟩))
                  go_ret
                  rw [HF.out]
                  exact ⟨rfl, HF9.out, fun h => by cases h⟩
              all_goals
                go_wp2_with (first
                  | (go_at_call 32; refine HPf.out.mono ?_; rintro e w2 ⟨rfl, rfl⟩)
                  | (go_at_call 71; refine (HD.out _ _ (by assumption)).mono ?_; rintro e w2 ⟨rfl, rfl⟩))
                go_ret
                rw [HF.out]
                exact ⟨rfl, HF9.out, fun h => by cases h⟩
            · have e8 : ((v.size : Int) == 8) = false := beq_eq_false_iff_ne.2 (by omega)
              have e8' : (v.size == 8) = false := beq_eq_false_iff_ne.2 h8
              have ho : otherL v.data.toList = false := by
                unfold otherL
                rw [decide_eq_false (show ¬ v.data.toList.length = 8 from h8)]; rfl
              rw [ho] at HF
              go_wp2_with fail
              go_ret
              rw [HF.out]
              exact ⟨rfl, HF9.out, fun h => by cases h⟩
      · have hf2 : Hid (firstS s.data.toList = (400, [], [])) := by
          refine Lib.hid ?_
          rw [hf]
          cases b1
          · rfl
          · cases b2
            · rfl
            · exact absurd ⟨rfl, rfl⟩ hbb
        have hor : b1 = false ∨ (b1 = true ∧ b2 = false) := by
          cases b1
          · exact .inl rfl
          · cases b2
            · exact .inr ⟨rfl, rfl⟩
            · exact absurd ⟨rfl, rfl⟩ hbb
        clear hf hbb
        rcases hor with rfl | ⟨rfl, rfl⟩
        all_goals
          go_enter Tryz.func53, Tryz.ntmps53
          go_wp2_with (first
            | (go_at_call 51; refine HS.out.mono ?_; rintro e w2 ⟨rfl, rfl⟩)
            | (go_at_call 23; refine (HM.out _).mono ?_; rintro e w2 ⟨rfl, rfl⟩)
            | (go_at_call 24; refine (HPa.out _).mono ?_; rintro e w2 ⟨rfl, rfl⟩))
          go_ret
          rw [hf2.out]
          exact ⟨rfl, .ofBelow BW.out, fun h => by cases h⟩
  · have hf2 : Hid (firstS s.data.toList = (400, [], [])) := by
      refine Lib.hid ?_
      rw [hf]
      match P, h3 with
      | [], _ => rfl
      | [_], _ => rfl
      | [_, _], _ => rfl
      | [_, _, _], h => exact absurd rfl h
      | _ :: _ :: _ :: _ :: _, _ => rfl
    obtain ⟨n, hn⟩ : ∃ n, P.length = n := ⟨_, rfl⟩
    rw [hn] at HS h3
    have e1 : ((n : Int) == 3) = false := beq_eq_false_iff_ne.2 (by omega)
    have e1' : (n == 3) = false := beq_eq_false_iff_ne.2 h3
    obtain ⟨W2, hW2⟩ : ∃ W2, w.alloc (.cells (P.map Value.string).toArray 9) = W2 := ⟨_, rfl⟩
    rw [hW2] at HS
    have bel : Below w.heap.size w W2 := by rw [← hW2]; exact (Below.refl _ _).alloc (Nat.le_refl _) _
    have BB := Lib.hid bel
    clear hf hW2 bel
    go_enter Tryz.func53, Tryz.ntmps53
    go_wp2_with (go_at_call 51; refine HS.out.mono ?_; rintro e w2 ⟨rfl, rfl⟩)
    go_ret
    rw [hf2.out]
    exact ⟨rfl, .ofBelow (BB.out.alloc BB.out.size _), fun h => by cases h⟩
end Go.Proofs.YtlgfhbfdjckdnaaGreatDoor
