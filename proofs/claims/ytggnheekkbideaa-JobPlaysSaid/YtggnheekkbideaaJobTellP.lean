/- Jobs that are free are the free ones of all jobs; on lists. The document's Free; the law's 'jobs'. -/
import Derived.Test.YtggnheekkbideaaJobRList
import Derived.Test.YtggnheekkbideaaInsO
set_option maxRecDepth 100000
namespace Go.Proofs.Ytggnheekkbideaa
open Go.RowKit

theorem tag_lt {d : List PT} (hn : d.Pairwise (· ≠ ·)) {M : List PT} (hM : M.Sublist d) : M.Pairwise (fun a b => tagOf d a < tagOf d b) := by
  have hd : d.Pairwise (fun a b => tagOf d a < tagOf d b) := by
    rw [List.pairwise_iff_getElem]
    intro i j hi hj hij
    have e1 := tagOf_at hn hi
    have e2 := tagOf_at hn hj
    rw [atL_eq hi] at e1
    rw [atL_eq hj] at e2
    omega
  exact hd.sublist hM
/-- Insertion and choice. -/
theorem fold_filter {d : List PT} (hn : d.Pairwise (· ≠ ·)) (q : PT → Bool) : (d.foldl insP []).filter q = (d.filter q).foldl insP [] := by
  obtain ⟨f1, f2⟩ := fold_ins (tagOf d) d.length d rfl (tag_lt hn (List.Sublist.refl _))
  obtain ⟨g1, g2⟩ := fold_ins (tagOf d) (d.filter q).length (d.filter q) rfl (tag_lt hn List.filter_sublist)
  refine List.Perm.eq_of_pairwise (le := leR (tagOf d)) ?_ (f2.filter q) g2 ((f1.filter q).trans g1.symm)
  intro a b ha hb h1 h2
  have ha' := f1.subset (List.mem_filter.1 ha).1
  have hb' := (List.mem_filter.1 (g1.subset hb)).1
  have e : tagOf d a = tagOf d b := by unfold leR at h1 h2; omega
  obtain ⟨i, hi, rfl⟩ := List.getElem_of_mem ha'
  obtain ⟨j, hj, rfl⟩ := List.getElem_of_mem hb'
  have e1 := tagOf_at hn hi
  have e2 := tagOf_at hn hj
  rw [atL_eq hi] at e1
  rw [atL_eq hj] at e2
  obtain rfl : i = j := by omega
  rfl
def freeJ (c : Int) (j : Jb) : Bool := (j.inc == 0) && decide (j.til ≤ c)
theorem free_jobs (c : Int) (l : List Ins) : (jobsP isB l).filter (freeJ c) = jobsP (freeB c) l := by
  unfold jobsP someL
  rw [List.filter_map, stable_is (someL_ne isB l), stable_is (someL_ne (freeB c) l)]
  congr 1
  have hn := someL_ne isB l
  have := fold_filter hn (freeJ c ∘ jobOf l)
  rw [this]
  congr 1
  rw [List.filter_filter]
  refine List.filter_congr fun p _ => ?_
  simp only [Function.comp, freeJ, jobOf, freeB]
  cases isB p.t <;> cases (p.t.inc == 0) <;> simp <;> rfl

set_option maxHeartbeats 4000000 in
theorem rfree2_any (w : World) (v : Value) (l : List Ins) (c : Int) (hI : InsR w w.heap.size v l) (hl : (allT l).length ≤ 1048576) :
    Calls Try.prog 20 #[v, .int .i64 c] w fun e w' => ∃ vo, e = .returned vo ∧ RJ w' w.heap.size vo (jobsP (freeB c) l) ∧ Below w.heap.size w w' := by
  obtain ⟨i0, hti, hz0, hz1, hz2⟩ := info_parts (show (Try.prog.info? 81).map (fun i => (i.zero, i.size, i.bytes)) = some (some (.agg #[.int .i64 0, .int .i64 0, .string default, .int .i64 0, .string default, .int .i64 0, .int .u8 0]), 7, 72) by kernel_rfl)
  have S1 := Lib.hid (rlist_any w v l hI hl)
  obtain ⟨a, cc, rfl⟩ := hI.val
  have hJl : (jobsP isB l).length ≤ 1048576 := by
    unfold jobsP
    rw [List.length_map]
    exact Nat.le_trans (stable_mem l isB).2 hl
  have HF := Lib.hid (free_jobs c l)
  obtain ⟨J, hJ⟩ : ∃ J, jobsP isB l = J := ⟨_, rfl⟩
  rw [hJ] at hJl HF S1
  clear hI hJ
  go_enter Try.func20, Try.ntmps20
  go_wp2_with (go_at_call 17; refine S1.out.mono ?_; rintro e w1 ⟨v1, rfl, hO1, hb1⟩; refine Hid.out ?_)
  refine Lib.hid ?_
  obtain ⟨a1, c1, rfl⟩ := OwnF.shape hO1
  obtain ⟨n, hn⟩ : ∃ n, J.length = n := ⟨_, rfl⟩
  have HB1 := Lib.hid hb1
  have hz1w := hb1.size
  have HO1 := Lib.hid hO1
  have hsl := OwnF.sl (L := 1048576) cellJ_len hO1 (fun g hg => (OwnF.lt hO1 g hg).2) hJl
  have HSL := Lib.hid hsl
  rw [hn] at HSL hJl ⊢
  have HN := Lib.hid hn
  clear hO1 hb1 hsl hn
  go_wp2_with fail
  go_loopg [5, 7] n (fun gh s5 s7 wx => ∃ i : Nat, i + gh = n ∧ s7 = .int .i64 (i : Int) ∧ RJ wx w1.heap.size s5 ((J.take i).filter (freeJ c)) ∧ Below w1.heap.size w1 wx)
  case atStart => exact ⟨0, by omega, rfl, OwnF.nil _ _, Below.refl _ _⟩
  case round =>
    obtain ⟨i, hig, rfl, hO, hB⟩ := hrel
    have HB := Lib.hid hB
    have HO := Lib.hid hO
    have hzB := hB.size
    by_cases hi : i < n
    · have hiJ : i < J.length := by rw [HN.out]; exact hi
      have hS := HSL.out.mono hB (Nat.le_refl _)
      obtain ⟨b, o, rfl, _⟩ := hS.addr (by omega)
      obtain ⟨_, hc⟩ := hS.at hiJ
      obtain ⟨j, hj⟩ : ∃ j, J[i] = j := ⟨_, rfl⟩
      rw [hj] at hc
      have c0 : wr.cell? ⟨b, o + i * 7, none⟩ = some (.int .i64 j.inst) := hc 0 (by omega)
      have c1' : wr.cell? ⟨b, o + i * 7 + 1, none⟩ = some (.int .i64 j.tok) := hc 1 (by omega)
      have c2 : wr.cell? ⟨b, o + i * 7 + 2, none⟩ = some (.string j.here) := hc 2 (by omega)
      have c3 : wr.cell? ⟨b, o + i * 7 + 3, none⟩ = some (.int .i64 j.tries) := hc 3 (by omega)
      have c4 : wr.cell? ⟨b, o + i * 7 + 4, none⟩ = some (.string j.worker) := hc 4 (by omega)
      have c5 : wr.cell? ⟨b, o + i * 7 + 5, none⟩ = some (.int .i64 j.til) := hc 5 (by omega)
      have c6 : wr.cell? ⟨b, o + i * 7 + 6, none⟩ = some (.int .u8 j.inc) := hc 6 (by omega)
      have di : decide ((i : Int) < (n : Int)) = true := decide_eq_true (by omega)
      have i1 : (0 : Int) ≤ (i : Int) := by omega
      have i2 : (i : Int) < (n : Int) := by omega
      have hlen : ((J.take i).filter (freeJ c)).length ≤ 1048576 := by
        have h1 := List.length_filter_le (freeJ c) (J.take i)
        rw [List.length_take] at h1
        omega
      have HT : Hid (J.take (i + 1) = J.take i ++ [j]) := Lib.hid (by rw [List.take_succ_eq_append_getElem hiJ, hj])
      clear hS hc hj hO hB
      cases hf : freeJ c j with
      | false =>
        have HR : Hid (RJ wr w1.heap.size u5 ((J.take (i + 1)).filter (freeJ c))) := Lib.hid (by rw [HT.out, List.filter_append]; simpa [hf] using HO.out)
        unfold freeJ at hf
        cases h1 : (j.inc == 0) with
        | false =>
          clear hf
          go_wp2_with fail
          go_roundg (n - (i + 1))
          case measure => omega
          case rel => exact ⟨i + 1, by omega, by go_num, HR.out, HB.out⟩
        | true =>
          rw [h1, Bool.true_and] at hf
          go_wp2_with fail
          go_roundg (n - (i + 1))
          case measure => omega
          case rel => exact ⟨i + 1, by omega, by go_num, HR.out, HB.out⟩
      | true =>
        have HR : Hid ((J.take (i + 1)).filter (freeJ c) = (J.take i).filter (freeJ c) ++ [j]) := Lib.hid (by rw [HT.out, List.filter_append]; simp [hf])
        unfold freeJ at hf
        rw [Bool.and_eq_true] at hf
        obtain ⟨h1, h2⟩ := hf
        obtain ⟨K, hK⟩ : ∃ K, (J.take i).filter (freeJ c) = K := ⟨_, rfl⟩
        rw [hK] at HR HO hlen
        clear hK
        go_wp2_with (at_builtin; refine wpList_append_own_at _ rfl (.tmp 31) (.tmp 36) 51 rfl w1.heap.size 81 i0 _ 7 72 Try.underlying51 hti hz0 hz1 hz2 rfl (by decide) _ K.length (cellsF cellJ K) (by rfl) (OwnF.kept HO.out ((Below.refl _ _).alloc (Nat.le_refl _) _)) _ 1 1 (cellJ j) rfl rfl (cells_new wr _ _) (cellJ_one _) (by unfold maxLen; omega) (by omega) (by simp; omega) ?_; intro v6 w6 hown6 hg6 _ _)
        have HR6 := Lib.hid (rj_push hown6)
        have HB6 := Lib.hid ((HB.out.trans (((Below.refl wr.heap.size wr).alloc (Nat.le_refl _) (.cells #[.int .i64 j.inst, .int .i64 j.tok, .string j.here, .int .i64 j.tries, .string j.worker, .int .i64 j.til, .int .u8 j.inc] 81)).mono hzB)).grown hg6 (by simp; omega) (rj_ge HO.out))
        clear hown6 hg6
        go_wp2_with fail
        go_roundg (n - (i + 1))
        case measure => omega
        case rel => exact ⟨i + 1, by omega, by go_num, by rw [HR.out]; exact HR6.out, HB6.out⟩
    · have e : i = n := by omega
      subst e
      rw [List.take_of_length_le (by rw [HN.out]; omega), HF.out] at hO
      have HO2 := Lib.hid hO
      have di : decide ((i : Int) < (i : Int)) = false := decide_eq_false (by omega)
      clear hO hB
      go_wp2_with fail
      go_ret
      exact ⟨_, rfl, OwnF.lower HO2.out hz1w, HB1.out.trans (HB.out.mono hz1w)⟩

end Go.Proofs.Ytggnheekkbideaa
