/- Texts fused by fuse.py: KWordTable, KWordName, KEvalLawP, KExprParseP, KEvalVal. -/
import Derived.Test.YtjcaaahbfkjipaaGreatDoorKZ00
import Derived.Deep.WholeRow
import Derived.Lib.AtoiAllCases
/- Of WordTable: what FRuleNames uses (shake.py). -/
set_option maxRecDepth 100000
/- word.table: which bytes may stand in a name; word.Name and the document's Name. -/
namespace Go.Proofs.YtjcaaahbfkjipaaGreatDoor
open Go.RowKit
/-- How a byte may stand in a name: 2 first, 1 behind. -/
def clsW (j : Nat) : Int := if (97 ≤ j ∧ j < 123) ∨ (65 ≤ j ∧ j < 91) then 2 else if (48 ≤ j ∧ j < 58) ∨ j = 45 ∨ j = 95 ∨ j = 46 then 1 else 0
def letW (i j : Nat) : Int := if (97 ≤ j ∧ j < 97 + i) ∨ (65 ≤ j ∧ j < 65 + i) then 2 else 0
def digW (i j : Nat) : Int := if (97 ≤ j ∧ j < 123) ∨ (65 ≤ j ∧ j < 91) then 2 else if 48 ≤ j ∧ j < 48 + i then 1 else 0
/-- A block of 256 numbers. -/
structure TabW (c : Array Value) (f : Nat → Int) : Prop where
  size : c.size = 256
  at' : ∀ j, j < 256 → c[j]? = some (.int .u8 (f j))
theorem TabW.set {c : Array Value} {f g : Nat → Int} (h : TabW c f) {k : Nat} {v : Int} (hk : k < 256) (hg : ∀ j, j < 256 → g j = if j = k then v else f j) : TabW (c.setIfInBounds k (.int .u8 v)) g := by
  refine ⟨by simpa using h.size, fun j hj => ?_⟩
  rw [hg j hj, Array.getElem?_setIfInBounds]
  by_cases e : k = j
  · subst e
    rw [if_pos rfl, if_pos (by rw [h.size]; exact hk), if_pos rfl]
  · rw [if_neg e, if_neg (Ne.symm e)]
    exact h.at' j hj
theorem TabW.one {c : Array Value} {f : Nat → Int} (h : TabW c f) : c.all (·.oneCell') = true := by
  rw [Array.all_eq_true]
  intro i hi
  have := h.at' i (by rw [← h.size]; exact hi)
  rw [Array.getElem?_eq_getElem hi] at this
  injection this with this
  rw [this]; rfl
theorem tab_zero : ∃ c0 : Array Value, (∀ w, (zeroValue 98).run Tryz.prog w = .ok (.agg c0) w) ∧ TabW c0 (letW 0) ∧ (Tryz.prog.info? 98).map (·.size) = some 256 := by
  obtain ⟨h1, h2⟩ := zero_of_info (P := Tryz.prog) (t := 98) (v := .agg (Array.replicate 256 (.int .u8 0))) (n := 256) (by kernel_rfl)
  refine ⟨_, h1, ⟨by simp, fun j hj => ?_⟩, h2⟩
  have e : letW 0 j = 0 := by unfold letW; rw [if_neg (by omega)]
  rw [e]
  rw [Array.getElem?_replicate, if_pos hj]
theorem wpList_load_run {P : Program} {ops : Array Oper} {rest : List Oper} {o : Oper} {a : Act} {w : World} {Q : Exit → Act → World → Prop} (hgd : o.guard = none) (ty : TypeId) (x : Operand) (ho : o.op = .load ty x) (p v : Value) (hx : a.eval x = p) (hld : (Instr.loadAt ty p).run P w = .ok v w) (h : wpList P ops Q rest (a.put o.dst v) w) : wpList P ops Q (o :: rest) a w := by
  refine wpList_plain hgd fun K hK => ?_
  unfold Oper.wp execOp
  simp only [ho, hx, hld, Sem.run_bind, Sem.run_pure, Result.andThen_ok]
  exact hK _ _ h
theorem wpList_store_run {P : Program} {ops : Array Oper} {rest : List Oper} {o : Oper} {a : Act} {w w' : World} {Q : Exit → Act → World → Prop} (hgd : o.guard = none) (ty : TypeId) (x y : Operand) (ho : o.op = .store ty x y) (p v : Value) (hx : a.eval x = p) (hy : a.eval y = v) (hst : (Instr.storeAt ty p v).run P w = .ok () w') (h : wpList P ops Q rest (a.put o.dst undef) w') : wpList P ops Q (o :: rest) a w := by
  refine wpList_plain hgd fun K hK => ?_
  unfold Oper.wp execOp
  simp only [ho, hx, hy, hst, Sem.run_bind, Sem.run_pure, Result.andThen_ok]
  exact hK _ _ h
theorem results_cell_one {fn : Func} {p : Tmp} {ty : TypeId} (h : fn.results = #[.cell p ty]) (tmps : Array Value) (P : Program) (w : World) :
    (results fn tmps).run P w = ((asAddr (tmps.getD p undef)).run P w).andThen fun a w₁ => (loadVar ty a).run P w₁ := by
  simp only [results, h]
  simp [Sem.run_bind, Result.andThen]
set_option maxHeartbeats 2000000 in
theorem table_any (w : World) : Calls Tryz.prog 101 #[] w fun e w' => ∃ c, e = .returned (.agg c) ∧ TabW c clsW ∧ Below w.heap.size w w' := by
  obtain ⟨c0, hz, hT, hi⟩ := tab_zero
  have HT := Lib.hid hT
  have HI := Lib.hid hi
  clear hT hi
  go_enter Tryz.func101, Tryz.ntmps101
  go_wp2_with fail
  go_loopg [3] 26 (fun gh s3 wx => ∃ (i : Nat) (c : Array Value), i + gh = 26 ∧ s3 = .int .i64 (i : Int) ∧ wx = w.alloc (.cells c 98) ∧ Hid (TabW c (letW i)))
  case atStart => exact ⟨0, c0, by omega, rfl, rfl, Lib.hid HT.out⟩
  case round =>
    obtain ⟨i, c, hig, rfl, rfl, hc⟩ := hrel
    by_cases hi : i < 26
    · have hc1 : TabW (c.setIfInBounds (97 + i) (.int .u8 2)) (fun j => if j = 97 + i then 2 else letW i j) := hc.out.set (by omega) (fun j _ => rfl)
      have hc2 : Hid (TabW ((c.setIfInBounds (97 + i) (.int .u8 2)).setIfInBounds (65 + i) (.int .u8 2)) (letW (i + 1))) := Lib.hid (hc1.set (by omega) (fun j _ => by
        unfold letW
        by_cases e1 : j = 65 + i
        · rw [if_pos e1, if_pos (by omega)]
        · rw [if_neg e1]
          by_cases e2 : j = 97 + i
          · rw [if_pos e2, if_pos (by omega)]
          · rw [if_neg e2]
            by_cases e3 : (97 ≤ j ∧ j < 97 + i) ∨ (65 ≤ j ∧ j < 65 + i)
            · rw [if_pos e3, if_pos (by omega)]
            · rw [if_neg e3, if_neg (by omega)]))
      obtain ⟨x1, a1⟩ : ∃ x, c[97 + i]? = some x := ⟨_, hc.out.at' _ (by omega)⟩
      obtain ⟨x2, a2⟩ : ∃ x, (c.setIfInBounds (97 + i) (.int .u8 2))[65 + i]? = some x := ⟨_, hc1.at' _ (by omega)⟩
      clear hc1
      go_wp2_with fail
      go_roundg (26 - (i + 1))
      case measure => omega
      case rel => exact ⟨i + 1, _, by omega, by go_num, rfl, hc2⟩
    · have e : i = 26 := by omega
      subst e
      have hd : Hid (TabW c (digW 0)) := Lib.hid ⟨hc.out.size, fun j hj => by
        rw [hc.out.at' j hj]
        unfold letW digW
        by_cases e3 : (97 ≤ j ∧ j < 123) ∨ (65 ≤ j ∧ j < 91)
        · rw [if_pos e3, if_pos e3]
        · rw [if_neg e3, if_neg e3, if_neg (by omega)]⟩
      clear hc
      go_wp2_with fail
      go_loopg [13] 10 (fun gh s3 wx => ∃ (i : Nat) (c : Array Value), i + gh = 10 ∧ s3 = .int .i64 (i : Int) ∧ wx = w.alloc (.cells c 98) ∧ Hid (TabW c (digW i)))
      case atStart => exact ⟨0, c, by omega, rfl, rfl, hd⟩
      case round =>
        obtain ⟨i, c, hig, rfl, rfl, hc⟩ := hrel
        by_cases hi : i < 10
        · have hc2 : Hid (TabW (c.setIfInBounds (48 + i) (.int .u8 1)) (digW (i + 1))) := Lib.hid (hc.out.set (by omega) (fun j _ => by
            unfold digW
            by_cases e3 : (97 ≤ j ∧ j < 123) ∨ (65 ≤ j ∧ j < 91)
            · rw [if_pos e3, if_neg (by omega), if_pos e3]
            · rw [if_neg e3, if_neg e3]
              by_cases e1 : j = 48 + i
              · rw [if_pos e1, if_pos (by omega)]
              · rw [if_neg e1]
                by_cases e2 : 48 ≤ j ∧ j < 48 + i
                · rw [if_pos e2, if_pos (by omega)]
                · rw [if_neg e2, if_neg (by omega)]))
          obtain ⟨x1, a1⟩ : ∃ x, c[48 + i]? = some x := ⟨_, hc.out.at' _ (by omega)⟩
          go_wp2_with fail
          go_roundg (10 - (i + 1))
          case measure => omega
          case rel => exact ⟨i + 1, _, by omega, by go_num, rfl, hc2⟩
        · have e : i = 10 := by omega
          subst e
          have h1 := hc.out.set (k := 45) (v := 1) (g := fun j => if j = 45 then 1 else digW 10 j) (by omega) (fun j _ => rfl)
          have h2 := h1.set (k := 95) (v := 1) (g := fun j => if j = 95 then 1 else if j = 45 then 1 else digW 10 j) (by omega) (fun j _ => rfl)
          have h3 := h2.set (k := 46) (v := 1) (g := clsW) (by omega) (fun j _ => by
            unfold clsW digW
            by_cases e1 : j = 46
            · subst e1; rfl
            · rw [if_neg e1]
              by_cases e2 : j = 95
              · subst e2; rfl
              · rw [if_neg e2]
                by_cases e3 : j = 45
                · subst e3; rfl
                · rw [if_neg e3]
                  by_cases e4 : (97 ≤ j ∧ j < 123) ∨ (65 ≤ j ∧ j < 91)
                  · rw [if_pos e4, if_pos e4]
                  · rw [if_neg e4, if_neg e4]
                    by_cases e5 : 48 ≤ j ∧ j < 58
                    · rw [if_pos (by omega), if_pos (by omega)]
                    · rw [if_neg (by omega), if_neg (by omega)])
          obtain ⟨x1, a1⟩ : ∃ x, c[45]? = some x := ⟨_, hc.out.at' _ (by omega)⟩
          obtain ⟨x2, a2⟩ : ∃ x, (c.setIfInBounds 45 (.int .u8 1))[95]? = some x := ⟨_, h1.at' _ (by omega)⟩
          obtain ⟨x3, a3⟩ : ∃ x, ((c.setIfInBounds 45 (.int .u8 1)).setIfInBounds 95 (.int .u8 1))[46]? = some x := ⟨_, h2.at' _ (by omega)⟩
          have h3s := h3.size
          obtain ⟨c3, hc3⟩ : ∃ c3, ((c.setIfInBounds 45 (.int .u8 1)).setIfInBounds 95 (.int .u8 1)).setIfInBounds 46 (.int .u8 1) = c3 := ⟨_, rfl⟩
          rw [hc3] at h3 h3s
          have hld := run_loadAt_new (P := Tryz.prog) w 98 c3 256 5 Tryz.underlying98 (by rw [h3s]; exact HI.out)
          have hst := run_storeAt_new (P := Tryz.prog) w 98 c3 c3 (by rw [h3s]; exact HI.out) rfl h3.one
          have H3 := Lib.hid h3
          have HLD := Lib.hid hld
          have HST := Lib.hid hst
          clear h1 h2 h3 h3s hld hst
          go_wp2_with (first
            | (refine wpList_load_run rfl 98 (.tmp 0) (by rfl) _ _ (by rfl) HLD.out ?_)
            | (refine wpList_store_run rfl 98 (.tmp 0) (.tmp 23) (by rfl) _ _ (by rfl) (by rfl) HST.out ?_))
          have hlv := run_loadVar_new (P := Tryz.prog) w 98 c3 256 5 Tryz.underlying98 (by rw [H3.out.size]; exact HI.out)
          refine bodyPost_ret (v := .agg c3) (by rw [results_cell_one Tryz.results101]; simp [Act.put, asAddr, Result.andThen, hlv]) rfl ⟨c3, rfl, H3.out, (Below.refl _ _).alloc (Nat.le_refl _) _⟩
end Go.Proofs.YtjcaaahbfkjipaaGreatDoor

/- Of WordName: what FRuleNames uses (shake.py). -/
set_option maxRecDepth 100000
/- word.Name and the document's Name. -/
namespace Go.Proofs.YtjcaaahbfkjipaaGreatDoor
open Go.RowKit
def nameL (l : List UInt8) : Bool := decide (1 ≤ l.length) && decide (l.length ≤ 32) && l.all (fun c => clsW c.toNat != 0) && (clsW ((l.getD 0 0).toNat) == 2)
def nameB (s : ByteArray) : Bool := nameL s.data.toList
set_option maxHeartbeats 2000000 in
theorem name_any (w : World) (s : ByteArray) : Calls Tryz.prog 57 #[.string s] w fun e w' => e = .returned (.bool (nameB s)) ∧ Below w.heap.size w w' := by
  have hsz : s.data.toList.length = s.size := rfl
  by_cases h0 : s.size = 0
  · have hf : Hid (nameB s = false) := Lib.hid (by unfold nameB nameL; rw [hsz, h0, decide_eq_false (p := 1 ≤ 0) (by omega)]; rfl)
    clear hsz
    go_enter Tryz.func57, Tryz.ntmps57
    go_wp2_with fail
    go_ret
    exact ⟨ret_bool hf.out.symm, Below.refl _ _⟩
  · by_cases h1 : 32 < s.size
    · have hf : Hid (nameB s = false) := Lib.hid (by unfold nameB nameL; rw [hsz, decide_eq_false (p := s.size ≤ 32) (by omega)]; simp)
      clear hsz
      go_enter Tryz.func57, Tryz.ntmps57
      go_wp2_with fail
      go_ret
      exact ⟨ret_bool hf.out.symm, Below.refl _ _⟩
    · obtain ⟨c0, hz, hT0, hi⟩ := tab_zero
      have HI := Lib.hid hi
      have HT0 := Lib.hid hT0
      have hd1 : ((s.size : Int) == 0) = false := beq_eq_false_iff_ne.2 (by omega)
      have hd2 : decide ((32 : Int) < (s.size : Int)) = false := decide_eq_false (by omega)
      have hle : s.size ≤ 32 := by omega
      have hge : 0 < s.size := by omega
      have hsz := Lib.hid hsz
      clear h0 hT0 hi h1
      go_enter Tryz.func57, Tryz.ntmps57
      go_wp2_with (first
        | (go_at_call 101; refine (table_any _).mono ?_; rintro e w1 ⟨c, rfl, hT, hb⟩; have HT := Lib.hid hT; clear hT; have HB := Lib.hid hb; clear hb; have HST := Lib.hid (run_storeAt_new (P := Tryz.prog) w1 98 c0 c (by rw [HT.out.size]; exact HI.out) (by rw [HT.out.size, HT0.out.size]) HT.out.one))
        | (refine wpList_store_run rfl 98 (.tmp 3) (.tmp 13) (by rfl) _ _ (by rfl) (by rfl) HST.out ?_))
      go_loop [16] (fun i => ∃ k : Nat, k ≤ s.size ∧ i = .int .i64 k ∧ Hid (∀ j (h : j < s.size), j < k → clsW s[j].toNat ≠ 0)) (fun i => s.size - (intOf i).toNat)
      case atStart => exact ⟨0, Nat.zero_le _, rfl, Lib.hid (fun j h hj => by omega)⟩
      case round =>
        obtain ⟨k, hk, rfl, hall⟩ := hrel
        by_cases hlt : k < s.size
        · have hx : s[k].toNat < 256 := s[k].toNat_lt
          have ha : c[s[k].toNat]? = some (.int .u8 (clsW s[k].toNat)) := HT.out.at' _ hx
          by_cases hc : clsW s[k].toNat = 0
          · have hf : Hid (nameB s = false) := Lib.hid (by
              unfold nameB nameL
              have : s.data.toList.all (fun c => clsW c.toNat != 0) = false := by
                rw [List.all_eq_false]
                exact ⟨s[k], List.mem_iff_getElem.2 ⟨k, hlt, rfl⟩, by simp [hc]⟩
              rw [this]; simp)
            have hc' : (clsW s[k].toNat == 0) = true := by simpa using hc
            clear hc
            go_wp2_with fail
            go_ret
            exact ⟨ret_bool hf.out.symm, HB.out.alloc HB.out.size _⟩
          · have hc' : (clsW s[k].toNat == 0) = false := by simpa using hc
            have hn : Hid (∀ j (h : j < s.size), j < k + 1 → clsW s[j].toNat ≠ 0) := Lib.hid (fun j h hj => by
              by_cases e : j = k
              · subst e; exact hc
              · exact hall.out j h (by omega))
            clear hc
            go_wp2_with fail
            go_round
            case rel => exact ⟨k + 1, by omega, by go_num, hn⟩
            case measure => simp [intOf]; omega
        · have hx : s[0].toNat < 256 := s[0].toNat_lt
          have ha : c[s[0].toNat]? = some (.int .u8 (clsW s[0].toNat)) := HT.out.at' _ hx
          have hf : Hid ((clsW s[0].toNat == 2) = nameB s) := Lib.hid (by
            unfold nameB nameL
            have h1 : s.data.toList.all (fun c => clsW c.toNat != 0) = true := by
              rw [List.all_eq_true]
              intro x hx
              obtain ⟨j, hj, rfl⟩ := List.mem_iff_getElem.1 hx
              have : clsW s[j].toNat ≠ 0 := hall.out j hj (by have : j < s.size := hj; omega)
              exact bne_iff_ne.2 this
            have h2 : s.data.toList.getD 0 0 = s[0] := by
              rw [List.getD_eq_getElem?_getD, List.getElem?_eq_getElem (show 0 < s.data.toList.length from hge)]
              rfl
            rw [h1, h2, hsz.out, decide_eq_true (p := 1 ≤ s.size) (by omega), decide_eq_true (p := s.size ≤ 32) (by omega)]
            simp)
          have hge' : (0 : Int) < (s.size : Int) := by omega
          go_wp2_with fail
          go_ret
          exact ⟨ret_bool hf.out, HB.out.alloc HB.out.size _⟩
end Go.Proofs.YtjcaaahbfkjipaaGreatDoor

/- Of EvalLawP: what FRuleNames uses (shake.py). -/
set_option maxRecDepth 100000
/- The laws of conditions on plain data. -/
namespace Go.Proofs.YtjcaaahbfkjipaaGreatDoor
def keyL : List (List UInt8) := [[97, 110, 100], [111, 114], [110, 111, 116], [116, 114, 117, 101], [102, 97, 108, 115, 101]]
def keyWord (s : ByteArray) : Bool := keyL.contains s.data.toList
def headB (op : Int) (v : Vl) (nm : ByteArray) (n : Nat) : Bool :=
  ((n : Int) == kidsN op) && ((op == 1 || vlEq v Vl.zero) && ((op == 2 || nm.toList.isEmpty) && ((!(op == 1) || (checkB v && decide (0 ≤ v.num))) && (!(op == 2) || (nameB nm && !keyWord nm)))))
mutual
def checkN : Nd → Bool
  | .mk op v nm ks => headB op v nm ks.length && checkL ks
def checkL : List Nd → Bool
  | [] => true
  | k :: r => checkN k && checkL r
end
def oneN (op : Int) (a : Nd) : Nd := .mk op Vl.zero ⟨#[]⟩ [a]
def twoN (op : Int) (a b : Nd) : Nd := .mk op Vl.zero ⟨#[]⟩ [a, b]
def litN (v : Vl) : Nd := .mk 1 v ⟨#[]⟩ []
def varN (s : ByteArray) : Nd := .mk 2 Vl.zero s []
theorem head_facts {op : Int} {v : Vl} {nm : ByteArray} {n : Nat} (h : headB op v nm n = true) : (n : Int) = kidsN op ∧ (op = 1 → checkB v = true) := by
  unfold headB at h
  simp only [Bool.and_eq_true, Bool.or_eq_true, beq_iff_eq, Bool.not_eq_true', beq_eq_false_iff_ne] at h
  obtain ⟨h1, _, _, h2, _⟩ := h
  exact ⟨h1, fun e => by rcases h2 with h2 | h2; exact absurd e h2; exact h2.1⟩
end Go.Proofs.YtjcaaahbfkjipaaGreatDoor

/- Of ExprParseP: what FRuleNames uses (shake.py). -/
set_option maxRecDepth 100000
/- Reading a condition, on lists of bytes: tokens, and the table of lines (expr.Parse; plain, no program here). The first error ends it. -/
namespace Go.Proofs.YtjcaaahbfkjipaaGreatDoor
open Go.Lib
def digE (x : Nat) : Bool := decide (48 ≤ x) && decide (x ≤ 57)
def letE (x : Nat) : Bool := (decide (97 ≤ x) && decide (x ≤ 122)) || (decide (65 ≤ x) && decide (x ≤ 90))
def inNm (x : Nat) : Bool := letE x || digE x || x == 45 || x == 95 || x == 46
/-- A token: the end, a node, a word or sign; and where it begins. -/
inductive Tk where
  | fin (a : Nat)
  | nd (n : Nd) (a : Nat)
  | say (w : List UInt8) (a : Nat)
def Tk.at_ : Tk → Nat | .fin a => a | .nd _ a => a | .say _ a => a
/-- Where two nodes stand around a sign: which node they make, and its line. -/
def signL (w : List UInt8) : Option (Int × Nat) :=
  if w = [111, 114] then some (6, 1) else if w = [97, 110, 100] then some (5, 2) else
  if w = [61] then some (7, 4) else if w = [33, 61] then some (8, 4) else if w = [60] then some (9, 4) else if w = [60, 61] then some (10, 4) else if w = [62] then some (11, 4) else if w = [62, 61] then some (12, 4) else
  if w = [43] then some (13, 5) else if w = [45] then some (14, 5) else if w = [42] then some (15, 6) else if w = [47] then some (16, 6) else if w = [37] then some (17, 6) else none
def signT : Tk → Option (Int × Nat)
  | .say w _ => signL w
  | _ => none
/-- How many bytes from the beginning are so. -/
def spanE (p : Nat → Bool) : List UInt8 → Nat
  | [] => 0
  | c :: r => if p c.toNat then spanE p r + 1 else 0
/-- A text's token, behind its first quote: the text, and how many bytes were read (the last quote too). -/
def textE : Nat → List UInt8 → List UInt8 → Option (List UInt8 × Nat)
  | _, _, [] => none
  | i, acc, [39] => some (acc, i + 1)
  | i, acc, 39 :: 39 :: r => textE (i + 2) (acc ++ [39]) r
  | i, acc, 39 :: _ :: _ => some (acc, i + 1)
  | i, acc, c :: r => textE (i + 1) (acc ++ [c]) r
abbrev Rs (α : Type) := Except (Int × Nat) α
def intE (l : List UInt8) : Option Int := match atoiAll l with | .ok v => some v | _ => none
/-- The token that begins with these bytes (at place a), and where the next one is looked for. -/
def tokE (rest : List UInt8) (a : Nat) : Rs (Tk × Nat) :=
  match rest with
  | [] => .ok (.fin a, a)
  | b :: _ =>
    if digE b.toNat then
      let w := rest.take (spanE digE rest)
      if b = 48 ∧ 1 < w.length then .error (4, a) else
      match intE w with
      | none => .error (91, a)
      | some n => .ok (.nd (litN (numV n)) a, a + w.length)
    else if letE b.toNat then
      let w := rest.take (spanE inNm rest)
      if w = [116, 114, 117, 101] then .ok (.nd (litN (trV true)) a, a + w.length)
      else if w = [102, 97, 108, 115, 101] then .ok (.nd (litN (trV false)) a, a + w.length)
      else if keyL.contains w then .ok (.say w a, a + w.length)
      else if nameB ⟨w.toArray⟩ then .ok (.nd (varN ⟨w.toArray⟩) a, a + w.length) else .error (4, a)
    else if b = 39 then
      match textE 1 [] rest.tail with
      | none => .error (4, a)
      | some (t, n) => if validD t then .ok (.nd (litN (txV ⟨t.toArray⟩)) a, a + n) else .error (4, a)
    else
      let w := if 1 < rest.length ∧ (signL (rest.take 2)).isSome then rest.take 2 else rest.take 1
      if (signL w).isSome ∨ w = [40] ∨ w = [41] then .ok (.say w a, a + w.length) else .error (4, a)
/-- The next token. -/
def nextE (s : List UInt8) (i : Nat) : Rs (Tk × Nat) := tokE ((s.drop i).dropWhile (· == 32)) (s.length - ((s.drop i).dropWhile (· == 32)).length)
/-- A part of a condition that binds not weaker than a line: from a token on; or what goes on behind a part. -/
def prsE (s : List UInt8) : Nat → Option Nd → Nat → Tk × Nat → Rs (Nd × (Tk × Nat))
  | 0, _, _, _ => .error (0, 0)
  | f + 1, none, line, st =>
    match st.1 with
    | .say w a =>
      if w = [110, 111, 116] ∧ line ≤ 3 then do
        let st1 ← nextE s st.2
        let (n, st2) ← prsE s f none 3 st1
        prsE s f (some (oneN 3 n)) line st2
      else if w = [45] then do
        let st1 ← nextE s st.2
        let (n, st2) ← prsE s f none 7 st1
        prsE s f (some (oneN 4 n)) line st2
      else if w = [40] then do
        let st1 ← nextE s st.2
        let (n, st2) ← prsE s f none 1 st1
        match st2.1 with
        | .say [41] _ => do
          let st3 ← nextE s st2.2
          prsE s f (some n) line st3
        | t => .error (4, t.at_)
      else .error (4, a)
    | .fin a => .error (4, a)
    | .nd n _ => do
      let st1 ← nextE s st.2
      prsE s f (some n) line st1
  | f + 1, some n, line, st =>
    match signT st.1 with
    | none => .ok (n, st)
    | some (op, ln) =>
      if ln < line then .ok (n, st) else do
        let st1 ← nextE s st.2
        let (m, st2) ← prsE s f none (ln + 1) st1
        if ln = 4 ∧ (signT st2.1).any (fun p => p.2 == 4) then .error (4, st2.1.at_) else
        prsE s f (some (twoN op n m)) line st2
/-- A text's node, or the place and the error. -/
def parseE (s : List UInt8) : Rs Nd :=
  if 256 < s.length then .error (3, 0) else do
    let st ← nextE s 0
    let (n, st1) ← prsE s (2 * s.length + 10) none 1 st
    match st1.1 with
    | .fin _ => .ok n
    | t => .error (4, t.at_)
end Go.Proofs.YtjcaaahbfkjipaaGreatDoor

/- Of EvalVal: what FRuleNames uses (shake.py). -/
set_option maxRecDepth 100000
/- package value: Number, Truth, Words, Same. -/
namespace Go.Proofs.YtjcaaahbfkjipaaGreatDoor
open Go.RowKit
theorem number_any (w : World) (n : Int) : Calls Tryz.prog 106 #[.int .i64 n] w fun e w' => e = .returned (valV (numV n)) ∧ Below w.heap.size w w' := by
  have HB := Lib.hid (show ∀ o, Below w.heap.size w (w.alloc o) from fun o => (Below.refl _ _).alloc (Nat.le_refl _) o)
  go_enter Tryz.func106, Tryz.ntmps106
  go_wp2_with fail
  exact bodyPost_ret (v := valV (numV n)) (by simp [results, Tryz.results106, go_sem, numV]) rfl ⟨rfl, HB.out _⟩
theorem truthV_any (w : World) (b : Bool) : Calls Tryz.prog 107 #[.bool b] w fun e w' => e = .returned (valV (trV b)) ∧ Below w.heap.size w w' := by
  have HB := Lib.hid (show ∀ o, Below w.heap.size w (w.alloc o) from fun o => (Below.refl _ _).alloc (Nat.le_refl _) o)
  go_enter Tryz.func107, Tryz.ntmps107
  go_wp2_with fail
  exact bodyPost_ret (v := valV (trV b)) (by simp [results, Tryz.results107, go_sem, trV]) rfl ⟨rfl, HB.out _⟩
theorem words_any (w : World) (s : ByteArray) : Calls Tryz.prog 108 #[.string s] w fun e w' => e = .returned (valV (txV s)) ∧ Below w.heap.size w w' := by
  have HB := Lib.hid (show ∀ o, Below w.heap.size w (w.alloc o) from fun o => (Below.refl _ _).alloc (Nat.le_refl _) o)
  go_enter Tryz.func108, Tryz.ntmps108
  go_wp2_with fail
  exact bodyPost_ret (v := valV (txV s)) (by simp [results, Tryz.results108, go_sem, txV]) rfl ⟨rfl, HB.out _⟩
/-- What '==' makes of two values. -/
theorem run_eql_val (w : World) (a b : Vl) : (binOp .eql 58 (valV a) (valV b)).run Tryz.prog w = .ok (.bool (vlEq a b)) w := by
  have h : (Op.equalIn 10000 58 (valV a) (valV b)).run Tryz.prog w = .ok (vlEq a b) w := by
    rw [show (10000 : Nat) = 9999 + 1 from rfl, run_equalIn_struct w 9999 58 _ _ (by kernel_rfl) (by kernel_rfl)]
    simp [go_sem, Op.eqFields]
    unfold vlEq
    by_cases h1 : a.kind = b.kind <;> by_cases h2 : a.num = b.num <;> by_cases h3 : a.tr = b.tr <;> by_cases h4 : a.text.toList = b.text.toList <;> simp [h1, h2, h3, h4]
  rw [run_eql_struct, h]; rfl
end Go.Proofs.YtjcaaahbfkjipaaGreatDoor
