/- Texts fused by fuse.py: EvalTwo, EvalGood, EvalGood2, ExprEvP, ExprEvText, ExprEvTab, ExprEvBig, LEvalNames. -/
import Derived.Test.YtbephgifbghilaaGreatDoorXTyp
import Derived.Laws.NewBlocks
import Derived.Test.YtbephgifbghilaaGreatDoorEvalLawQ
import Derived.Test.YtbephgifbghilaaGreatDoorExprParseP
import Derived.KernelRfl
import Derived.Test.YtbephgifbghilaaGreatDoorXOpn
import Derived.Laws.MakeOwn
import Derived.Laws.BytesArg
import Derived.Test.YtbephgifbghilaaGreatDoorXNam
import Derived.Lib.ValidLaws
/- The law's helpers that make nodes of one and of two. -/
set_option maxRecDepth 100000
namespace Go.Proofs.YtbephgifbghilaaGreatDoor
open Go.RowKit

theorem one_world (w1 : World) (o : Obj) (a : Nd) (va : Value) (ha : NdR w1 w1.heap.size va a) :
    KidsR ((w1.alloc o).alloc (.cells (cellN a va).toArray 29)) ((w1.alloc o).alloc (.cells (cellN a va).toArray 29)).heap.size (.slice (some ⟨w1.heap.size + 1, 0, none⟩) 1 1) [a] := by
  have b1 := (Below.refl w1.heap.size w1).alloc (Nat.le_refl _) o
  have hz : (w1.alloc o).heap.size = w1.heap.size + 1 := by simp
  have hn := heap_alloc_new (w1.alloc o) (.cells (cellN a va).toArray 29)
  have b2 := (Below.refl (w1.alloc o).heap.size (w1.alloc o)).alloc (Nat.le_refl _) (.cells (cellN a va).toArray 29)
  rw [hz] at hn
  exact kids_one hn ((ha.to b1).to b2) 1 (Nat.le_refl _)
theorem two_world (w1 : World) (o : Obj) (a b : Nd) (va vb : Value) (ha : NdR w1 w1.heap.size va a) (hb : NdR w1 w1.heap.size vb b) :
    KidsR ((w1.alloc o).alloc (.cells (cellN a va ++ cellN b vb).toArray 29)) ((w1.alloc o).alloc (.cells (cellN a va ++ cellN b vb).toArray 29)).heap.size (.slice (some ⟨w1.heap.size + 1, 0, none⟩) 2 2) [a, b] := by
  have b1 := (Below.refl w1.heap.size w1).alloc (Nat.le_refl _) o
  have hz : (w1.alloc o).heap.size = w1.heap.size + 1 := by simp
  have hn := heap_alloc_new (w1.alloc o) (.cells (cellN a va ++ cellN b vb).toArray 29)
  have b2 := (Below.refl (w1.alloc o).heap.size (w1.alloc o)).alloc (Nat.le_refl _) (.cells (cellN a va ++ cellN b vb).toArray 29)
  rw [hz] at hn
  exact kids_two hn ((ha.to b1).to b2) ((hb.to b1).to b2) 2 (Nat.le_refl _)
theorem one_nd {w : World} {B : Nat} {op : Int} (h0 : 0 ≤ op) (h1 : op ≤ 255) {a : Nd} {vk : Value} (h : KidsR w B vk [a]) : NdR w B vk (oneN op a) := ⟨⟨h0, h1, VlW.zero, Nat.zero_le _⟩, h⟩
theorem two_nd {w : World} {B : Nat} {op : Int} (h0 : 0 ≤ op) (h1 : op ≤ 255) {a b : Nd} {vk : Value} (h : KidsR w B vk [a, b]) : NdR w B vk (twoN op a b) := ⟨⟨h0, h1, VlW.zero, Nat.zero_le _⟩, h⟩
set_option maxHeartbeats 2000000 in
theorem mkTwo_any (w : World) (op : Int) (h0 : 0 ≤ op) (h1 : op ≤ 255) (a b : Nd) (va vb : Value) (ha : NdR w w.heap.size va a) (hb : NdR w w.heap.size vb b) :
    Calls Tryz.prog 22 #[.int .u8 op, valN a va, valN b vb] w fun e w' => ∃ vk, e = .returned (valN (twoN op a b) vk) ∧ NdR w' w'.heap.size vk (twoN op a b) ∧ Below w.heap.size w w' := by
  obtain ⟨w0, p0, hp0, hw0, l0, n0, b0⟩ := box_new w (objN a.op a.v a.name va)
  obtain ⟨w1, p1, hp1, hw1, l1, n1, b1⟩ := box_new w0 (objN b.op b.v b.name vb)
  obtain ⟨c0, c1, c2, c3, c4, c5, c6⟩ := n_cells ((b1.block p0 (by omega)).trans n0)
  obtain ⟨e0, e1, e2, e3, e4, e5, e6⟩ := n_cells n1
  have HB := Lib.hid (b0.trans (b1.mono b0.size))
  have l01 : p0 < w1.heap.size := by have := b1.size; omega
  have HA := Lib.hid (ha.to HB.out)
  have HA2 := Lib.hid (hb.to HB.out)
  have H0 := Lib.hid h0
  have H1 := Lib.hid h1
  clear n0 b0 ha hb h0 h1 n1 b1
  go_enter Tryz.func22, Tryz.ntmps22
  go_wp2_with fail
  refine bodyPost_ret (v := valN (twoN op a b) (.slice (some ⟨w1.heap.size + 1, 0, none⟩) 2 2)) (by simp [results, Tryz.results22, go_sem, twoN, Nd.op, Nd.v, Nd.name, Vl.zero]) rfl ⟨_, rfl, ?_, ?_⟩
  · exact two_nd H0.out H1.out (two_world w1 _ a b va vb HA.out HA2.out)
  · exact HB.out.trans (((Below.refl _ _).alloc (Nat.le_refl _) _).alloc (by simp) _ |>.mono HB.out.size)

def objBd3 (x y z : Bd) : Obj := .cells (cellBd x ++ cellBd y ++ cellBd z).toArray 55
end Go.Proofs.YtbephgifbghilaaGreatDoor

/- What the laws of conditions keep while they walk; the helpers over it. -/
set_option maxRecDepth 100000
namespace Go.Proofs.YtbephgifbghilaaGreatDoor
open Go.RowKit

def varsL : List Bd := [⟨⟨#[120]⟩, numV 7⟩, ⟨⟨#[115]⟩, txV ⟨#[97]⟩⟩, ⟨⟨#[98]⟩, trV true⟩]
theorem bds_three {w : World} {p : Nat} {x y z : Bd} {t : TypeId} {fr : Nat × Nat} (h : w.heap[p]? = some (.cells (cellBd x ++ cellBd y ++ cellBd z).toArray t fr)) (hx : VlW x.val ∧ x.name.size ≤ 140737488355328) (hy : VlW y.val ∧ y.name.size ≤ 140737488355328) (hz : VlW z.val ∧ z.name.size ≤ 140737488355328) : BdsR w w.heap.size (.slice (some ⟨p, 0, none⟩) 3 3) [x, y, z] := by
  refine ⟨_, 3, rfl, by simp, by simp, fun i hi => ?_, ?_⟩
  · refine ⟨p, 0, rfl, lt_of_block h, fun j hj => ?_⟩
    rw [cell_of_block h]
    obtain rfl | rfl | rfl : i = 0 ∨ i = 1 ∨ i = 2 := by simp at hi; omega
    · obtain rfl | rfl | rfl | rfl | rfl : j = 0 ∨ j = 1 ∨ j = 2 ∨ j = 3 ∨ j = 4 := by omega
      all_goals rfl
    · obtain rfl | rfl | rfl | rfl | rfl : j = 0 ∨ j = 1 ∨ j = 2 ∨ j = 3 ∨ j = 4 := by omega
      all_goals rfl
    · obtain rfl | rfl | rfl | rfl | rfl : j = 0 ∨ j = 1 ∨ j = 2 ∨ j = 3 ∨ j = 4 := by omega
      all_goals rfl
  · intro b hb
    simp only [List.mem_cons, List.not_mem_nil, or_false] at hb
    rcases hb with rfl | rfl | rfl
    · exact hx
    · exact hy
    · exact hz
theorem VlW.tx {s : ByteArray} (h : s.size ≤ 140737488355328) : VlW (txV s) := ⟨by show (0 : Int) ≤ 3; omega, by show (3 : Int) ≤ 255; omega, by show _ ≤ (0 : Int); omega, by show (0 : Int) ≤ _; omega, h⟩
set_option maxHeartbeats 1000000 in
theorem vars_any (w : World) : Calls Tryz.prog 19 #[] w fun e w' => ∃ vv, e = .returned vv ∧ BdsR w' w'.heap.size vv varsL ∧ Below w.heap.size w w' := by
  have cur : Below w.heap.size w w := Below.refl _ _
  go_enter Tryz.func19, Tryz.ntmps19
  go_wp2_with (first
    | (go_at_call 25; refine (number_any _ _).mono ?_; rintro e w2 ⟨rfl, hb⟩; have cur := cur.trans (hb.mono cur.size); clear hb)
    | (go_at_call 20; refine (words_any _ _).mono ?_; rintro e w2 ⟨rfl, hb⟩; have cur := cur.trans (hb.mono cur.size); clear hb)
    | (go_at_call 54; refine (truthV_any _ _).mono ?_; rintro e w2 ⟨rfl, hb⟩; have cur := cur.trans (hb.mono cur.size); clear hb))
  go_ret
  refine ⟨_, rfl, bds_three (x := ⟨⟨#[120]⟩, numV 7⟩) (y := ⟨⟨#[115]⟩, txV ⟨#[97]⟩⟩) (z := ⟨⟨#[98]⟩, trV true⟩) (heap_alloc_new _ _) ⟨VlW.num (by omega) (by omega), ?_⟩ ⟨VlW.tx ?_, ?_⟩ ⟨VlW.tr _, ?_⟩, cur.alloc cur.size _⟩ <;> (show 1 ≤ _; omega)

end Go.Proofs.YtbephgifbghilaaGreatDoor

/- The nodes and binds at hand while a law walks; works. -/
set_option maxRecDepth 100000
namespace Go.Proofs.YtbephgifbghilaaGreatDoor
open Go.RowKit

/-- The nodes and binds at hand. -/
structure Good (w : World) (L : List (Value × Nd)) (M : List (Value × List Bd)) (W : World) : Prop where
  below : Below w.heap.size w W
  nds : ∀ p ∈ L, NdR W W.heap.size p.1 p.2
  bds : ∀ p ∈ M, BdsR W W.heap.size p.1 p.2
  tabs : Tabs8 W
section
variable {w : World} {L : List (Value × Nd)} {M : List (Value × List Bd)} {W : World}
theorem Good.start (hT : Tabs8 w) : Good w [] [] w := ⟨Below.refl _ _, by simp, by simp, hT⟩
theorem Good.to (h : Good w L M W) {W' : World} (hb : Below W.heap.size W W') : Good w L M W' := ⟨h.below.trans (hb.mono h.below.size), fun p hp => (h.nds p hp).to hb, fun p hp => (h.bds p hp).to hb, Utf8Tabs_below h.tabs hb⟩
theorem Good.al (h : Good w L M W) (o : Obj) : Good w L M (W.alloc o) := h.to ((Below.refl _ _).alloc (Nat.le_refl _) o)
theorem Good.add (h : Good w L M W) {vk : Value} {n : Nd} (hn : NdR W W.heap.size vk n) : Good w ((vk, n) :: L) M W := ⟨h.below, fun p hp => by
  rcases List.mem_cons.1 hp with rfl | hp
  · exact hn
  · exact h.nds p hp, h.bds, h.tabs⟩
theorem Good.addB (h : Good w L M W) {vv : Value} {l : List Bd} (hn : BdsR W W.heap.size vv l) : Good w L ((vv, l) :: M) W := ⟨h.below, h.nds, fun p hp => by
  rcases List.mem_cons.1 hp with rfl | hp
  · exact hn
  · exact h.bds p hp, h.tabs⟩
theorem Good.nd (h : Good w L M W) {vk : Value} {n : Nd} (hm : (vk, n) ∈ L) : NdR W W.heap.size vk n := h.nds _ hm
theorem two_good (h : Good w L M W) {op : Int} {a b : Nd} {va vb : Value} (ha : (va, a) ∈ L) (hb : (vb, b) ∈ L) (h0 : 0 ≤ op) (h1 : op ≤ 255) :
    Calls Tryz.prog 22 #[.int .u8 op, valN a va, valN b vb] W fun e w' => ∃ vk, e = .returned (valN (twoN op a b) vk) ∧ Good w ((vk, twoN op a b) :: L) M w' :=
  (mkTwo_any W op h0 h1 a b va vb (h.nd ha) (h.nd hb)).mono fun _ _ ⟨vk, he, hn, hbe⟩ => ⟨vk, he, (h.to hbe).add hn⟩
theorem name_good (h : Good w L M W) (s : ByteArray) (hs : s.size ≤ 140737488355328) :
    Calls Tryz.prog 23 #[.string s] W fun e w' => e = .returned (valN (varN s) (.slice none 0 0)) ∧ Good w ((.slice none 0 0, varN s) :: L) M w' :=
  (mkName_any W s).mono fun _ _ ⟨he, hbe⟩ => ⟨he, (h.to hbe).add (var_nd _ _ hs)⟩
theorem lit_good (h : Good w L M W) (v : Vl) (hv : VlW v) :
    Calls Tryz.prog 24 #[valV v] W fun e w' => e = .returned (valN (litN v) (.slice none 0 0)) ∧ Good w ((.slice none 0 0, litN v) :: L) M w' :=
  (mkLit_any W v).mono fun _ _ ⟨he, hbe⟩ => ⟨he, (h.to hbe).add (lit_nd _ _ hv)⟩
theorem number_good (h : Good w L M W) (n : Int) :
    Calls Tryz.prog 25 #[.int .i64 n] W fun e w' => e = .returned (valV (numV n)) ∧ Good w L M w' :=
  (number_any W n).mono fun _ _ ⟨he, hbe⟩ => ⟨he, h.to hbe⟩
theorem vars_good (h : Good w L M W) :
    Calls Tryz.prog 19 #[] W fun e w' => ∃ vv, e = .returned vv ∧ Good w L ((vv, varsL) :: M) w' :=
  (vars_any W).mono fun _ _ ⟨vv, he, hn, hbe⟩ => ⟨vv, he, (h.to hbe).addB hn⟩
theorem eval_good (h : Good w L M W) {a : Nd} {va vv : Value} {l : List Bd} (ha : (va, a) ∈ L) (hl : (vv, l) ∈ M) {v : Vl} {e : Int} (hr : evE l a = (v, e)) :
    Calls Tryz.prog 21 #[valN a va, vv] W fun x w' => x = .returned (.tuple #[valV v, .int .i64 e]) ∧ Good w L M w' :=
  (eval_any W a va vv l (h.nd ha) (h.bds _ hl) h.tabs).mono fun _ _ ⟨he, hbe⟩ => by rw [hr] at he; exact ⟨he, h.to hbe⟩
theorem bool_good (h : Good w L M W) {a : Nd} {va vv : Value} {l : List Bd} (ha : (va, a) ∈ L) (hl : (vv, l) ∈ M) {v : Bool} {e : Int} (hr : boolE (evE l a) = (v, e)) :
    Calls Tryz.prog 53 #[valN a va, vv] W fun x w' => x = .returned (.tuple #[.bool v, .int .i64 e]) ∧ Good w L M w' :=
  (bool_any W a va vv l (h.nd ha) (h.bds _ hl) h.tabs).mono fun _ _ ⟨he, hbe⟩ => by rw [hr] at he; exact ⟨he, h.to hbe⟩
theorem check_good (h : Good w L M W) {a : Nd} {va : Value} (ha : (va, a) ∈ L) {r : Bool} (hr : checkN a = r) :
    Calls Tryz.prog 14 #[valN a va] W fun e w' => e = .returned (.bool r) ∧ Good w L M w' := by
  subst hr
  exact (check_N a (h.nd ha).1 W va h.tabs (h.nd ha).2).mono fun _ _ ⟨he, hbe⟩ => ⟨he, h.to hbe⟩
end

def xN : Nd := varN ⟨#[120]⟩
def bN : Nd := varN ⟨#[98]⟩
def yN : Nd := varN ⟨#[121]⟩
theorem works_1 : evE varsL (twoN 13 (varN ⟨#[120]⟩) (litN (numV 1))) = (numV 8, 0) := by kernel_rfl
theorem works_2 : boolE (evE varsL (twoN 6 (varN ⟨#[98]⟩) (twoN 7 (twoN 16 (varN ⟨#[120]⟩) (litN (numV 0))) (litN (numV 1))))) = (true, 0) := by kernel_rfl
theorem works_3 : evE varsL (varN ⟨#[121]⟩) = (Vl.zero, 100) := by kernel_rfl
set_option maxHeartbeats 4000000 in
theorem works_any (w : World) (hT : Tabs8 w) : Calls Tryz.prog 17 #[] w fun e w' => e = .returned (.bool true) ∧ Below w.heap.size w w' := by
  have cur : Good w [] [] w := Good.start hT
  have K1 := Lib.hid works_1
  have K2 := Lib.hid works_2
  have K3 := Lib.hid works_3
  clear hT
  go_enter Tryz.func17, Tryz.ntmps17
  go_wp2_with (first
    | (go_at_call 23; refine (name_good cur _ (by decide)).mono ?_; rintro e wz ⟨rfl, cur⟩)
    | (go_at_call 25; refine (number_good cur _).mono ?_; rintro e wz ⟨rfl, cur⟩)
    | (go_at_call 24; refine (lit_good cur (numV _) (VlW.num (by omega) (by omega))).mono ?_; rintro e wz ⟨rfl, cur⟩)
    | (go_at_call 22; refine (two_good cur (by simp) (by simp) (by omega) (by omega)).mono ?_; rintro e wz ⟨vk, rfl, cur⟩)
    | (go_at_call 19; refine (vars_good cur).mono ?_; rintro e wz ⟨vv, rfl, cur⟩)
    | (go_at_call 21; refine (eval_good (l := varsL) cur (by simp) (by simp) (by first | exact K1.out | exact K3.out)).mono ?_; rintro e wz ⟨rfl, cur⟩; refine Hid.out ?_))
  refine Lib.hid ?_
  obtain ⟨w4, p4, hp4, hw4, l4, n4, b4⟩ := box_new wz (objV (numV 8))
  have B4 := Lib.hid (cur.to b4).below
  have cur : Good w4 [] [] w4 := Good.start (cur.to b4).tabs
  have HP := Lib.hid (fun V (h : Below w4.heap.size w4 V) => v_cells ((h.block p4 l4).trans n4))
  clear n4 b4
  go_wp2_with (first
    | (go_at_call 23; refine (name_good cur _ (by decide)).mono ?_; rintro e wz ⟨rfl, cur⟩)
    | (go_at_call 25; refine (number_good cur _).mono ?_; rintro e wz ⟨rfl, cur⟩)
    | (go_at_call 24; refine (lit_good cur (numV _) (VlW.num (by omega) (by omega))).mono ?_; rintro e wz ⟨rfl, cur⟩)
    | (go_at_call 22; refine (two_good cur (by simp) (by simp) (by omega) (by omega)).mono ?_; rintro e wz ⟨vk, rfl, cur⟩)
    | (go_at_call 19; refine (vars_good cur).mono ?_; rintro e wz ⟨vv, rfl, cur⟩)
    | (go_at_call 53; refine (bool_good (l := varsL) cur (by simp) (by simp) K2.out).mono ?_; rintro e wz ⟨rfl, cur⟩)
    | (go_at_call 21; refine (eval_good (l := varsL) cur (by simp) (by simp) K3.out).mono ?_; rintro e wz ⟨rfl, cur⟩; refine Hid.out ?_))
  refine Lib.hid ?_
  obtain ⟨w6, p6, hp6, hw6, l6, n6, b6⟩ := box_new wz (objV Vl.zero)
  have HE := Lib.hid (cur.to b6).below
  have cur : Below w4.heap.size w4 w6.drew := HE.out.drew
  clear b6 n6
  obtain ⟨c0, c1, c2, c3⟩ := HP.out w6.drew cur
  have ek : ∀ W, (binOp .eql 26 (valV (numV 8)) (valV (numV 8))).run Tryz.prog W = .ok (.bool true) W := fun W => by rw [run_eql_val, vlEq_refl]
  go_wp2_with fail
  go_region_held3 (fun w' => w'.cell? ⟨p4, 0, none⟩ = some (.int .u8 (numV 8).kind) ∧ w'.cell? ⟨p4, 1, none⟩ = some (.int .i64 (numV 8).num) ∧ w'.cell? ⟨p4, 2, none⟩ = some (.bool (numV 8).tr) ∧ w'.cell? ⟨p4, 3, none⟩ = some (.string (numV 8).text)) (exact HP.out _ cur)
    ((go_at_call 25; refine (number_any _ _).mono ?_; rintro e wz ⟨rfl, hb⟩; have cur := cur.trans (hb.mono cur.size)))
  go_wp2_with fail
  go_ret
  exact ⟨rfl, B4.out.trans (cur.mono B4.out.size)⟩
end Go.Proofs.YtbephgifbghilaaGreatDoor

/- The examples of EvalNames: what a condition comes to (plain; printed by gen_evalnames.py). -/
set_option maxRecDepth 100000
namespace Go.Proofs.YtbephgifbghilaaGreatDoor
open Go.Lib

/-- What eval.Text tells. -/
def textT (s : List UInt8) (l : List Bd) : Bool × Int := match parseE s with
  | .error (e, _) => (false, e)
  | .ok n => boolE (evE l n)
theorem evn_0 : textT [115, 32, 43, 32, 39, 98, 39, 32, 61, 32, 39, 97, 98, 39] varsL = (true, 0) := by kernel_rfl
theorem evn_1 : textT [120, 32, 61, 32, 55, 32, 97, 110, 100, 32, 98] varsL = (true, 0) := by kernel_rfl
theorem evn_2 : textT [120, 32, 47, 32, 48, 32, 61, 32, 49] varsL = (false, 91) := by kernel_rfl
theorem evn_3 : textT [98, 32, 111, 114, 32, 120, 32, 47, 32, 48, 32, 61, 32, 49] varsL = (true, 0) := by kernel_rfl
theorem evn_4 : textT [120, 32, 47, 32, 48, 32, 61, 32, 49, 32, 111, 114, 32, 98] varsL = (false, 91) := by kernel_rfl
theorem evn_5 : textT [121] varsL = (false, 100) := by kernel_rfl
theorem evn_6 : textT [120, 32, 61, 32, 115] varsL = (false, 90) := by kernel_rfl
theorem evn_7 : textT [120, 32, 97, 110, 100, 32, 98] varsL = (false, 90) := by kernel_rfl
theorem evn_8 : textT [120] varsL = (false, 90) := by kernel_rfl
theorem evn_9 : textT [98, 32, 97, 110, 100, 32, 120] varsL = (false, 90) := by kernel_rfl
theorem evn_10 : textT [110, 111, 116, 32, 98, 32, 97, 110, 100, 32, 120] varsL = (false, 0) := by kernel_rfl
theorem evn_11 : textT [120, 32, 62, 61, 32, 55] varsL = (true, 0) := by kernel_rfl
theorem evn_12 : textT [120, 32, 62, 32, 55] varsL = (false, 0) := by kernel_rfl
theorem evn_13 : textT [120, 32, 60, 61, 32, 55] varsL = (true, 0) := by kernel_rfl
theorem evn_14 : textT [120, 32, 60, 32, 55] varsL = (false, 0) := by kernel_rfl
theorem evn_15 : textT [120, 32, 33, 61, 32, 55] varsL = (false, 0) := by kernel_rfl
theorem evn_16 : textT [45, 120, 32, 37, 32, 50, 32, 61, 32, 45, 49] varsL = (true, 0) := by kernel_rfl
theorem evn_17 : textT [115, 32, 60, 32, 39, 98, 39] varsL = (true, 0) := by kernel_rfl
theorem evn_18 : textT [98, 32, 60, 32, 98] varsL = (false, 90) := by kernel_rfl
theorem evn_19 : textT [120, 32, 62, 61] varsL = (false, 4) := by kernel_rfl
theorem evn_20 : textT [120, 32, 45, 32, 56, 32, 42, 32, 50, 32, 61, 32, 45, 57] varsL = (true, 0) := by kernel_rfl
end Go.Proofs.YtbephgifbghilaaGreatDoor

/- eval.Text (seat expr): a condition is read and reckoned. -/
set_option maxRecDepth 100000
namespace Go.Proofs.YtbephgifbghilaaGreatDoor
open Go.RowKit

set_option maxHeartbeats 4000000 in
theorem text_any (w : World) (hg : Gx w) (s : ByteArray) (hsz : s.size ≤ 140737488355328) (vv : Value) (l : List Bd) (hl : BdsR w w.heap.size vv l) :
    Calls Tryz.prog 18 #[.string s, vv] w fun e w' => e = .returned (.tuple #[.bool (textT s.data.toList l).1, .int .i64 (textT s.data.toList l).2]) ∧ Below w.heap.size w w' := by
  have HPA := Lib.hid (parse_any w hg.ga s hsz)
  have HT : Hid (textT s.data.toList l = match parseE s.data.toList with
    | .error (e, _) => (false, e)
    | .ok n => boolE (evE l n)) := Lib.hid rfl
  obtain ⟨r, hr⟩ : ∃ r, textT s.data.toList l = r := ⟨_, rfl⟩
  obtain ⟨q, hq⟩ : ∃ q, parseE s.data.toList = q := ⟨_, rfl⟩
  rw [hr]
  rw [hr, hq] at HT
  rw [hq] at HPA
  have HG := Lib.hid hg
  have HL := Lib.hid hl
  clear hr hq hg hl hsz
  cases q with
  | error p =>
    obtain ⟨x, pp⟩ := p
    have hT := HT.out
    simp only at hT
    subst hT
    go_enter Tryz.func18, Tryz.ntmps18
    go_wp2_with (go_at_call 9; (with_reducible refine HPA.out.mono ?_); rintro e w2 ⟨n, a, c, d, pos, err, rfl, hb2, rfl, hvk, rfl, rfl, hE⟩; have d0 := bne_iff_ne.2 hE; obtain ⟨w3, p3, hp3, hw3, l3, n3, b3⟩ := box_new w2 (.cells #[.int .u8 nilN.op, .int .u8 nilN.v.kind, .int .i64 nilN.v.num, .bool nilN.v.tr, .string nilN.v.text, .string nilN.name, .slice a c d] 29); have HB3 := Lib.hid (hb2.trans (b3.mono hb2.size)); clear hb2 hvk hE n3 b3)
    go_ret2
    exact ⟨rfl, HB3.out⟩
  | ok m =>
    have hT := HT.out
    simp only at hT
    subst hT
    obtain ⟨t, ht⟩ : ∃ t, boolE (evE l m) = t := ⟨_, rfl⟩
    have HT2 := Lib.hid ht
    rw [ht]
    clear ht HT
    go_enter Tryz.func18, Tryz.ntmps18
    go_wp2_with (first
      | (go_at_call 9; refine HPA.out.mono ?_; rintro e w2 ⟨n, a, c, d, pos, err, rfl, hb2, rfl, rfl, rfl, hH, hK⟩; obtain ⟨w3, p3, hp3, hw3, l3, n3, b3⟩ := box_new w2 (.cells #[.int .u8 n.op, .int .u8 n.v.kind, .int .i64 n.v.num, .bool n.v.tr, .string n.v.text, .string n.name, .slice a c d] 29); obtain ⟨g0, g1, g2, g3, g4, g5, g6, gf⟩ := n7_cells n3; have HB3 := Lib.hid (hb2.trans (b3.mono hb2.size)); have HK3 := Lib.hid (And.intro hH (hK.mono b3 b3.size)); clear hb2 hH hK n3 b3)
      | (go_at_call 53; refine (bool_any w3 n (.slice a c d) vv l HK3.out (HL.out.to HB3.out) (HG.out.up HB3.out).t8).mono ?_; rintro e w4 ⟨rfl, hb4⟩; refine Hid.out ?_))
    refine Lib.hid ?_
    rw [HT2.out]
    have HB4 := Lib.hid (HB3.out.trans (hb4.mono HB3.out.size))
    clear hb4
    go_wp2_with fail
    go_ret2
    exact ⟨rfl, HB4.out⟩
end Go.Proofs.YtbephgifbghilaaGreatDoor

/- The examples of the law EvalNames as the walk meets them (seat expr; printed by gen_evalnames.py). -/
set_option maxRecDepth 100000
namespace Go.Proofs.YtbephgifbghilaaGreatDoor
open Go.RowKit

def evTab : List (ByteArray × Bool × Int) := [(⟨#[115, 32, 43, 32, 39, 98, 39, 32, 61, 32, 39, 97, 98, 39]⟩, true, 0), (⟨#[120, 32, 61, 32, 55, 32, 97, 110, 100, 32, 98]⟩, true, 0), (⟨#[120, 32, 47, 32, 48, 32, 61, 32, 49]⟩, false, 91), (⟨#[98, 32, 111, 114, 32, 120, 32, 47, 32, 48, 32, 61, 32, 49]⟩, true, 0), (⟨#[120, 32, 47, 32, 48, 32, 61, 32, 49, 32, 111, 114, 32, 98]⟩, false, 91), (⟨#[121]⟩, false, 100), (⟨#[120, 32, 61, 32, 115]⟩, false, 90), (⟨#[120, 32, 97, 110, 100, 32, 98]⟩, false, 90), (⟨#[120]⟩, false, 90), (⟨#[98, 32, 97, 110, 100, 32, 120]⟩, false, 90), (⟨#[110, 111, 116, 32, 98, 32, 97, 110, 100, 32, 120]⟩, false, 0), (⟨#[120, 32, 62, 61, 32, 55]⟩, true, 0), (⟨#[120, 32, 62, 32, 55]⟩, false, 0), (⟨#[120, 32, 60, 61, 32, 55]⟩, true, 0), (⟨#[120, 32, 60, 32, 55]⟩, false, 0), (⟨#[120, 32, 33, 61, 32, 55]⟩, false, 0), (⟨#[45, 120, 32, 37, 32, 50, 32, 61, 32, 45, 49]⟩, true, 0), (⟨#[115, 32, 60, 32, 39, 98, 39]⟩, true, 0), (⟨#[98, 32, 60, 32, 98]⟩, false, 90), (⟨#[120, 32, 62, 61]⟩, false, 4), (⟨#[120, 32, 45, 32, 56, 32, 42, 32, 50, 32, 61, 32, 45, 57]⟩, true, 0)]
def evCells : Array Value := (evTab.flatMap fun p => [.string p.1, .bool p.2.1, .int .i64 p.2.2]).toArray
set_option maxHeartbeats 8000000 in
theorem ev_at {w : World} {p : Nat} {t : TypeId} {fr : Nat × Nat} (h : w.heap[p]? = some (.cells evCells t fr)) (k : Nat) (hk : k < 21) : ∃ (S : ByteArray) (B : Bool) (E : Int), S.size ≤ 1000 ∧ textT S.data.toList varsL = (B, E) ∧ w.cell? ⟨p, k * 3, none⟩ = some (.string S) ∧ w.cell? ⟨p, k * 3 + 1, none⟩ = some (.bool B) ∧ w.cell? ⟨p, k * 3 + 2, none⟩ = some (.int .i64 E) := by
  obtain rfl | rfl | rfl | rfl | rfl | rfl | rfl | rfl | rfl | rfl | rfl | rfl | rfl | rfl | rfl | rfl | rfl | rfl | rfl | rfl | rfl : k = 0 ∨ k = 1 ∨ k = 2 ∨ k = 3 ∨ k = 4 ∨ k = 5 ∨ k = 6 ∨ k = 7 ∨ k = 8 ∨ k = 9 ∨ k = 10 ∨ k = 11 ∨ k = 12 ∨ k = 13 ∨ k = 14 ∨ k = 15 ∨ k = 16 ∨ k = 17 ∨ k = 18 ∨ k = 19 ∨ k = 20 := by omega
  · exact ⟨_, _, _, by decide, evn_0, cell_of_block h 0, cell_of_block h 1, cell_of_block h 2⟩
  · exact ⟨_, _, _, by decide, evn_1, cell_of_block h 3, cell_of_block h 4, cell_of_block h 5⟩
  · exact ⟨_, _, _, by decide, evn_2, cell_of_block h 6, cell_of_block h 7, cell_of_block h 8⟩
  · exact ⟨_, _, _, by decide, evn_3, cell_of_block h 9, cell_of_block h 10, cell_of_block h 11⟩
  · exact ⟨_, _, _, by decide, evn_4, cell_of_block h 12, cell_of_block h 13, cell_of_block h 14⟩
  · exact ⟨_, _, _, by decide, evn_5, cell_of_block h 15, cell_of_block h 16, cell_of_block h 17⟩
  · exact ⟨_, _, _, by decide, evn_6, cell_of_block h 18, cell_of_block h 19, cell_of_block h 20⟩
  · exact ⟨_, _, _, by decide, evn_7, cell_of_block h 21, cell_of_block h 22, cell_of_block h 23⟩
  · exact ⟨_, _, _, by decide, evn_8, cell_of_block h 24, cell_of_block h 25, cell_of_block h 26⟩
  · exact ⟨_, _, _, by decide, evn_9, cell_of_block h 27, cell_of_block h 28, cell_of_block h 29⟩
  · exact ⟨_, _, _, by decide, evn_10, cell_of_block h 30, cell_of_block h 31, cell_of_block h 32⟩
  · exact ⟨_, _, _, by decide, evn_11, cell_of_block h 33, cell_of_block h 34, cell_of_block h 35⟩
  · exact ⟨_, _, _, by decide, evn_12, cell_of_block h 36, cell_of_block h 37, cell_of_block h 38⟩
  · exact ⟨_, _, _, by decide, evn_13, cell_of_block h 39, cell_of_block h 40, cell_of_block h 41⟩
  · exact ⟨_, _, _, by decide, evn_14, cell_of_block h 42, cell_of_block h 43, cell_of_block h 44⟩
  · exact ⟨_, _, _, by decide, evn_15, cell_of_block h 45, cell_of_block h 46, cell_of_block h 47⟩
  · exact ⟨_, _, _, by decide, evn_16, cell_of_block h 48, cell_of_block h 49, cell_of_block h 50⟩
  · exact ⟨_, _, _, by decide, evn_17, cell_of_block h 51, cell_of_block h 52, cell_of_block h 53⟩
  · exact ⟨_, _, _, by decide, evn_18, cell_of_block h 54, cell_of_block h 55, cell_of_block h 56⟩
  · exact ⟨_, _, _, by decide, evn_19, cell_of_block h 57, cell_of_block h 58, cell_of_block h 59⟩
  · exact ⟨_, _, _, by decide, evn_20, cell_of_block h 60, cell_of_block h 61, cell_of_block h 62⟩

end Go.Proofs.YtbephgifbghilaaGreatDoor

/- The long text of the law EvalNames, and what its conditions come to (plain; seat expr). -/
set_option maxRecDepth 100000
namespace Go.Proofs.YtbephgifbghilaaGreatDoor
open Go.RowKit

def bigZ : ByteArray := strOfNums (List.replicate 1024 97)
theorem bigZ_size : bigZ.size = 1024 := by unfold bigZ; rw [strOfNums_size, List.length_replicate]
def mostL (Z : ByteArray) : List Bd := [⟨⟨#[115]⟩, txV Z⟩, ⟨⟨#[116]⟩, txV ⟨#[]⟩⟩, ⟨⟨#[98, 97, 100]⟩, ⟨9, 0, false, ⟨#[]⟩⟩⟩]
theorem valid_97 (l : List UInt8) (h : ∀ b ∈ l, b.toNat < 128) : Lib.validD l = true := by
  rw [Lib.validD_ascii l.length l (fun b hb => h b (List.mem_of_mem_take hb)), List.drop_length]
  rfl
theorem bigZ_list : ∀ b ∈ bigZ.data.toList, b.toNat < 128 := by
  intro b hb
  unfold bigZ at hb
  rw [strOfNums_data, List.map_replicate, List.mem_replicate] at hb
  rw [hb.2]
  decide
theorem check_tx (s : ByteArray) : checkB (txV s) = (decide (s.size ≤ 1024) && Lib.validD s.data.toList) := by
  have e : checkB (txV s) = (vlEq (txV s) (txV s) && (decide (s.size ≤ 1024) && Lib.validD s.data.toList)) := rfl
  rw [e, vlEq_refl, Bool.true_and]
theorem big_1 : checkB (txV bigZ) = true := by
  rw [check_tx, decide_eq_true (by rw [bigZ_size]; omega), valid_97 _ bigZ_list]
  rfl
theorem big_2 : checkB (txV (bigZ ++ ⟨#[]⟩)) = true := by
  have hs : (bigZ ++ ⟨#[]⟩).size = 1024 := by rw [ByteArray.size_append, bigZ_size]; rfl
  rw [check_tx, decide_eq_true (by omega), valid_97 _ (fun b hb => bigZ_list b (by simpa using hb))]
  rfl
theorem big_3 : checkB (txV (bigZ ++ ⟨#[97]⟩)) = false := by
  have hs : (bigZ ++ ⟨#[97]⟩).size = 1025 := by rw [ByteArray.size_append, bigZ_size]; rfl
  rw [check_tx, decide_eq_false (by omega)]
  rfl
theorem comb_13 (a b : Vl) : combE 13 (a, 0) (b, 0) = addT a b := by
  unfold combE bothE
  simp
theorem addT_tx (a b : ByteArray) : addT (txV a) (txV b) = if checkB (txV (a ++ b)) then (txV (a ++ b), 0) else (Vl.zero, 91) := by
  unfold addT
  exact if_pos rfl
theorem eval_var (l : List Bd) (s : ByteArray) {v : Vl} (h : findB l s = some v) : evalN l (varN s) = if checkB v then (v, 0) else (Vl.zero, 1) := by
  have e : evalN l (varN s) = (if (2 : Int) = 1 then (Vl.zero, 0) else if (2 : Int) = 2 then varE l s else combE 2 (evalH l []) (evalT l [])) := rfl
  rw [e, if_neg (by decide), if_pos rfl]
  unfold varE
  rw [h]
theorem var_s : evalN (mostL bigZ) (varN ⟨#[115]⟩) = (txV bigZ, 0) := by
  have hf : findB (mostL bigZ) ⟨#[115]⟩ = some (txV bigZ) := by
    unfold mostL
    generalize bigZ = Z
    kernel_rfl
  rw [eval_var _ _ hf, big_1]
  rfl
theorem var_t : evalN (mostL bigZ) (varN ⟨#[116]⟩) = (txV ⟨#[]⟩, 0) := by
  have hf : findB (mostL bigZ) ⟨#[116]⟩ = some (txV ⟨#[]⟩) := by
    unfold mostL
    generalize bigZ = Z
    kernel_rfl
  have h : checkB (txV ⟨#[]⟩) = true := by kernel_rfl
  rw [eval_var _ _ hf, h]
  rfl
theorem big_e1 : evE (mostL bigZ) (twoN 13 (varN ⟨#[115]⟩) (varN ⟨#[116]⟩)) = (txV (bigZ ++ ⟨#[]⟩), 0) := by
  have hc : checkN (twoN 13 (varN ⟨#[115]⟩) (varN ⟨#[116]⟩)) = true := by kernel_rfl
  unfold evE
  rw [hc, if_pos rfl, eval_two (by decide), var_s, var_t, comb_13, addT_tx, big_2]
  rfl
theorem big_e2 : evE (mostL bigZ) (twoN 13 (varN ⟨#[115]⟩) (litN (txV ⟨#[97]⟩))) = (Vl.zero, 91) := by
  have hc : checkN (twoN 13 (varN ⟨#[115]⟩) (litN (txV ⟨#[97]⟩))) = true := by kernel_rfl
  have e : evalN (mostL bigZ) (litN (txV ⟨#[97]⟩)) = (txV ⟨#[97]⟩, 0) := rfl
  unfold evE
  rw [hc, if_pos rfl, eval_two (by decide), var_s, e, comb_13, addT_tx, big_3]
  rfl
theorem big_e3 : evE [] nilN = (Vl.zero, 1) := by kernel_rfl
theorem big_e4 : evE [] (litN (numV (-1))) = (Vl.zero, 1) := by kernel_rfl
theorem big_e5 (Z : ByteArray) : evE (mostL Z) (varN ⟨#[98, 97, 100]⟩) = (Vl.zero, 1) := by
  have hc : checkN (varN ⟨#[98, 97, 100]⟩) = true := by kernel_rfl
  have h : checkB ⟨9, 0, false, ⟨#[]⟩⟩ = false := by kernel_rfl
  have hf : findB (mostL Z) ⟨#[98, 97, 100]⟩ = some ⟨9, 0, false, ⟨#[]⟩⟩ := by kernel_rfl
  unfold evE
  rw [hc, if_pos rfl, eval_var _ _ hf, h]
  rfl
theorem big_e6 : evE varsL (twoN 5 (varN ⟨#[98]⟩) (varN ⟨#[120]⟩)) = (Vl.zero, 90) := by kernel_rfl
theorem big_e7 : (evE varsL (twoN 6 (varN ⟨#[98]⟩) (varN ⟨#[120]⟩))).2 = 0 := by kernel_rfl
theorem big_e8 : notesN varsL (twoN 6 (varN ⟨#[98]⟩) (varN ⟨#[120]⟩)) = [⟨#[98]⟩] := by kernel_rfl
theorem big_rd {rd : List (List UInt8)} (h : Rises rd) (hm : ∀ x, x ∈ rd ↔ ∃ s ∈ notesN varsL (twoN 6 (varN ⟨#[98]⟩) (varN ⟨#[120]⟩)), nmB s = x) : rd = [[98]] := by
  rw [big_e8] at hm
  have h1 : ∀ x, x ∈ rd ↔ x = [98] := fun x => by
    rw [hm x]
    constructor
    · rintro ⟨s, hs, rfl⟩
      rw [List.mem_singleton] at hs
      subst hs
      rfl
    · rintro rfl
      exact ⟨_, List.mem_singleton_self _, rfl⟩
  cases rd with
  | nil => exact absurd ((h1 [98]).2 rfl) (by simp)
  | cons a r =>
    have ha := (h1 a).1 List.mem_cons_self
    cases r with
    | nil => rw [ha]
    | cons b r =>
      have hb := (h1 b).1 (List.mem_cons_of_mem _ List.mem_cons_self)
      have := (List.pairwise_cons.1 h).1 b List.mem_cons_self
      rw [ha, hb] at this
      exact absurd this (List.lt_irrefl _)
theorem reads_b {w : World} {L : List (Value × Nd)} {M : List (Value × List Bd)} {W : World} (h : Good w L M W) {vk vv : Value} (ha : (vk, twoN 6 (varN ⟨#[98]⟩) (varN ⟨#[120]⟩)) ∈ L) (hl : (vv, varsL) ∈ M) :
    Calls Tryz.prog 26 #[valN (twoN 6 (varN ⟨#[98]⟩) (varN ⟨#[120]⟩)) vk, vv] W fun e w' => ∃ b o c, e = .returned (.tuple #[.slice (some ⟨b, o, none⟩) 1 c, .int .i64 0]) ∧ w'.cell? ⟨b, o, none⟩ = some (.string ⟨#[98]⟩) ∧ Good w L M w' := by
  refine (reads_any W (twoN 6 (varN ⟨#[98]⟩) (varN ⟨#[120]⟩)) vk vv varsL (h.nd ha) (h.bds _ hl) h.tabs).mono ?_
  rintro e w' ⟨hx | ⟨_, v, rd, rfl, hs, hr, hm⟩, hb⟩
  · exact absurd big_e7 hx.1
  · obtain rfl := big_rd hr hm
    obtain ⟨a, c, rfl⟩ := hs.val
    obtain ⟨b, o, rfl, _, hc⟩ := hs.col 0 (by simp)
    exact ⟨b, o, c, rfl, hc, h.to hb⟩
theorem Good.rebase {w : World} {L : List (Value × Nd)} {M : List (Value × List Bd)} {W : World} (h : Good w L M W) : Good W L M W := ⟨Below.refl _ _, h.nds, h.bds, h.tabs⟩
end Go.Proofs.YtbephgifbghilaaGreatDoor

/- The law EvalNames: the walk (seat expr). -/
set_option maxRecDepth 100000
namespace Go.Proofs.YtbephgifbghilaaGreatDoor
open Go.RowKit

theorem y_back (w : World) (b n cap : Nat) (c : Int) (d : Nat) (hcd : c = (d : Int)) (hc : ∀ j, j < n → w.cell? ⟨b, j, none⟩ = some (.int .u8 c)) : (convert 32 9 (.slice (some ⟨b, 0, none⟩) n cap)).run Tryz.prog w = .ok (.string (strOfNums (List.replicate n d))) w :=
  run_convert_bytes_arg (P := Tryz.prog) w 32 5 Tryz.underlying32 Tryz.underlying5 b 0 n cap (List.replicate n d) (by simp) (fun i hi => by
    rw [Nat.zero_add, hc i hi, List.getD_eq_getElem?_getD, List.getElem?_replicate, if_pos hi, hcd]; simp) 9 Tryz.underlying9
theorem y_make (w : World) (n : Nat) (hn : n ≤ 100000) : (Instr.makeSlice 32 (.int .i64 (n : Int)) (.int .i64 (n : Int))).run Tryz.prog w = .ok (.slice (some ⟨w.heap.size, 0, none⟩) n n) (w.alloc (.cells (madeCells #[.int .u8 0] n) 5)) := by
  obtain ⟨i0, hi, hz0, hz1, hz2⟩ := info_parts bu_byte
  have hb : (i0.bytes : Int) * (n : Int) ≤ 281474976710656 := by rw [hz2]; omega
  have hr := run_make (P := Tryz.prog) w 32 5 i0 (.int .u8 0) Tryz.underlying32 hi hz0 .i64 .i64 n n (by omega) (by omega) hb (by omega)
  simp only [Int.toNat_natCast, hz1, Nat.mul_one] at hr
  exact hr
set_option maxHeartbeats 8000000 in
theorem evalNames_walk (w : World) (hg : Gx w) : Calls Tryz.prog 6 #[] w fun e w' => e = .returned (.bool true) ∧ Below w.heap.size w w' := by
  have HG := Lib.hid hg
  clear hg
  go_enter Tryz.func6, Tryz.ntmps6
  go_wp2_with (go_at_call 17; refine (works_any w HG.out.t8).mono ?_; rintro e w0 ⟨rfl, hb0⟩; refine Hid.out ?_)
  refine Lib.hid ?_
  obtain ⟨w1, p1, hp1, hw1, l1, n1, b1⟩ := box_new w0 (.cells #[.string ⟨#[115, 32, 43, 32, 39, 98, 39, 32, 61, 32, 39, 97, 98, 39]⟩, .bool true, .int .i64 0, .string ⟨#[120, 32, 61, 32, 55, 32, 97, 110, 100, 32, 98]⟩, .bool true, .int .i64 0, .string ⟨#[120, 32, 47, 32, 48, 32, 61, 32, 49]⟩, .bool false, .int .i64 91, .string ⟨#[98, 32, 111, 114, 32, 120, 32, 47, 32, 48, 32, 61, 32, 49]⟩, .bool true, .int .i64 0, .string ⟨#[120, 32, 47, 32, 48, 32, 61, 32, 49, 32, 111, 114, 32, 98]⟩, .bool false, .int .i64 91, .string ⟨#[121]⟩, .bool false, .int .i64 100, .string ⟨#[120, 32, 61, 32, 115]⟩, .bool false, .int .i64 90, .string ⟨#[120, 32, 97, 110, 100, 32, 98]⟩, .bool false, .int .i64 90, .string ⟨#[120]⟩, .bool false, .int .i64 90, .string ⟨#[98, 32, 97, 110, 100, 32, 120]⟩, .bool false, .int .i64 90, .string ⟨#[110, 111, 116, 32, 98, 32, 97, 110, 100, 32, 120]⟩, .bool false, .int .i64 0, .string ⟨#[120, 32, 62, 61, 32, 55]⟩, .bool true, .int .i64 0, .string ⟨#[120, 32, 62, 32, 55]⟩, .bool false, .int .i64 0, .string ⟨#[120, 32, 60, 61, 32, 55]⟩, .bool true, .int .i64 0, .string ⟨#[120, 32, 60, 32, 55]⟩, .bool false, .int .i64 0, .string ⟨#[120, 32, 33, 61, 32, 55]⟩, .bool false, .int .i64 0, .string ⟨#[45, 120, 32, 37, 32, 50, 32, 61, 32, 45, 49]⟩, .bool true, .int .i64 0, .string ⟨#[115, 32, 60, 32, 39, 98, 39]⟩, .bool true, .int .i64 0, .string ⟨#[98, 32, 60, 32, 98]⟩, .bool false, .int .i64 90, .string ⟨#[120, 32, 62, 61]⟩, .bool false, .int .i64 4, .string ⟨#[120, 32, 45, 32, 56, 32, 42, 32, 50, 32, 61, 32, 45, 57]⟩, .bool true, .int .i64 0] 47)
  have n1' : w1.heap[p1]? = some (.cells evCells 47 (0, 0)) := n1
  have HN1 := Lib.hid n1'
  have HB1 := Lib.hid (hb0.trans (b1.mono hb0.size))
  have hz1 := HB1.out.size
  clear n1 n1' b1 hb0
  go_wp2_with fail
  go_loopg [57] 21 (fun gh s24 wr => ∃ k : Nat, k ≤ 21 ∧ k + gh = 21 ∧ s24 = .int .i64 (k : Int) ∧ Hid (Below w1.heap.size w1 wr))
  case atStart => exact ⟨0, by omega, by omega, rfl, Lib.hid (Below.refl _ _)⟩
  case round =>
    obtain ⟨k, hk, hkg, rfl, hbel⟩ := hrel
    have hzr := hbel.out.size
    have HBr := Lib.hid (HB1.out.trans (hbel.out.mono hz1))
    by_cases hlt : k < 21
    · have u1 : decide ((k : Int) < 21) = true := decide_eq_true (by omega)
      have u1' : decide (k < 21) = true := decide_eq_true hlt
      obtain ⟨S, B, E, hSz, hpe, c0, c1, c2⟩ := ev_at ((hbel.out.block p1 l1).trans HN1.out) k hlt
      obtain ⟨w2, p2, hp2, hw2, l2, n2, b2⟩ := box_new wr (.cells #[.string S, .bool B, .int .i64 E] 47)
      have k0 : w2.cell? ⟨p2, 0, none⟩ = some (.string S) := cell_of_block n2 0
      have k1 : w2.cell? ⟨p2, 1, none⟩ = some (.bool B) := cell_of_block n2 1
      have k2 : w2.cell? ⟨p2, 2, none⟩ = some (.int .i64 E) := cell_of_block n2 2
      have HB2 := Lib.hid (HBr.out.trans (b2.mono HBr.out.size))
      have HB12 := Lib.hid (hbel.out.trans (b2.mono hbel.out.size))
      have HPT := Lib.hid (fun (W : World) (h : Below w2.heap.size w2 W) (vv : Value) (hv : BdsR W W.heap.size vv varsL) => (hpe ▸ text_any W ((HG.out.up HB2.out).up h) S (by omega) vv varsL hv : Calls Tryz.prog 18 #[.string S, vv] W fun e w' => e = .returned (.tuple #[.bool (B, E).1, .int .i64 (B, E).2]) ∧ Below W.heap.size W w'))
      have eB : (B != B) = false := by cases B <;> rfl
      have eE : (E != E) = false := by simp
      clear hpe n2 b2
      have HK := Lib.hid (fun (V : World) (h : Below w2.heap.size w2 V) => (⟨(Below.cellB h l2).trans k0, (Below.cellB h l2).trans k1, (Below.cellB h l2).trans k2⟩ : V.cell? ⟨p2, 0, none⟩ = some (.string S) ∧ V.cell? ⟨p2, 1, none⟩ = some (.bool B) ∧ V.cell? ⟨p2, 2, none⟩ = some (.int .i64 E)))
      have cur : Below w2.heap.size w2 w2.drew := (Below.refl _ _).drew
      obtain ⟨q0, q1, q2⟩ := HK.out w2.drew cur
      go_wp2_with fail
      go_region_held3 (fun w' => w'.cell? ⟨p2, 0, none⟩ = some (.string S) ∧ w'.cell? ⟨p2, 1, none⟩ = some (.bool B) ∧ w'.cell? ⟨p2, 2, none⟩ = some (.int .i64 E)) (exact HK.out _ cur) (first
        | (go_at_call 19; refine (vars_any _).mono ?_; rintro e w3 ⟨vv, rfl, hvv, hb3⟩; have cur := cur.trans (hb3.mono cur.size); clear hb3)
        | (go_at_call 18; refine (HPT.out _ cur _ hvv).mono ?_; rintro e w4 ⟨rfl, hb4⟩; have cur := cur.trans (hb4.mono cur.size); clear hb4; obtain ⟨y0, y1, y2⟩ := HK.out _ cur))
      go_wp2_with fail
      all_goals
        go_roundg (gk - 1)
        case measure => omega
        case rel => exact ⟨k + 1, by omega, by omega, by go_num, Lib.hid (HB12.out.trans (cur.mono HB12.out.size))⟩
    · have u1 : decide ((k : Int) < 21) = false := decide_eq_false (by omega)
      have u1' : decide (k < 21) = false := decide_eq_false hlt
      obtain ⟨mz, hmz⟩ : ∃ m, madeCells #[Value.int .u8 0] 1024 = m := ⟨_, rfl⟩
      have hmk : (Instr.makeSlice 32 (.int .i64 1024) (.int .i64 1024)).run Tryz.prog wr = .ok (.slice (some ⟨wr.heap.size, 0, none⟩) 1024 1024) (wr.alloc (.cells mz 5)) := by rw [← hmz]; exact y_make wr 1024 (by omega)
      have hz : Hid (∀ k, k < 1024 → mz[k]? = some (.int .u8 0)) := Lib.hid (fun k hk => by
        rw [← hmz]
        unfold madeCells
        rw [Array.getElem?_map]
        simp [hk, Nat.mod_one])
      obtain ⟨w2, p2, hp2, hw2, l2, n2, b2⟩ := box_new wr (.cells mz 5)
      have HN2 := Lib.hid n2
      have HB2 := Lib.hid b2
      clear n2 b2
      go_wp2_with fail
      go_loopg [6] 1024 (fun gh s6 wv => ∃ i : Nat, i ≤ 1024 ∧ i + gh = 1024 ∧ s6 = .int .i64 (i : Int) ∧ Hid (Below w.heap.size w wv ∧ ∃ cs, wv.heap[p2]? = some (.cells cs 5 (0, 0)) ∧ ∀ j, j < 1024 → cs[j]? = some (.int .u8 (if j < i then 97 else 0))))
      case atStart => exact ⟨0, by omega, by omega, rfl, Lib.hid ⟨HBr.out.trans (HB2.out.mono HBr.out.size), mz, HN2.out, fun j hj => by rw [hz.out j hj]; simp⟩⟩
      case round =>
        obtain ⟨i, hi, hig, rfl, hJ⟩ := hrel
        by_cases hil : i < 1024
        · have v1 : decide ((i : Int) < 1024) = true := decide_eq_true (by omega)
          have v1' : decide (i < 1024) = true := decide_eq_true hil
          obtain ⟨hJ1, cs, hJ2, hJ3⟩ := hJ.out
          have c0 : wr.cell? ⟨p2, i, none⟩ = some (.int .u8 0) := by rw [cell_of_block hJ2, hJ3 i hil, if_neg (by omega)]
          have f0 : wr.frozen? ⟨p2, i, none⟩ = false := free_of_block hJ2 i
          have k1 : (0 : Int) ≤ (i : Int) := by omega
          have k2 : (i : Int) < 1024 := by omega
          have HN := Lib.hid (show ∃ cs', (wr.setCell ⟨p2, i, none⟩ (.int .u8 97)).heap[p2]? = some (.cells cs' 5 (0, 0)) ∧ ∀ j, j < 1024 → cs'[j]? = some (.int .u8 (if j < i + 1 then 97 else 0)) from ⟨_, heap_setCell_self (.int .u8 97) hJ2, fun j hj => by
            rw [Array.getElem?_setIfInBounds]
            by_cases e : i = j
            · subst e
              have hsz : i < cs.size := by
                rcases Nat.lt_or_ge i cs.size with h | h
                · exact h
                · have := hJ3 i hil
                  rw [Array.getElem?_eq_none h] at this
                  cases this
              rw [if_pos rfl, if_pos hsz, if_pos (by omega)]
            · rw [if_neg e, hJ3 j hj]
              congr 2
              by_cases q : j < i
              · rw [if_pos q, if_pos (by omega)]
              · rw [if_neg q, if_neg (by omega)]⟩)
          have HBn := Lib.hid (hJ1.setCell (p := ⟨p2, i, none⟩) (show w.heap.size ≤ p2 by have := HBr.out.size; omega) (.int .u8 97))
          clear hJ1 hJ2 hJ3 hJ
          go_wp2_with fail
          all_goals
            go_roundg (gk - 1)
            case measure => omega
            case rel => exact ⟨i + 1, by omega, by omega, by go_num, Lib.hid ⟨HBn.out, HN.out⟩⟩
        · have v1 : decide ((i : Int) < 1024) = false := decide_eq_false (by omega)
          have v1' : decide (i < 1024) = false := decide_eq_false hil
          obtain rfl : i = 1024 := by omega
          obtain ⟨hJ1, cs, hJ2, hJ3⟩ := hJ.out
          have hcw0 : (convert 32 9 (.slice (some ⟨p2, 0, none⟩) 1024 1024)).run Tryz.prog wr = .ok (.string bigZ) wr := y_back wr p2 1024 1024 97 97 rfl (fun j hj => by rw [cell_of_block hJ2, hJ3 j hj, if_pos hj])
          have E1 := big_e1
          have E2 := big_e2
          have E5 := big_e5 bigZ
          have hZs := bigZ_size
          have hZs2 : (bigZ ++ ⟨#[]⟩).size = 1024 := by rw [ByteArray.size_append, hZs]; rfl
          obtain ⟨Z, hZ⟩ : ∃ Z, bigZ = Z := ⟨_, rfl⟩
          rw [hZ] at hcw0 E1 E2 E5 hZs hZs2
          obtain ⟨Y, hY⟩ : ∃ Y, Z ++ ⟨#[]⟩ = Y := ⟨_, rfl⟩
          rw [hY] at E1 hZs2
          have K1 := Lib.hid E1
          have K2 := Lib.hid E2
          have K3 := Lib.hid big_e3
          have K4 := Lib.hid big_e4
          have K5 := Lib.hid E5
          have K6 := Lib.hid big_e6
          have hYl : Y.size ≤ 1024 ∧ 1024 ≤ Y.size := by omega
          have hZl : Z.size ≤ 1024 := by omega
          have HYZ := Lib.hid hZs2
          have cur : Below w.heap.size w wr := hJ1
          clear E1 E2 E5 hZ hY hZs hZs2 hJ hJ1 hJ2 hJ3
          go_upto_region 16 with (first
            | (have _ := mk1; go_at_call 20; refine (words_any _ _).mono ?_; rintro e wz ⟨rfl, hb⟩; have cur := cur.trans (hb.mono cur.size); clear hb; obtain ⟨w5, p5, hp5, hw5, l5, n5, b5⟩ := box_new wz (.cells #[.string ⟨#[115]⟩, .int .u8 (txV Z).kind, .int .i64 (txV Z).num, .bool (txV Z).tr, .string (txV Z).text, .string ⟨#[116]⟩, .int .u8 (txV ⟨#[]⟩).kind, .int .i64 (txV ⟨#[]⟩).num, .bool (txV ⟨#[]⟩).tr, .string (txV ⟨#[]⟩).text, .string ⟨#[98, 97, 100]⟩, .int .u8 9, .int .i64 0, .bool false, .string ⟨#[]⟩] 55); have HN5 := Lib.hid n5; have HB5 := Lib.hid b5; clear n5 b5)
            | (go_at_call 20; refine (words_any _ _).mono ?_; rintro e wy ⟨rfl, hb⟩; have cur := cur.trans (hb.mono cur.size); have mk1 := hYl; clear hb))
          have hbd : BdsR w5 w5.heap.size (.slice (some ⟨p5, 0, none⟩) 3 3) (mostL Z) := bds_three (x := ⟨⟨#[115]⟩, txV Z⟩) (y := ⟨⟨#[116]⟩, txV ⟨#[]⟩⟩) (z := ⟨⟨#[98, 97, 100]⟩, ⟨9, 0, false, ⟨#[]⟩⟩⟩) HN5.out ⟨VlW.tx (by omega), by show 1 ≤ _; omega⟩ ⟨VlW.tx (by show 0 ≤ _; omega), by show 1 ≤ _; omega⟩ ⟨⟨by show (0 : Int) ≤ 9; omega, by show (9 : Int) ≤ 255; omega, by show _ ≤ (0 : Int); omega, by show (0 : Int) ≤ _; omega, by show 0 ≤ _; omega⟩, by show 3 ≤ _; omega⟩
          have HBW := Lib.hid (cur.trans (HB5.out.mono cur.size))
          have cur : Good w5 [(.slice none 0 0, nilN)] [(.slice none 0 0, []), (.slice (some ⟨p5, 0, none⟩) 3 3, mostL Z)] w5 := ((Good.start (HG.out.up HBW.out).t8).addB hbd |>.addB (show BdsR w5 w5.heap.size (.slice none 0 0) [] from ⟨none, 0, rfl, by simp, by simp, fun i hi => by simp at hi, by simp⟩)).add ⟨HeadW_nil, KidsR.nil _ _⟩
          clear hbd
          go_upto_region 25 with (first
            | (go_at_call 26; refine (reads_b cur (by simp) (by simp)).mono ?_; rintro e wz ⟨rb, ro, rc, rfl, hrb, cur⟩)
            | (go_at_call 23; refine (name_good cur _ (by decide)).mono ?_; rintro e wz ⟨rfl, cur⟩)
            | (go_at_call 20; refine (words_any _ _).mono ?_; rintro e wz ⟨rfl, hb⟩; have cur := cur.to hb; clear hb)
            | (go_at_call 25; refine (number_good cur _).mono ?_; rintro e wz ⟨rfl, cur⟩)
            | (have _ := mk3; go_at_call 24; refine (lit_good cur (numV _) (VlW.num (by omega) (by omega))).mono ?_; rintro e wz ⟨rfl, cur⟩)
            | (go_at_call 24; refine (lit_good cur (txV _) (VlW.tx (by show 1 ≤ _; omega))).mono ?_; rintro e wz ⟨rfl, cur⟩)
            | (go_at_call 22; refine (two_good cur (by simp) (by simp) (by omega) (by omega)).mono ?_; rintro e wz ⟨vk, rfl, cur⟩)
            | (go_at_call 19; refine (vars_good cur).mono ?_; rintro e wz ⟨vv, rfl, cur⟩)
            | (have _ := mk5; go_at_call 21; refine (eval_good (l := varsL) (a := twoN 5 (varN ⟨#[98]⟩) (varN ⟨#[120]⟩)) cur (by simp) (by simp) K6.out).mono ?_; rintro e wz ⟨rfl, cur⟩; have cur := cur.to ((Below.refl wz.heap.size wz).alloc (Nat.le_refl _) (objV Vl.zero)); have mk6 := hYl)
            | (have _ := mk4; go_at_call 21; refine (eval_good (l := mostL Z) (a := varN ⟨#[98, 97, 100]⟩) cur (by simp) (by simp) K5.out).mono ?_; rintro e wz ⟨rfl, cur⟩; have cur := cur.to ((Below.refl wz.heap.size wz).alloc (Nat.le_refl _) (objV Vl.zero)); have mk5 := hYl)
            | (have _ := mk3; go_at_call 21; refine (eval_good (l := []) (a := litN (numV (-1))) cur (by simp) (by simp) K4.out).mono ?_; rintro e wz ⟨rfl, cur⟩; have cur := cur.to ((Below.refl wz.heap.size wz).alloc (Nat.le_refl _) (objV Vl.zero)); have mk4 := hYl)
            | (have _ := mk2; go_at_call 21; refine (eval_good (l := []) (a := nilN) (va := .slice none 0 0) (vv := .slice none 0 0) cur (by simp) (by simp) K3.out).mono ?_; rintro e wz ⟨rfl, cur⟩; have cur := cur.to ((Below.refl wz.heap.size wz).alloc (Nat.le_refl _) (objV Vl.zero)); have mk3 := hYl)
            | (have _ := mk1a; go_at_call 21; refine (eval_good (l := mostL Z) (a := twoN 13 (varN ⟨#[115]⟩) (litN (txV ⟨#[97]⟩))) cur (by simp) (by simp) K2.out).mono ?_; rintro e wz ⟨rfl, cur⟩; have cur := cur.to ((Below.refl wz.heap.size wz).alloc (Nat.le_refl _) (objV Vl.zero)); have mk2 := hYl)
            | (go_at_call 21; refine (eval_good (l := mostL Z) (a := twoN 13 (varN ⟨#[115]⟩) (varN ⟨#[116]⟩)) cur (by simp) (by simp) K1.out).mono ?_; rintro e wz ⟨rfl, cur⟩; obtain ⟨w6, p6, hp6, hw6, l6, n6, b6⟩ := box_new wz (objV (txV Y)); have HV := Lib.hid (fun V (h : Below w6.heap.size w6 V) => v_cells ((h.block p6 l6).trans n6)); have HB6 := Lib.hid (cur.to b6).below; have cur := (cur.to b6).rebase; have mk1a := hYl; clear n6 b6))
          obtain ⟨y0, y1, y2, y3⟩ := HV.out _ cur.below
          have hY1 : ((Y.size : Int) == 1024) = true := beq_iff_eq.2 (by omega)
          have hY2 : (Y.size == 1024) = true := beq_iff_eq.2 (by omega)
          have hT3 : (txV Y).text = Y := rfl
          have hb1 : ((⟨#[98]⟩ : ByteArray).toList == [98]) = true := by kernel_rfl
          have HE := Lib.hid (HBW.out.trans ((HB6.out.trans (cur.below.mono HB6.out.size)).mono HBW.out.size))
          clear cur
          go_wp2_with fail
          go_ret
          exact ⟨rfl, HE.out⟩
end Go.Proofs.YtbephgifbghilaaGreatDoor
