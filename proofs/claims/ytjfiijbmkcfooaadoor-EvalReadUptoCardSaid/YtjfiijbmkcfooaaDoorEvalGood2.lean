/- The nodes and binds at hand while a law walks; works. -/
import Derived.Test.YtjfiijbmkcfooaaDoorEvalGood
set_option maxRecDepth 100000
namespace Go.Proofs.YtjfiijbmkcfooaaDoor
open Go.RowKit

/-- The nodes and binds at hand. -/
structure Good (w : World) (L : List (Value × Nd)) (M : List (Value × List Bd)) (W : World) : Prop where
  below : Below w.heap.size w W
  nds : ∀ p ∈ L, NdR W W.heap.size p.1 p.2
  bds : ∀ p ∈ M, BdsR W W.heap.size p.1 p.2
  tabs : Tabs8 W
section
variable {w : World} {L : List (Value × Nd)} {M : List (Value × List Bd)} {W : World}
theorem Good.start (hT : Tabs8 w) : Good w [] [] w := ⟨Below.refl _ _, by simp, by simp, hT⟩
theorem Good.to (h : Good w L M W) {W' : World} (hb : Below W.heap.size W W') : Good w L M W' := ⟨h.below.trans (hb.mono h.below.size), fun p hp => (h.nds p hp).to hb, fun p hp => (h.bds p hp).to hb, Utf8Tabs_below h.tabs hb⟩
theorem Good.al (h : Good w L M W) (o : Obj) : Good w L M (W.alloc o) := h.to ((Below.refl _ _).alloc (Nat.le_refl _) o)
theorem Good.add (h : Good w L M W) {vk : Value} {n : Nd} (hn : NdR W W.heap.size vk n) : Good w ((vk, n) :: L) M W := ⟨h.below, fun p hp => by
  rcases List.mem_cons.1 hp with rfl | hp
  · exact hn
  · exact h.nds p hp, h.bds, h.tabs⟩
theorem Good.addB (h : Good w L M W) {vv : Value} {l : List Bd} (hn : BdsR W W.heap.size vv l) : Good w L ((vv, l) :: M) W := ⟨h.below, h.nds, fun p hp => by
  rcases List.mem_cons.1 hp with rfl | hp
  · exact hn
  · exact h.bds p hp, h.tabs⟩
theorem Good.nd (h : Good w L M W) {vk : Value} {n : Nd} (hm : (vk, n) ∈ L) : NdR W W.heap.size vk n := h.nds _ hm
theorem two_good (h : Good w L M W) {op : Int} {a b : Nd} {va vb : Value} (ha : (va, a) ∈ L) (hb : (vb, b) ∈ L) (h0 : 0 ≤ op) (h1 : op ≤ 255) :
    Calls Tryd.prog 11 #[.int .u8 op, valN a va, valN b vb] W fun e w' => ∃ vk, e = .returned (valN (twoN op a b) vk) ∧ Good w ((vk, twoN op a b) :: L) M w' :=
  (mkTwo_any W op h0 h1 a b va vb (h.nd ha) (h.nd hb)).mono fun _ _ ⟨vk, he, hn, hbe⟩ => ⟨vk, he, (h.to hbe).add hn⟩
theorem one_good (h : Good w L M W) {op : Int} {a : Nd} {va : Value} (ha : (va, a) ∈ L) (h0 : 0 ≤ op) (h1 : op ≤ 255) :
    Calls Tryd.prog 12 #[.int .u8 op, valN a va] W fun e w' => ∃ vk, e = .returned (valN (oneN op a) vk) ∧ Good w ((vk, oneN op a) :: L) M w' :=
  (mkOne_any W op h0 h1 a va (h.nd ha)).mono fun _ _ ⟨vk, he, hn, hbe⟩ => ⟨vk, he, (h.to hbe).add hn⟩
theorem name_good (h : Good w L M W) (s : ByteArray) (hs : s.size ≤ 140737488355328) :
    Calls Tryd.prog 15 #[.string s] W fun e w' => e = .returned (valN (varN s) (.slice none 0 0)) ∧ Good w ((.slice none 0 0, varN s) :: L) M w' :=
  (mkName_any W s).mono fun _ _ ⟨he, hbe⟩ => ⟨he, (h.to hbe).add (var_nd _ _ hs)⟩
theorem lit_good (h : Good w L M W) (v : Vl) (hv : VlW v) :
    Calls Tryd.prog 23 #[valV v] W fun e w' => e = .returned (valN (litN v) (.slice none 0 0)) ∧ Good w ((.slice none 0 0, litN v) :: L) M w' :=
  (mkLit_any W v).mono fun _ _ ⟨he, hbe⟩ => ⟨he, (h.to hbe).add (lit_nd _ _ hv)⟩
theorem number_good (h : Good w L M W) (n : Int) :
    Calls Tryd.prog 24 #[.int .i64 n] W fun e w' => e = .returned (valV (numV n)) ∧ Good w L M w' :=
  (number_any W n).mono fun _ _ ⟨he, hbe⟩ => ⟨he, h.to hbe⟩
theorem vars_good (h : Good w L M W) :
    Calls Tryd.prog 25 #[] W fun e w' => ∃ vv, e = .returned vv ∧ Good w L ((vv, varsL) :: M) w' :=
  (vars_any W).mono fun _ _ ⟨vv, he, hn, hbe⟩ => ⟨vv, he, (h.to hbe).addB hn⟩
theorem eval_good (h : Good w L M W) {a : Nd} {va vv : Value} {l : List Bd} (ha : (va, a) ∈ L) (hl : (vv, l) ∈ M) {v : Vl} {e : Int} (hr : evE l a = (v, e)) :
    Calls Tryd.prog 13 #[valN a va, vv] W fun x w' => x = .returned (.tuple #[valV v, .int .i64 e]) ∧ Good w L M w' :=
  (eval_any W a va vv l (h.nd ha) (h.bds _ hl) h.tabs).mono fun _ _ ⟨he, hbe⟩ => by rw [hr] at he; exact ⟨he, h.to hbe⟩
theorem bool_good (h : Good w L M W) {a : Nd} {va vv : Value} {l : List Bd} (ha : (va, a) ∈ L) (hl : (vv, l) ∈ M) {v : Bool} {e : Int} (hr : boolE (evE l a) = (v, e)) :
    Calls Tryd.prog 26 #[valN a va, vv] W fun x w' => x = .returned (.tuple #[.bool v, .int .i64 e]) ∧ Good w L M w' :=
  (bool_any W a va vv l (h.nd ha) (h.bds _ hl) h.tabs).mono fun _ _ ⟨he, hbe⟩ => by rw [hr] at he; exact ⟨he, h.to hbe⟩
theorem same_good (h : Good w L M W) {a b : Nd} {va vb vv : Value} {l : List Bd} (ha : (va, a) ∈ L) (hb : (vb, b) ∈ L) (hl : (vv, l) ∈ M) {r : Bool} (hr : sameE (evE l a) (evE l b) = r) :
    Calls Tryd.prog 10 #[valN a va, valN b vb, vv] W fun e w' => e = .returned (.bool r) ∧ Good w L M w' := by
  subst hr
  exact (same_any W a b va vb vv l (h.nd ha) (h.nd hb) (h.bds _ hl) h.tabs).mono fun _ _ ⟨he, hbe⟩ => ⟨he, h.to hbe⟩
theorem deep_good (h : Good w L M W) {a : Nd} {va : Value} (ha : (va, a) ∈ L) {r : Bool} (hr : deepB 60 a = r) :
    Calls Tryd.prog 8 #[valN a va, .int .i64 60] W fun e w' => e = .returned (.bool r) ∧ Good w L M w' := by
  subst hr
  exact (deep_any 60 (by omega) W a va (h.nd ha)).mono fun _ _ ⟨he, hbe⟩ => ⟨he, h.to hbe⟩
theorem check_good (h : Good w L M W) {a : Nd} {va : Value} (ha : (va, a) ∈ L) {r : Bool} (hr : checkN a = r) :
    Calls Tryd.prog 9 #[valN a va] W fun e w' => e = .returned (.bool r) ∧ Good w L M w' := by
  subst hr
  exact (check_N a (h.nd ha).1 W va h.tabs (h.nd ha).2).mono fun _ _ ⟨he, hbe⟩ => ⟨he, h.to hbe⟩
end

def xN : Nd := varN ⟨#[120]⟩
def bN : Nd := varN ⟨#[98]⟩
def yN : Nd := varN ⟨#[121]⟩
theorem works_1 : evE varsL (twoN 13 (varN ⟨#[120]⟩) (litN (numV 1))) = (numV 8, 0) := by kernel_rfl
theorem works_2 : boolE (evE varsL (twoN 6 (varN ⟨#[98]⟩) (twoN 7 (twoN 16 (varN ⟨#[120]⟩) (litN (numV 0))) (litN (numV 1))))) = (true, 0) := by kernel_rfl
theorem works_3 : evE varsL (varN ⟨#[121]⟩) = (Vl.zero, 100) := by kernel_rfl
set_option maxHeartbeats 4000000 in
theorem works_any (w : World) (hT : Tabs8 w) : Calls Tryd.prog 7 #[] w fun e w' => e = .returned (.bool true) ∧ Below w.heap.size w w' := by
  have cur : Good w [] [] w := Good.start hT
  have K1 := Lib.hid works_1
  have K2 := Lib.hid works_2
  have K3 := Lib.hid works_3
  clear hT
  go_enter Tryd.func7, Tryd.ntmps7
  go_wp2_with (first
    | (go_at_call 15; refine (name_good cur _ (by decide)).mono ?_; rintro e wz ⟨rfl, cur⟩)
    | (go_at_call 24; refine (number_good cur _).mono ?_; rintro e wz ⟨rfl, cur⟩)
    | (go_at_call 23; refine (lit_good cur (numV _) (VlW.num (by omega) (by omega))).mono ?_; rintro e wz ⟨rfl, cur⟩)
    | (go_at_call 11; refine (two_good cur (by simp) (by simp) (by omega) (by omega)).mono ?_; rintro e wz ⟨vk, rfl, cur⟩)
    | (go_at_call 25; refine (vars_good cur).mono ?_; rintro e wz ⟨vv, rfl, cur⟩)
    | (go_at_call 13; refine (eval_good (l := varsL) cur (by simp) (by simp) (by first | exact K1.out | exact K3.out)).mono ?_; rintro e wz ⟨rfl, cur⟩; refine Hid.out ?_))
  refine Lib.hid ?_
  obtain ⟨w4, p4, hp4, hw4, l4, n4, b4⟩ := box_new wz (objV (numV 8))
  have B4 := Lib.hid (cur.to b4).below
  have cur : Good w4 [] [] w4 := Good.start (cur.to b4).tabs
  have HP := Lib.hid (fun V (h : Below w4.heap.size w4 V) => v_cells ((h.block p4 l4).trans n4))
  clear n4 b4
  go_wp2_with (first
    | (go_at_call 15; refine (name_good cur _ (by decide)).mono ?_; rintro e wz ⟨rfl, cur⟩)
    | (go_at_call 24; refine (number_good cur _).mono ?_; rintro e wz ⟨rfl, cur⟩)
    | (go_at_call 23; refine (lit_good cur (numV _) (VlW.num (by omega) (by omega))).mono ?_; rintro e wz ⟨rfl, cur⟩)
    | (go_at_call 11; refine (two_good cur (by simp) (by simp) (by omega) (by omega)).mono ?_; rintro e wz ⟨vk, rfl, cur⟩)
    | (go_at_call 25; refine (vars_good cur).mono ?_; rintro e wz ⟨vv, rfl, cur⟩)
    | (go_at_call 26; refine (bool_good (l := varsL) cur (by simp) (by simp) K2.out).mono ?_; rintro e wz ⟨rfl, cur⟩)
    | (go_at_call 13; refine (eval_good (l := varsL) cur (by simp) (by simp) K3.out).mono ?_; rintro e wz ⟨rfl, cur⟩; refine Hid.out ?_))
  refine Lib.hid ?_
  obtain ⟨w6, p6, hp6, hw6, l6, n6, b6⟩ := box_new wz (objV Vl.zero)
  have HE := Lib.hid (cur.to b6).below
  have cur : Below w4.heap.size w4 w6.drew := HE.out.drew
  clear b6 n6
  obtain ⟨c0, c1, c2, c3⟩ := HP.out w6.drew cur
  have ek : ∀ W, (binOp .eql 23 (valV (numV 8)) (valV (numV 8))).run Tryd.prog W = .ok (.bool true) W := fun W => by rw [run_eql_val, vlEq_refl]
  go_wp2_with fail
  go_region_held3 (fun w' => w'.cell? ⟨p4, 0, none⟩ = some (.int .u8 (numV 8).kind) ∧ w'.cell? ⟨p4, 1, none⟩ = some (.int .i64 (numV 8).num) ∧ w'.cell? ⟨p4, 2, none⟩ = some (.bool (numV 8).tr) ∧ w'.cell? ⟨p4, 3, none⟩ = some (.string (numV 8).text)) (exact HP.out _ cur)
    ((go_at_call 24; refine (number_any _ _).mono ?_; rintro e wz ⟨rfl, hb⟩; have cur := cur.trans (hb.mono cur.size)))
  go_wp2_with fail
  go_ret
  exact ⟨rfl, B4.out.trans (cur.mono B4.out.size)⟩
end Go.Proofs.YtjfiijbmkcfooaaDoor
