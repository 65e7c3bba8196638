/- Texts fused by fuse.py: EvalReck5, EvalReck6, EvalReck7, EvalCheck, ExprWord, ExprText. -/
import Derived.Test.YtbephgifbghilaaGreatDoorEvalReck3
import Derived.Test.YtbephgifbghilaaGreatDoorEvalReck4
import Derived.Test.YtbephgifbghilaaGreatDoorEvalLawQ
import Derived.Test.YtbephgifbghilaaGreatDoorShelf
import Derived.Test.YtbephgifbghilaaGreatDoorExprNumber
import Derived.Test.YtbephgifbghilaaGreatDoorExprBuild
import Derived.Test.YtbephgifbghilaaGreatDoorEvalVal2
import Derived.Shelf.Strings.BuilderF
/- (*reckoner).eval at every node; printed by gen_evalreck5.py. -/
set_option maxRecDepth 100000
namespace Go.Proofs.YtbephgifbghilaaGreatDoor
open Go.RowKit

theorem two_no {p : Int × Value} (hp : p ∈ twoF) : 7 ≤ p.1 := by
  simp only [twoF, List.mem_cons, List.not_mem_nil, or_false] at hp
  rcases hp with rfl | rfl | rfl | rfl | rfl | rfl | rfl | rfl | rfl | rfl | rfl <;> simp
theorem look_no {V : World} {mb : Nat} (h : RawM V mb twoF) {op : Int} (ho : op < 7) : (Instr.lookup 122 (.map (some mb)) (.int .u8 op) true).run Tryz.prog V = .ok (.tuple #[.nilFunc, .bool false]) V := by
  rcases h.look op with ⟨p, hp, e, _⟩ | ⟨_, hl⟩
  · exact absurd (two_no hp) (by omega)
  · exact hl
theorem look_7 {V : World} {mb : Nat} (h : RawM V mb twoF) : (Instr.lookup 122 (.map (some mb)) (.int .u8 7) true).run Tryz.prog V = .ok (.tuple #[.func (.func 114) #[] #[], .bool true]) V := by
  rcases h.look 7 with ⟨p, hp, e, hl⟩ | ⟨hn, _⟩
  · simp only [twoF, List.mem_cons, List.not_mem_nil, or_false] at hp
    rcases hp with rfl | rfl | rfl | rfl | rfl | rfl | rfl | rfl | rfl | rfl | rfl <;> first | exact hl | (exact absurd e (by decide))
  · exact absurd rfl (hn (7, .func (.func 114) #[] #[]) (by simp [twoF]))
theorem look_8 {V : World} {mb : Nat} (h : RawM V mb twoF) : (Instr.lookup 122 (.map (some mb)) (.int .u8 8) true).run Tryz.prog V = .ok (.tuple #[.func (.func 116) #[] #[], .bool true]) V := by
  rcases h.look 8 with ⟨p, hp, e, hl⟩ | ⟨hn, _⟩
  · simp only [twoF, List.mem_cons, List.not_mem_nil, or_false] at hp
    rcases hp with rfl | rfl | rfl | rfl | rfl | rfl | rfl | rfl | rfl | rfl | rfl <;> first | exact hl | (exact absurd e (by decide))
  · exact absurd rfl (hn (8, .func (.func 116) #[] #[]) (by simp [twoF]))
theorem look_9 {V : World} {mb : Nat} (h : RawM V mb twoF) : (Instr.lookup 122 (.map (some mb)) (.int .u8 9) true).run Tryz.prog V = .ok (.tuple #[.func (.func 117) #[] #[], .bool true]) V := by
  rcases h.look 9 with ⟨p, hp, e, hl⟩ | ⟨hn, _⟩
  · simp only [twoF, List.mem_cons, List.not_mem_nil, or_false] at hp
    rcases hp with rfl | rfl | rfl | rfl | rfl | rfl | rfl | rfl | rfl | rfl | rfl <;> first | exact hl | (exact absurd e (by decide))
  · exact absurd rfl (hn (9, .func (.func 117) #[] #[]) (by simp [twoF]))
theorem look_10 {V : World} {mb : Nat} (h : RawM V mb twoF) : (Instr.lookup 122 (.map (some mb)) (.int .u8 10) true).run Tryz.prog V = .ok (.tuple #[.func (.func 121) #[] #[], .bool true]) V := by
  rcases h.look 10 with ⟨p, hp, e, hl⟩ | ⟨hn, _⟩
  · simp only [twoF, List.mem_cons, List.not_mem_nil, or_false] at hp
    rcases hp with rfl | rfl | rfl | rfl | rfl | rfl | rfl | rfl | rfl | rfl | rfl <;> first | exact hl | (exact absurd e (by decide))
  · exact absurd rfl (hn (10, .func (.func 121) #[] #[]) (by simp [twoF]))
theorem look_11 {V : World} {mb : Nat} (h : RawM V mb twoF) : (Instr.lookup 122 (.map (some mb)) (.int .u8 11) true).run Tryz.prog V = .ok (.tuple #[.func (.func 120) #[] #[], .bool true]) V := by
  rcases h.look 11 with ⟨p, hp, e, hl⟩ | ⟨hn, _⟩
  · simp only [twoF, List.mem_cons, List.not_mem_nil, or_false] at hp
    rcases hp with rfl | rfl | rfl | rfl | rfl | rfl | rfl | rfl | rfl | rfl | rfl <;> first | exact hl | (exact absurd e (by decide))
  · exact absurd rfl (hn (11, .func (.func 120) #[] #[]) (by simp [twoF]))
theorem look_12 {V : World} {mb : Nat} (h : RawM V mb twoF) : (Instr.lookup 122 (.map (some mb)) (.int .u8 12) true).run Tryz.prog V = .ok (.tuple #[.func (.func 119) #[] #[], .bool true]) V := by
  rcases h.look 12 with ⟨p, hp, e, hl⟩ | ⟨hn, _⟩
  · simp only [twoF, List.mem_cons, List.not_mem_nil, or_false] at hp
    rcases hp with rfl | rfl | rfl | rfl | rfl | rfl | rfl | rfl | rfl | rfl | rfl <;> first | exact hl | (exact absurd e (by decide))
  · exact absurd rfl (hn (12, .func (.func 119) #[] #[]) (by simp [twoF]))
theorem look_13 {V : World} {mb : Nat} (h : RawM V mb twoF) : (Instr.lookup 122 (.map (some mb)) (.int .u8 13) true).run Tryz.prog V = .ok (.tuple #[.func (.func 122) #[] #[], .bool true]) V := by
  rcases h.look 13 with ⟨p, hp, e, hl⟩ | ⟨hn, _⟩
  · simp only [twoF, List.mem_cons, List.not_mem_nil, or_false] at hp
    rcases hp with rfl | rfl | rfl | rfl | rfl | rfl | rfl | rfl | rfl | rfl | rfl <;> first | exact hl | (exact absurd e (by decide))
  · exact absurd rfl (hn (13, .func (.func 122) #[] #[]) (by simp [twoF]))
theorem look_14 {V : World} {mb : Nat} (h : RawM V mb twoF) : (Instr.lookup 122 (.map (some mb)) (.int .u8 14) true).run Tryz.prog V = .ok (.tuple #[.func (.func 123) #[] #[], .bool true]) V := by
  rcases h.look 14 with ⟨p, hp, e, hl⟩ | ⟨hn, _⟩
  · simp only [twoF, List.mem_cons, List.not_mem_nil, or_false] at hp
    rcases hp with rfl | rfl | rfl | rfl | rfl | rfl | rfl | rfl | rfl | rfl | rfl <;> first | exact hl | (exact absurd e (by decide))
  · exact absurd rfl (hn (14, .func (.func 123) #[] #[]) (by simp [twoF]))
theorem look_15 {V : World} {mb : Nat} (h : RawM V mb twoF) : (Instr.lookup 122 (.map (some mb)) (.int .u8 15) true).run Tryz.prog V = .ok (.tuple #[.func (.func 124) #[] #[], .bool true]) V := by
  rcases h.look 15 with ⟨p, hp, e, hl⟩ | ⟨hn, _⟩
  · simp only [twoF, List.mem_cons, List.not_mem_nil, or_false] at hp
    rcases hp with rfl | rfl | rfl | rfl | rfl | rfl | rfl | rfl | rfl | rfl | rfl <;> first | exact hl | (exact absurd e (by decide))
  · exact absurd rfl (hn (15, .func (.func 124) #[] #[]) (by simp [twoF]))
theorem look_16 {V : World} {mb : Nat} (h : RawM V mb twoF) : (Instr.lookup 122 (.map (some mb)) (.int .u8 16) true).run Tryz.prog V = .ok (.tuple #[.func (.func 125) #[] #[], .bool true]) V := by
  rcases h.look 16 with ⟨p, hp, e, hl⟩ | ⟨hn, _⟩
  · simp only [twoF, List.mem_cons, List.not_mem_nil, or_false] at hp
    rcases hp with rfl | rfl | rfl | rfl | rfl | rfl | rfl | rfl | rfl | rfl | rfl <;> first | exact hl | (exact absurd e (by decide))
  · exact absurd rfl (hn (16, .func (.func 125) #[] #[]) (by simp [twoF]))
theorem look_17 {V : World} {mb : Nat} (h : RawM V mb twoF) : (Instr.lookup 122 (.map (some mb)) (.int .u8 17) true).run Tryz.prog V = .ok (.tuple #[.func (.func 126) #[] #[], .bool true]) V := by
  rcases h.look 17 with ⟨p, hp, e, hl⟩ | ⟨hn, _⟩
  · simp only [twoF, List.mem_cons, List.not_mem_nil, or_false] at hp
    rcases hp with rfl | rfl | rfl | rfl | rfl | rfl | rfl | rfl | rfl | rfl | rfl <;> first | exact hl | (exact absurd e (by decide))
  · exact absurd rfl (hn (17, .func (.func 126) #[] #[]) (by simp [twoF]))

theorem two_fun (op : Int) (h7 : 7 ≤ op) (h17 : op ≤ 17) (a b : Vl) (ha : VlW a) (hb : VlW b) (hs : a.text.size + b.text.size ≤ 140737488355328) :
    ∃ fb, (∀ (args : Array Value) (V : World), (callFunc fb args).run Tryz.prog V = .ok (.enter fb args) V) ∧ (∀ V mb, RawM V mb twoF → (Instr.lookup 122 (.map (some mb)) (.int .u8 op) true).run Tryz.prog V = .ok (.tuple #[.func (.func fb) #[] #[], .bool true]) V) ∧
      ∀ V, Tabs8 V → Calls Tryz.prog fb #[valV a, valV b] V fun e w' => e = .returned (.tuple #[valV (bothE op a b).1, .int .i64 (bothE op a b).2]) ∧ Below V.heap.size V w' := by
  have h : op = 7 ∨ op = 8 ∨ op = 9 ∨ op = 10 ∨ op = 11 ∨ op = 12 ∨ op = 13 ∨ op = 14 ∨ op = 15 ∨ op = 16 ∨ op = 17 := by omega
  rcases h with rfl | rfl | rfl | rfl | rfl | rfl | rfl | rfl | rfl | rfl | rfl
  · exact ⟨114, enters_of Tryz.func114 (by kernel_rfl) rfl, fun V mb h => look_7 h, fun V hT => both1_any V a b ha hb hT⟩
  · exact ⟨116, enters_of Tryz.func116 (by kernel_rfl) rfl, fun V mb h => look_8 h, fun V hT => both2_any V a b ha hb hT⟩
  · exact ⟨117, enters_of Tryz.func117 (by kernel_rfl) rfl, fun V mb h => look_9 h, fun V hT => both3_any V a b ha hb hT⟩
  · exact ⟨121, enters_of Tryz.func121 (by kernel_rfl) rfl, fun V mb h => look_10 h, fun V hT => both6_any V a b ha hb hT⟩
  · exact ⟨120, enters_of Tryz.func120 (by kernel_rfl) rfl, fun V mb h => look_11 h, fun V hT => both5_any V a b ha hb hT⟩
  · exact ⟨119, enters_of Tryz.func119 (by kernel_rfl) rfl, fun V mb h => look_12 h, fun V hT => both4_any V a b ha hb hT⟩
  · exact ⟨122, enters_of Tryz.func122 (by kernel_rfl) rfl, fun V mb h => look_13 h, fun V hT => add_any V a b ha hb hT hs⟩
  · exact ⟨123, enters_of Tryz.func123 (by kernel_rfl) rfl, fun V mb h => look_14 h, fun V hT => vsub_any V a b ha hb hT⟩
  · exact ⟨124, enters_of Tryz.func124 (by kernel_rfl) rfl, fun V mb h => look_15 h, fun V hT => vmul_any V a b ha hb hT⟩
  · exact ⟨125, enters_of Tryz.func125 (by kernel_rfl) rfl, fun V mb h => look_16 h, fun V hT => vdiv_any V a b ha hb hT⟩
  · exact ⟨126, enters_of Tryz.func126 (by kernel_rfl) rfl, fun V mb h => look_17 h, fun V hT => vmod_any V a b ha hb hT⟩
end Go.Proofs.YtbephgifbghilaaGreatDoor

/- (*reckoner).eval at every node: the ways joined. -/
set_option maxRecDepth 100000
namespace Go.Proofs.YtbephgifbghilaaGreatDoor
open Go.RowKit

section
variable {w0 : World} {B0 B1 : Nat} {S : List (Option Nat)} {J : List ByteArray → World → Prop} {rp mb fid : Nat} {caps : Array Value} {vv : Value} {l : List Bd}

theorem reck_one (R : Reck w0 B0 B1 S J rp mb fid caps vv l) {op : Int} (hop : op = 3 ∨ op = 4) (u : Vl) (nm : ByteArray) (b o n c : Nat) (k : Nd) (vk : Value) (hk : KidC w0 b o k vk) (hbl : b < B0) (hn : 0 < n) (xs nt : List ByteArray) (x y : Vl × Int) (K0 : KidE S J B1 rp k vk xs (xs ++ nt) x.1 x.2) (hw : VlW x.1) (W : World) (h1 : B1 ≤ W.heap.size) (hJ : J xs W) :
    Calls Tryz.prog 87 #[.pointer (some ⟨rp, 0, none⟩), valO op u nm (.slice (some ⟨b, o, none⟩) n c)] W fun e w' => e = .returned (.tuple #[valV (combE op x y).1, .int .i64 (combE op x y).2]) ∧ J (xs ++ nt) w' ∧ Frm S W w' := by
  obtain ⟨xv, xe⟩ := x
  by_cases hx : xe = 0
  · subst hx
    rcases hop with rfl | rfl
    · by_cases hk2 : xv.kind = 2
      · rw [show combE 3 (xv, 0) y = (trV (!xv.tr), 0) by unfold combE; simp [hk2]]
        exact ev_not R u nm b o n c k vk hk hbl hn xs _ xv K0 hk2 W h1 hJ
      · rw [show combE 3 (xv, 0) y = (Vl.zero, 90) by unfold combE; simp [hk2]]
        exact ev_kind3 R u nm b o n c k vk hk hbl hn xs _ xv K0 hk2 W h1 hJ
    · rw [show combE 4 (xv, 0) y = negE xv by unfold combE; simp]
      exact ev_neg R u nm b o n c k vk hk hbl hn xs _ xv K0 hw _ _ rfl W h1 hJ
  · rw [show combE op (xv, xe) y = (Vl.zero, xe) by unfold combE; simp [hx]]
    exact ev_bad R op u nm b o n c k vk hk hbl hn (by rw [beq_eq_false_iff_ne]; omega) (by rw [beq_eq_false_iff_ne]; omega) xs _ xv xe K0 hx W h1 hJ

theorem reck_two (R : Reck w0 B0 B1 S J rp mb fid caps vv l) {op : Int} (h5 : 5 ≤ op) (h17 : op ≤ 17) (u : Vl) (nm : ByteArray) (b o n c : Nat) (k k' : Nd) (vk vk' : Value) (hk : KidC w0 b o k vk) (hk' : KidC w0 b (o + 7) k' vk') (hbl : b < B0) (hn : 1 < n) (xs nt nt2 : List ByteArray) (x y : Vl × Int) (K0 : KidE S J B1 rp k vk xs (xs ++ nt) x.1 x.2) (K1 : KidE S J B1 rp k' vk' (xs ++ nt) (xs ++ nt ++ nt2) y.1 y.2) (hw : VlW x.1) (hw' : VlW y.1) (hx1 : Norm x) (hy1 : Norm y) (W : World) (h1 : B1 ≤ W.heap.size) (hJ : J xs W) :
    Calls Tryz.prog 87 #[.pointer (some ⟨rp, 0, none⟩), valO op u nm (.slice (some ⟨b, o, none⟩) n c)] W fun e w' => e = .returned (.tuple #[valV (combE op x y).1, .int .i64 (combE op x y).2]) ∧ J (xs ++ (nt ++ if goesOn op x then nt2 else [])) w' ∧ Frm S W w' := by
  obtain ⟨xv, xe⟩ := x
  obtain ⟨yv, ye⟩ := y
  have e1 : (op == 1) = false := by rw [beq_eq_false_iff_ne]; omega
  have e2 : (op == 2) = false := by rw [beq_eq_false_iff_ne]; omega
  have e3 : (op == 3) = false := by rw [beq_eq_false_iff_ne]; omega
  have e4 : (op == 4) = false := by rw [beq_eq_false_iff_ne]; omega
  by_cases hx : xe = 0
  · subst hx
    by_cases h6 : op ≤ 6
    · have hop : op = 5 ∨ op = 6 := by omega
      by_cases hk2 : xv.kind = 2
      · by_cases ht : xv.tr = decide (op = 6)
        · rw [show combE op (xv, 0) (yv, ye) = (xv, 0) by rcases hop with rfl | rfl <;> (unfold combE; simp_all)]
          rw [show goesOn op (xv, 0) = false by rcases hop with rfl | rfl <;> (unfold goesOn; simp_all), if_neg (by simp), List.append_nil]
          rcases hop with rfl | rfl
          · exact ev_lazy5 R u nm b o n c k vk hk hbl (by omega) xs _ xv K0 hk2 ht W h1 hJ
          · exact ev_lazy6 R u nm b o n c k vk hk hbl (by omega) xs _ xv K0 hk2 ht W h1 hJ
        · rw [show goesOn op (xv, 0) = true by rcases hop with rfl | rfl <;> (unfold goesOn; simp_all), if_pos rfl, ← List.append_assoc]
          by_cases hy : ye = 0
          · by_cases hy2 : yv.kind = 2
            · rw [show combE op (xv, 0) (yv, ye) = (yv, 0) by rcases hop with rfl | rfl <;> (unfold combE; simp_all)]
              rcases hop with rfl | rfl
              · exact ev_last5 R u nm b o n c k k' vk vk' hk hk' hbl hn xs _ _ xv yv ye K0 K1 hk2 (by simpa using ht) hy (fun V h => look_no h (by omega)) hy2 W h1 hJ
              · exact ev_last6 R u nm b o n c k k' vk vk' hk hk' hbl hn xs _ _ xv yv ye K0 K1 hk2 (by simpa using ht) hy (fun V h => look_no h (by omega)) hy2 W h1 hJ
            · rw [show combE op (xv, 0) (yv, ye) = (Vl.zero, 90) by rcases hop with rfl | rfl <;> (unfold combE; simp_all)]
              rcases hop with rfl | rfl
              · exact ev_loose5 R u nm b o n c k k' vk vk' hk hk' hbl hn xs _ _ xv yv ye K0 K1 hk2 (by simpa using ht) hy (fun V h => look_no h (by omega)) hy2 W h1 hJ
              · exact ev_loose6 R u nm b o n c k k' vk vk' hk hk' hbl hn xs _ _ xv yv ye K0 K1 hk2 (by simpa using ht) hy (fun V h => look_no h (by omega)) hy2 W h1 hJ
          · rw [show combE op (xv, 0) (yv, ye) = (Vl.zero, ye) by rcases hop with rfl | rfl <;> (unfold combE; simp_all)]
            rcases hop with rfl | rfl
            · exact ev_bad2_5 R u nm b o n c k k' vk vk' hk hk' hbl hn xs _ _ xv yv ye K0 K1 hk2 (by simpa using ht) hy W h1 hJ
            · exact ev_bad2_6 R u nm b o n c k k' vk vk' hk hk' hbl hn xs _ _ xv yv ye K0 K1 hk2 (by simpa using ht) hy W h1 hJ
      · rw [show combE op (xv, 0) (yv, ye) = (Vl.zero, 90) by rcases hop with rfl | rfl <;> (unfold combE; simp_all)]
        rw [show goesOn op (xv, 0) = false by rcases hop with rfl | rfl <;> (unfold goesOn; simp_all), if_neg (by simp), List.append_nil]
        rcases hop with rfl | rfl
        · exact ev_kind5 R u nm b o n c k vk hk hbl (by omega) xs _ xv K0 hk2 W h1 hJ
        · exact ev_kind6 R u nm b o n c k vk hk hbl (by omega) xs _ xv K0 hk2 W h1 hJ
    · have e5 : (op == 5) = false := by rw [beq_eq_false_iff_ne]; omega
      have e6 : (op == 6) = false := by rw [beq_eq_false_iff_ne]; omega
      rw [show goesOn op (xv, 0) = true by unfold goesOn; rw [e5, e6]; simp [h5], if_pos rfl, ← List.append_assoc, comb_bin (by omega) h17]
      by_cases hy : ye = 0
      · rw [if_pos rfl, if_pos hy]
        obtain ⟨fb, hrun, hlk, hcall⟩ := two_fun op (by omega) h17 xv yv hw hw' (by have := checkB_size (hx1 rfl); have := checkB_size (hy1 hy); simp only at *; omega)
        exact ev_both R op e1 e2 e4 e3 e5 e6 u nm b o n c k k' vk vk' hk hk' hbl hn xs _ _ xv yv ye K0 K1 hy fb hrun (fun V h => hlk V mb h) _ _ hcall W h1 hJ
      · rw [if_pos rfl, if_neg hy]
        exact ev_bad2 R op e1 e2 e4 e3 e5 e6 u nm b o n c k k' vk vk' hk hk' hbl hn xs _ _ xv yv ye K0 K1 hy W h1 hJ
  · rw [show combE op (xv, xe) (yv, ye) = (Vl.zero, xe) by unfold combE; simp [hx]]
    rw [show goesOn op (xv, xe) = false by unfold goesOn; simp [hx], if_neg (by simp), List.append_nil]
    exact ev_bad R op u nm b o n c k vk hk hbl (by omega) e1 e2 xs _ xv xe K0 hx W h1 hJ
end
end Go.Proofs.YtbephgifbghilaaGreatDoor

/- (*reckoner).eval at every node. -/
set_option maxRecDepth 100000
namespace Go.Proofs.YtbephgifbghilaaGreatDoor
open Go.RowKit

section
variable {w0 : World} {B0 B1 : Nat} {S : List (Option Nat)} {J : List ByteArray → World → Prop} {rp mb fid : Nat} {caps : Array Value} {vv : Value} {l : List Bd}

theorem reck_var (R : Reck w0 B0 B1 S J rp mb fid caps vv l) (u : Vl) (nm : ByteArray) (vk : Value) (xs : List ByteArray) (W : World) (hJ : J xs W) (h1 : B1 ≤ W.heap.size) :
    Calls Tryz.prog 87 #[.pointer (some ⟨rp, 0, none⟩), valO 2 u nm vk] W fun e w' => e = .returned (.tuple #[valV (varE l nm).1, .int .i64 (varE l nm).2]) ∧ J (xs ++ (if (varE l nm).2 = 0 then [nm] else [])) w' ∧ Frm S W w' := by
  cases hf : findB l nm with
  | none =>
    rw [show varE l nm = (Vl.zero, 100) by unfold varE; rw [hf], if_neg (by show ¬ ((100 : Int) = 0); omega), List.append_nil]
    exact ev_var0 R u nm vk xs W h1 hJ hf
  | some v =>
    cases hc : checkB v with
    | false =>
      rw [show varE l nm = (Vl.zero, 1) by unfold varE; rw [hf]; simp [hc], if_neg (by show ¬ ((1 : Int) = 0); omega), List.append_nil]
      exact ev_var1 R u nm vk xs W h1 hJ v hf hc
    | true =>
      rw [show varE l nm = (v, 0) by unfold varE; rw [hf]; simp [hc], if_pos rfl]
      exact ev_var2 R u nm vk xs W h1 hJ v hf hc

mutual
theorem reck_N (R : Reck w0 B0 B1 S J rp mb fid caps vv l) (hl : ∀ b ∈ l, VlW b.val) : ∀ n : Nd, checkN n = true → deepW n → ∀ vk, KidsR w0 B0 vk n.kids → ∀ xs, KidE S J B1 rp n vk xs (xs ++ noteN l n) (evalN l n).1 (evalN l n).2
  | .mk op v nm ks, hc, hd, vk, hk, xs => by
    have hc' : (headB op v nm ks.length && checkL ks) = true := hc
    rw [Bool.and_eq_true] at hc'
    obtain ⟨hc1, hc2⟩ := hc'
    obtain ⟨k1, k2⟩ := head_facts hc1
    obtain ⟨hd1, hd2⟩ := hd
    have hk' : KidsR w0 B0 vk ks := hk
    intro V hJ h1
    show Calls Tryz.prog 87 #[.pointer (some ⟨rp, 0, none⟩), valO op v nm vk] V fun e w' => e = .returned (.tuple #[valV (if op = 1 then (v, 0) else if op = 2 then varE l nm else combE op (evalH l ks) (evalT l ks)).1, .int .i64 (if op = 1 then (v, 0) else if op = 2 then varE l nm else combE op (evalH l ks) (evalT l ks)).2]) ∧ J (xs ++ if op = 1 then [] else if op = 2 then (if (varE l nm).2 = 0 then [nm] else []) else noteH l ks ++ (if goesOn op (evalH l ks) then noteT l ks else [])) w' ∧ Frm S V w'
    by_cases o1 : op = 1
    · subst o1
      rw [if_pos rfl, if_pos rfl, List.append_nil]
      exact ev_lit R v nm vk xs V h1 hJ
    · rw [if_neg o1, if_neg o1]
      by_cases o2 : op = 2
      · subst o2
        rw [if_pos rfl, if_pos rfl]
        exact reck_var R v nm vk xs V hJ h1
      · rw [if_neg o2, if_neg o2]
        have h3 : 3 ≤ op ∧ op ≤ 17 := by
          unfold kidsN at k1
          split at k1 <;> omega
        obtain ⟨g0, g1⟩ := reck_L R hl ks hc2 hd2
        obtain ⟨f1, f2⟩ := norm_L l ks hc2
        obtain ⟨u1, u2⟩ := vlw_L hl ks hd2
        obtain ⟨a, cap, rfl, hat⟩ := kid_at hk'
        by_cases h5 : 5 ≤ op
        · have hlen : ks.length = 2 := by
            unfold kidsN at k1; rw [if_neg (by omega), if_neg (by omega), if_neg (by omega)] at k1; omega
          obtain ⟨b, o, vk0, ha, hb, -, hk0, c0⟩ := hat 0 (by omega)
          obtain ⟨b', o', vk1, ha', -, -, hk1, c1⟩ := hat 1 (by omega)
          rw [ha] at ha'
          injection ha' with ha'
          injection ha' with q1 q2
          subst q1 q2 ha
          rw [Nat.zero_mul, Nat.add_zero] at c0
          rw [Nat.one_mul] at c1
          exact reck_two R h5 h3.2 v nm b o ks.length cap ks[0] ks[1] vk0 vk1 c0 c1 hb (by omega) xs (noteH l ks) (noteT l ks) (evalH l ks) (evalT l ks) (g0 (by omega) vk0 hk0 xs) (g1 (by omega) vk1 hk1 _) u1 u2 (f1 (by omega)) (f2 (by omega)) V h1 hJ
        · have hlen : ks.length = 1 := by
            unfold kidsN at k1; rw [if_neg (by omega), if_neg (by omega), if_pos (by omega)] at k1; omega
          obtain ⟨b, o, vk0, ha, hb, -, hk0, c0⟩ := hat 0 (by omega)
          subst ha
          rw [Nat.zero_mul, Nat.add_zero] at c0
          rw [show goesOn op (evalH l ks) = false by unfold goesOn; simp [h5], if_neg (by simp), List.append_nil]
          exact reck_one R (by omega) v nm b o ks.length cap ks[0] vk0 c0 hb (by omega) xs (noteH l ks) (evalH l ks) (evalT l ks) (g0 (by omega) vk0 hk0 xs) u1 V h1 hJ
theorem reck_L (R : Reck w0 B0 B1 S J rp mb fid caps vv l) (hl : ∀ b ∈ l, VlW b.val) : ∀ ks : List Nd, checkL ks = true → deepWL ks → (∀ (h : 0 < ks.length) vk, KidsR w0 B0 vk ks[0].kids → ∀ xs, KidE S J B1 rp ks[0] vk xs (xs ++ noteH l ks) (evalH l ks).1 (evalH l ks).2) ∧ (∀ (h : 1 < ks.length) vk, KidsR w0 B0 vk ks[1].kids → ∀ xs, KidE S J B1 rp ks[1] vk xs (xs ++ noteT l ks) (evalT l ks).1 (evalT l ks).2)
  | [], _, _ => ⟨fun h => absurd h (by simp), fun h => absurd h (by simp)⟩
  | a :: r, hc, hd => by
    have hc' : (checkN a && checkL r) = true := hc
    rw [Bool.and_eq_true] at hc'
    obtain ⟨hd1, hd2⟩ := hd
    exact ⟨fun _ vk hk xs => reck_N R hl a hc'.1 hd1 vk hk xs, fun h vk hk xs => (reck_L R hl r hc'.2 hd2).1 (by simp at h; omega) vk hk xs⟩
end
end
end Go.Proofs.YtbephgifbghilaaGreatDoor

/- expr.Check. -/
set_option maxRecDepth 100000
namespace Go.Proofs.YtbephgifbghilaaGreatDoor
open Go.RowKit

theorem kids_any (w : World) (op : Int) : Calls Tryz.prog 46 #[.int .u8 op] w fun e w' => e = .returned (.int .i64 (kidsN op)) ∧ w = w' := by
  by_cases h1 : op < 1
  · have d1 : decide (op < 1) = true := decide_eq_true h1
    rw [show kidsN op = -1 by unfold kidsN; rw [if_pos (Or.inl h1)]]
    go_enter Tryz.func46, Tryz.ntmps46
    go_wp2_with fail
    go_ret
    exact ⟨rfl, rfl⟩
  · have d1 : decide (op < 1) = false := decide_eq_false h1
    by_cases h2 : 17 < op
    · have d2 : decide (17 < op) = true := decide_eq_true h2
      rw [show kidsN op = -1 by unfold kidsN; rw [if_pos (Or.inr h2)]]
      go_enter Tryz.func46, Tryz.ntmps46
      go_wp2_with fail
      go_ret
      exact ⟨rfl, rfl⟩
    · have d2 : decide (17 < op) = false := decide_eq_false h2
      have h12 : ¬ (op < 1 ∨ 17 < op) := by omega
      by_cases h3 : op ≤ 2
      · have d3 : decide (op ≤ 2) = true := decide_eq_true h3
        rw [show kidsN op = 0 by unfold kidsN; rw [if_neg h12, if_pos h3]]
        clear h12
        go_enter Tryz.func46, Tryz.ntmps46
        go_wp2_with fail
        go_ret
        exact ⟨rfl, rfl⟩
      · have d3 : decide (op ≤ 2) = false := decide_eq_false h3
        by_cases h4 : op ≤ 4
        · have d4 : decide (op ≤ 4) = true := decide_eq_true h4
          rw [show kidsN op = 1 by unfold kidsN; rw [if_neg h12, if_neg h3, if_pos h4]]
          clear h12
          go_enter Tryz.func46, Tryz.ntmps46
          go_wp2_with fail
          go_ret
          exact ⟨rfl, rfl⟩
        · have d4 : decide (op ≤ 4) = false := decide_eq_false h4
          rw [show kidsN op = 2 by unfold kidsN; rw [if_neg h12, if_neg h3, if_neg h4]]
          clear h12
          go_enter Tryz.func46, Tryz.ntmps46
          go_wp2_with fail
          go_ret
          exact ⟨rfl, rfl⟩

def keyZ : List ByteArray := [⟨#[97, 110, 100]⟩, ⟨#[111, 114]⟩, ⟨#[110, 111, 116]⟩, ⟨#[116, 114, 117, 101]⟩, ⟨#[102, 97, 108, 115, 101]⟩]
theorem keyZ_is (s : ByteArray) : Lib.containsS keyZ s = keyWord s := by
  rw [Bool.eq_iff_iff, Lib.containsS_iff]
  unfold keyWord
  rw [List.contains_iff_mem]
  have hb : ∀ (a : ByteArray) (b : Array UInt8), a = ⟨b⟩ ↔ a.data.toList = b.toList := fun a b => ⟨fun h => by rw [h], fun h => by cases a; exact congrArg ByteArray.mk (Array.ext' h)⟩
  simp only [keyZ, keyL, List.mem_cons, List.not_mem_nil, or_false, hb]
theorem keyword_any (w : World) (s : ByteArray) : Calls Tryz.prog 49 #[.string s] w fun e w' => e = .returned (.bool (keyWord s)) ∧ Below w.heap.size w w' := by
  obtain ⟨w1, p0, hp0, hw1, l1, n1, b1⟩ := box_new w (.cells #[.string ⟨#[97, 110, 100]⟩, .string ⟨#[111, 114]⟩, .string ⟨#[110, 111, 116]⟩, .string ⟨#[116, 114, 117, 101]⟩, .string ⟨#[102, 97, 108, 115, 101]⟩] 9)
  have hc := Tryz.slices_Contains_string p0 0 5 5 keyZ s w1 (by decide) (by decide) (by
    intro j hj
    rw [cell_of_block n1, Nat.zero_add]
    have : j = 0 ∨ j = 1 ∨ j = 2 ∨ j = 3 ∨ j = 4 := by simp [keyZ] at hj; omega
    rcases this with rfl | rfl | rfl | rfl | rfl <;> rfl)
  rw [show keyZ.take 5 = keyZ from rfl, keyZ_is] at hc
  have HC := Lib.hid hc
  have HB := Lib.hid b1
  obtain ⟨r, hr⟩ : ∃ r, keyWord s = r := ⟨_, rfl⟩
  rw [hr] at HC ⊢
  clear hc b1 n1 hr
  go_enter Tryz.func49, Tryz.ntmps49
  go_wp2_with (go_at_call 84; refine HC.out.mono ?_; rintro e w2 ⟨rfl, rfl⟩; refine Hid.out ?_)
  refine Lib.hid ?_
  go_wp2_with fail
  go_ret
  exact ⟨rfl, by first | exact HB.out | (rw [hp0]; exact HB.out)⟩
end Go.Proofs.YtbephgifbghilaaGreatDoor

/- (*lexer).word (seat expr). -/
set_option maxRecDepth 100000
namespace Go.Proofs.YtbephgifbghilaaGreatDoor
open Go.RowKit

theorem beq_dec (a b : List UInt8) : (a == b) = decide (a = b) := by rw [Bool.eq_iff_iff]; simp
def wordR (w : World) (px : Nat) (s : ByteArray) (at_ ta : Int) (d : ByteArray) : Prop :=
  if d.data.toList = [116, 114, 117, 101] then LxN w px s at_ (litN (trV true)) ⟨#[]⟩ ta false 0 0
  else if d.data.toList = [102, 97, 108, 115, 101] then LxN w px s at_ (litN (trV false)) ⟨#[]⟩ ta false 0 0
  else if keyWord d then LxN w px s at_ nilN d ta false 0 0
  else if nameB d then LxN w px s at_ (varN d) ⟨#[]⟩ ta false 0 0 else LxF w px s at_ ⟨#[]⟩ 4 at_
set_option maxHeartbeats 2000000 in
/-- A word's token; or the first error. -/
theorem lxword_any (w : World) (px : Nat) (s : ByteArray) (at_ : Int) (ta : Int) (hb : LxB w px s at_ 0 0 0 false ⟨#[]⟩ ⟨#[]⟩ (.slice none 0 0) ⟨#[]⟩ ta false 0 0) (d : ByteArray) (_hd : d.size ≤ 300) :
    Calls Tryz.prog 76 #[.pointer (some ⟨px, 0, none⟩), .string d] w fun r w' => r = .returned (.tuple #[]) ∧ Frm [some px] w w' ∧ wordR w' px s at_ ta d := by
  have hl := lt_of_block hb
  have HK := Lib.hid (fun (W : World) (h : Below w.heap.size w W) => show LxB W px s at_ 0 0 0 false ⟨#[]⟩ ⟨#[]⟩ (.slice none 0 0) ⟨#[]⟩ ta false 0 0 from (h.block _ hl).trans hb)
  have HF2 := Lib.hid (fun (W : World) (h : Below w.heap.size w W) => xfail_any W px s at_ 0 0 0 false ⟨#[]⟩ ⟨#[]⟩ (.slice none 0 0) ⟨#[]⟩ ta false 0 0 (HK.out W h))
  have HKW := Lib.hid (keyword_any w d)
  have HNM := Lib.hid (fun (W : World) (_ : Below w.heap.size w W) => name_any W d)
  have hB0 := Below.refl w.heap.size w
  clear hb
  have s1 : (d.toList == [116, 114, 117, 101]) = decide (d.data.toList = [116, 114, 117, 101]) := by rw [Lib.toList_data]; exact beq_dec _ _
  have s2 : (d.toList == [102, 97, 108, 115, 101]) = decide (d.data.toList = [102, 97, 108, 115, 101]) := by rw [Lib.toList_data]; exact beq_dec _ _
  by_cases h1 : d.data.toList = [116, 114, 117, 101]
  · have HW : Hid (∀ W, LxN W px s at_ (litN (trV true)) ⟨#[]⟩ ta false 0 0 → wordR W px s at_ ta d) := Lib.hid (fun W h => by unfold wordR; rw [if_pos h1]; exact h)
    rw [decide_eq_true h1] at s1
    clear h1 s2
    have hb5 := HK.out w hB0
    have f5 := free_of_block hb5; have k2 : w.cell? ⟨px, 2, none⟩ = some (.int .u8 0) := cell_of_block hb5 2; have k3 : w.cell? ⟨px, 3, none⟩ = some (.int .u8 0) := cell_of_block hb5 3; have k4 : w.cell? ⟨px, 4, none⟩ = some (.int .i64 0) := cell_of_block hb5 4; have k5 : w.cell? ⟨px, 5, none⟩ = some (.bool false) := cell_of_block hb5 5; have k6 : w.cell? ⟨px, 6, none⟩ = some (.string ⟨#[]⟩) := cell_of_block hb5 6; have k7 : w.cell? ⟨px, 7, none⟩ = some (.string ⟨#[]⟩) := cell_of_block hb5 7; have k8 : w.cell? ⟨px, 8, none⟩ = some (.slice none 0 0) := cell_of_block hb5 8
    have HB5 := Lib.hid hb5
    clear hb5
    go_enter Tryz.func76, Tryz.ntmps76
    go_wp2_with fail
    refine bodyPost_end (results_none rfl _ _ _) rfl ?_
    have hz := lx_node HB5.out 1 2 0 true ⟨#[]⟩ ⟨#[]⟩ (.slice none 0 0)
    refine ⟨rfl, ?_, HW.out _ hz⟩
    exact ((((((((Frm.refl _ _).setL _ (by simp)).setL _ (by simp)).setL _ (by simp)).setL _ (by simp)).setL _ (by simp)).setL _ (by simp)).setL _ (by simp))
  · by_cases h2 : d.data.toList = [102, 97, 108, 115, 101]
    · have HW : Hid (∀ W, LxN W px s at_ (litN (trV false)) ⟨#[]⟩ ta false 0 0 → wordR W px s at_ ta d) := Lib.hid (fun W h => by unfold wordR; rw [if_neg h1, if_pos h2]; exact h)
      rw [decide_eq_false h1] at s1
      rw [decide_eq_true h2] at s2
      clear h1 h2
      have hb5 := HK.out w hB0
      have f5 := free_of_block hb5; have k2 : w.cell? ⟨px, 2, none⟩ = some (.int .u8 0) := cell_of_block hb5 2; have k3 : w.cell? ⟨px, 3, none⟩ = some (.int .u8 0) := cell_of_block hb5 3; have k4 : w.cell? ⟨px, 4, none⟩ = some (.int .i64 0) := cell_of_block hb5 4; have k5 : w.cell? ⟨px, 5, none⟩ = some (.bool false) := cell_of_block hb5 5; have k6 : w.cell? ⟨px, 6, none⟩ = some (.string ⟨#[]⟩) := cell_of_block hb5 6; have k7 : w.cell? ⟨px, 7, none⟩ = some (.string ⟨#[]⟩) := cell_of_block hb5 7; have k8 : w.cell? ⟨px, 8, none⟩ = some (.slice none 0 0) := cell_of_block hb5 8
      have HB5 := Lib.hid hb5
      clear hb5
      go_enter Tryz.func76, Tryz.ntmps76
      go_wp2_with fail
      refine bodyPost_end (results_none rfl _ _ _) rfl ?_
      have hz := lx_node HB5.out 1 2 0 false ⟨#[]⟩ ⟨#[]⟩ (.slice none 0 0)
      refine ⟨rfl, ?_, HW.out _ hz⟩
      exact ((((((((Frm.refl _ _).setL _ (by simp)).setL _ (by simp)).setL _ (by simp)).setL _ (by simp)).setL _ (by simp)).setL _ (by simp)).setL _ (by simp))
    · rw [decide_eq_false h1] at s1
      rw [decide_eq_false h2] at s2
      have HO : Hid (¬ d.data.toList = [116, 114, 117, 101] ∧ ¬ d.data.toList = [102, 97, 108, 115, 101]) := Lib.hid ⟨h1, h2⟩
      clear h1 h2
      cases hk : keyWord d with
      | true =>
        have HW : Hid (∀ W, LxN W px s at_ nilN d ta false 0 0 → wordR W px s at_ ta d) := Lib.hid (fun W h => by unfold wordR; rw [if_neg HO.out.1, if_neg HO.out.2, if_pos hk]; exact h)
        rw [hk] at HKW
        clear hk
        go_enter Tryz.func76, Tryz.ntmps76
        go_wp2_with (go_at_call 49; refine HKW.out.mono ?_; rintro e w3 ⟨rfl, hb2⟩; have hb5 := HK.out _ hb2; have f5 := free_of_block hb5; have k9 : w3.cell? ⟨px, 9, none⟩ = some (.string ⟨#[]⟩) := cell_of_block hb5 9; have HB5 := Lib.hid hb5; have HF5 : Hid (Frm [some px] w w3) := Lib.hid (Frm.ofBelow hb2); clear hb2 hb5)
        refine bodyPost_end (results_none rfl _ _ _) rfl ?_
        exact ⟨rfl, HF5.out.setL _ (by simp), HW.out _ (lx_s9 HB5.out _)⟩
      | false =>
        cases hn : nameB d with
        | true =>
          have HW : Hid (∀ W, LxN W px s at_ (varN d) ⟨#[]⟩ ta false 0 0 → wordR W px s at_ ta d) := Lib.hid (fun W h => by unfold wordR; rw [if_neg HO.out.1, if_neg HO.out.2, if_neg (by rw [hk]; decide), if_pos hn]; exact h)
          rw [hk] at HKW
          rw [hn] at HNM
          clear hk hn
          go_enter Tryz.func76, Tryz.ntmps76
          go_wp2_with (first
            | (go_at_call 49; refine HKW.out.mono ?_; rintro e w2 ⟨rfl, hb2⟩; have HB2 := Lib.hid hb2; clear hb2)
            | (go_at_call 48; refine (HNM.out _ HB2.out).mono ?_; rintro e w3 ⟨rfl, hb3⟩; have hb4 := HB2.out.trans (hb3.mono HB2.out.size); have hb5 := HK.out _ hb4; have f5 := free_of_block hb5; have k2 : w3.cell? ⟨px, 2, none⟩ = some (.int .u8 0) := cell_of_block hb5 2; have k3 : w3.cell? ⟨px, 3, none⟩ = some (.int .u8 0) := cell_of_block hb5 3; have k4 : w3.cell? ⟨px, 4, none⟩ = some (.int .i64 0) := cell_of_block hb5 4; have k5 : w3.cell? ⟨px, 5, none⟩ = some (.bool false) := cell_of_block hb5 5; have k6 : w3.cell? ⟨px, 6, none⟩ = some (.string ⟨#[]⟩) := cell_of_block hb5 6; have k7 : w3.cell? ⟨px, 7, none⟩ = some (.string ⟨#[]⟩) := cell_of_block hb5 7; have k8 : w3.cell? ⟨px, 8, none⟩ = some (.slice none 0 0) := cell_of_block hb5 8; have HB5 := Lib.hid hb5; have HF5 : Hid (Frm [some px] w w3) := Lib.hid (Frm.ofBelow hb4); clear hb3 hb4 hb5))
          refine bodyPost_end (results_none rfl _ _ _) rfl ?_
          have hz := lx_node HB5.out 2 0 0 false ⟨#[]⟩ d (.slice none 0 0)
          refine ⟨rfl, ?_, HW.out _ hz⟩
          exact (((((((HF5.out.setL _ (by simp)).setL _ (by simp)).setL _ (by simp)).setL _ (by simp)).setL _ (by simp)).setL _ (by simp)).setL _ (by simp))
        | false =>
          have HW : Hid (∀ W, LxF W px s at_ ⟨#[]⟩ 4 at_ → wordR W px s at_ ta d) := Lib.hid (fun W h => by unfold wordR; rw [if_neg HO.out.1, if_neg HO.out.2, if_neg (by rw [hk]; decide), if_neg (by rw [hn]; decide)]; exact h)
          rw [hk] at HKW
          rw [hn] at HNM
          clear hk hn
          go_enter Tryz.func76, Tryz.ntmps76
          go_wp2_with (first
            | (go_at_call 49; refine HKW.out.mono ?_; rintro e w2 ⟨rfl, hb2⟩; have HB2 := Lib.hid hb2; clear hb2)
            | (go_at_call 48; refine (HNM.out _ HB2.out).mono ?_; rintro e w3 ⟨rfl, hb3⟩; have hb4 := HB2.out.trans (hb3.mono HB2.out.size); have HF3 := Lib.hid (HF2.out _ hb4); have hb5 := HK.out _ hb4; have c1 : w3.cell? ⟨px, 1, none⟩ = some (.int .i64 at_) := cell_of_block hb5 1; have HF5 : Hid (Frm [some px] w w3) := Lib.hid (Frm.ofBelow hb4); clear hb3 hb4 hb5)
            | (go_at_call 39; refine (HF3.out _ _).mono ?_; rintro e w4 ⟨rfl, hF4, hb4⟩; have HB4 := Lib.hid (And.intro hF4 hb4); clear hF4 hb4))
          refine bodyPost_end (results_none rfl _ _ _) rfl ?_
          refine ⟨rfl, HF5.out.trans HB4.out.1 (by intro r hr; exact .inl hr), HW.out _ ?_⟩
          have hb5 : LxB w4 px s at_ 0 0 0 false ⟨#[]⟩ ⟨#[]⟩ (.slice none 0 0) ⟨#[]⟩ ta false 4 at_ := by simpa using HB4.out.2
          exact ⟨_, _, _, _, _, _, _, _, _, hb5⟩
end Go.Proofs.YtbephgifbghilaaGreatDoor

/- (*lexer).text (seat expr). -/
set_option maxRecDepth 100000
namespace Go.Proofs.YtbephgifbghilaaGreatDoor
open Go.RowKit

def textR (w : World) (px : Nat) (s : ByteArray) (at_ : Int) (ta : Int) (r : List UInt8) : Prop :=
  match textE 1 [] r with
  | none => LxF w px s at_ ⟨#[]⟩ 4 at_
  | some (t, n) => if Lib.validD t then LxN w px s (at_ + ((n : Nat) : Int)) (litN (txV ⟨t.toArray⟩)) ⟨#[]⟩ ta false 0 0 else LxF w px s at_ ⟨#[]⟩ 4 at_
theorem textE_other {c : UInt8} (h : c ≠ 39) (i : Nat) (acc r : List UInt8) : textE i acc (c :: r) = textE (i + 1) (acc ++ [c]) r := by
  rw [textE] <;> intros <;> contradiction
theorem textE_stop {c : UInt8} (h : c ≠ 39) (i : Nat) (acc r : List UInt8) : textE i acc (39 :: c :: r) = some (acc, i + 1) := by
  rw [textE] <;> intros <;> contradiction
abbrev BuF (B b : Nat) (bs : List Value) (w : World) : Prop := Lib.IsBuilderF 151 5 B b bs w
theorem BuF.kept {w w' : World} {B b : Nat} {bs : List Value} (h : BuF B b bs w) (hb : Below w.heap.size w w') : BuF B b bs w' := by
  rcases h with h | h
  · obtain ⟨h1, v, h2, h3, h4⟩ := h
    exact .inl ⟨h1, v, (hb.block b (lt_of_block h2)).trans h2, World.ownsRowF.kept (row := none) h3 ⟨hb.os, hb.tape, hb.output, hb.size, fun k hk _ => hb.block k hk⟩ (Classical.em _), h4⟩
  · obtain ⟨h1, v, h2, h3, h4⟩ := h
    exact .inr ⟨h1, v, (hb.block b (lt_of_block h2)).trans h2, World.ownsRowF.kept (row := none) h3 ⟨hb.os, hb.tape, hb.output, hb.size, fun k hk _ => hb.block k hk⟩ (Classical.em _), h4⟩
theorem byte39 {c : UInt8} : c = 39 ↔ c.toNat = 39 := ⟨fun h => by rw [h]; rfl, fun h => UInt8.toNat_inj.1 h⟩
set_option maxHeartbeats 4000000 in
/-- A text's token; or the first error. -/
theorem lxtext_any (w : World) (hT : Tabs8 w) (px : Nat) (s : ByteArray) (at_ : Int) (ha0 : 0 ≤ at_) (ta : Int) (hb : LxB w px s at_ 0 0 0 false ⟨#[]⟩ ⟨#[]⟩ (.slice none 0 0) ⟨#[]⟩ ta false 0 0) (d : ByteArray) (hd : at_ + (d.size : Int) ≤ 1000) (h0 : 1 ≤ d.size) :
    Calls Tryz.prog 77 #[.pointer (some ⟨px, 0, none⟩), .string d] w fun r w' => r = .returned (.tuple #[]) ∧ Frm [some px] w w' ∧ textR w' px s at_ ta (d.data.toList.drop 1) := by
  have hl := lt_of_block hb
  have HK := Lib.hid (fun (W : World) (h : Below w.heap.size w W) => show LxB W px s at_ 0 0 0 false ⟨#[]⟩ ⟨#[]⟩ (.slice none 0 0) ⟨#[]⟩ ta false 0 0 from (h.block _ hl).trans hb)
  have HF2 := Lib.hid (fun (W : World) (h : Below w.heap.size w W) => xfail_any W px s at_ 0 0 0 false ⟨#[]⟩ ⟨#[]⟩ (.slice none 0 0) ⟨#[]⟩ ta false 0 0 (HK.out W h))
  have hlen : d.data.toList.length = d.size := by rw [Array.length_toList]; rfl
  have HL := Lib.hid hlen
  have HB0 := Lib.hid (bu_new w)
  have hb0 := (Below.refl w.heap.size w).alloc (Nat.le_refl _) (.cells #[.pointer none, .slice none 0 0] 151)
  obtain ⟨R, hR⟩ : ∃ R, textE 1 [] (d.data.toList.drop 1) = R := ⟨_, rfl⟩
  have HW : Hid (∀ W, (match R with
      | none => LxF W px s at_ ⟨#[]⟩ 4 at_
      | some (t, n) => if Lib.validD t then LxN W px s (at_ + ((n : Nat) : Int)) (litN (txV ⟨t.toArray⟩)) ⟨#[]⟩ ta false 0 0 else LxF W px s at_ ⟨#[]⟩ 4 at_) → textR W px s at_ ta (d.data.toList.drop 1)) := Lib.hid (fun W h => by unfold textR; rw [hR]; exact h)
  have HR0 := Lib.hid hR
  have HT := Lib.hid hT
  clear hlen hb hR hT
  go_enter Tryz.func77, Tryz.ntmps77
  go_wp2_with fail
  go_loopg [5] d.size (fun gh s5 wr => ∃ (k : Nat) (acc : List UInt8), 1 ≤ k ∧ k ≤ d.size ∧ d.size ≤ k + gh ∧ s5 = .int .i64 (k : Int) ∧ Hid (Bu w.heap.size w.heap.size (Lib.byteCells acc) wr) ∧ Hid (textE k acc (d.data.toList.drop k) = R) ∧ Below w.heap.size w wr ∧ acc.length ≤ k)
  case atStart => exact ⟨1, [], by omega, by omega, by omega, rfl, HB0, HR0, hb0, by simp⟩
  case round =>
    clear HB0 hb0 HR0
    obtain ⟨k, acc, hk1, hkd, hkg, rfl, hbu, hRk, hbel, hacc⟩ := hrel
    have hsz := hbel.size
    have hbl : (Lib.byteCells acc).length ≤ k := by simp [Lib.byteCells]; omega
    have HKr := Lib.hid (HK.out wr hbel)
    have HFr := Lib.hid (HF2.out wr hbel)
    have hc1 : wr.cell? ⟨px, 1, none⟩ = some (.int .i64 at_) := cell_of_block HKr.out 1
    by_cases hk : k < d.size
    · have hdr : d.data.toList.drop k = d[k] :: d.data.toList.drop (k + 1) := by
        rw [List.drop_eq_getElem_cons (by rw [HL.out]; exact hk)]; rfl
      obtain ⟨c, hc⟩ : ∃ c, d[k] = c := ⟨_, rfl⟩
      have e0 : decide (k < d.size) = true := decide_eq_true hk
      have e0' : decide ((k : Int) < (d.size : Int)) = true := decide_eq_true (by omega)
      rw [hdr, hc] at hRk
      clear hdr
      by_cases h39 : c.toNat = 39
      · have g1 : ((c.toNat : Int) == 39) = true := beq_iff_eq.2 (by omega)
        have g1' : (c.toNat == 39) = true := beq_iff_eq.2 h39
        have hc39 := byte39.2 h39
        rw [hc39] at hRk
        have HC := Lib.hid hc39
        clear hc39 h39
        by_cases hpair : ∃ h : k + 1 < d.size, (d[k + 1]).toNat = 39
        · obtain ⟨hk2, h392⟩ := hpair
          have hdr : d.data.toList.drop (k + 1) = d[k + 1] :: d.data.toList.drop (k + 2) := by
            rw [List.drop_eq_getElem_cons (by rw [HL.out]; exact hk2)]; rfl
          obtain ⟨c2, hc2⟩ : ∃ c2, d[k + 1] = c2 := ⟨_, rfl⟩
          rw [hdr, hc2] at hRk
          rw [hc2] at h392
          clear hdr
          have e2 : ((k : Int) + 1 == (d.size : Int)) = false := beq_eq_false_iff_ne.2 (by omega)
          have e2' : (k + 1 == d.size) = false := beq_eq_false_iff_ne.2 (by omega)
          have e3 : decide ((k : Int) + 1 < (d.size : Int)) = true := decide_eq_true (by omega)
          have e3' : decide (k + 1 < d.size) = true := decide_eq_true hk2
          have g2 : ((c2.toNat : Int) != 39) = false := by rw [bne_eq_false_iff_eq]; omega
          have g2' : (c2.toNat != 39) = false := by rw [bne_eq_false_iff_eq]; omega
          have hc39 := byte39.2 h392
          rw [hc39] at hRk
          have hRn : Hid (textE (k + 2) (acc ++ [39]) (d.data.toList.drop (k + 2)) = R) := Lib.hid (by have := hRk.out; rw [textE] at this; exact this)
          have hval : Hid ((c2.toNat : Int) = 39) := Lib.hid (by omega)
          clear hc39 h392 hRk
          have HBU := Lib.hid (fun (v : Int) => bu_putb w.heap.size w.heap.size _ v wr hbu.out (by omega) hsz)
          go_wp2_with (go_at_call 108; refine (HBU.out _).mono ?_; rintro e w2 ⟨rfl, hbu2, hb2⟩)
          go_roundg (gk - 1)
          case measure => omega
          case rel =>
            refine ⟨k + 2, acc ++ [39], by omega, by omega, by omega, by go_num, ?_, hRn, hbel.trans hb2, by simp; omega⟩
            refine Lib.hid (Or.inr ?_)
            rw [Lib.byteCells_append]
            rw [hval.out] at hbu2
            exact hbu2
        · have hRn : Hid (some (acc, k + 1) = R) := Lib.hid (by
            have := hRk.out
            by_cases hk2 : k + 1 < d.size
            · have hdr : d.data.toList.drop (k + 1) = d[k + 1] :: d.data.toList.drop (k + 2) := by
                rw [List.drop_eq_getElem_cons (by rw [HL.out]; exact hk2)]; rfl
              rw [hdr, textE_stop (fun e => hpair ⟨hk2, byte39.1 e⟩)] at this
              exact this
            · rw [List.drop_eq_nil_of_le (by rw [HL.out]; omega), textE] at this
              exact this)
          have hor : (((k : Int) + 1 == (d.size : Int)) = true ∧ (k + 1 == d.size) = true) ∨ (((k : Int) + 1 == (d.size : Int)) = false ∧ (k + 1 == d.size) = false ∧ decide ((k : Int) + 1 < (d.size : Int)) = true ∧ decide (k + 1 < d.size) = true ∧ ∃ (h : k + 1 < d.size) (c2 : UInt8), d[k + 1] = c2 ∧ ((c2.toNat : Int) != 39) = true ∧ (c2.toNat != 39) = true) := by
            by_cases hk2 : k + 1 < d.size
            · refine .inr ⟨beq_eq_false_iff_ne.2 (by omega), beq_eq_false_iff_ne.2 (by omega), decide_eq_true (by omega), decide_eq_true hk2, hk2, _, rfl, ?_, ?_⟩
              · rw [bne_iff_ne]; intro e; exact hpair ⟨hk2, by omega⟩
              · rw [bne_iff_ne]; intro e; exact hpair ⟨hk2, e⟩
            · exact .inl ⟨beq_iff_eq.2 (by omega), beq_iff_eq.2 (by omega)⟩
          clear hpair hRk
          have HS := Lib.hid (fun (W : World) (h : BuF w.heap.size w.heap.size (Lib.byteCells acc) W ∧ Below w.heap.size w W) => Any.Builder_String_any_f Tryz.lays169 Tryz.Builder_Extra_169 w.heap.size w.heap.size acc W h.1 h.2.size)
          have HU : Hid (∀ W : World, Below w.heap.size w W → Calls Tryz.prog 82 #[.string ⟨acc.toArray⟩] W fun e w' => e = .returned (.bool (Lib.validD acc)) ∧ Below W.heap.size W w') := Lib.hid (fun W h => by
            have := utf8_any W ⟨acc.toArray⟩ (by show acc.toArray.size ≤ _; simp; omega) (Utf8Tabs_below HT.out h)
            simpa using this)
          have cur : Hid (BuF w.heap.size w.heap.size (Lib.byteCells acc) wr ∧ Below w.heap.size w wr) := Lib.hid ⟨Lib.IsBuilderF.of hbu.out, hbel⟩
          cases hv : Lib.validD acc with
          | true =>
            have HW2 : Hid (∀ W, LxN W px s (at_ + ((k + 1 : Nat) : Int)) (litN (txV ⟨acc.toArray⟩)) ⟨#[]⟩ ta false 0 0 → textR W px s at_ ta (d.data.toList.drop 1)) := Lib.hid (fun W h => HW.out W (by rw [← hRn.out]; simp only; rw [if_pos hv]; exact h))
            rw [hv] at HU
            clear hv hRn
            rcases hor with ⟨e2, e2'⟩ | ⟨e2, e2', e3, e3', hk2, c2, hc2, g2, g2'⟩
            all_goals
              go_wp2_with (first
                | (go_at_call 107; refine (HS.out _ cur.out).mono ?_; rintro e w1 ⟨rfl, hbf1, hb1⟩; have cur := Lib.hid (And.intro hbf1 (cur.out.2.trans hb1)); clear hbf1 hb1; have hb5 := HK.out _ cur.out.2; have f5 := free_of_block hb5; have k1 : w1.cell? ⟨px, 1, none⟩ = some (.int .i64 at_) := cell_of_block hb5 1; have k2 : w1.cell? ⟨px, 2, none⟩ = some (.int .u8 0) := cell_of_block hb5 2; have k3 : w1.cell? ⟨px, 3, none⟩ = some (.int .u8 0) := cell_of_block hb5 3; have k4 : w1.cell? ⟨px, 4, none⟩ = some (.int .i64 0) := cell_of_block hb5 4; have k5 : w1.cell? ⟨px, 5, none⟩ = some (.bool false) := cell_of_block hb5 5; have k6 : w1.cell? ⟨px, 6, none⟩ = some (.string ⟨#[]⟩) := cell_of_block hb5 6; have k7 : w1.cell? ⟨px, 7, none⟩ = some (.string ⟨#[]⟩) := cell_of_block hb5 7; have k8 : w1.cell? ⟨px, 8, none⟩ = some (.slice none 0 0) := cell_of_block hb5 8; have HB5 := Lib.hid hb5; have HF5 : Hid (Frm [some px] w w1) := Lib.hid (Frm.ofBelow cur.out.2); clear hb5)
                | (go_at_call 82; refine (HU.out _ cur.out.2).mono ?_; rintro e w3 ⟨rfl, hb3⟩; have cur := Lib.hid (And.intro (BuF.kept cur.out.1 hb3) (cur.out.2.trans (hb3.mono cur.out.2.size))); clear hb3))
              refine bodyPost_ret (results_none rfl _ _ _) rfl ?_
              have hz := lx_s1 (lx_node HB5.out 1 3 0 false ⟨acc.toArray⟩ ⟨#[]⟩ (.slice none 0 0)) (at_ + ((k : Int) + 1))
              refine ⟨rfl, ((((((((HF5.out.setL _ (by simp)).setL _ (by simp)).setL _ (by simp)).setL _ (by simp)).setL _ (by simp)).setL _ (by simp)).setL _ (by simp)).setL _ (by simp)), HW2.out _ ?_⟩
              have en : (at_ + ((k + 1 : Nat) : Int)) = at_ + ((k : Int) + 1) := by omega
              rw [en]
              exact hz
          | false =>
            have HW2 : Hid (∀ W, LxF W px s at_ ⟨#[]⟩ 4 at_ → textR W px s at_ ta (d.data.toList.drop 1)) := Lib.hid (fun W h => HW.out W (by rw [← hRn.out]; simp only; rw [if_neg (by rw [hv]; decide)]; exact h))
            rw [hv] at HU
            clear hv hRn
            rcases hor with ⟨e2, e2'⟩ | ⟨e2, e2', e3, e3', hk2, c2, hc2, g2, g2'⟩
            all_goals
              go_wp2_with (first
                | (go_at_call 107; refine (HS.out _ cur.out).mono ?_; rintro e w1 ⟨rfl, hbf1, hb1⟩; have cur := Lib.hid (And.intro hbf1 (cur.out.2.trans hb1)); clear hbf1 hb1)
                | (go_at_call 82; refine (HU.out _ cur.out.2).mono ?_; rintro e w3 ⟨rfl, hb3⟩; have hbw := cur.out.2.trans (hb3.mono cur.out.2.size); clear hb3; have HF3 := Lib.hid (HF2.out _ hbw); have hb5 := HK.out _ hbw; have c1 : w3.cell? ⟨px, 1, none⟩ = some (.int .i64 at_) := cell_of_block hb5 1; have HF5 : Hid (Frm [some px] w w3) := Lib.hid (Frm.ofBelow hbw); clear hb5)
                | (go_at_call 39; refine (HF3.out _ _).mono ?_; rintro e w4 ⟨rfl, hF4, hb4⟩; have HB4 := Lib.hid (And.intro hF4 hb4); clear hF4 hb4))
              refine bodyPost_end (results_none rfl _ _ _) rfl ?_
              refine ⟨rfl, HF5.out.trans HB4.out.1 (by intro r hr; exact .inl hr), HW2.out _ ?_⟩
              have hb5 : LxB w4 px s at_ 0 0 0 false ⟨#[]⟩ ⟨#[]⟩ (.slice none 0 0) ⟨#[]⟩ ta false 4 at_ := by simpa using HB4.out.2
              exact ⟨_, _, _, _, _, _, _, _, _, hb5⟩
      · have g1 : ((c.toNat : Int) == 39) = false := beq_eq_false_iff_ne.2 (by omega)
        have g1' : (c.toNat == 39) = false := beq_eq_false_iff_ne.2 h39
        have hRn : Hid (textE (k + 1) (acc ++ [c]) (d.data.toList.drop (k + 1)) = R) := Lib.hid (by have := hRk.out; rw [textE_other (fun e => h39 (byte39.1 e))] at this; exact this)
        clear hRk h39
        have HBU := Lib.hid (fun (v : Int) => bu_putb w.heap.size w.heap.size _ v wr hbu.out (by omega) hsz)
        go_wp2_with (go_at_call 108; refine (HBU.out _).mono ?_; rintro e w2 ⟨rfl, hbu2, hb2⟩)
        go_roundg (gk - 1)
        case measure => omega
        case rel =>
          refine ⟨k + 1, acc ++ [c], by omega, by omega, by omega, by go_num, ?_, hRn, hbel.trans hb2, by simp; omega⟩
          refine Lib.hid (Or.inr ?_)
          rw [Lib.byteCells_append]
          exact hbu2
    · have e0 : decide (k < d.size) = false := decide_eq_false hk
      have e0' : decide ((k : Int) < (d.size : Int)) = false := decide_eq_false (by omega)
      have HW2 : Hid (∀ W, LxF W px s at_ ⟨#[]⟩ 4 at_ → textR W px s at_ ta (d.data.toList.drop 1)) := Lib.hid (fun W h => HW.out W (by
        have := hRk.out
        rw [List.drop_eq_nil_of_le (by rw [HL.out]; omega), textE] at this
        rw [← this]
        exact h))
      clear hRk hk
      go_wp2_with (go_at_call 39; refine (HFr.out _ _).mono ?_; rintro e w4 ⟨rfl, hF4, hb4⟩; have HB4 := Lib.hid (And.intro hF4 hb4); clear hF4 hb4)
      refine bodyPost_end (results_none rfl _ _ _) rfl ?_
      refine ⟨rfl, (Frm.ofBelow hbel).trans HB4.out.1 (by intro r hr; exact .inl hr), HW2.out _ ?_⟩
      have hb5 : LxB w4 px s at_ 0 0 0 false ⟨#[]⟩ ⟨#[]⟩ (.slice none 0 0) ⟨#[]⟩ ta false 4 at_ := by simpa using HB4.out.2
      exact ⟨_, _, _, _, _, _, _, _, _, hb5⟩
end Go.Proofs.YtbephgifbghilaaGreatDoor
