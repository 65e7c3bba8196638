/- (*reckoner).eval at every node; printed by gen_evalreck5.py. -/
import Derived.Test.YtbephgifbghilaaGreatDoorEvalReck3
import Derived.Test.YtbephgifbghilaaGreatDoorEvalReck4
set_option maxRecDepth 100000
namespace Go.Proofs.YtbephgifbghilaaGreatDoor
open Go.RowKit

theorem two_no {p : Int × Value} (hp : p ∈ twoF) : 7 ≤ p.1 := by
  simp only [twoF, List.mem_cons, List.not_mem_nil, or_false] at hp
  rcases hp with rfl | rfl | rfl | rfl | rfl | rfl | rfl | rfl | rfl | rfl | rfl <;> simp
theorem look_no {V : World} {mb : Nat} (h : RawM V mb twoF) {op : Int} (ho : op < 7) : (Instr.lookup 122 (.map (some mb)) (.int .u8 op) true).run Tryz.prog V = .ok (.tuple #[.nilFunc, .bool false]) V := by
  rcases h.look op with ⟨p, hp, e, _⟩ | ⟨_, hl⟩
  · exact absurd (two_no hp) (by omega)
  · exact hl
theorem look_7 {V : World} {mb : Nat} (h : RawM V mb twoF) : (Instr.lookup 122 (.map (some mb)) (.int .u8 7) true).run Tryz.prog V = .ok (.tuple #[.func (.func 114) #[] #[], .bool true]) V := by
  rcases h.look 7 with ⟨p, hp, e, hl⟩ | ⟨hn, _⟩
  · simp only [twoF, List.mem_cons, List.not_mem_nil, or_false] at hp
    rcases hp with rfl | rfl | rfl | rfl | rfl | rfl | rfl | rfl | rfl | rfl | rfl <;> first | exact hl | (exact absurd e (by decide))
  · exact absurd rfl (hn (7, .func (.func 114) #[] #[]) (by simp [twoF]))
theorem look_8 {V : World} {mb : Nat} (h : RawM V mb twoF) : (Instr.lookup 122 (.map (some mb)) (.int .u8 8) true).run Tryz.prog V = .ok (.tuple #[.func (.func 116) #[] #[], .bool true]) V := by
  rcases h.look 8 with ⟨p, hp, e, hl⟩ | ⟨hn, _⟩
  · simp only [twoF, List.mem_cons, List.not_mem_nil, or_false] at hp
    rcases hp with rfl | rfl | rfl | rfl | rfl | rfl | rfl | rfl | rfl | rfl | rfl <;> first | exact hl | (exact absurd e (by decide))
  · exact absurd rfl (hn (8, .func (.func 116) #[] #[]) (by simp [twoF]))
theorem look_9 {V : World} {mb : Nat} (h : RawM V mb twoF) : (Instr.lookup 122 (.map (some mb)) (.int .u8 9) true).run Tryz.prog V = .ok (.tuple #[.func (.func 117) #[] #[], .bool true]) V := by
  rcases h.look 9 with ⟨p, hp, e, hl⟩ | ⟨hn, _⟩
  · simp only [twoF, List.mem_cons, List.not_mem_nil, or_false] at hp
    rcases hp with rfl | rfl | rfl | rfl | rfl | rfl | rfl | rfl | rfl | rfl | rfl <;> first | exact hl | (exact absurd e (by decide))
  · exact absurd rfl (hn (9, .func (.func 117) #[] #[]) (by simp [twoF]))
theorem look_10 {V : World} {mb : Nat} (h : RawM V mb twoF) : (Instr.lookup 122 (.map (some mb)) (.int .u8 10) true).run Tryz.prog V = .ok (.tuple #[.func (.func 121) #[] #[], .bool true]) V := by
  rcases h.look 10 with ⟨p, hp, e, hl⟩ | ⟨hn, _⟩
  · simp only [twoF, List.mem_cons, List.not_mem_nil, or_false] at hp
    rcases hp with rfl | rfl | rfl | rfl | rfl | rfl | rfl | rfl | rfl | rfl | rfl <;> first | exact hl | (exact absurd e (by decide))
  · exact absurd rfl (hn (10, .func (.func 121) #[] #[]) (by simp [twoF]))
theorem look_11 {V : World} {mb : Nat} (h : RawM V mb twoF) : (Instr.lookup 122 (.map (some mb)) (.int .u8 11) true).run Tryz.prog V = .ok (.tuple #[.func (.func 120) #[] #[], .bool true]) V := by
  rcases h.look 11 with ⟨p, hp, e, hl⟩ | ⟨hn, _⟩
  · simp only [twoF, List.mem_cons, List.not_mem_nil, or_false] at hp
    rcases hp with rfl | rfl | rfl | rfl | rfl | rfl | rfl | rfl | rfl | rfl | rfl <;> first | exact hl | (exact absurd e (by decide))
  · exact absurd rfl (hn (11, .func (.func 120) #[] #[]) (by simp [twoF]))
theorem look_12 {V : World} {mb : Nat} (h : RawM V mb twoF) : (Instr.lookup 122 (.map (some mb)) (.int .u8 12) true).run Tryz.prog V = .ok (.tuple #[.func (.func 119) #[] #[], .bool true]) V := by
  rcases h.look 12 with ⟨p, hp, e, hl⟩ | ⟨hn, _⟩
  · simp only [twoF, List.mem_cons, List.not_mem_nil, or_false] at hp
    rcases hp with rfl | rfl | rfl | rfl | rfl | rfl | rfl | rfl | rfl | rfl | rfl <;> first | exact hl | (exact absurd e (by decide))
  · exact absurd rfl (hn (12, .func (.func 119) #[] #[]) (by simp [twoF]))
theorem look_13 {V : World} {mb : Nat} (h : RawM V mb twoF) : (Instr.lookup 122 (.map (some mb)) (.int .u8 13) true).run Tryz.prog V = .ok (.tuple #[.func (.func 122) #[] #[], .bool true]) V := by
  rcases h.look 13 with ⟨p, hp, e, hl⟩ | ⟨hn, _⟩
  · simp only [twoF, List.mem_cons, List.not_mem_nil, or_false] at hp
    rcases hp with rfl | rfl | rfl | rfl | rfl | rfl | rfl | rfl | rfl | rfl | rfl <;> first | exact hl | (exact absurd e (by decide))
  · exact absurd rfl (hn (13, .func (.func 122) #[] #[]) (by simp [twoF]))
theorem look_14 {V : World} {mb : Nat} (h : RawM V mb twoF) : (Instr.lookup 122 (.map (some mb)) (.int .u8 14) true).run Tryz.prog V = .ok (.tuple #[.func (.func 123) #[] #[], .bool true]) V := by
  rcases h.look 14 with ⟨p, hp, e, hl⟩ | ⟨hn, _⟩
  · simp only [twoF, List.mem_cons, List.not_mem_nil, or_false] at hp
    rcases hp with rfl | rfl | rfl | rfl | rfl | rfl | rfl | rfl | rfl | rfl | rfl <;> first | exact hl | (exact absurd e (by decide))
  · exact absurd rfl (hn (14, .func (.func 123) #[] #[]) (by simp [twoF]))
theorem look_15 {V : World} {mb : Nat} (h : RawM V mb twoF) : (Instr.lookup 122 (.map (some mb)) (.int .u8 15) true).run Tryz.prog V = .ok (.tuple #[.func (.func 124) #[] #[], .bool true]) V := by
  rcases h.look 15 with ⟨p, hp, e, hl⟩ | ⟨hn, _⟩
  · simp only [twoF, List.mem_cons, List.not_mem_nil, or_false] at hp
    rcases hp with rfl | rfl | rfl | rfl | rfl | rfl | rfl | rfl | rfl | rfl | rfl <;> first | exact hl | (exact absurd e (by decide))
  · exact absurd rfl (hn (15, .func (.func 124) #[] #[]) (by simp [twoF]))
theorem look_16 {V : World} {mb : Nat} (h : RawM V mb twoF) : (Instr.lookup 122 (.map (some mb)) (.int .u8 16) true).run Tryz.prog V = .ok (.tuple #[.func (.func 125) #[] #[], .bool true]) V := by
  rcases h.look 16 with ⟨p, hp, e, hl⟩ | ⟨hn, _⟩
  · simp only [twoF, List.mem_cons, List.not_mem_nil, or_false] at hp
    rcases hp with rfl | rfl | rfl | rfl | rfl | rfl | rfl | rfl | rfl | rfl | rfl <;> first | exact hl | (exact absurd e (by decide))
  · exact absurd rfl (hn (16, .func (.func 125) #[] #[]) (by simp [twoF]))
theorem look_17 {V : World} {mb : Nat} (h : RawM V mb twoF) : (Instr.lookup 122 (.map (some mb)) (.int .u8 17) true).run Tryz.prog V = .ok (.tuple #[.func (.func 126) #[] #[], .bool true]) V := by
  rcases h.look 17 with ⟨p, hp, e, hl⟩ | ⟨hn, _⟩
  · simp only [twoF, List.mem_cons, List.not_mem_nil, or_false] at hp
    rcases hp with rfl | rfl | rfl | rfl | rfl | rfl | rfl | rfl | rfl | rfl | rfl <;> first | exact hl | (exact absurd e (by decide))
  · exact absurd rfl (hn (17, .func (.func 126) #[] #[]) (by simp [twoF]))

theorem two_fun (op : Int) (h7 : 7 ≤ op) (h17 : op ≤ 17) (a b : Vl) (ha : VlW a) (hb : VlW b) (hs : a.text.size + b.text.size ≤ 140737488355328) :
    ∃ fb, (∀ (args : Array Value) (V : World), (callFunc fb args).run Tryz.prog V = .ok (.enter fb args) V) ∧ (∀ V mb, RawM V mb twoF → (Instr.lookup 122 (.map (some mb)) (.int .u8 op) true).run Tryz.prog V = .ok (.tuple #[.func (.func fb) #[] #[], .bool true]) V) ∧
      ∀ V, Tabs8 V → Calls Tryz.prog fb #[valV a, valV b] V fun e w' => e = .returned (.tuple #[valV (bothE op a b).1, .int .i64 (bothE op a b).2]) ∧ Below V.heap.size V w' := by
  have h : op = 7 ∨ op = 8 ∨ op = 9 ∨ op = 10 ∨ op = 11 ∨ op = 12 ∨ op = 13 ∨ op = 14 ∨ op = 15 ∨ op = 16 ∨ op = 17 := by omega
  rcases h with rfl | rfl | rfl | rfl | rfl | rfl | rfl | rfl | rfl | rfl | rfl
  · exact ⟨114, enters_of Tryz.func114 (by kernel_rfl) rfl, fun V mb h => look_7 h, fun V hT => both1_any V a b ha hb hT⟩
  · exact ⟨116, enters_of Tryz.func116 (by kernel_rfl) rfl, fun V mb h => look_8 h, fun V hT => both2_any V a b ha hb hT⟩
  · exact ⟨117, enters_of Tryz.func117 (by kernel_rfl) rfl, fun V mb h => look_9 h, fun V hT => both3_any V a b ha hb hT⟩
  · exact ⟨121, enters_of Tryz.func121 (by kernel_rfl) rfl, fun V mb h => look_10 h, fun V hT => both6_any V a b ha hb hT⟩
  · exact ⟨120, enters_of Tryz.func120 (by kernel_rfl) rfl, fun V mb h => look_11 h, fun V hT => both5_any V a b ha hb hT⟩
  · exact ⟨119, enters_of Tryz.func119 (by kernel_rfl) rfl, fun V mb h => look_12 h, fun V hT => both4_any V a b ha hb hT⟩
  · exact ⟨122, enters_of Tryz.func122 (by kernel_rfl) rfl, fun V mb h => look_13 h, fun V hT => add_any V a b ha hb hT hs⟩
  · exact ⟨123, enters_of Tryz.func123 (by kernel_rfl) rfl, fun V mb h => look_14 h, fun V hT => vsub_any V a b ha hb hT⟩
  · exact ⟨124, enters_of Tryz.func124 (by kernel_rfl) rfl, fun V mb h => look_15 h, fun V hT => vmul_any V a b ha hb hT⟩
  · exact ⟨125, enters_of Tryz.func125 (by kernel_rfl) rfl, fun V mb h => look_16 h, fun V hT => vdiv_any V a b ha hb hT⟩
  · exact ⟨126, enters_of Tryz.func126 (by kernel_rfl) rfl, fun V mb h => look_17 h, fun V hT => vmod_any V a b ha hb hT⟩
end Go.Proofs.YtbephgifbghilaaGreatDoor
