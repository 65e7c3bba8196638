/- Texts fused by fuse.py: KEvalType3, KRuleP, KRuleMem. -/
import Derived.Test.YtjcaaahbfkjipaaGreatDoorKZ08
import Derived.Test.YtjcaaahbfkjipaaGreatDoorKZ00
import Derived.Test.YtjcaaahbfkjipaaGreatDoorKZ01
/- Of EvalType3: what FRuleNames uses (shake.py). -/
set_option maxRecDepth 100000
/- expr.typeOf is typeN at a node that may be; expr.Type; may. -/
namespace Go.Proofs.YtjcaaahbfkjipaaGreatDoor
open Go.RowKit
mutual
theorem type_N (l : List Bd) : ∀ n : Nd, checkN n = true → ∀ (W : World) (vk vv : Value), KidsR W W.heap.size vk n.kids → BdsR W W.heap.size vv l →
    Calls Tryz.prog 134 #[valN n vk, vv] W fun e w' => e = .returned (.tuple #[.int .u8 (typeN l n).1, .int .i64 (typeN l n).2]) ∧ Below W.heap.size W w'
  | .mk op v nm ks, hc, W, vk, vv, hk, hl => by
    have h' : (headB op v nm ks.length && checkL ks) = true := hc
    rw [Bool.and_eq_true] at h'
    obtain ⟨h1, h2⟩ := h'
    obtain ⟨k1, -⟩ := head_facts h1
    have hL := type_L l ks h2
    have et : typeN l (.mk op v nm ks) = if op = 1 then ((v.kind, 0) : Int × Int) else if op = 2 then varT l nm else typeK op (typeL l ks) := rfl
    rw [et]
    by_cases o1 : op = 1
    · subst o1; exact type_lit W v nm vk vv
    rw [if_neg o1]
    by_cases o2 : op = 2
    · subst o2; exact type_var W v nm vk vv l hl
    rw [if_neg o2]
    exact type_node W op v nm ks vk vv l (by simpa using o1) (by simpa using o2) hk (by unfold kidsN at k1; split at k1 <;> (try split at k1) <;> (try split at k1) <;> omega) (fun i hi vk' W' hb hk' _ => hL i hi W' vk' vv hk' (hl.to hb))
theorem type_L (l : List Bd) : ∀ ks : List Nd, checkL ks = true → ∀ i (hi : i < ks.length) (W : World) (vk vv : Value), KidsR W W.heap.size vk ks[i].kids → BdsR W W.heap.size vv l →
    Calls Tryz.prog 134 #[valN ks[i] vk, vv] W fun e w' => e = .returned (.tuple #[.int .u8 (typeN l ks[i]).1, .int .i64 (typeN l ks[i]).2]) ∧ Below W.heap.size W w'
  | [], _, i, hi, _, _, _, _, _ => absurd hi (by simp)
  | a :: r, h, 0, _, W, vk, vv, hk, hl => by
    have h' : (checkN a && checkL r) = true := h
    rw [Bool.and_eq_true] at h'
    exact type_N l a h'.1 W vk vv hk hl
  | a :: r, h, i + 1, hi, W, vk, vv, hk, hl => by
    have h' : (checkN a && checkL r) = true := h
    rw [Bool.and_eq_true] at h'
    exact type_L l r h'.2 i (by simp at hi; omega) W vk vv hk hl
end
def tyE (l : List Bd) (n : Nd) : Int × Int := if checkN n then typeN l n else (0, 1)
set_option maxHeartbeats 1000000 in
theorem typ_any (w : World) (n : Nd) (vk vv : Value) (l : List Bd) (hn : NdR w w.heap.size vk n) (hl : BdsR w w.heap.size vv l) (hT : Tabs8 w) :
    Calls Tryz.prog 116 #[valN n vk, vv] w fun e w' => e = .returned (.tuple #[.int .u8 (tyE l n).1, .int .i64 (tyE l n).2]) ∧ Below w.heap.size w w' := by
  obtain ⟨w1, p0, hp0, hw1, l1, n1, b1⟩ := box_new w (objN n.op n.v n.name vk)
  obtain ⟨c0, c1, c2, c3, c4, c5, c6⟩ := n_cells n1
  have HP := Lib.hid (fun V (h : Below w1.heap.size w1 V) => n_cells ((h.block p0 l1).trans n1))
  have HB := Lib.hid b1
  have KC := Lib.hid (check_N n hn.1 w1 vk (Utf8Tabs_below hT b1) (hn.to b1).2)
  obtain ⟨z, hz⟩ : ∃ z, tyE l n = z := ⟨_, rfl⟩
  rw [hz]
  cases hc : checkN n with
  | false =>
    rw [hc] at KC
    have HZ := Lib.hid (show z = (0, 1) by rw [← hz]; unfold tyE; rw [hc]; rfl)
    clear hz hc n1 b1 hn hl hT
    go_enter Tryz.func116, Tryz.ntmps116
    go_wp2_with (go_at_call 133; refine KC.out.mono ?_; rintro e w3 ⟨rfl, hb3⟩; refine Hid.out ?_)
    refine Lib.hid ?_
    have HE := Lib.hid (HB.out.trans (hb3.mono HB.out.size))
    clear hb3
    go_wp2_with fail
    go_ret2
    exact ⟨ret_pair HZ.out, HE.out⟩
  | true =>
    rw [hc] at KC
    have HK := Lib.hid (fun W (h : Below w1.heap.size w1 W) => type_N l n hc W vk vv ((hn.to b1).to h).2 ((hl.to b1).to h))
    have hz2 : typeN l n = z := by rw [← hz]; unfold tyE; rw [hc]; rfl
    rw [hz2] at HK
    clear hz hc n1 b1 hn hl hT hz2
    go_enter Tryz.func116, Tryz.ntmps116
    go_wp2_with (go_at_call 133; refine KC.out.mono ?_; rintro e w3 ⟨rfl, hb3⟩; refine Hid.out ?_)
    refine Lib.hid ?_
    have HE := Lib.hid (HB.out.trans (hb3.mono HB.out.size))
    have HK3 := Lib.hid (HK.out w3 hb3)
    clear c0 c1 c2 c3 c4 c5 c6
    obtain ⟨c0, c1, c2, c3, c4, c5, c6⟩ := HP.out w3 hb3
    clear hb3
    go_wp2_with (go_at_call 134; refine HK3.out.mono ?_; rintro e w4 ⟨rfl, hb4⟩; refine Hid.out ?_)
    refine Lib.hid ?_
    have HF := Lib.hid (HE.out.trans (hb4.mono HE.out.size))
    clear hb4
    go_wp2_with fail
    go_ret2
    exact ⟨rfl, HF.out⟩
end Go.Proofs.YtjcaaahbfkjipaaGreatDoor

/- Of RuleP: what FRuleNames uses (shake.py). -/
set_option maxRecDepth 100000
/- The rules of models on plain data (seat rule): models, Find, flows, the nine rules as the program asks them. No program here. -/
namespace Go.Proofs.YtjcaaahbfkjipaaGreatDoor
structure El where
  id : ByteArray
  name : ByteArray
  kind : Int
  inn : ByteArray
  dflt : ByteArray
  att : ByteArray
  event : Int
  ref : ByteArray
  key : ByteArray
  ticks : Int
  tries : Int
structure Fl where
  id : ByteArray
  frm : ByteArray
  into : ByteArray
  cond : ByteArray
structure Md where
  id : ByteArray
  name : ByteArray
  vars : List Bd
  els : List El
  fls : List Fl
def El.zero : El := ⟨⟨#[]⟩, ⟨#[]⟩, 0, ⟨#[]⟩, ⟨#[]⟩, ⟨#[]⟩, 0, ⟨#[]⟩, ⟨#[]⟩, 0, 0⟩
def Fl.zero : Fl := ⟨⟨#[]⟩, ⟨#[]⟩, ⟨#[]⟩, ⟨#[]⟩⟩
instance : Inhabited El := ⟨El.zero⟩
instance : Inhabited Fl := ⟨Fl.zero⟩
def sEq (a b : ByteArray) : Bool := a.toList == b.toList
def noS (a : ByteArray) : Bool := a.toList.isEmpty
theorem sEq_iff {a b : ByteArray} : sEq a b = true ↔ a = b := by
  unfold sEq
  rw [beq_iff_eq]
  exact ⟨bytes_eq, fun h => by rw [h]⟩
theorem sEq_refl (a : ByteArray) : sEq a a = true := sEq_iff.2 rfl
/-! ### What is where -/
def findE (l : List El) (s : ByteArray) : Option El := l.find? (fun e => sEq e.id s)
/-- The program's map of elements: nothing is the zero element. -/
def elemE (l : List El) (s : ByteArray) : El := (findE l s).getD El.zero
def insF (l : List Fl) (s : ByteArray) : List Fl := l.filter (fun f => sEq f.into s)
def outsF (l : List Fl) (s : ByteArray) : List Fl := l.filter (fun f => sEq f.frm s)
def insE (l : List Fl) (s : ByteArray) : List ByteArray := (insF l s).map Fl.id
def outsE (l : List Fl) (s : ByteArray) : List ByteArray := (outsF l s).map Fl.id
/-- The Subs around an element, from a place on; at most so many. -/
def aroundF (l : List El) : Nat → El → List ByteArray
  | 0, _ => []
  | k + 1, e => if noS e.inn then [] else match findE l e.inn with
    | none => []
    | some s => if s.kind = 10 then s.id :: aroundF l k s else []
/-! ### The nine rules: the first thing that breaks one -/
def textB (s : ByteArray) : Bool := decide (s.size ≤ 1024) && Lib.validD s.data.toList
/-- The first that is no name, or stood before, or is not right. -/
def freshBad {α : Type} (key : α → ByteArray) (ok : α → Bool) : List ByteArray → List α → Option ByteArray
  | _, [] => none
  | seen, x :: r => if nameB (key x) && (!(seen.any fun s => sEq s (key x)) && ok x) then freshBad key ok (key x :: seen) r else some (key x)
def firstBad {α : Type} (key : α → ByteArray) (ok : α → Bool) (l : List α) : Option ByteArray := (l.find? fun x => !ok x).map key
def orBad (a : Option ByteArray) (b : Option ByteArray) : Option ByteArray := match a with
  | some s => some s
  | none => b
def isS (e : El) : Bool := e.kind == 10
/-- Rule 1: names, texts, sizes; each id once. -/
def oneR (m : Md) : Option ByteArray :=
  if nameB m.id && (textB m.name && (decide (m.els.length ≤ 64) && (decide (m.fls.length ≤ 128) && decide (m.vars.length ≤ 16)))) then
    orBad (freshBad Bd.name (fun b => checkB b.val) [] m.vars) (orBad (freshBad El.id (fun e => textB e.name) [m.id] m.els) (freshBad Fl.id (fun _ => true) ((m.els.map El.id).reverse ++ [m.id]) m.fls))
  else some ⟨#[]⟩
def eventB (e : El) : Bool :=
  if e.event = 1 then decide (1 ≤ e.ticks) && (decide (e.ticks ≤ 1048576) && (noS e.ref && noS e.key))
  else if e.event = 2 then (e.ticks == 0) && (nameB e.ref && nameB e.key)
  else if e.event = 3 then (e.ticks == 0) && (nameB e.ref && noS e.key) else false
/-- Rule 2: an element has what its kind has. -/
def hasB (e : El) : Bool :=
  if e.kind < 1 ∨ 10 < e.kind then false
  else if e.kind = 4 then decide (1 ≤ e.tries) && (decide (e.tries ≤ 100) && (noS e.dflt && (noS e.att && ((e.event == 0) && (noS e.ref && (noS e.key && (e.ticks == 0)))))))
  else if e.kind = 5 then noS e.att && ((e.event == 0) && (noS e.ref && (noS e.key && ((e.ticks == 0) && (e.tries == 0)))))
  else if e.kind = 8 ∨ e.kind = 9 then eventB e && ((e.tries == 0) && (noS e.dflt && ((e.kind == 9) || noS e.att)))
  else noS e.dflt && (noS e.att && ((e.event == 0) && (noS e.ref && (noS e.key && ((e.ticks == 0) && (e.tries == 0))))))
/-- The Subs around a place, at most four. -/
def chainR (l : List El) : Nat → ByteArray → Bool
  | 0, s => noS s
  | k + 1, s => noS s || (isS (elemE l s) && chainR l k (elemE l s).inn)
def twoR (m : Md) : Option ByteArray := firstBad El.id (fun e => chainR m.els 4 e.inn && hasB e) m.els
def threeR (m : Md) : Option ByteArray := firstBad Fl.id (fun f => match findE m.els f.frm, findE m.els f.into with
  | some a, some b => sEq a.inn b.inn && (!(b.kind == 9) && !sEq f.frm f.into)
  | _, _ => false) m.fls
/-- Rule 4: how many flows go in and out. -/
def waysB (m : Md) (e : El) : Bool :=
  let i := (insF m.fls e.id).length
  let o := (outsF m.fls e.id).length
  if e.kind = 1 ∨ e.kind = 9 then (i == 0) && (o == 1)
  else if e.kind = 2 then (i == 1) && (o == 0)
  else if e.kind = 5 ∨ e.kind = 6 then decide (1 ≤ i) && decide (1 ≤ o)
  else if e.kind = 7 then (i == 1) && (decide (2 ≤ o) && (outsF m.fls e.id).all fun f => ((elemE m.els f.into).kind == 8) && ((insF m.fls f.into).length == 1))
  else (i == 1) && (o == 1)
def fourR (m : Md) : Option ByteArray := firstBad El.id (waysB m) m.els
def countE (l : List El) (k : Int) (s : ByteArray) : Nat := (l.filter fun e => sEq e.inn s && (e.kind == k)).length
def scopeB (m : Md) (s : ByteArray) : Bool := (countE m.els 1 s == 1) && decide (1 ≤ countE m.els 2 s)
def fiveR (m : Md) : Option ByteArray := (((⟨#[]⟩ : ByteArray) :: (m.els.filter isS).map El.id).find? fun s => !scopeB m s)
/-- A condition of truth. -/
def guardB (vars : List Bd) (s : ByteArray) : Bool := match parseE s.data.toList with
  | .ok n => tyE vars n == ((2 : Int), (0 : Int))
  | .error _ => false
def condB (m : Md) (f : Fl) : Bool :=
  let e := elemE m.els f.frm
  if (e.kind == 5) && (decide (1 < (outsF m.fls f.frm).length) && !sEq e.dflt f.id) then !noS f.cond && guardB m.vars f.cond else noS f.cond
def dfltB (m : Md) (e : El) : Bool :=
  if e.kind = 5 then (if (outsF m.fls e.id).length = 1 then noS e.dflt else (outsF m.fls e.id).any fun f => sEq f.id e.dflt) else true
def sixR (m : Md) : Option ByteArray := orBad (firstBad El.id (dfltB m) m.els) (firstBad Fl.id (condB m) m.fls)
def borderB (m : Md) (e : El) : Bool :=
  if e.kind = 9 then match findE m.els e.att with
    | none => false
    | some a => sEq a.inn e.inn && ((a.kind == 3) || ((a.kind == 4) || (isS a && (!(e.event == 1) && !(m.els.any fun p => (p.kind == 6) && (aroundF m.els 64 (elemE m.els p.id)).any fun s => sEq s a.id)))))
  else true
def sevenR (m : Md) : Option ByteArray := firstBad El.id (borderB m) m.els
def eightR (m : Md) : Option ByteArray := firstBad El.id (fun e => !(e.event == 2) || m.vars.any fun b => sEq b.name e.key && (b.val.kind == 3)) m.els
def passedB (l : List El) (s : ByteArray) : Bool := ((elemE l s).kind == 5) || (((elemE l s).kind == 6) || ((elemE l s).kind == 10))
/-- Rule 9's walk: what has been seen, going on from an id. -/
def walkN (m : Md) : Nat → List ByteArray → ByteArray → List ByteArray
  | 0, seen, _ => seen
  | k + 1, seen, s => (outsF m.fls s).foldl (fun seen f => if passedB m.els f.into && !(seen.any fun t => sEq t f.into) then walkN m k (f.into :: seen) f.into else seen) seen
def nineR (m : Md) : Option ByteArray := firstBad El.id (fun e => !passedB m.els e.id || !((walkN m (m.fls.length + 1) [] e.id).any fun t => sEq t e.id)) m.els
/-- The first rule that is broken, and by what: (0, "") is none. -/
def ruleL (m : Md) : List (Option ByteArray) := [oneR m, twoR m, threeR m, fourR m, fiveR m, sixR m, sevenR m, eightR m, nineR m]
def firstR : Int → List (Option ByteArray) → Int × ByteArray × Int
  | _, [] => (0, ⟨#[]⟩, 0)
  | k, some s :: _ => (k, s, 140)
  | k, none :: r => firstR (k + 1) r
def ruleE (m : Md) : Int × ByteArray × Int := firstR 1 (ruleL m)
end Go.Proofs.YtjcaaahbfkjipaaGreatDoor

/- Of RuleMem: what FRuleNames uses (shake.py). -/
set_option maxRecDepth 100000
/- Elements, flows, models: their cells, their readings. -/
namespace Go.Proofs.YtjcaaahbfkjipaaGreatDoor
open Go.RowKit
def cellEl (e : El) : List Value := [.string e.id, .string e.name, .int .u8 e.kind, .string e.inn, .string e.dflt, .string e.att, .int .u8 e.event, .string e.ref, .string e.key, .int .i64 e.ticks, .int .i64 e.tries]
abbrev valEl (e : El) : Value := .agg #[.string e.id, .string e.name, .int .u8 e.kind, .string e.inn, .string e.dflt, .string e.att, .int .u8 e.event, .string e.ref, .string e.key, .int .i64 e.ticks, .int .i64 e.tries]
def cellFl (f : Fl) : List Value := [.string f.id, .string f.frm, .string f.into, .string f.cond]
abbrev valFl (f : Fl) : Value := .agg #[.string f.id, .string f.frm, .string f.into, .string f.cond]
theorem cellEl_len : ∀ e, (cellEl e).length = 11 := fun _ => rfl
theorem cellFl_len : ∀ e, (cellFl e).length = 4 := fun _ => rfl
theorem cellFl_one (t : Fl) : ∀ u ∈ cellFl t, u.oneCell' = true := by
  intro u hu
  simp only [cellFl, List.mem_cons, List.mem_nil_iff, or_false] at hu
  rcases hu with rfl | rfl | rfl | rfl <;> rfl
/-- What may be of an element, of a flow. -/
structure ElW (e : El) : Prop where
  id : e.id.size ≤ 140737488355328
  name : e.name.size ≤ 140737488355328
  k0 : 0 ≤ e.kind
  k1 : e.kind ≤ 255
  inn : e.inn.size ≤ 140737488355328
  dflt : e.dflt.size ≤ 140737488355328
  att : e.att.size ≤ 140737488355328
  v0 : 0 ≤ e.event
  v1 : e.event ≤ 255
  ref : e.ref.size ≤ 140737488355328
  key : e.key.size ≤ 140737488355328
  t0 : -9223372036854775808 ≤ e.ticks
  t1 : e.ticks ≤ 9223372036854775807
  r0 : -9223372036854775808 ≤ e.tries
  r1 : e.tries ≤ 9223372036854775807
structure FlW (f : Fl) : Prop where
  id : f.id.size ≤ 140737488355328
  frm : f.frm.size ≤ 140737488355328
  into : f.into.size ≤ 140737488355328
  cond : f.cond.size ≤ 140737488355328
theorem ElW.zero : ElW El.zero := by constructor <;> first | decide | exact Nat.zero_le _
/-- Rows of structs without slices of their own, that may be read. -/
def RowsW {α : Type} (f : α → List Value) (k L : Nat) (G : α → Prop) (w : World) (B : Nat) (v : Value) (l : List α) : Prop :=
  ∃ a cap, v = .slice a l.length cap ∧ l.length ≤ L ∧ l.length ≤ cap ∧ ColF f k w B a l ∧ ∀ x ∈ l, G x
section
variable {α : Type} {f : α → List Value} {k L : Nat} {G : α → Prop} {w w' : World} {B B' : Nat} {v : Value} {l : List α}
theorem RowsW.mono (h : RowsW f k L G w B v l) (hb : Below B w w') (hB : B ≤ B') : RowsW f k L G w' B' v l := by
  obtain ⟨a, cap, rfl, hl, hcp, hc, hg⟩ := h
  exact ⟨a, cap, rfl, hl, hcp, hc.mono hb hB, hg⟩
theorem RowsW.val (h : RowsW f k L G w B v l) : ∃ a cap, v = .slice a l.length cap := by
  obtain ⟨a, cap, rfl, _⟩ := h
  exact ⟨a, cap, rfl⟩
theorem RowsW.len (h : RowsW f k L G w B v l) : l.length ≤ L := by
  obtain ⟨a, cap, _, hl, _⟩ := h
  exact hl
theorem RowsW.ok (h : RowsW f k L G w B v l) : ∀ x ∈ l, G x := by
  obtain ⟨_, _, _, _, _, _, hg⟩ := h
  exact hg
theorem RowsW.col {a : Option Addr} {n cap : Nat} (h : RowsW f k L G w B (.slice a n cap) l) : ColF f k w B a l := by
  obtain ⟨a', cap', hv, _, _, hc, _⟩ := h
  injection hv with h1 _ _
  subst h1
  exact hc
theorem RowsW.nil (w : World) (B : Nat) : RowsW f k L G w B (.slice none 0 0) [] := ⟨none, 0, rfl, Nat.zero_le _, Nat.zero_le _, fun i h => by simp at h, by simp⟩
end
abbrev ElsR := RowsW cellEl 11 1000000000000 ElW
abbrev FlsR := RowsW cellFl 4 2500000000000 FlW
theorem elsR_at {w : World} {B : Nat} {a : Option Addr} {n cap : Nat} {l : List El} (h : ElsR w B (.slice a n cap) l) {i : Nat} (hi : i < l.length) : ∃ b o, a = some ⟨b, o, none⟩ ∧ b < B ∧ ElW l[i] ∧
    w.cell? ⟨b, o + i * 11, none⟩ = some (.string l[i].id) ∧ w.cell? ⟨b, o + i * 11 + 1, none⟩ = some (.string l[i].name) ∧ w.cell? ⟨b, o + i * 11 + 2, none⟩ = some (.int .u8 l[i].kind) ∧ w.cell? ⟨b, o + i * 11 + 3, none⟩ = some (.string l[i].inn) ∧
    w.cell? ⟨b, o + i * 11 + 4, none⟩ = some (.string l[i].dflt) ∧ w.cell? ⟨b, o + i * 11 + 5, none⟩ = some (.string l[i].att) ∧ w.cell? ⟨b, o + i * 11 + 6, none⟩ = some (.int .u8 l[i].event) ∧ w.cell? ⟨b, o + i * 11 + 7, none⟩ = some (.string l[i].ref) ∧
    w.cell? ⟨b, o + i * 11 + 8, none⟩ = some (.string l[i].key) ∧ w.cell? ⟨b, o + i * 11 + 9, none⟩ = some (.int .i64 l[i].ticks) ∧ w.cell? ⟨b, o + i * 11 + 10, none⟩ = some (.int .i64 l[i].tries) := by
  obtain ⟨b, o, e, hlt, h2⟩ := h.col i hi
  exact ⟨b, o, e, hlt, h.ok _ (List.getElem_mem hi), h2 0 (by omega), h2 1 (by omega), h2 2 (by omega), h2 3 (by omega), h2 4 (by omega), h2 5 (by omega), h2 6 (by omega), h2 7 (by omega), h2 8 (by omega), h2 9 (by omega), h2 10 (by omega)⟩
theorem flsR_at {w : World} {B : Nat} {a : Option Addr} {n cap : Nat} {l : List Fl} (h : FlsR w B (.slice a n cap) l) {i : Nat} (hi : i < l.length) : ∃ b o, a = some ⟨b, o, none⟩ ∧ b < B ∧ FlW l[i] ∧
    w.cell? ⟨b, o + i * 4, none⟩ = some (.string l[i].id) ∧ w.cell? ⟨b, o + i * 4 + 1, none⟩ = some (.string l[i].frm) ∧ w.cell? ⟨b, o + i * 4 + 2, none⟩ = some (.string l[i].into) ∧ w.cell? ⟨b, o + i * 4 + 3, none⟩ = some (.string l[i].cond) := by
  obtain ⟨b, o, e, hlt, h2⟩ := h.col i hi
  exact ⟨b, o, e, hlt, h.ok _ (List.getElem_mem hi), h2 0 (by omega), h2 1 (by omega), h2 2 (by omega), h2 3 (by omega)⟩
/-- A model that may be read: its three rows. -/
structure MdR (w : World) (B : Nat) (vv ve vf : Value) (m : Md) : Prop where
  vars : BdsR w B vv m.vars
  els : ElsR w B ve m.els
  fls : FlsR w B vf m.fls
  id : m.id.size ≤ 140737488355328
  name : m.name.size ≤ 140737488355328
theorem MdR.mono {w w' : World} {B B' : Nat} {vv ve vf : Value} {m : Md} (h : MdR w B vv ve vf m) (hb : Below B w w') (hB : B ≤ B') : MdR w' B' vv ve vf m := ⟨h.vars.mono hb hB, h.els.mono hb hB, h.fls.mono hb hB, h.id, h.name⟩
abbrev valMd (m : Md) (vv ve vf : Value) : Value := .agg #[.string m.id, .string m.name, vv, ve, vf]
theorem MdR.shape {w : World} {B : Nat} {vv ve vf : Value} {m : Md} (h : MdR w B vv ve vf m) : ∃ a1 c1 a2 c2 a3 c3, vv = .slice a1 m.vars.length c1 ∧ ve = .slice a2 m.els.length c2 ∧ vf = .slice a3 m.fls.length c3 := by
  obtain ⟨a1, c1, e1⟩ := h.vars.val
  obtain ⟨a2, c2, e2⟩ := h.els.val
  obtain ⟨a3, c3, e3⟩ := h.fls.val
  exact ⟨a1, c1, a2, c2, a3, c3, e1, e2, e3⟩
end Go.Proofs.YtjcaaahbfkjipaaGreatDoor
